/- Sorted, and each once. -/
import Derived.Test.YtgopmghiadpbcaaDoorBeeY
import Derived.Test.YtgopmghiadpbcaaDoorBeeT
import Derived.Test.YtgopmghiadpbcaaDoorProg
import Derived.Shelf.Sort.Plain
import Derived.Shelf.Slices.In.SortNone
import Derived.Shelf.Slices.CompactS
import Derived.Lib.RowBridge
namespace Go.Proofs
open Go.Shelf
def YtgopmghiadpbcaaDoorSrt.lays190_ren : Go.Shelf.Ren := ⟨fun | 190 => 63 | 125 => 70 | 258 => 69 | 128 => 85 | 129 => 86 | 302 => 76 | 303 => 77 | 304 => 78 | 305 => 79 | 306 => 80 | 307 => 81 | 308 => 82 | 309 => 83 | 310 => 84 | 333 => 89 | 329 => 90 | 330 => 91 | 334 => 92 | 335 => 93 | 336 => 94 | 344 => 95 | n => n, fun | 31 => 54 | 9 => 9 | 3 => 3 | 46 => 99 | 0 => 0 | 51 => 111 | 53 => 113 | 4 => 4 | 183 => 103 | 182 => 102 | 131 => 108 | 5 => 5 | 218 => 120 | 222 => 124 | 228 => 126 | 229 => 127 | n => n, fun | n => n⟩
theorem YtgopmghiadpbcaaDoorSrt.lays190 : Go.Proofs.Lays.n190 Tryd.prog YtgopmghiadpbcaaDoorSrt.lays190_ren := {
  mixed := by kernel_rfl
  f125 := Tryd.func70.trans (congrArg some (by kernel_rfl))
  f128 := Tryd.func85.trans (congrArg some (by kernel_rfl))
  f129 := Tryd.func86.trans (congrArg some (by kernel_rfl))
  f190 := Tryd.func63.trans (congrArg some (by kernel_rfl))
  f258 := Tryd.func69.trans (congrArg some (by kernel_rfl))
  f302 := Tryd.func76.trans (congrArg some (by kernel_rfl))
  f303 := Tryd.func77.trans (congrArg some (by kernel_rfl))
  f304 := Tryd.func78.trans (congrArg some (by kernel_rfl))
  f305 := Tryd.func79.trans (congrArg some (by kernel_rfl))
  f306 := Tryd.func80.trans (congrArg some (by kernel_rfl))
  f307 := Tryd.func81.trans (congrArg some (by kernel_rfl))
  f308 := Tryd.func82.trans (congrArg some (by kernel_rfl))
  f309 := Tryd.func83.trans (congrArg some (by kernel_rfl))
  f310 := Tryd.func84.trans (congrArg some (by kernel_rfl))
  f329 := Tryd.func90.trans (congrArg some (by kernel_rfl))
  f330 := Tryd.func91.trans (congrArg some (by kernel_rfl))
  f333 := Tryd.func89.trans (congrArg some (by kernel_rfl))
  f334 := Tryd.func92.trans (congrArg some (by kernel_rfl))
  f335 := Tryd.func93.trans (congrArg some (by kernel_rfl))
  f336 := Tryd.func94.trans (congrArg some (by kernel_rfl))
  f344 := Tryd.func95.trans (congrArg some (by kernel_rfl))
  t0 := Tryd.underlying0
  a0 := Tryd.isAgg0
  z0 := Tryd.sizeOf0
  v0 := Tryd.zeroValue0
  t3 := Tryd.underlying3
  a3 := Tryd.isAgg3
  z3 := Tryd.sizeOf3
  v3 := Tryd.zeroValue3
  t4 := Tryd.underlying4
  a4 := Tryd.isAgg4
  z4 := Tryd.sizeOf4
  v4 := Tryd.zeroValue4
  t5 := Tryd.underlying5
  a5 := Tryd.isAgg5
  z5 := Tryd.sizeOf5
  v5 := Tryd.zeroValue5
  t9 := Tryd.underlying9
  a9 := Tryd.isAgg9
  z9 := Tryd.sizeOf9
  v9 := Tryd.zeroValue9
  t31 := Tryd.underlying54
  a31 := Tryd.isAgg54
  z31 := Tryd.sizeOf54
  v31 := Tryd.zeroValue54
  t46 := Tryd.underlying99
  a46 := Tryd.isAgg99
  z46 := Tryd.sizeOf99
  v46 := Tryd.zeroValue99
  t51 := Tryd.underlying111
  a51 := Tryd.isAgg111
  z51 := Tryd.sizeOf111
  v51 := Tryd.zeroValue111
  t53 := Tryd.underlying113
  a53 := Tryd.isAgg113
  z53 := Tryd.sizeOf113
  v53 := Tryd.zeroValue113
  t131 := Tryd.underlying108
  a131 := Tryd.isAgg108
  z131 := Tryd.sizeOf108
  v131 := Tryd.zeroValue108
  t182 := Tryd.underlying102
  a182 := Tryd.isAgg102
  z182 := Tryd.sizeOf102
  v182 := Tryd.zeroValue102
  t183 := Tryd.underlying103
  a183 := Tryd.isAgg103
  z183 := Tryd.sizeOf103
  v183 := Tryd.zeroValue103
  t218 := Tryd.underlying120
  a218 := Tryd.isAgg120
  z218 := Tryd.sizeOf120
  v218 := Tryd.zeroValue120
  t222 := Tryd.underlying124
  a222 := Tryd.isAgg124
  z222 := Tryd.sizeOf124
  v222 := Tryd.zeroValue124
  t228 := Tryd.underlying126
  a228 := Tryd.isAgg126
  z228 := Tryd.sizeOf126
  v228 := Tryd.zeroValue126
  t229 := Tryd.underlying127
  a229 := Tryd.isAgg127
  z229 := Tryd.sizeOf127
  v229 := Tryd.zeroValue127 }
def YtgopmghiadpbcaaDoorSrt.lays194_ren : Go.Shelf.Ren := ⟨fun | 194 => 64 | n => n, fun | 31 => 54 | 9 => 9 | 3 => 3 | 4 => 4 | 0 => 0 | n => n, fun | n => n⟩
theorem YtgopmghiadpbcaaDoorSrt.lays194 : Go.Proofs.Lays.n194 Tryd.prog YtgopmghiadpbcaaDoorSrt.lays194_ren := {
  mixed := by kernel_rfl
  f194 := Tryd.func64.trans (congrArg some (by kernel_rfl))
  t0 := Tryd.underlying0
  a0 := Tryd.isAgg0
  z0 := Tryd.sizeOf0
  v0 := Tryd.zeroValue0
  t3 := Tryd.underlying3
  a3 := Tryd.isAgg3
  z3 := Tryd.sizeOf3
  v3 := Tryd.zeroValue3
  t4 := Tryd.underlying4
  a4 := Tryd.isAgg4
  z4 := Tryd.sizeOf4
  v4 := Tryd.zeroValue4
  t9 := Tryd.underlying9
  a9 := Tryd.isAgg9
  z9 := Tryd.sizeOf9
  v9 := Tryd.zeroValue9
  t31 := Tryd.underlying54
  a31 := Tryd.isAgg54
  z31 := Tryd.sizeOf54
  v31 := Tryd.zeroValue54 }
end Go.Proofs
namespace Go.Bee.C23s
open Go Go.Bee Go.Proofs Go.Bee.Ty Go.Bee.C23 Go.Sort
set_option linter.unusedVariables false
def srt (zs : List (List UInt8)) : List (List UInt8) := Lib.compact (zs.mergeSort fun x y => decide (x ≤ y))
theorem srt_mem {zs : List (List UInt8)} {s : List UInt8} (h : s ∈ srt zs) : s ∈ zs := by
  unfold srt Lib.compact Lib.compactUpTo at h
  obtain ⟨j, hj, rfl⟩ := List.mem_map.1 h
  have hj' : j < (zs.mergeSort fun x y => decide (x ≤ y)).length := List.mem_range.1 (List.mem_filter.1 hj).1
  rw [getElem!_pos _ j (by simpa using hj')]
  have : (zs.mergeSort fun x y => decide (x ≤ y))[j] ∈ zs.mergeSort fun x y => decide (x ≤ y) := List.getElem_mem _
  simpa using (List.mem_mergeSort.1 this)
theorem srt_len (zs : List (List UInt8)) : (srt zs).length ≤ zs.length := by
  have := Lib.compact_length_le (zs.mergeSort fun x y => decide (x ≤ y))
  rw [List.length_mergeSort] at this
  exact this
theorem other_block {w : World} {n blk off k : Nat} {d : Array (List UInt8)} (h : k ≠ blk) : (putRow encStr (Sort.ahead w n) blk off d).heap[k]? = w.heap[k]? := by
  unfold putRow mapBlock
  simp only [Array.getElem?_modify]
  rw [if_neg (fun e => h e.symm)]
  rfl
theorem put_size {w : World} {n blk off : Nat} {d : Array (List UInt8)} : (putRow encStr (Sort.ahead w n) blk off d).heap.size = w.heap.size := by
  simp [putRow, mapBlock, Sort.ahead]
theorem sorted_run {w : World} {u : Value} {R : Ending → World → Prop} (h : Calls Tryd.prog 63 #[u] w fun e w' => e = .returned (.tuple #[]) ∧ Calls Tryd.prog 64 #[u] w' fun e w'' => ∃ r, e = .returned r ∧ R (.returned r) w'') : Calls Tryd.prog 57 #[u] w R := by
  refine calls_of_wp Tryd.func57 rfl ?_
  refine wp_seq (wp_region ?_)
  refine raw_at rfl rfl (raw_assign rfl ?_)
  refine wp_seq (wp_region ?_)
  refine raw_at rfl rfl (raw_move rfl ?_)
  refine raw_at rfl rfl (raw_call (u := u) (by kernel_rfl) rfl (by simp [Act.put, Act.eval]) (h.mono ?_))
  rintro e w' ⟨rfl, h2⟩
  refine ⟨_, rfl, ?_⟩
  refine wp_seq (wp_region ?_)
  refine raw_at rfl rfl (raw_move rfl ?_)
  refine raw_at rfl rfl (raw_call (u := u) (by kernel_rfl) rfl (by simp [Act.put, Act.eval]) (h2.mono ?_))
  rintro e w'' ⟨r, rfl, h3⟩
  refine ⟨_, rfl, ?_⟩
  refine raw_at rfl rfl (raw_assign rfl ?_)
  refine wp_ret ?_
  refine ⟨rfl, r, ?_, h3⟩
  rw [results_eq]
  simp [show f57.results = #[.tmp 2] from rfl, resSem, Act.put, Act.eval]
theorem sorted_redo : Redo Tryd.prog 57 srt := by
  refine ⟨by kernel_rfl, by simp [srt, Lib.compact, Lib.compactUpTo], fun w b c => ?_, fun w blk off c zs hz hH hblk hlc hlen => ?_⟩
  · refine sorted_run ((Any.slices_Sort_string_none YtgopmghiadpbcaaDoorSrt.lays190 b c w).mono ?_)
    rintro e w' ⟨rfl, rfl⟩
    refine ⟨rfl, (Any.slices_Compact_string_empty YtgopmghiadpbcaaDoorSrt.lays194 b c w').mono ?_⟩
    rintro e w'' ⟨rfl, rfl⟩
    exact ⟨_, rfl, rfl, rfl, rfl, rfl, rfl⟩
  · refine sorted_run ((Any.slices_Sort_string YtgopmghiadpbcaaDoorSrt.lays190 blk off c zs w hH hblk (by omega)).mono ?_)
    rintro e w' ⟨rfl, n, os, rfl⟩
    generalize hS : (zs.mergeSort fun x y => decide (x ≤ y)) = S
    have hSl : S.length = zs.length := by rw [← hS]; simp
    have hblk1 : blk < (putRow encStr (Sort.ahead w n) blk off S.toArray).heap.size := by rw [put_size]; exact hblk
    have hH1 : Holds encStr (grow (putRow encStr (Sort.ahead w n) blk off S.toArray) os) blk off S.toArray := holds_grow _ _ os _ _ _ hblk1 (holds_putRow encStr _ blk off zs.toArray S.toArray (holds_ahead _ _ _ _ _ _ hH) (by simp [hSl]))
    refine ⟨rfl, ?_⟩
    have hc := Any.slices_Compact_string YtgopmghiadpbcaaDoorSrt.lays194 blk off c S _ hH1 (by omega) (by omega)
    rw [hSl] at hc
    refine hc.mono ?_
    rintro e w'' ⟨rfl, q, rfl⟩
    have hsz : (Lib.compact S ++ List.replicate (zs.length - (Lib.compact S).length) []).toArray.size = S.toArray.size := by
      have := Lib.compact_length_le S
      simp; omega
    have hH2 := holds_putRow encStr _ blk off S.toArray _ (holds_ahead encStr _ q blk off _ hH1) hsz
    have hsrt : srt zs = Lib.compact S := by rw [← hS]; rfl
    refine ⟨_, rfl, c, by rw [hsrt], ?_, ?_, ?_, ?_, rfl, rfl, rfl, srt_len zs, fun s hs => srt_mem hs⟩
    · have := srt_len zs; omega
    · intro i s hi
      have hlt := (List.getElem?_eq_some_iff.1 hi).1
      have := (hH2 i (by rw [hsz]; have := srt_len zs; simp [hSl]; omega)).1
      rw [this]
      congr 1
      congr 1
      rw [getElem!_pos _ i (by rw [hsz]; have := srt_len zs; simp [hSl]; omega)]
      rw [hsrt] at hi hlt
      simp only [List.getElem_toArray]
      rw [List.getElem_append_left hlt]
      exact (List.getElem?_eq_some_iff.1 hi).2
    · intro k hk hne
      rw [other_block hne, heap_grow_old _ _ (by rw [put_size]; exact hk), other_block hne]
    · rw [put_size]
      simp only [grow, Array.size_append, put_size]
      omega
end Go.Bee.C23s
