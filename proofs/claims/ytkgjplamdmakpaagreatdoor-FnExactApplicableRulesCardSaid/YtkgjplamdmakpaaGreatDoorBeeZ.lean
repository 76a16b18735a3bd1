/- Sorted, and each once. -/
import Derived.Test.YtkgjplamdmakpaaGreatDoorBeeY
import Derived.Test.YtkgjplamdmakpaaGreatDoorBeeT
import Derived.Test.YtkgjplamdmakpaaGreatDoorProg
import Derived.Shelf.Sort.Plain
import Derived.Shelf.Slices.In.SortNone
import Derived.Shelf.Slices.CompactS
import Derived.Lib.RowBridge
namespace Go.Proofs
open Go.Shelf
def YtkgjplamdmakpaaGreatDoorSrt.lays190_ren : Go.Shelf.Ren := ⟨fun | 190 => 149 | 125 => 156 | 258 => 155 | 128 => 171 | 129 => 172 | 302 => 162 | 303 => 163 | 304 => 164 | 305 => 165 | 306 => 166 | 307 => 167 | 308 => 168 | 309 => 169 | 310 => 170 | 333 => 175 | 329 => 176 | 330 => 177 | 334 => 178 | 335 => 179 | 336 => 180 | 344 => 181 | n => n, fun | 31 => 47 | 9 => 9 | 3 => 3 | 46 => 159 | 0 => 0 | 51 => 175 | 53 => 103 | 4 => 4 | 183 => 168 | 182 => 167 | 131 => 33 | 5 => 5 | 218 => 183 | 222 => 187 | 228 => 189 | 229 => 190 | n => n, fun | n => n⟩
theorem YtkgjplamdmakpaaGreatDoorSrt.lays190 : Go.Proofs.Lays.n190 Tryz.prog YtkgjplamdmakpaaGreatDoorSrt.lays190_ren := {
  mixed := by kernel_rfl
  f125 := Tryz.func156.trans (congrArg some (by kernel_rfl))
  f128 := Tryz.func171.trans (congrArg some (by kernel_rfl))
  f129 := Tryz.func172.trans (congrArg some (by kernel_rfl))
  f190 := Tryz.func149.trans (congrArg some (by kernel_rfl))
  f258 := Tryz.func155.trans (congrArg some (by kernel_rfl))
  f302 := Tryz.func162.trans (congrArg some (by kernel_rfl))
  f303 := Tryz.func163.trans (congrArg some (by kernel_rfl))
  f304 := Tryz.func164.trans (congrArg some (by kernel_rfl))
  f305 := Tryz.func165.trans (congrArg some (by kernel_rfl))
  f306 := Tryz.func166.trans (congrArg some (by kernel_rfl))
  f307 := Tryz.func167.trans (congrArg some (by kernel_rfl))
  f308 := Tryz.func168.trans (congrArg some (by kernel_rfl))
  f309 := Tryz.func169.trans (congrArg some (by kernel_rfl))
  f310 := Tryz.func170.trans (congrArg some (by kernel_rfl))
  f329 := Tryz.func176.trans (congrArg some (by kernel_rfl))
  f330 := Tryz.func177.trans (congrArg some (by kernel_rfl))
  f333 := Tryz.func175.trans (congrArg some (by kernel_rfl))
  f334 := Tryz.func178.trans (congrArg some (by kernel_rfl))
  f335 := Tryz.func179.trans (congrArg some (by kernel_rfl))
  f336 := Tryz.func180.trans (congrArg some (by kernel_rfl))
  f344 := Tryz.func181.trans (congrArg some (by kernel_rfl))
  t0 := Tryz.underlying0
  a0 := Tryz.isAgg0
  z0 := Tryz.sizeOf0
  v0 := Tryz.zeroValue0
  t3 := Tryz.underlying3
  a3 := Tryz.isAgg3
  z3 := Tryz.sizeOf3
  v3 := Tryz.zeroValue3
  t4 := Tryz.underlying4
  a4 := Tryz.isAgg4
  z4 := Tryz.sizeOf4
  v4 := Tryz.zeroValue4
  t5 := Tryz.underlying5
  a5 := Tryz.isAgg5
  z5 := Tryz.sizeOf5
  v5 := Tryz.zeroValue5
  t9 := Tryz.underlying9
  a9 := Tryz.isAgg9
  z9 := Tryz.sizeOf9
  v9 := Tryz.zeroValue9
  t31 := Tryz.underlying47
  a31 := Tryz.isAgg47
  z31 := Tryz.sizeOf47
  v31 := Tryz.zeroValue47
  t46 := Tryz.underlying159
  a46 := Tryz.isAgg159
  z46 := Tryz.sizeOf159
  v46 := Tryz.zeroValue159
  t51 := Tryz.underlying175
  a51 := Tryz.isAgg175
  z51 := Tryz.sizeOf175
  v51 := Tryz.zeroValue175
  t53 := Tryz.underlying103
  a53 := Tryz.isAgg103
  z53 := Tryz.sizeOf103
  v53 := Tryz.zeroValue103
  t131 := Tryz.underlying33
  a131 := Tryz.isAgg33
  z131 := Tryz.sizeOf33
  v131 := Tryz.zeroValue33
  t182 := Tryz.underlying167
  a182 := Tryz.isAgg167
  z182 := Tryz.sizeOf167
  v182 := Tryz.zeroValue167
  t183 := Tryz.underlying168
  a183 := Tryz.isAgg168
  z183 := Tryz.sizeOf168
  v183 := Tryz.zeroValue168
  t218 := Tryz.underlying183
  a218 := Tryz.isAgg183
  z218 := Tryz.sizeOf183
  v218 := Tryz.zeroValue183
  t222 := Tryz.underlying187
  a222 := Tryz.isAgg187
  z222 := Tryz.sizeOf187
  v222 := Tryz.zeroValue187
  t228 := Tryz.underlying189
  a228 := Tryz.isAgg189
  z228 := Tryz.sizeOf189
  v228 := Tryz.zeroValue189
  t229 := Tryz.underlying190
  a229 := Tryz.isAgg190
  z229 := Tryz.sizeOf190
  v229 := Tryz.zeroValue190 }
def YtkgjplamdmakpaaGreatDoorSrt.lays194_ren : Go.Shelf.Ren := ⟨fun | 194 => 150 | n => n, fun | 31 => 47 | 9 => 9 | 3 => 3 | 4 => 4 | 0 => 0 | n => n, fun | n => n⟩
theorem YtkgjplamdmakpaaGreatDoorSrt.lays194 : Go.Proofs.Lays.n194 Tryz.prog YtkgjplamdmakpaaGreatDoorSrt.lays194_ren := {
  mixed := by kernel_rfl
  f194 := Tryz.func150.trans (congrArg some (by kernel_rfl))
  t0 := Tryz.underlying0
  a0 := Tryz.isAgg0
  z0 := Tryz.sizeOf0
  v0 := Tryz.zeroValue0
  t3 := Tryz.underlying3
  a3 := Tryz.isAgg3
  z3 := Tryz.sizeOf3
  v3 := Tryz.zeroValue3
  t4 := Tryz.underlying4
  a4 := Tryz.isAgg4
  z4 := Tryz.sizeOf4
  v4 := Tryz.zeroValue4
  t9 := Tryz.underlying9
  a9 := Tryz.isAgg9
  z9 := Tryz.sizeOf9
  v9 := Tryz.zeroValue9
  t31 := Tryz.underlying47
  a31 := Tryz.isAgg47
  z31 := Tryz.sizeOf47
  v31 := Tryz.zeroValue47 }
end Go.Proofs
namespace Go.Bee.C23s
open Go Go.Bee Go.Proofs Go.Bee.Ty Go.Bee.C23 Go.Sort
set_option maxRecDepth 100000
set_option linter.unusedVariables false
def srt (zs : List (List UInt8)) : List (List UInt8) := Lib.compact (zs.mergeSort fun x y => decide (x ≤ y))
theorem srt_mem {zs : List (List UInt8)} {s : List UInt8} (h : s ∈ srt zs) : s ∈ zs := by
  unfold srt Lib.compact Lib.compactUpTo at h
  obtain ⟨j, hj, rfl⟩ := List.mem_map.1 h
  have hj' : j < (zs.mergeSort fun x y => decide (x ≤ y)).length := List.mem_range.1 (List.mem_filter.1 hj).1
  rw [getElem!_pos _ j (by simpa using hj')]
  have : (zs.mergeSort fun x y => decide (x ≤ y))[j] ∈ zs.mergeSort fun x y => decide (x ≤ y) := List.getElem_mem _
  simpa using (List.mem_mergeSort.1 this)
theorem srt_len (zs : List (List UInt8)) : (srt zs).length ≤ zs.length := by
  have := Lib.compact_length_le (zs.mergeSort fun x y => decide (x ≤ y))
  rw [List.length_mergeSort] at this
  exact this
theorem other_block {w : World} {n blk off k : Nat} {d : Array (List UInt8)} (h : k ≠ blk) : (putRow encStr (Sort.ahead w n) blk off d).heap[k]? = w.heap[k]? := by
  unfold putRow mapBlock
  simp only [Array.getElem?_modify]
  rw [if_neg (fun e => h e.symm)]
  rfl
theorem put_size {w : World} {n blk off : Nat} {d : Array (List UInt8)} : (putRow encStr (Sort.ahead w n) blk off d).heap.size = w.heap.size := by
  simp [putRow, mapBlock, Sort.ahead]
theorem sorted_run {w : World} {u : Value} {R : Ending → World → Prop} (h : Calls Tryz.prog 149 #[u] w fun e w' => e = .returned (.tuple #[]) ∧ Calls Tryz.prog 150 #[u] w' fun e w'' => ∃ r, e = .returned r ∧ R (.returned r) w'') : Calls Tryz.prog 142 #[u] w R := by
  refine calls_of_wp Tryz.func142 rfl ?_
  refine wp_seq (wp_region ?_)
  refine raw_at rfl rfl (raw_assign rfl ?_)
  refine wp_seq (wp_region ?_)
  refine raw_at rfl rfl (raw_move rfl ?_)
  refine raw_at rfl rfl (raw_call (u := u) (by kernel_rfl) rfl (by simp [Act.put, Act.eval]) (h.mono ?_))
  rintro e w' ⟨rfl, h2⟩
  refine ⟨_, rfl, ?_⟩
  refine wp_seq (wp_region ?_)
  refine raw_at rfl rfl (raw_move rfl ?_)
  refine raw_at rfl rfl (raw_call (u := u) (by kernel_rfl) rfl (by simp [Act.put, Act.eval]) (h2.mono ?_))
  rintro e w'' ⟨r, rfl, h3⟩
  refine ⟨_, rfl, ?_⟩
  refine raw_at rfl rfl (raw_assign rfl ?_)
  refine wp_ret ?_
  refine ⟨rfl, r, ?_, h3⟩
  rw [results_eq]
  simp [show f142.results = #[.tmp 2] from rfl, resSem, Act.put, Act.eval]
theorem sorted_redo : Redo Tryz.prog 142 srt := by
  refine ⟨by kernel_rfl, by simp [srt, Lib.compact, Lib.compactUpTo], fun w b c => ?_, fun w blk off c zs hz hH hblk hlc hlen => ?_⟩
  · refine sorted_run ((Any.slices_Sort_string_none YtkgjplamdmakpaaGreatDoorSrt.lays190 b c w).mono ?_)
    rintro e w' ⟨rfl, rfl⟩
    refine ⟨rfl, (Any.slices_Compact_string_empty YtkgjplamdmakpaaGreatDoorSrt.lays194 b c w').mono ?_⟩
    rintro e w'' ⟨rfl, rfl⟩
    exact ⟨_, rfl, rfl, rfl, rfl, rfl, rfl⟩
  · refine sorted_run ((Any.slices_Sort_string YtkgjplamdmakpaaGreatDoorSrt.lays190 blk off c zs w hH hblk (by omega)).mono ?_)
    rintro e w' ⟨rfl, n, os, rfl⟩
    generalize hS : (zs.mergeSort fun x y => decide (x ≤ y)) = S
    have hSl : S.length = zs.length := by rw [← hS]; simp
    have hblk1 : blk < (putRow encStr (Sort.ahead w n) blk off S.toArray).heap.size := by rw [put_size]; exact hblk
    have hH1 : Holds encStr (grow (putRow encStr (Sort.ahead w n) blk off S.toArray) os) blk off S.toArray := holds_grow _ _ os _ _ _ hblk1 (holds_putRow encStr _ blk off zs.toArray S.toArray (holds_ahead _ _ _ _ _ _ hH) (by simp [hSl]))
    refine ⟨rfl, ?_⟩
    have hc := Any.slices_Compact_string YtkgjplamdmakpaaGreatDoorSrt.lays194 blk off c S _ hH1 (by omega) (by omega)
    rw [hSl] at hc
    refine hc.mono ?_
    rintro e w'' ⟨rfl, q, rfl⟩
    have hsz : (Lib.compact S ++ List.replicate (zs.length - (Lib.compact S).length) []).toArray.size = S.toArray.size := by
      have := Lib.compact_length_le S
      simp; omega
    have hH2 := holds_putRow encStr _ blk off S.toArray _ (holds_ahead encStr _ q blk off _ hH1) hsz
    have hsrt : srt zs = Lib.compact S := by rw [← hS]; rfl
    refine ⟨_, rfl, c, by rw [hsrt], ?_, ?_, ?_, ?_, rfl, rfl, rfl, srt_len zs, fun s hs => srt_mem hs⟩
    · have := srt_len zs; omega
    · intro i s hi
      have hlt := (List.getElem?_eq_some_iff.1 hi).1
      have := (hH2 i (by rw [hsz]; have := srt_len zs; simp [hSl]; omega)).1
      rw [this]
      congr 1
      congr 1
      rw [getElem!_pos _ i (by rw [hsz]; have := srt_len zs; simp [hSl]; omega)]
      rw [hsrt] at hi hlt
      simp only [List.getElem_toArray]
      rw [List.getElem_append_left hlt]
      exact (List.getElem?_eq_some_iff.1 hi).2
    · intro k hk hne
      rw [other_block hne, heap_grow_old _ _ (by rw [put_size]; exact hk), other_block hne]
    · rw [put_size]
      simp only [grow, Array.size_append, put_size]
      omega
end Go.Bee.C23s
