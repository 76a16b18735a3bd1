/- Sorted, and each once. -/
import Derived.Test.YtgopmghiadpbcaaDoorBeeY
import Derived.Test.YtgopmghiadpbcaaDoorBeeT
import Derived.Test.YtgopmghiadpbcaaDoorProg
import Derived.Shelf.Sort.Plain
import Derived.Shelf.Slices.In.SortNone
import Derived.Shelf.Slices.CompactS
import Derived.Shelf.Lay
import Derived.Lib.RowBridge
namespace Go.Proofs
open Go.Shelf
shelf_lay Lays.n190 Nm 190 at Tryd as YtgopmghiadpbcaaDoorSrt.lays190
shelf_lay Lays.n194 Nm 194 at Tryd as YtgopmghiadpbcaaDoorSrt.lays194
end Go.Proofs
namespace Go.Bee.C23s
open Go Go.Bee Go.Proofs Go.Bee.Ty Go.Bee.C23 Go.Sort
set_option linter.unusedVariables false
def srt (zs : List (List UInt8)) : List (List UInt8) := Lib.compact (zs.mergeSort fun x y => decide (x ≤ y))
theorem srt_mem {zs : List (List UInt8)} {s : List UInt8} (h : s ∈ srt zs) : s ∈ zs := by
  unfold srt Lib.compact Lib.compactUpTo at h
  obtain ⟨j, hj, rfl⟩ := List.mem_map.1 h
  have hj' : j < (zs.mergeSort fun x y => decide (x ≤ y)).length := List.mem_range.1 (List.mem_filter.1 hj).1
  rw [getElem!_pos _ j (by simpa using hj')]
  have : (zs.mergeSort fun x y => decide (x ≤ y))[j] ∈ zs.mergeSort fun x y => decide (x ≤ y) := List.getElem_mem _
  simpa using (List.mem_mergeSort.1 this)
theorem srt_len (zs : List (List UInt8)) : (srt zs).length ≤ zs.length := by
  have := Lib.compact_length_le (zs.mergeSort fun x y => decide (x ≤ y))
  rw [List.length_mergeSort] at this
  exact this
theorem other_block {w : World} {n blk off k : Nat} {d : Array (List UInt8)} (h : k ≠ blk) : (putRow encStr (Sort.ahead w n) blk off d).heap[k]? = w.heap[k]? := by
  unfold putRow mapBlock
  simp only [Array.getElem?_modify]
  rw [if_neg (fun e => h e.symm)]
  rfl
theorem put_size {w : World} {n blk off : Nat} {d : Array (List UInt8)} : (putRow encStr (Sort.ahead w n) blk off d).heap.size = w.heap.size := by
  simp [putRow, mapBlock, Sort.ahead]
theorem sorted_run {w : World} {u : Value} {R : Ending → World → Prop} (h : Calls Tryd.prog 63 #[u] w fun e w' => e = .returned (.tuple #[]) ∧ Calls Tryd.prog 64 #[u] w' fun e w'' => ∃ r, e = .returned r ∧ R (.returned r) w'') : Calls Tryd.prog 57 #[u] w R := by
  refine calls_of_wp Tryd.func57 rfl ?_
  refine wp_seq (wp_region ?_)
  refine raw_at rfl rfl (raw_assign rfl ?_)
  refine wp_seq (wp_region ?_)
  refine raw_at rfl rfl (raw_move rfl ?_)
  refine raw_at rfl rfl (raw_call (u := u) (by kernel_rfl) rfl (by simp [Act.put, Act.eval]) (h.mono ?_))
  rintro e w' ⟨rfl, h2⟩
  refine ⟨_, rfl, ?_⟩
  refine wp_seq (wp_region ?_)
  refine raw_at rfl rfl (raw_move rfl ?_)
  refine raw_at rfl rfl (raw_call (u := u) (by kernel_rfl) rfl (by simp [Act.put, Act.eval]) (h2.mono ?_))
  rintro e w'' ⟨r, rfl, h3⟩
  refine ⟨_, rfl, ?_⟩
  refine raw_at rfl rfl (raw_assign rfl ?_)
  refine wp_ret ?_
  refine ⟨rfl, r, ?_, h3⟩
  rw [results_eq]
  simp [show f57.results = #[.tmp 2] from rfl, resSem, Act.put, Act.eval]
theorem sorted_redo : Redo Tryd.prog 57 srt := by
  refine ⟨by kernel_rfl, by simp [srt, Lib.compact, Lib.compactUpTo], fun w b c => ?_, fun w blk off c zs hz hH hblk hlc hlen => ?_⟩
  · refine sorted_run ((Any.slices_Sort_string_none YtgopmghiadpbcaaDoorSrt.lays190 b c w).mono ?_)
    rintro e w' ⟨rfl, rfl⟩
    refine ⟨rfl, (Any.slices_Compact_string_empty YtgopmghiadpbcaaDoorSrt.lays194 b c w').mono ?_⟩
    rintro e w'' ⟨rfl, rfl⟩
    exact ⟨_, rfl, rfl, rfl, rfl, rfl, rfl⟩
  · refine sorted_run ((Any.slices_Sort_string YtgopmghiadpbcaaDoorSrt.lays190 blk off c zs w hH hblk (by omega)).mono ?_)
    rintro e w' ⟨rfl, n, os, rfl⟩
    generalize hS : (zs.mergeSort fun x y => decide (x ≤ y)) = S
    have hSl : S.length = zs.length := by rw [← hS]; simp
    have hblk1 : blk < (putRow encStr (Sort.ahead w n) blk off S.toArray).heap.size := by rw [put_size]; exact hblk
    have hH1 : Holds encStr (grow (putRow encStr (Sort.ahead w n) blk off S.toArray) os) blk off S.toArray := holds_grow _ _ os _ _ _ hblk1 (holds_putRow encStr _ blk off zs.toArray S.toArray (holds_ahead _ _ _ _ _ _ hH) (by simp [hSl]))
    refine ⟨rfl, ?_⟩
    have hc := Any.slices_Compact_string YtgopmghiadpbcaaDoorSrt.lays194 blk off c S _ hH1 (by omega) (by omega)
    rw [hSl] at hc
    refine hc.mono ?_
    rintro e w'' ⟨rfl, q, rfl⟩
    have hsz : (Lib.compact S ++ List.replicate (zs.length - (Lib.compact S).length) []).toArray.size = S.toArray.size := by
      have := Lib.compact_length_le S
      simp; omega
    have hH2 := holds_putRow encStr _ blk off S.toArray _ (holds_ahead encStr _ q blk off _ hH1) hsz
    have hsrt : srt zs = Lib.compact S := by rw [← hS]; rfl
    refine ⟨_, rfl, c, by rw [hsrt], ?_, ?_, ?_, ?_, rfl, rfl, rfl, srt_len zs, fun s hs => srt_mem hs⟩
    · have := srt_len zs; omega
    · intro i s hi
      have hlt := (List.getElem?_eq_some_iff.1 hi).1
      have := (hH2 i (by rw [hsz]; have := srt_len zs; simp [hSl]; omega)).1
      rw [this]
      congr 1
      congr 1
      rw [getElem!_pos _ i (by rw [hsz]; have := srt_len zs; simp [hSl]; omega)]
      rw [hsrt] at hi hlt
      simp only [List.getElem_toArray]
      rw [List.getElem_append_left hlt]
      exact (List.getElem?_eq_some_iff.1 hi).2
    · intro k hk hne
      rw [other_block hne, heap_grow_old _ _ (by rw [put_size]; exact hk), other_block hne]
    · rw [put_size]
      simp only [grow, Array.size_append, put_size]
      omega
end Go.Bee.C23s
