/- The library's sort over this program: its contract, told of rows of the call's own. No condition. -/
import Derived.Test.YtlneimpoholkhaaProg
import Derived.Shelf.Sort.Plain
import Derived.Shelf.Slices.In.SortNone
import Derived.Shelf.Lay
import Derived.Test.YtlneimpoholkhaaVMore
namespace Go.Proofs.YtlneimpoholkhaaSort
open Go.Shelf Go.Sort Go.RowKit Go.Proofs.YtlneimpoholkhaaW.PrintWords Go.Proofs.YtlneimpoholkhaaW.PrintLast Go.Proofs.YtlneimpoholkhaaW.PrintMore
set_option linter.unusedVariables false
set_option linter.unusedSimpArgs false
theorem grow_at (w : World) (os : Array Obj) (k : Nat) (h : k < w.heap.size) : (grow w os).heap[k]? = w.heap[k]? := by
  simp [grow, Array.getElem?_append, h]
theorem put_other {α : Type} [Inhabited α] (enc : α → Value) (w : World) (n g o : Nat) (d : Array α) (k : Nat) (h : k ≠ g) : (putRow enc (Sort.ahead w n) g o d).heap[k]? = w.heap[k]? := by
  unfold putRow mapBlock
  simp only [Array.getElem?_modify]
  rw [if_neg (fun e => h e.symm)]
  rfl
theorem put_at {α : Type} [Inhabited α] (enc : α → Value) (w : World) (n g o : Nat) (d : Array α) {cur : Array Value} {e : Nat} (h : w.heap[g]? = some (.cells cur e (0, 0))) : (putRow enc (Sort.ahead w n) g o d).heap[g]? = some (.cells (putCells enc o d cur) e (0, 0)) := by
  unfold putRow mapBlock
  simp only [Array.getElem?_modify]
  rw [if_pos trivial]
  show Option.map _ (w.heap[g]?) = _
  rw [h]
  rfl
theorem put_size {α : Type} [Inhabited α] (enc : α → Value) (w : World) (n g o : Nat) (d : Array α) : (putRow enc (Sort.ahead w n) g o d).heap.size = w.heap.size := by
  simp [putRow, mapBlock, Sort.ahead]
theorem put_take {α : Type} [Inhabited α] (enc : α → Value) (ys : List α) (cur : Array Value) (h : ys.length ≤ cur.size) : (putCells enc 0 ys.toArray cur).size = cur.size ∧ (putCells enc 0 ys.toArray cur).toList.take ys.length = ys.map enc := by
  refine ⟨by simp [putCells], ?_⟩
  apply List.ext_getElem?
  intro k
  rw [List.getElem?_take, List.getElem?_map]
  by_cases hk : k < ys.length
  · rw [if_pos hk, Array.getElem?_toList]
    have h2 : k < cur.size := by omega
    simp [putCells, hk, h2]
  · rw [if_neg hk, List.getElem?_eq_none (by omega)]
    rfl
/-- What is known behind a call that has put ys into the first places of block g, and made what is new. -/
theorem after {α : Type} [Inhabited α] (enc : α → Value) (w : World) (g n : Nat) (ys : List α) (os : Array Obj) {cur : Array Value} {e : Nat} (h : w.heap[g]? = some (.cells cur e (0, 0))) (hl : ys.length ≤ cur.size) :
    w.grownBy (grow (putRow enc (Sort.ahead w n) g 0 ys.toArray) os) (some g) ∧ ∃ cur' : Array Value, (grow (putRow enc (Sort.ahead w n) g 0 ys.toArray) os).heap[g]? = some (.cells cur' e (0, 0)) ∧ cur'.size = cur.size ∧ cur'.toList.take ys.length = ys.map enc := by
  have hsz := put_size enc w n g 0 ys.toArray
  have hg : g < w.heap.size := blk_lt h
  refine ⟨⟨rfl, rfl, rfl, ?_, fun k hk hn => ?_⟩, putCells enc 0 ys.toArray cur, ?_, (put_take enc ys cur hl).1, (put_take enc ys cur hl).2⟩
  · rw [← hsz]
    simp [grow]
  · rw [grow_at _ _ _ (by rw [hsz]; exact hk), put_other enc w n g 0 _ k (fun e => hn (by rw [e]))]
  · rw [grow_at _ _ _ (by rw [hsz]; exact hg)]
    exact put_at enc w n g 0 _ h
theorem holds_of {α : Type} [Inhabited α] (enc : α → Value) (w : World) (g : Nat) (xs : List α) {cur : Array Value} {e : Nat} (h : w.heap[g]? = some (.cells cur e (0, 0))) (ht : cur.toList.take xs.length = xs.map enc) (hl : xs.length ≤ cur.size) : Holds enc w g 0 xs.toArray := by
  intro j hj
  have hj' : j < xs.length := by simpa using hj
  refine ⟨?_, ?_⟩
  · rw [cell_of_row w g _ cur e (0, 0) h, Nat.zero_add]
    have h2 : (cur.toList.take xs.length)[j]? = some (enc xs[j]) := by rw [ht, List.getElem?_map, List.getElem?_eq_getElem hj']; rfl
    rw [List.getElem?_take, if_pos hj', Array.getElem?_toList] at h2
    rw [h2]
    simp [hj']
  · simp [World.frozen?, h]
/-- A row of the call's own, out of what is known of its block. -/
theorem back {α : Type} {enc : α → Value} {h1 : ∀ x, (enc x).oneCell' = true} {w' : World} {base g cap e : Nat} {ok : Nat → Prop} {ys : List α} {cur' : Array Value} (hb : base ≤ g) (hok : ok g) (h : w'.heap[g]? = some (.cells cur' e (0, 0))) (hs : cur'.size = cap) (hn : ys.length ≤ cap) (hm : cap ≤ maxLen) (ht : cur'.toList.take ys.length = ys.map enc) :
    (Kd.scalar enc h1).R e w' base ok (.slice (some ⟨g, 0, none⟩) ys.length cap) ys :=
  Kd.R_of_own ⟨by simp [encs], .inr ⟨g, cap, cur', rfl, hb, h, hn, hm, by simpa using hs, by simpa [encs] using ht⟩⟩ (fun k hk => by
    have : g = k := by simpa [Value.ownBlock] using hk
    exact this ▸ hok)

end Go.Proofs.YtlneimpoholkhaaSort
namespace Go.Proofs
open Go.Shelf
shelf_lay Lays.n189 Nm 189 at Try as YtlneimpoholkhaaSort.lays189
end Go.Proofs
namespace Go.Proofs.YtlneimpoholkhaaSort
open Go.Shelf Go.Sort Go.RowKit Go.Proofs.YtlneimpoholkhaaW.PrintWords Go.Proofs.YtlneimpoholkhaaW.PrintLast Go.Proofs.YtlneimpoholkhaaW.PrintMore
def sortI (xs : List Int) : List Int := xs.mergeSort fun x y => decide (x ≤ y)
theorem sorts (P0_ : Nat → Prop) (u : Value) (l0 : List Int) (w0 w : World) (hB : Below w0.heap.size w0 w) (ho0 : Kd.R (Kd.int .i64) 3 w w0.heap.size P0_ u l0) (hlim : l0.length < 4611686018427387904) :
    Calls Try.prog 62 #[u] w fun e w' => e = .returned (.tuple #[]) ∧ Kd.R (Kd.int .i64) 3 w' w0.heap.size (fun k_ => (P0_ k_ ∨ w.heap.size ≤ k_)) u (sortI l0) ∧ Below w0.heap.size w0 w' ∧ Kept w w' (fun k_ => P0_ k_) := by
  have hl : (sortI l0).length = l0.length := List.length_mergeSort _
  by_cases hz : l0 = []
  · subst hz
    obtain ⟨A, c, rfl⟩ := Kd.R_slice ho0
    refine (Any.slices_Sort_int_none lays189 A c w).mono ?_
    rintro e w' ⟨rfl, rfl⟩
    exact ⟨rfl, by rw [show sortI [] = [] by simp [sortI]]; exact Kd.R_mono ho0 (fun _ hk => .inl hk), hB, Kept.refl _ _⟩
  · have hp : 0 < l0.length := List.length_pos_iff.2 hz
    obtain ⟨ho, hr⟩ := Kd.own_of_R ho0
    rcases hr with ⟨rfl, h0⟩ | ⟨g, cap, cur, rfl, hb, hg, hn, hm, hs, ht⟩
    · omega
    have hP : P0_ g := ho0.1 g (by simp [Value.ownBlock])
    have hs' : cur.size = cap := by simpa using hs
    have ht' : cur.toList.take l0.length = l0.map (Value.int .i64) := by simpa [encs] using ht
    have hm' : cap ≤ 9223372036854775807 := hm
    refine (Any.slices_Sort_int lays189 g 0 cap l0 w (holds_of _ w g l0 hg ht' (by omega)) (blk_lt hg) hlim).mono ?_
    rintro e w' ⟨rfl, n, os, rfl⟩
    obtain ⟨hgr, cur', hc', hcs, htk⟩ := after (Value.int .i64) w g n (sortI l0) os hg (by omega)
    refine ⟨rfl, ?_, hB.grown hgr hB.size (fun k hk => by cases hk; exact hb), hgr.size, fun k hk hn' => hgr.block k hk (fun e => hn' (by cases e; exact hP))⟩
    have := back (h1 := fun _ => rfl) (ok := fun k_ => (P0_ k_ ∨ w.heap.size ≤ k_)) (ys := sortI l0) hb (.inl hP) hc' (hcs.trans hs') (by omega) hm htk
    rw [hl] at this
    exact this
end Go.Proofs.YtlneimpoholkhaaSort
