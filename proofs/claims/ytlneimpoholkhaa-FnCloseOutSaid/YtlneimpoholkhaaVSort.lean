/- The library's sort over this program: its contract, told of rows of the call's own. No condition. -/
import Derived.Test.YtlneimpoholkhaaProg
import Derived.Shelf.Sort.Plain
import Derived.Shelf.Slices.In.SortNone
import Derived.Test.YtlneimpoholkhaaVMore
namespace Go.Proofs.YtlneimpoholkhaaSort
open Go.Shelf Go.Sort Go.RowKit Go.Proofs.YtlneimpoholkhaaW.PrintWords Go.Proofs.YtlneimpoholkhaaW.PrintLast Go.Proofs.YtlneimpoholkhaaW.PrintMore
set_option linter.unusedVariables false
set_option linter.unusedSimpArgs false
theorem grow_at (w : World) (os : Array Obj) (k : Nat) (h : k < w.heap.size) : (grow w os).heap[k]? = w.heap[k]? := by
  simp [grow, Array.getElem?_append, h]
theorem put_other {α : Type} [Inhabited α] (enc : α → Value) (w : World) (n g o : Nat) (d : Array α) (k : Nat) (h : k ≠ g) : (putRow enc (Sort.ahead w n) g o d).heap[k]? = w.heap[k]? := by
  unfold putRow mapBlock
  simp only [Array.getElem?_modify]
  rw [if_neg (fun e => h e.symm)]
  rfl
theorem put_at {α : Type} [Inhabited α] (enc : α → Value) (w : World) (n g o : Nat) (d : Array α) {cur : Array Value} {e : Nat} (h : w.heap[g]? = some (.cells cur e (0, 0))) : (putRow enc (Sort.ahead w n) g o d).heap[g]? = some (.cells (putCells enc o d cur) e (0, 0)) := by
  unfold putRow mapBlock
  simp only [Array.getElem?_modify]
  rw [if_pos trivial]
  show Option.map _ (w.heap[g]?) = _
  rw [h]
  rfl
theorem put_size {α : Type} [Inhabited α] (enc : α → Value) (w : World) (n g o : Nat) (d : Array α) : (putRow enc (Sort.ahead w n) g o d).heap.size = w.heap.size := by
  simp [putRow, mapBlock, Sort.ahead]
theorem put_take {α : Type} [Inhabited α] (enc : α → Value) (ys : List α) (cur : Array Value) (h : ys.length ≤ cur.size) : (putCells enc 0 ys.toArray cur).size = cur.size ∧ (putCells enc 0 ys.toArray cur).toList.take ys.length = ys.map enc := by
  refine ⟨by simp [putCells], ?_⟩
  apply List.ext_getElem?
  intro k
  rw [List.getElem?_take, List.getElem?_map]
  by_cases hk : k < ys.length
  · rw [if_pos hk, Array.getElem?_toList]
    have h2 : k < cur.size := by omega
    simp [putCells, hk, h2]
  · rw [if_neg hk, List.getElem?_eq_none (by omega)]
    rfl
/-- What is known behind a call that has put ys into the first places of block g, and made what is new. -/
theorem after {α : Type} [Inhabited α] (enc : α → Value) (w : World) (g n : Nat) (ys : List α) (os : Array Obj) {cur : Array Value} {e : Nat} (h : w.heap[g]? = some (.cells cur e (0, 0))) (hl : ys.length ≤ cur.size) :
    w.grownBy (grow (putRow enc (Sort.ahead w n) g 0 ys.toArray) os) (some g) ∧ ∃ cur' : Array Value, (grow (putRow enc (Sort.ahead w n) g 0 ys.toArray) os).heap[g]? = some (.cells cur' e (0, 0)) ∧ cur'.size = cur.size ∧ cur'.toList.take ys.length = ys.map enc := by
  have hsz := put_size enc w n g 0 ys.toArray
  have hg : g < w.heap.size := blk_lt h
  refine ⟨⟨rfl, rfl, rfl, ?_, fun k hk hn => ?_⟩, putCells enc 0 ys.toArray cur, ?_, (put_take enc ys cur hl).1, (put_take enc ys cur hl).2⟩
  · rw [← hsz]
    simp [grow]
  · rw [grow_at _ _ _ (by rw [hsz]; exact hk), put_other enc w n g 0 _ k (fun e => hn (by rw [e]))]
  · rw [grow_at _ _ _ (by rw [hsz]; exact hg)]
    exact put_at enc w n g 0 _ h
theorem holds_of {α : Type} [Inhabited α] (enc : α → Value) (w : World) (g : Nat) (xs : List α) {cur : Array Value} {e : Nat} (h : w.heap[g]? = some (.cells cur e (0, 0))) (ht : cur.toList.take xs.length = xs.map enc) (hl : xs.length ≤ cur.size) : Holds enc w g 0 xs.toArray := by
  intro j hj
  have hj' : j < xs.length := by simpa using hj
  refine ⟨?_, ?_⟩
  · rw [cell_of_row w g _ cur e (0, 0) h, Nat.zero_add]
    have h2 : (cur.toList.take xs.length)[j]? = some (enc xs[j]) := by rw [ht, List.getElem?_map, List.getElem?_eq_getElem hj']; rfl
    rw [List.getElem?_take, if_pos hj', Array.getElem?_toList] at h2
    rw [h2]
    simp [hj']
  · simp [World.frozen?, h]
/-- A row of the call's own, out of what is known of its block. -/
theorem back {α : Type} {enc : α → Value} {h1 : ∀ x, (enc x).oneCell' = true} {w' : World} {base g cap e : Nat} {ok : Nat → Prop} {ys : List α} {cur' : Array Value} (hb : base ≤ g) (hok : ok g) (h : w'.heap[g]? = some (.cells cur' e (0, 0))) (hs : cur'.size = cap) (hn : ys.length ≤ cap) (hm : cap ≤ maxLen) (ht : cur'.toList.take ys.length = ys.map enc) :
    (Kd.scalar enc h1).R e w' base ok (.slice (some ⟨g, 0, none⟩) ys.length cap) ys :=
  Kd.R_of_own ⟨by simp [encs], .inr ⟨g, cap, cur', rfl, hb, h, hn, hm, by simpa using hs, by simpa [encs] using ht⟩⟩ (fun k hk => by
    have : g = k := by simpa [Value.ownBlock] using hk
    exact this ▸ hok)

end Go.Proofs.YtlneimpoholkhaaSort
namespace Go.Proofs
open Go.Shelf
def YtlneimpoholkhaaSort.lays189_ren : Go.Shelf.Ren := ⟨fun | 189 => 62 | 125 => 99 | 257 => 98 | 128 => 116 | 129 => 117 | 294 => 107 | 295 => 108 | 296 => 109 | 297 => 110 | 298 => 111 | 299 => 112 | 216 => 113 | 300 => 114 | 301 => 115 | 328 => 122 | 329 => 123 | 330 => 124 | 331 => 125 | 332 => 126 | 215 => 127 | 343 => 131 | n => n, fun | 28 => 40 | 3 => 3 | 46 => 111 | 0 => 0 | 51 => 124 | 53 => 73 | 4 => 4 | 183 => 117 | 182 => 116 | 131 => 43 | 5 => 5 | 9 => 9 | 218 => 127 | 222 => 131 | 228 => 134 | 229 => 92 | n => n, fun | n => n⟩
theorem YtlneimpoholkhaaSort.lays189 : Go.Proofs.Lays.n189 Try.prog YtlneimpoholkhaaSort.lays189_ren := {
  mixed := by kernel_rfl
  f125 := Try.func99.trans (congrArg some (by kernel_rfl))
  f128 := Try.func116.trans (congrArg some (by kernel_rfl))
  f129 := Try.func117.trans (congrArg some (by kernel_rfl))
  f189 := Try.func62.trans (congrArg some (by kernel_rfl))
  f215 := Try.func127.trans (congrArg some (by kernel_rfl))
  f216 := Try.func113.trans (congrArg some (by kernel_rfl))
  f257 := Try.func98.trans (congrArg some (by kernel_rfl))
  f294 := Try.func107.trans (congrArg some (by kernel_rfl))
  f295 := Try.func108.trans (congrArg some (by kernel_rfl))
  f296 := Try.func109.trans (congrArg some (by kernel_rfl))
  f297 := Try.func110.trans (congrArg some (by kernel_rfl))
  f298 := Try.func111.trans (congrArg some (by kernel_rfl))
  f299 := Try.func112.trans (congrArg some (by kernel_rfl))
  f300 := Try.func114.trans (congrArg some (by kernel_rfl))
  f301 := Try.func115.trans (congrArg some (by kernel_rfl))
  f328 := Try.func122.trans (congrArg some (by kernel_rfl))
  f329 := Try.func123.trans (congrArg some (by kernel_rfl))
  f330 := Try.func124.trans (congrArg some (by kernel_rfl))
  f331 := Try.func125.trans (congrArg some (by kernel_rfl))
  f332 := Try.func126.trans (congrArg some (by kernel_rfl))
  f343 := Try.func131.trans (congrArg some (by kernel_rfl))
  t0 := Try.underlying0
  a0 := Try.isAgg0
  z0 := Try.sizeOf0
  v0 := Try.zeroValue0
  t3 := Try.underlying3
  a3 := Try.isAgg3
  z3 := Try.sizeOf3
  v3 := Try.zeroValue3
  t4 := Try.underlying4
  a4 := Try.isAgg4
  z4 := Try.sizeOf4
  v4 := Try.zeroValue4
  t5 := Try.underlying5
  a5 := Try.isAgg5
  z5 := Try.sizeOf5
  v5 := Try.zeroValue5
  t9 := Try.underlying9
  a9 := Try.isAgg9
  z9 := Try.sizeOf9
  v9 := Try.zeroValue9
  t28 := Try.underlying40
  a28 := Try.isAgg40
  z28 := Try.sizeOf40
  v28 := Try.zeroValue40
  t46 := Try.underlying111
  a46 := Try.isAgg111
  z46 := Try.sizeOf111
  v46 := Try.zeroValue111
  t51 := Try.underlying124
  a51 := Try.isAgg124
  z51 := Try.sizeOf124
  v51 := Try.zeroValue124
  t53 := Try.underlying73
  a53 := Try.isAgg73
  z53 := Try.sizeOf73
  v53 := Try.zeroValue73
  t131 := Try.underlying43
  a131 := Try.isAgg43
  z131 := Try.sizeOf43
  v131 := Try.zeroValue43
  t182 := Try.underlying116
  a182 := Try.isAgg116
  z182 := Try.sizeOf116
  v182 := Try.zeroValue116
  t183 := Try.underlying117
  a183 := Try.isAgg117
  z183 := Try.sizeOf117
  v183 := Try.zeroValue117
  t218 := Try.underlying127
  a218 := Try.isAgg127
  z218 := Try.sizeOf127
  v218 := Try.zeroValue127
  t222 := Try.underlying131
  a222 := Try.isAgg131
  z222 := Try.sizeOf131
  v222 := Try.zeroValue131
  t228 := Try.underlying134
  a228 := Try.isAgg134
  z228 := Try.sizeOf134
  v228 := Try.zeroValue134
  t229 := Try.underlying92
  a229 := Try.isAgg92
  z229 := Try.sizeOf92
  v229 := Try.zeroValue92 }
end Go.Proofs
namespace Go.Proofs.YtlneimpoholkhaaSort
open Go.Shelf Go.Sort Go.RowKit Go.Proofs.YtlneimpoholkhaaW.PrintWords Go.Proofs.YtlneimpoholkhaaW.PrintLast Go.Proofs.YtlneimpoholkhaaW.PrintMore
def sortI (xs : List Int) : List Int := xs.mergeSort fun x y => decide (x ≤ y)
theorem sorts (P0_ : Nat → Prop) (u : Value) (l0 : List Int) (w0 w : World) (hB : Below w0.heap.size w0 w) (ho0 : Kd.R (Kd.int .i64) 3 w w0.heap.size P0_ u l0) (hlim : l0.length < 4611686018427387904) :
    Calls Try.prog 62 #[u] w fun e w' => e = .returned (.tuple #[]) ∧ Kd.R (Kd.int .i64) 3 w' w0.heap.size (fun k_ => (P0_ k_ ∨ w.heap.size ≤ k_)) u (sortI l0) ∧ Below w0.heap.size w0 w' ∧ Kept w w' (fun k_ => P0_ k_) := by
  have hl : (sortI l0).length = l0.length := List.length_mergeSort _
  by_cases hz : l0 = []
  · subst hz
    obtain ⟨A, c, rfl⟩ := Kd.R_slice ho0
    refine (Any.slices_Sort_int_none lays189 A c w).mono ?_
    rintro e w' ⟨rfl, rfl⟩
    exact ⟨rfl, by rw [show sortI [] = [] by simp [sortI]]; exact Kd.R_mono ho0 (fun _ hk => .inl hk), hB, Kept.refl _ _⟩
  · have hp : 0 < l0.length := List.length_pos_iff.2 hz
    obtain ⟨ho, hr⟩ := Kd.own_of_R ho0
    rcases hr with ⟨rfl, h0⟩ | ⟨g, cap, cur, rfl, hb, hg, hn, hm, hs, ht⟩
    · omega
    have hP : P0_ g := ho0.1 g (by simp [Value.ownBlock])
    have hs' : cur.size = cap := by simpa using hs
    have ht' : cur.toList.take l0.length = l0.map (Value.int .i64) := by simpa [encs] using ht
    have hm' : cap ≤ 9223372036854775807 := hm
    refine (Any.slices_Sort_int lays189 g 0 cap l0 w (holds_of _ w g l0 hg ht' (by omega)) (blk_lt hg) hlim).mono ?_
    rintro e w' ⟨rfl, n, os, rfl⟩
    obtain ⟨hgr, cur', hc', hcs, htk⟩ := after (Value.int .i64) w g n (sortI l0) os hg (by omega)
    refine ⟨rfl, ?_, hB.grown hgr hB.size (fun k hk => by cases hk; exact hb), hgr.size, fun k hk hn' => hgr.block k hk (fun e => hn' (by cases e; exact hP))⟩
    have := back (h1 := fun _ => rfl) (ok := fun k_ => (P0_ k_ ∨ w.heap.size ≤ k_)) (ys := sortI l0) hb (.inl hP) hc' (hcs.trans hs') (by omega) hm htk
    rw [hl] at this
    exact this
end Go.Proofs.YtlneimpoholkhaaSort
