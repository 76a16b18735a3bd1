/-
The logic and the walks, part 9. No condition.
-/
import Derived.Test.YtjjehnbebcfhpaaGreatDoorBeeG0FEJMa
import Derived.Test.YtjjehnbebcfhpaaGreatDoorBeeG0FEJMh
import Derived.Test.YtjjehnbebcfhpaaGreatDoorProg
import Derived.Shelf.Strconv.Itoa3
import Derived.Lib.ItoaLen
import Derived.ChangeArms
import Derived.SizedLaws
import Derived.Deep.Slices
import Derived.ChangeOld
import Derived.Below
import Derived.Carry
import Derived.ProofKit
namespace Go.Bee.Da
open Go
set_option linter.unusedVariables false
def mlen (y m : Int) : Int := if m = 2 then (if y.tmod 4 = 0 then 29 else 28) else if m = 4 ∨ m = 6 ∨ m = 9 ∨ m = 11 then 30 else 31
def ylen (y : Int) : Int := 337 + mlen y 2
def ycum (k : Int) : Int := 365 * k + (k + 3).tdiv 4
def mcum (y : Int) : Nat → Int
  | 0 => 0
  | n + 1 => mcum y n + mlen y ((n : Int) + 1)
def yF : Nat → Nat → Int → Nat × Int
  | 0, k, r => (k, r)
  | n + 1, k, r => if r ≥ ylen (2000 + k) then yF n (k + 1) (r - ylen (2000 + k)) else (k, r)
def mF (y : Int) : Nat → Nat → Int → Nat × Int
  | 0, m, r => (m, r)
  | n + 1, m, r => if r ≥ mlen y m then mF y n (m + 1) (r - mlen y m) else (m, r)
def yrF (day : Int) : Nat × Int := yF 100 0 day
def moF (day : Int) : Nat × Int := mF (2000 + (yrF day).1) 12 1 (yrF day).2
structure Dt where (y : Int) (m : Int) (d : Int) deriving DecidableEq
def dateF (day : Int) : Dt := ⟨2000 + (yrF day).1, (moF day).1, (moF day).2 + 1⟩
abbrev Tx := List UInt8
def num (n : Int) : Tx := Lib.decDigits n.toNat
def two (n : Int) : Tx := if n < 10 then 48 :: num n else num n
def padN : Nat → Tx → Tx
  | 0, t => t
  | n + 1, t => if t.length < n + 1 then 48 :: padN n t else t
def dateT (day : Int) : Tx := num (dateF day).y ++ [45] ++ two (dateF day).m ++ [45] ++ two (dateF day).d
def absI (x : Int) : Int := if x < 0 then -x else x
def amtT (x : Int) : Tx := (if x < 0 then [45] else []) ++ num (absI x / 100) ++ [46] ++ two (absI x % 100)
end Go.Bee.Da


namespace Go.Proofs
open Go.Shelf
def YtjjehnbebcfhpaaGreatDoorStr.lays171_ren : Go.Shelf.Ren := ⟨fun | 171 => 105 | 243 => 138 | 246 => 153 | 283 => 171 | 284 => 172 | 285 => 173 | 286 => 174 | 129 => 170 | 317 => 187 | 318 => 188 | 319 => 189 | 320 => 190 | 337 => 198 | 338 => 199 | n => n, fun | 3 => 3 | 9 => 9 | 2 => 2 | 4 => 4 | 171 => 168 | 0 => 0 | 53 => 167 | 37 => 170 | 5 => 5 | 173 => 171 | 212 => 186 | 51 => 165 | 20 => 20 | 213 => 187 | 46 => 151 | 232 => 197 | 233 => 198 | n => n, fun | 17 => 0 | 18 => 4 | 19 => 5 | n => n⟩
end Go.Proofs
namespace Go.Bee.C24
open Go Go.Bee Go.Proofs Go.Bee.Ty
theorem bDt2 : ∀ (a b : Int), evBuild Tryz.prog 135 [(0, .d (.int .i64 a)), (1, .d (.int .i64 b))] = some (.agg [.d (.int .i64 a), .d (.int .i64 b), .d (.int .i64 0)]) := fun a b => by kernel_rfl
theorem bDt3 : ∀ (a b c : Int), evBuild Tryz.prog 135 [(0, .d (.int .i64 a)), (1, .d (.int .i64 b)), (2, .d (.int .i64 c))] = some (.agg [.d (.int .i64 a), .d (.int .i64 b), .d (.int .i64 c)]) := fun a b c => by kernel_rfl
theorem tys : type_of% (And.intro Go.Bee.C23s.tys (And.intro bDt2 bDt3)) := And.intro Go.Bee.C23s.tys (And.intro bDt2 bDt3)
end Go.Bee.C24
namespace Go.Bee.C24
open Go Go.Bee Go.Proofs Go.Bee.Ty Go.Bee.C23 Go.Bee.C23s Go.Bee.Da
set_option linter.unusedVariables false
set_option maxRecDepth 20000
attribute [local irreducible] Go.Bee.bwp
def padT (m : Nat) (t : Tx) : Tx := List.replicate (m - t.length) 48 ++ t
def dgs : Tx := [48, 49, 50, 51, 52, 53, 54, 55, 56, 57]
end Go.Bee.C24


namespace Go.Bee.C24c
open Go Go.Bee Go.Proofs Go.Bee.Ty
theorem lapp : (∀ a b : List UInt8, (a ++ b).length = a.length + b.length) ∧ (∀ (x : UInt8) (a : List UInt8), (x :: a).length = a.length + 1) ∧ ([] : List UInt8).length = 0 := ⟨fun _ _ => List.length_append, fun _ _ => rfl, rfl⟩
theorem tys : type_of% (And.intro Go.Bee.C24.tys lapp) := And.intro Go.Bee.C24.tys lapp
end Go.Bee.C24c
namespace Go.Bee.C24c
open Go Go.Bee Go.Proofs Go.Bee.Ty Go.Bee.C23 Go.Bee.C23s Go.Bee.Da Go.Bee.C24
set_option linter.unusedVariables false
set_option maxRecDepth 20000
attribute [local irreducible] Go.Bee.bwp
end Go.Bee.C24c


namespace Go.Bee.C24d
open Go Go.Bee Go.Proofs Go.Bee.Ty
theorem bCtr : ∀ l : List PD, evBuild Tryz.prog 31 [(0, .d (.sl 1 l))] = some (.agg [.d (.sl 1 l), .nilS]) := fun l => by kernel_rfl
theorem tys : type_of% (And.intro Go.Bee.C24c.tys bCtr) := And.intro Go.Bee.C24c.tys bCtr
end Go.Bee.C24d
namespace Go.Bee.C24d
open Go Go.Bee Go.Proofs Go.Bee.Ty Go.Bee.C23 Go.Bee.C23s Go.Bee.Da Go.Bee.C24 Go.Bee.C24c
set_option linter.unusedVariables false
set_option maxRecDepth 20000
attribute [local irreducible] Go.Bee.bwp
def amtN (x : Int) : Tx := num (x / 100) ++ [46] ++ two (x % 100)
theorem isDay_b (d : Int) : BRet Tryz.prog 82 [] [.int d] (.bool (inB d 0 36524)) [] := by
  refine bof Tryz.func82 ?_
  refine bgo ?_
  refine b_call (within_b _ _ _) rfl rfl rfl rfl ?_
  refine bgo ?_
  trivial
theorem l3Good_b (d : Int) : BRet Tryz.prog 73 [] [.int d] (.bool (inB d 0 36524)) [] := by
  refine bof Tryz.func73 ?_
  refine bgo ?_
  refine b_call (l1In_b _ _ _) rfl rfl rfl rfl ?_
  refine bgo ?_
  trivial
def txs (l : List Tx) : List PD := l.map .str
def parAt (l : List Tx) (k : Nat) : Bool := vName (l.getD k []) && !(l.take k).contains (l.getD k [])
def parOk (l : List Tx) : Bool := (List.range l.length).all (parAt l) && inB l.length 2 4
theorem parOk_bad {l : List Tx} {k : Nat} (hk : k < l.length) (h : parAt l k = false) : parOk l = false := by
  have : (List.range l.length).all (parAt l) = false := by
    cases hx : (List.range l.length).all (parAt l)
    · rfl
    · rw [List.all_eq_true.1 hx k (List.mem_range.2 hk)] at h; cases h
  unfold parOk; rw [this]; rfl
theorem par_step {l : List Tx} {k : Nat} (h : (List.range k).all (parAt l) = true) (hk : parAt l k = true) : (List.range (k + 1)).all (parAt l) = true := by
  rw [List.range_succ, List.all_append, h]; simp [hk]
theorem parOk_name {l : List Tx} (h : parOk l = true) {k : Nat} (hk : k < l.length) : vName (l.getD k []) = true := by
  unfold parOk at h
  simp only [Bool.and_eq_true] at h
  have := List.all_eq_true.1 h.1 k (List.mem_range.2 hk)
  unfold parAt at this
  simp only [Bool.and_eq_true] at this
  exact this.1
theorem vName_len {s : Tx} (h : vName s = true) : 1 ≤ s.length ∧ s.length ≤ 8 := by
  unfold vName inB at h
  simp only [Bool.and_eq_true, decide_eq_true_eq] at h
  omega
theorem areParties_b (l : List Tx) : BRet Tryz.prog 56 [] [.d (.sl 1 (l.map .str))] (.bool (parOk l)) [] := by
  refine BRet.len 0 (by kernel_rfl) rfl fun hl => ?_
  simp only [List.length_map] at hl
  refine bof Tryz.func56 ?_
  generalize hr : parOk l = r
  refine bgo ?_
  refine b_lp (ι := Nat × Unit) (fun i => [(0, .d (.sl 1 (l.map .str))), (5, .d (.sl 1 (l.map .str))), (6, .int l.length), (7, .int i.1)]) (fun _ => []) (fun i => i.1 ≤ l.length ∧ (List.range i.1).all (parAt l) = true) (fun i => l.length - i.1) (0, ()) hs ⟨Nat.zero_le _, rfl⟩ ?_
  rintro ⟨k, u⟩ ⟨hk, hj⟩ I nx
  dsimp only at hk hj ⊢
  by_cases hlt : k < l.length
  · have hx : l[k]? = some l[k] := List.getElem?_eq_getElem hlt
    have hd : l.getD k [] = l[k] := by simp [hlt]
    have hb : (k : Int) + 1 ≤ 1099511627776000 := by omega
    have hp : parAt l k = (vName l[k] && !(l.take k).contains l[k]) := by unfold parAt; rw [hd]
    have hkl : (k : Int) ≤ l.length := by omega
    have hnx := fun h => par_step (l := l) (k := k) hj h
    have hbd := fun h => parOk_bad (l := l) (k := k) hlt h
    have hnm := IsValidName_b l[k]
    have hco := containsStr_b (l.take k) l[k]
    rw [List.map_take] at hco
    clear hj hd
    rw [hr] at hbd
    clear hr
    rw [hp] at hnx hbd
    clear hp
    generalize l[k] = x at *
    refine bgo ?_
    refine b_call hnm rfl rfl rfl rfl ?_
    cases hv : vName x
    · rw [hv] at hbd
      have := hbd rfl
      subst this
      refine bgo ?_
      trivial
    · rw [hv] at hbd hnx
      refine bgo ?_
      refine b_call hco rfl rfl rfl rfl ?_
      cases hc : (l.take k).contains x
      · rw [hc] at hnx
        refine bgo ?_
        exact nx.go (k + 1, ()) ⟨hlt, hnx rfl⟩ (by dsimp only; omega) hs
      · rw [hc] at hbd
        have := hbd rfl
        subst this
        refine bgo ?_
        trivial
  · obtain rfl : k = l.length := by omega
    have he : r = inB l.length 2 4 := by rw [← hr]; unfold parOk; rw [hj]; rfl
    clear hr hj
    subst he
    refine bgo ?_
    refine wk_rfl ?_
    refine bgo ?_
    refine b_call (within_b _ _ _) rfl rfl rfl rfl ?_
    refine bgo ?_
    trivial
def evOk (d p : Int) (a : Tx) (am n : Int) : Bool := inB d 0 36524 && inB p 0 (n - 1) && vName a && inB am 0 1000000
def evB (d : Int) (p a : Tx) : Tx := [79, 110, 32] ++ dateT d ++ [44, 32] ++ p ++ [32, 100, 105, 100, 32] ++ a
def evT (d : Int) (p a : Tx) (am : Int) : Tx := (if am > 0 then evB d p a ++ ([32, 97, 110, 100, 32, 112, 97, 105, 100, 32] ++ amtN am) else evB d p a) ++ [46]
end Go.Bee.C24d


namespace Go.Bee
open Go.ChangeShapes Go.WideShapes Go.ChangeAt Go.RowKit
set_option linter.unusedVariables false

def Old (w : World) : Nat → Nat → Prop := fun g _ => g < w.heap.size
def Cells (w : World) (ps : List PD) (cs : List Value) : Prop := ps.length = cs.length ∧ (∀ x ∈ ps, x.scalar = true) ∧ ∀ (i : Nat) x v, ps[i]? = some x → cs[i]? = some v → RepD (Old w) w x v
theorem Cells.append {w : World} {ps ps' : List PD} {cs cs' : List Value} (h : Cells w ps cs) (k : Cells w ps' cs') : Cells w (ps ++ ps') (cs ++ cs') := by
  obtain ⟨h1, h2, h3⟩ := h
  obtain ⟨k1, k2, k3⟩ := k
  refine ⟨by simp [h1, k1], fun x hx => (List.mem_append.1 hx).elim (h2 x) (k2 x), fun i x v hx hv => ?_⟩
  by_cases hi : i < ps.length
  · rw [List.getElem?_append_left hi] at hx
    rw [List.getElem?_append_left (by omega)] at hv
    exact h3 i x v hx hv
  · rw [List.getElem?_append_right (by omega)] at hx hv
    rw [h1] at hx
    exact k3 _ x v hx hv
def OpnN {α : Type} (P : Program) (t : TypeId) (e : α → PD) (B : α → Prop) (fuel : Nat) : Prop :=
  ∀ (H : Type) (enc : TypeId × Value → H) (w : World) (spare : Nat → Bool) (held : Bool) (cs : List Value) (x : DataW H × List MemPlace),
    DataW.trod enc P w 0 spare held fuel t cs = some x → (∀ n ∈ x.1.weights P t, n ≤ reachBytes) → ∃ a, B a ∧ Cells w (e a).cells cs
def Opn {α : Type} (P : Program) (t : TypeId) (e : α → PD) (B : α → Prop) : Prop := ∀ fuel, OpnN P t e B fuel
theorem cells_one {w : World} {x : PD} {v : Value} (hs : x.scalar = true) (h : RepD (Old w) w x v) : Cells w x.cells [v] := by
  have hc : x.cells = [x] := by cases x <;> first | rfl | simp [PD.scalar] at hs
  rw [hc]
  refine ⟨rfl, by simpa using hs, fun i y u hy hu => ?_⟩
  cases i with
  | zero => simp at hy hu; subst hy; subst hu; exact h
  | succ i => simp at hy
theorem opn_int {P : Program} {t : TypeId} {k : IntKind} (ht : P.underlying t = some (.int k)) : Opn P t (fun n : Int => .int k n) (fun n => (Lit.int k n).wf = true) := by
  intro fuel H enc w spare held cs x h _
  obtain ⟨n, rfl, _, hw⟩ := DataW.trod_int ht h
  exact ⟨n, hw, cells_one rfl (.int k n)⟩
theorem opn_bool {P : Program} {t : TypeId} (ht : P.underlying t = some .bool) : Opn P t PD.bool (fun _ => True) := by
  intro fuel H enc w spare held cs x h _
  obtain ⟨n, rfl, _⟩ := DataW.trod_bool ht h
  exact ⟨n, trivial, cells_one rfl (.bool n)⟩
theorem opn_str {P : Program} {t : TypeId} (ht : P.underlying t = some .string) : Opn P t PD.str (fun _ => True) := by
  intro fuel H enc w spare held cs x h hb
  obtain ⟨s, rfl, rfl, _⟩ := DataW.trod_string ht h
  have := hb s.data.toList.length (by simp [DataW.weights])
  refine ⟨s.data.toList, trivial, cells_one rfl ?_⟩
  have hr := RepD.str (S := Old w) (w := w) s.data.toList (by unfold reachBytes at this; omega)
  simpa using hr
theorem choose_list {α : Type} (n : Nat) (R : Nat → α → Prop) (h : ∀ i, i < n → ∃ y, R i y) : ∃ ys : List α, ys.length = n ∧ ∀ i y, ys[i]? = some y → R i y := by
  induction n with
  | zero => exact ⟨[], rfl, fun i y hy => by simp at hy⟩
  | succ n ih =>
    obtain ⟨ys, hl, hr⟩ := ih (fun i hi => h i (by omega))
    obtain ⟨y, hy⟩ := h n (by omega)
    refine ⟨ys ++ [y], by simp [hl], fun i z hz => ?_⟩
    by_cases hi : i < ys.length
    · rw [List.getElem?_append_left hi] at hz
      exact hr i z hz
    · rw [List.getElem?_append_right (by omega)] at hz
      have : i = ys.length := by
        have := (List.getElem?_eq_some_iff.1 hz).1
        simp at this
        omega
      subst this
      simp at hz
      subst hz
      rw [hl]
      exact hy
theorem mem_weightsAll {H : Type} (P : Program) (e : TypeId) {n : Nat} : ∀ (l : List (DataW H)) (d : DataW H), d ∈ l → n ∈ d.weights P e → n ∈ DataW.weightsAll P e l
  | [], d, hd, _ => by simp at hd
  | a :: l, d, hd, hn => by
    rw [DataW.weightsAll, List.mem_append]
    rcases List.mem_cons.1 hd with rfl | hd
    · exact .inl hn
    · exact .inr (mem_weightsAll P e l d hd hn)
theorem cell_lt {w : World} {a : Addr} {v : Value} (h : w.cell? a = some v) : a.block < w.heap.size ∧ a.spot = none := by
  unfold World.cell? at h
  split at h
  · rename_i c _ _ hc
    split at h
    · cases h
    · rename_i hs
      exact ⟨(Array.getElem?_eq_some_iff.1 hc).1, by simpa using hs⟩
  · cases h
theorem run_of_each {w : World} {sz g : Nat} {α : Type} {e : α → PD} : ∀ (ys : List α) (o : Nat), (∀ (i : Nat) y, ys[i]? = some y → ∃ cs : List Value, cs.length = sz ∧ (∀ (j : Nat) u, cs[j]? = some u → w.cell? ⟨g, o + i * sz + j, none⟩ = some u) ∧ Cells w (e y).cells cs) →
    ∃ vs : List Value, vs.length = ys.length * sz ∧ Cells w (flat (ys.map e)) vs ∧ ∀ (i : Nat) v, vs[i]? = some v → w.cell? ⟨g, o + i, none⟩ = some v
  | [], o, _ => ⟨[], by simp, ⟨by simp [flat], by simp [flat], by simp [flat]⟩, by simp⟩
  | y :: ys, o, h => by
    obtain ⟨cs, h1, h2, h3⟩ := h 0 y rfl
    obtain ⟨vs, k1, k2, k3⟩ := run_of_each (w := w) (sz := sz) (g := g) (e := e) ys (o + sz) (fun i z hz => by
      obtain ⟨cs', q1, q2, q3⟩ := h (i + 1) z (by simpa using hz)
      refine ⟨cs', q1, fun j u hu => ?_, q3⟩
      rw [← q2 j u hu]
      congr 2
      rw [Nat.add_mul]; omega)
    refine ⟨cs ++ vs, by simp [h1, k1, Nat.add_mul]; omega, ?_, fun i v hv => ?_⟩
    · rw [List.map_cons, flat_cons]; exact h3.append k2
    · by_cases hi : i < cs.length
      · rw [List.getElem?_append_left hi] at hv
        have := h2 i v hv
        simpa using this
      · rw [List.getElem?_append_right (by omega)] at hv
        rw [← k3 _ v hv]
        congr 2
        omega
theorem opn_slice {P : Program} {t e : TypeId} {α : Type} {d : α → PD} {B : α → Prop} {sz fuel : Nat} (ht : P.underlying t = some (.slice e)) (hC : P.cellsOf e = sz) (hz : 0 < sz) (hby : 0 < P.bytesOf e)
    (h : ∀ n, n < fuel → OpnN P e d B n) : OpnN P t (fun l : List α => .sl sz (l.map d)) (fun l => ∀ a ∈ l, B a) fuel := by
  intro H enc w spare held cs x hx hw
  rcases DataW.trod_slice ht hx with ⟨rfl, _⟩ | ⟨a, len, cap, elems, rest, n, rfl, rfl, rfl, _, hl, hm, hlen, hel, _, _⟩
  · exact ⟨[], by simp, cells_one rfl (.nil sz)⟩
  · have hw2 : ∀ y ∈ elems, ∀ k ∈ y.1.weights P e, k ≤ reachBytes := fun y hy k hk => hw k (by
      rw [DataW.weights, ht]
      refine List.mem_cons_of_mem _ (List.mem_append_left _ (mem_weightsAll P e _ y.1 (List.mem_map_of_mem hy) hk)))
    obtain ⟨ys, hyl, hy⟩ := choose_list (α := α) len (fun i y => ∃ cs', w.cells? 0 (a.add (i * sz)) sz = some cs' ∧ B y ∧ Cells w (d y).cells cs') (fun i hi => by
      have h1 := hel i hi
      rw [List.getElem?_eq_getElem (by omega), Option.bind_eq_some_iff] at h1
      obtain ⟨cs', hc, hd⟩ := h1
      obtain ⟨y, hB, hk⟩ := h n (by omega) H enc w spare held cs' _ hd (hw2 _ (List.getElem_mem _))
      rw [hC] at hc
      exact ⟨y, cs', hc, hB, hk⟩)
    refine ⟨ys, fun y hm => ?_, cells_one rfl ?_⟩
    · obtain ⟨i, hi⟩ := List.getElem?_of_mem hm
      exact (hy i y hi).choose_spec.2.1
    · by_cases h0 : ys = []
      · subst h0
        simp only [List.length_nil] at hyl
        subst hyl
        exact .emp sz a cap
      · have hpos : 0 < ys.length := List.length_pos_iff.2 h0
        obtain ⟨cs0, hc0, -, hk0⟩ := hy 0 ys[0] (List.getElem?_eq_getElem hpos)
        obtain ⟨_, hcl0, hat0⟩ := World.cells?_some hc0
        have hcell := hat0 0 hz
        rw [List.getElem?_eq_getElem (by omega)] at hcell
        have hsp := (cell_lt hcell).2
        have hbl := (cell_lt hcell).1
        obtain ⟨g, o, sp⟩ := a
        have hsp' : sp = none := by simpa [Addr.add] using hsp
        subst hsp'
        obtain ⟨vs, k1, k2, k3⟩ := run_of_each (w := w) (sz := sz) (g := g) (e := d) ys o (fun i y hyi => by
          obtain ⟨cs', hc, hB, hk⟩ := hy i y hyi
          obtain ⟨_, hcl, hat⟩ := World.cells?_some hc
          refine ⟨cs', hcl, fun j u hu => ?_, hk⟩
          have hj : j < sz := by rw [← hcl]; exact (List.getElem?_eq_some_iff.1 hu).1
          have := hat j hj
          rw [hu, Addr.add_lit, Addr.add_lit] at this
          exact this)
        have hll : ys.length = (ys.map d).length := by simp
        have hmax : ys.length ≤ 140737488355328 := by
          have h1 : (elems.length + rest.length) * P.bytesOf e ≤ reachBytes := hw _ (by simp [DataW.weights, ht])
          have h2 : ys.length ≤ (elems.length + rest.length) * P.bytesOf e := Nat.le_trans (by omega) (Nat.le_mul_of_pos_right _ hby)
          unfold reachBytes at h1; omega
        rw [← hyl, hll]
        refine .sl sz (ys.map d) g o cap vs (by rw [← hll]; exact hmax) (by rw [← hll]; omega) (fun x hx => ?_) k2.2.1 k2.1.symm (fun i v hv => ⟨(cell_lt (k3 i v hv)).1, k3 i v hv⟩) k2.2.2
        obtain ⟨y, hym, rfl⟩ := List.mem_map.1 hx
        obtain ⟨i, hi⟩ := List.getElem?_of_mem hym
        obtain ⟨cs', hc, _, hk⟩ := hy i y hi
        obtain ⟨_, hcl, _⟩ := World.cells?_some hc
        rw [hk.1, hcl]
def OpnF {α : Type} (P : Program) (fs : List Field) (off : Nat) (e : α → List PD) (B : α → Prop) (n : Nat) : Prop :=
  ∀ (H : Type) (enc : TypeId × Value → H) (w : World) (spare : Nat → Bool) (held : Bool) (cs : List Value) (xs : List (DataW H × List MemPlace)), xs.length = fs.length →
    (∀ (i : Nat) (f : Field), fs[i]? = some f → DataW.trod enc P w 0 spare held n f.type ((cs.drop f.offset).take (P.cellsOf f.type)) = xs[i]?) →
    (∀ k ∈ DataW.weightsEach P (fs.map (·.type)) (xs.map (·.1)), k ≤ reachBytes) → ∃ y, B y ∧ Cells w (e y) (cs.drop off)
def OpnS {α : Type} (P : Program) (fs : List Field) (off len : Nat) (e : α → List PD) (B : α → Prop) (n : Nat) : Prop :=
  ∀ (H : Type) (enc : TypeId × Value → H) (w : World) (spare : Nat → Bool) (held : Bool) (cs : List Value) (xs : List (DataW H × List MemPlace)), xs.length = fs.length → cs.length = len →
    (∀ (i : Nat) (f : Field), fs[i]? = some f → DataW.trod enc P w 0 spare held n f.type ((cs.drop f.offset).take (P.cellsOf f.type)) = xs[i]?) →
    (∀ k ∈ DataW.weightsEach P (fs.map (·.type)) (xs.map (·.1)), k ≤ reachBytes) → ∃ y, B y ∧ Cells w (e y) (cs.drop off)
theorem opnS_one {P : Program} {α : Type} {e : α → PD} {B : α → Prop} {n off len : Nat} {f : Field} (ho : f.offset = off) (hC : off + P.cellsOf f.type = len) (h : OpnN P f.type e B n) : OpnS P [f] off len (fun y => (e y).cells) B n := by
  intro H enc w spare held cs xs hl hcl hx hw
  match xs, hl with
  | [x], _ =>
    have h1 := hx 0 f rfl
    obtain ⟨y, hB, hk⟩ := h H enc w spare held _ x h1 (fun k hk => hw k (by simp [DataW.weightsEach, hk]))
    rw [ho, List.take_of_length_le (by simp; omega)] at hk
    exact ⟨y, hB, hk⟩
theorem opnS_cons {P : Program} {α β : Type} {e : α → PD} {e2 : β → List PD} {B : α → Prop} {B2 : β → Prop} {n off off2 len : Nat} {f : Field} {fs : List Field} (ho : f.offset = off) (ho2 : off + P.cellsOf f.type = off2) (h : OpnN P f.type e B n) (h2 : OpnS P fs off2 len e2 B2 n) :
    OpnS P (f :: fs) off len (fun y : α × β => (e y.1).cells ++ e2 y.2) (fun y => B y.1 ∧ B2 y.2) n := by
  intro H enc w spare held cs xs hl hcl hx hw
  match xs, hl with
  | x :: xs, hl =>
    have h1 := hx 0 f rfl
    obtain ⟨y, hB, hk⟩ := h H enc w spare held _ x h1 (fun k hk => hw k (by simp [DataW.weightsEach, hk]))
    obtain ⟨y2, hB2, hk2⟩ := h2 H enc w spare held cs xs (by simpa using hl) hcl (fun i g hg => hx (i + 1) g (by simpa using hg)) (fun k hk => hw k (by simp [DataW.weightsEach, hk]))
    refine ⟨(y, y2), ⟨hB, hB2⟩, ?_⟩
    have e1 : cs.drop off = (cs.drop off).take (P.cellsOf f.type) ++ cs.drop off2 := by
      rw [← ho2, ← List.drop_drop, List.take_append_drop]
    rw [e1]
    rw [ho] at hk
    exact hk.append hk2
theorem opn_struct {P : Program} {t : TypeId} {α β : Type} {fs : Array Field} {d : α → List PD} {e : β → PD} {B : α → Prop} {n len : Nat} (f : α → β) (ht : P.underlying t = some (.struct fs)) (hC : P.cellsOf t = len) (he : ∀ y, (e (f y)).cells = d y)
    (h : ∀ m, m < n → OpnS P fs.toList 0 len d B m) : OpnN P t e (fun b => ∃ a, f a = b ∧ B a) n := by
  intro H enc w spare held cs x hx hw
  obtain ⟨xs, m, rfl, rfl, hl, hxl, hf⟩ := DataW.trod_struct ht hx
  obtain ⟨y, hB, hk⟩ := h m (by omega) H enc w spare held cs xs (by simpa using hxl) (by rw [hl, hC]) (fun i f hi => hf i f (by simpa using hi)) (fun k hk => hw k (by rw [DataW.weights, ht]; exact hk))
  refine ⟨f y, ⟨y, rfl, hB⟩, ?_⟩
  rw [he]
  simpa using hk
theorem OpnN.imp {α : Type} {P : Program} {t : TypeId} {e : α → PD} {B B' : α → Prop} {n : Nat} (h : OpnN P t e B n) (hb : ∀ a, B a → B' a) : OpnN P t e B' n := by
  intro H enc w spare held cs x hx hw
  obtain ⟨a, hB, hk⟩ := h H enc w spare held cs x hx hw
  exact ⟨a, hb a hB, hk⟩

theorem weights_of_each {H : Type} {P : Program} {ts : List TypeId} {ds : List (DataW H)} {j : Nat} {t : TypeId} {d : DataW H} (h : (DataW.weightsEach P ts ds).all (· ≤ reachBytes) = true) (ht : ts[j]? = some t) (hd : ds[j]? = some d) : ∀ n ∈ d.weights P t, n ≤ reachBytes := by
  intro n hn
  have := List.all_eq_true.1 h _ (DataW.weights_mem_each ht hd n hn)
  simpa using this
theorem arg_opn {H : Type} {enc : TypeId × Value → H} {P : Program} {t : TypeId} {α : Type} {e : α → PD} {B : α → Prop} {W : World} {spare : Nat → Bool} {held : Bool} {v : Value} {x : DataW H} {p : List MemPlace} {ts : List TypeId} {ds : List (DataW H)} {j : Nat} (h : Opn P t e B)
    (hsz : (DataW.weightsEach P ts ds).all (· ≤ reachBytes) = true) (ht : ts[j]? = some t) (hd : ds[j]? = some x) (hv : DataW.Trod enc P W 0 spare held t v x p) : ∃ y, B y ∧ Cells W (e y).cells v.cells.toList := by
  obtain ⟨fuel, hf⟩ := hv
  exact h fuel H enc W spare held _ _ hf (weights_of_each hsz ht hd)
def G0 (W : World) : Gh := { im := Old W, β := fun _ => 0, live := fun _ => False, own := fun _ => none, fz := fun g => g < W.heap.size }
theorem G0_hp (P : Program) (W : World) : Hp P (G0 W) W (bxOf []) :=
  ⟨fun b cells hc => (by cases b <;> simp [bxOf] at hc), fun b => (by cases b <;> simp [bxOf, G0]), fun b b' hl => False.elim hl, fun g o h => h, fun g p hg => (by cases hg), fun b hl => False.elim hl, fun b hl => False.elim hl⟩
theorem rep_agg {P : Program} {W : World} {i : Nat} {ps : List PD} {cs : Array Value} (h : Cells W ps cs.toList) : RepT P (G0 W) W (.t i) (.agg (ps.map .d)) (.agg cs) := by
  obtain ⟨h1, h2, h3⟩ := h
  refine ⟨cs, rfl, by simp [h1], fun u hu => ?_, fun j x u hx hu => ?_⟩
  · obtain ⟨j, hj, rfl⟩ := Array.mem_iff_getElem.1 hu
    have hj2 : j < ps.length := by rw [h1]; simpa using hj
    exact (h3 j ps[j] cs[j] (List.getElem?_eq_getElem hj2) (by simp [hj])).oneCell (h2 _ (List.getElem_mem hj2))
  · rw [List.getElem?_map] at hx
    obtain ⟨y, hy, rfl⟩ := Option.map_eq_some_iff.1 hx
    exact ⟨h3 j y u hy (by simpa using hu), h2 y (List.mem_of_getElem? hy)⟩
theorem call_true {P : Program} {f : Nat} {args : List PV} {vs : Array Value} {W : World} (h : BRet P f [] args (.bool true) []) (hl : vs.size = args.length) (ha : ∀ (i : Nat) x u, args[i]? = some x → vs[i]? = some u → RepT P (G0 W) W (.t i) x u) (htb : TabOk P (fun g => g < W.heap.size) W) :
    Calls P f vs W fun e W' => e = .returned (.bool true) ∧ Below W.heap.size W W' := by
  refine Calls.mono (h.2.2 (G0 W) W vs (fun _ => False) hl ha (G0_hp P W) (fun g p hg => by cases hg) (fun b hl => False.elim hl) (fun g hg => ⟨hg, id⟩) (fun g h1 _ => h1) htb) ?_
  rintro e W' ⟨v, G', rfl, hv, -, hx, -⟩
  obtain ⟨hv, -⟩ := hv
  cases hv
  exact ⟨rfl, hx.os, hx.tape, hx.output, hx.size, fun k hk => hx.old k hk id⟩
end Go.Bee


namespace Go.Bee
theorem RepD.strs {S : Nat → Nat → Prop} {w : World} {sz : Nat} {l : List PD} {v : Value} (h : RepD S w (.sl sz l) v) : ∀ s, PD.str s ∈ flat l → s.length ≤ 140737488355328 := by
  intro s hs
  cases h with
  | nil _ => cases hs
  | emp _ _ _ => cases hs
  | sl _ _ g o c vs hb hc hu hs' hl hv hr =>
    obtain ⟨i, hi, he⟩ := List.mem_iff_getElem.1 hs
    exact (hr i _ vs[i] ((List.getElem?_eq_getElem hi).trans (congrArg some he)) (List.getElem?_eq_getElem (by omega))).slen
theorem BRet.strs {P : Program} {f : Nat} {args : List PV} {r : PV} (i : Nat) {sz : Nat} {l : List PD} (hf : isFn P f = true) (ha : args[i]? = some (.d (.sl sz l))) (h : (∀ s, PD.str s ∈ flat l → s.length ≤ 140737488355328) → BRet P f [] args r []) : BRet P f [] args r [] :=
  BRet.know hf rfl (fun G w vs hvs hargs => by
    have hi : i < vs.size := by rw [hvs]; exact (List.getElem?_eq_some_iff.1 ha).1
    exact (hargs i _ vs[i] ha (Array.getElem?_eq_getElem hi)).1.strs) h
end Go.Bee
namespace Go.Bee.C24d
open Go Go.Bee Go.Proofs Go.Bee.Ty Go.Bee.C23 Go.Bee.C23s Go.Bee.Da Go.Bee.C24 Go.Bee.C24c
set_option linter.unusedVariables false
set_option maxRecDepth 20000
attribute [local irreducible] Go.Bee.bwp
def szTx (s : Tx) (x : Int) : Int := if x - s.length < 0 then -1 else x - s.length
theorem szTx_nice : Nice szTx := fun t x hx => by unfold szTx; split <;> omega
theorem flat_txs (l : List Tx) : flat (l.map PD.str) = l.map .str := by
  induction l with
  | nil => rfl
  | cons a l ih => simp only [flat, List.map_cons, List.flatMap_cons] at ih ⊢; rw [ih]; rfl
theorem szStringS_b (l : List Tx) (x : Int) (h0 : 0 ≤ x) (hx : x ≤ 1048576) : BRet Tryz.prog 19 [] [.d (.sl 1 (l.map .str)), .int x] (.int (szL szTx l x)) [] := by
  refine BRet.len 0 (by kernel_rfl) rfl fun hl => ?_
  refine BRet.strs 0 (by kernel_rfl) rfl fun hls => ?_
  have hl2 : ∀ s ∈ l, s.length ≤ 140737488355328 := fun s h => hls s (by rw [flat_txs]; exact List.mem_map_of_mem h)
  clear hls
  simp only [List.length_map] at hl
  refine bof Tryz.func19 ?_
  have hlen : ∀ m : List PD, m = l.map .str → m.length = l.length := fun m h => by rw [h]; simp
  generalize hr : szL szTx l x = r
  unfold szL at hr
  by_cases hneg : x - (l.length : Int) < 0
  · rw [if_pos hneg] at hr
    subst hr
    refine bgo ?_
    trivial
  · rw [if_neg hneg] at hr
    refine bgo ?_
    refine b_lp (ι := Nat × Int) (fun i => [(0, .d (.sl 1 (l.map .str))), (1, .int i.2), (5, .int i.1)]) (fun _ => []) (fun i => i.1 ≤ l.length ∧ 0 ≤ i.2 ∧ i.2 ≤ x ∧ szF szTx (l.drop i.1) i.2 = r) (fun i => l.length - i.1) (0, x - l.length) hs ⟨Nat.zero_le _, by dsimp only; omega, by dsimp only; omega, hr⟩ ?_
    clear hr
    rintro ⟨k, y⟩ ⟨hk, hy0, hyx, hj⟩ I nx
    dsimp only at hk hy0 hyx hj ⊢
    by_cases hlt : k < l.length
    · have hx : l[k]? = some l[k] := List.getElem?_eq_getElem hlt
      have hsl := hl2 l[k] (List.getElem_mem hlt)
      rw [szF_step hlt] at hj
      unfold szTx at hj
      have hb : (k : Int) + 1 ≤ 1099511627776000 := by omega
      generalize hgs : l[k] = s at *
      clear hl2
      by_cases hb2 : y - (s.length : Int) < 0
      · rw [if_pos hb2, if_pos (by decide)] at hj
        subst hj
        refine bgo ?_
        trivial
      · rw [if_neg hb2, if_neg hb2] at hj
        refine bgo ?_
        exact nx.go (k + 1, y - s.length) ⟨hlt, by dsimp only; omega, by dsimp only; omega, hj⟩ (by dsimp only; omega) hs
    · have hk' : k = l.length := by omega
      subst hk'
      rw [List.drop_length] at hj
      have hj2 : y = r := hj
      subst hj2
      clear hj hl2
      refine bgo ?_
      refine wk_rfl ?_
      refine bgo ?_
      trivial
theorem toStringS_b (l : List Tx) (hl : l.length ≤ 1048576) : BRet Tryz.prog 24 [] [.d (.sl 1 (l.map .str))] (.own 9 1 (l.map .str)) [] := by
  refine bof Tryz.func24 ?_
  refine bgo ?_
  refine ⟨by omega, by omega, ?_⟩
  refine b_loop (fun n st => ∃ k : Nat, n = l.length - k ∧ k ≤ l.length ∧ st.tm 0 = .d (.sl 1 (l.map .str)) ∧ st.tm 3 = .rsl (.t 7) 9 1 l.length ∧ st.tm 4 = .int k ∧ st.bx (.t 7) = some (filling (l.map .str) str0 l.length k) ∧ ∀ b, b ≠ .t 7 → st.bx b = none) l.length
    ⟨0, rfl, Nat.zero_le _, rfl, rfl, rfl, by rw [filling_0]; rfl, fun b hb => by simp [bx_put, bx_strip1, bx_sbx, bx_init, bxOf_nil, hb]⟩ ?_
  rintro n st ⟨k, rfl, hk, t0, t3, t4, t7, hb⟩
  by_cases hlt : k < l.length
  · have hx : l[k]? = some l[k] := List.getElem?_eq_getElem hlt
    have hfl := filling_len (l := l.map PD.str) (zero := str0) (n := l.length) (k := k) (sz := 1) rfl (fun x hx => by obtain ⟨y, _, rfl⟩ := List.mem_map.1 hx; rfl) (by simp) hk
    have hfs := filling_step (l := l.map PD.str) (zero := str0) (n := l.length) (k := k) (sz := 1) rfl (fun x hx => by obtain ⟨y, _, rfl⟩ := List.mem_map.1 hx; rfl) (by simp) (by simpa using hlt)
    rw [Nat.mul_one] at hfs hfl
    have hfb : (List.take k (filling (l.map PD.str) str0 l.length k) ++ [PV.str l[k]] ++ List.drop (k + 1) (filling (l.map PD.str) str0 l.length k)).map PV.bC = filling (l.map .str) str0 l.length (k + 1) := by
      rw [List.map_append, List.map_append, List.map_take, List.map_drop, filling_bC rfl, ← hfs, List.getElem_map]; rfl
    refine bgo ?_
    refine ⟨by omega, _, _, Weak.bC (.t 7), by omega, k + 1, rfl, hlt, t0, t3, rfl, ?_, fun b hne => ?_⟩
    · refine Eq.trans ?_ (congrArg some hfb)
      simp [bx_put, bx_strip1, bx_sbx]
    have := hb b hne
    simp [bx_put, bx_strip1, bx_sbx, hne, this]
  · have hk' : k = l.length := by omega
    subst hk'
    refine bgo ?_
    refine made (t := 3) (l := l.map .str) t3 (t7.trans ?_) (by simp) (fun x hx => by obtain ⟨y, _, rfl⟩ := List.mem_map.1 hx; rfl) hb fun s s3 hb => ?_
    · have := filling_n (l.map PD.str) str0
      rw [List.length_map] at this
      rw [this]
    refine bgo ?_
    trivial
theorem eqStringS_s (l : List Tx) : BRet Tryz.prog 29 [] [.d (.sl 1 (l.map .str)), .d (.sl 1 (l.map .str))] (.bool true) [] := by
  refine BRet.len 0 (by kernel_rfl) rfl fun hl => ?_
  refine bof Tryz.func29 ?_
  have hll : (l.map PD.str).length = l.length := by simp
  have hli : ∀ i (h : i < l.length), (l.map PD.str)[i]? = some (.str l[i]) := fun i h => by simp [h]
  generalize l.map PD.str = q at *
  refine bgo ?_
  refine b_lp (ι := Nat × Unit) (fun i => [(0, .d (.sl 1 q)), (1, .d (.sl 1 q)), (5, .int i.1)]) (fun _ => []) (fun i => i.1 ≤ l.length) (fun i => l.length - i.1) (0, ()) hs (Nat.zero_le _) ?_
  rintro ⟨i, u⟩ hi I nx
  dsimp only at hi ⊢
  by_cases hlt : i < l.length
  · have hx := hli i hlt
    generalize l[i] = x at *
    have hib : (i : Int) + 1 ≤ 1099511627776000 := by omega
    have hlt2 : i < q.length := by omega
    clear hli
    refine bgo ?_
    exact nx.go (i + 1, ()) hlt (by dsimp only; omega) hs
  · have hlt2 : ¬ i < q.length := by omega
    refine bgo ?_
    refine wk_rfl ?_
    refine bgo ?_
    trivial
theorem opnTxs (n : Nat) : OpnN Tryz.prog 22 (fun l : List Tx => .sl 1 (l.map .str)) (fun _ => True) n :=
  (opn_slice (sz := 1) Tryz.underlying22 (by kernel_rfl) (by decide) (of_decide_eq_true (by kernel_rfl)) (fun m _ => opn_str Tryz.underlying9 m)).imp fun _ _ => trivial
end Go.Bee.C24d


namespace Go.Bee.Cn
open Go Go.Bee Go.Bee.Ty Go.Bee.C23s Go.Bee.Da
set_option linter.unusedVariables false
inductive Cd where
  | mk (op : Int) (nm : List UInt8) (dy : Int) (ps : List Cd)
def Cd.op : Cd → Int | .mk o _ _ _ => o
def Cd.nm : Cd → List UInt8 | .mk _ n _ _ => n
def Cd.dy : Cd → Int | .mk _ _ d _ => d
def Cd.ps : Cd → List Cd | .mk _ _ _ l => l
mutual
def Cd.e : Cd → PD
  | .mk o n d ps => .agg [.int .i64 o, .str n, .int .i64 d, .sl 4 (Cd.es ps)]
def Cd.es : List Cd → List PD
  | [] => []
  | c :: l => Cd.e c :: Cd.es l
end
theorem es_map : ∀ l : List Cd, Cd.es l = l.map Cd.e
  | [] => by rw [Cd.es]; rfl
  | c :: l => by rw [Cd.es, es_map l]; rfl
theorem Cd.e_eq (c : Cd) : c.e = .agg [.int .i64 c.op, .str c.nm, .int .i64 c.dy, .sl 4 (c.ps.map Cd.e)] := by
  cases c; rw [Cd.e, es_map]; rfl
mutual
def Cd.size : Cd → Nat
  | .mk _ _ _ ps => 1 + Cd.sizes ps
def Cd.sizes : List Cd → Nat
  | [] => 0
  | c :: l => Cd.size c + Cd.sizes l
end
theorem size_eq (c : Cd) : c.size = 1 + Cd.sizes c.ps := by cases c; rw [Cd.size]; rfl
theorem sizes_nil : Cd.sizes [] = 0 := by rw [Cd.sizes]
theorem sizes_cons (c : Cd) (l : List Cd) : Cd.sizes (c :: l) = c.size + Cd.sizes l := by rw [Cd.sizes]
theorem size_mem : ∀ {l : List Cd} {x : Cd}, x ∈ l → x.size ≤ Cd.sizes l
  | c :: l, x, h => by
    rw [sizes_cons]
    rcases List.mem_cons.1 h with rfl | h
    · omega
    · have := size_mem h; omega
theorem sizes_len : ∀ l : List Cd, l.length ≤ Cd.sizes l
  | [] => by simp
  | c :: l => by
    have h1 := sizes_len l
    have h2 := size_eq c
    rw [sizes_cons, List.length_cons]; omega
theorem sizes_drop : ∀ (l : List Cd) (k : Nat) (h : k < l.length), Cd.sizes (l.drop k) = l[k].size + Cd.sizes (l.drop (k + 1)) := fun l k h => by
  rw [List.drop_eq_getElem_cons h, sizes_cons]
theorem size_part {c x : Cd} (h : x ∈ c.ps) : x.size < c.size := by
  have := size_mem h
  have := size_eq c
  omega
theorem Cd.ind {P : Cd → Prop} (h : ∀ c, (∀ x ∈ c.ps, P x) → P c) : ∀ c, P c := by
  suffices hs : ∀ n c, Cd.size c ≤ n → P c from fun c => hs c.size c (Nat.le_refl _)
  intro n
  induction n with
  | zero => intro c hc; have := size_eq c; omega
  | succ n ih => exact fun c hc => h c fun x hx => ih x (by have := size_part hx; omega)
mutual
def szC : Cd → Int → Int
  | .mk _ n _ ps, x => if x - n.length < 0 then -1 else if x - n.length - ps.length < 0 then -1 else szCf ps (x - n.length - ps.length)
def szCf : List Cd → Int → Int
  | [], x => x
  | c :: l, x => if szC c x < 0 then -1 else szCf l (szC c x)
end
theorem szCf_eq : ∀ (l : List Cd) (x : Int), szCf l x = szF szC l x
  | [], x => by rw [szCf]; rfl
  | c :: l, x => by rw [szCf, szF, szCf_eq l]
theorem szC_eq (c : Cd) (x : Int) : szC c x = if x - c.nm.length < 0 then -1 else szL szC c.ps (x - c.nm.length) := by
  cases c; rw [szC, szCf_eq]; rfl
theorem szF_niceM {α : Type} {f : α → Int → Int} : ∀ (l : List α), (∀ a ∈ l, ∀ x, 0 ≤ x → f a x = -1 ∨ (0 ≤ f a x ∧ f a x ≤ x)) → ∀ x : Int, 0 ≤ x → szF f l x = -1 ∨ (0 ≤ szF f l x ∧ szF f l x ≤ x)
  | [], _, x, hx => .inr ⟨hx, Int.le_refl _⟩
  | a :: l, h, x, hx => by
    unfold szF
    split
    · exact .inl rfl
    · rcases h a (List.mem_cons_self ..) x hx with e | ⟨e1, e2⟩
      · omega
      · rcases szF_niceM l (fun b hb => h b (List.mem_cons_of_mem _ hb)) (f a x) e1 with e | ⟨e3, e4⟩
        · exact .inl e
        · exact .inr ⟨e3, by omega⟩
theorem szC_nice : Nice szC := fun c => by
  refine Cd.ind (P := fun c => ∀ x, 0 ≤ x → szC c x = -1 ∨ (0 ≤ szC c x ∧ szC c x ≤ x)) (fun c ih x hx => ?_) c
  rw [szC_eq]
  split
  · exact .inl rfl
  · unfold szL
    split
    · exact .inl rfl
    · rcases szF_niceM c.ps ih (x - c.nm.length - c.ps.length) (by omega) with e | ⟨e1, e2⟩
      · exact .inl e
      · exact .inr ⟨e1, by omega⟩
theorem szF_size : ∀ (l : List Cd), (∀ a ∈ l, ∀ x : Int, 0 ≤ x → 0 ≤ szC a x → (a.size : Int) ≤ 1 + x - szC a x) → ∀ x : Int, 0 ≤ x → 0 ≤ szF szC l x → (Cd.sizes l : Int) ≤ l.length + x - szF szC l x
  | [], _, x, hx, _ => by
    rw [sizes_nil]
    show (0 : Int) ≤ ((0 : Nat) : Int) + x - x
    omega
  | a :: l, h, x, hx, hn => by
    rw [sizes_cons]
    unfold szF at hn ⊢
    split at hn
    · omega
    · rename_i hb
      rw [if_neg hb]
      have h1 := h a (List.mem_cons_self ..) x hx (by omega)
      have h2 := szF_size l (fun b hb => h b (List.mem_cons_of_mem _ hb)) (szC a x) (by omega) hn
      rw [List.length_cons]
      omega
theorem szC_size (c : Cd) : ∀ x : Int, 0 ≤ x → 0 ≤ szC c x → (c.size : Int) ≤ 1 + x - szC c x := by
  refine Cd.ind (P := fun c => ∀ x : Int, 0 ≤ x → 0 ≤ szC c x → (c.size : Int) ≤ 1 + x - szC c x) (fun c ih x hx hn => ?_) c
  rw [szC_eq] at hn ⊢
  split at hn
  · omega
  · rename_i hb
    rw [if_neg hb]
    unfold szL at hn ⊢
    split at hn
    · omega
    · rename_i hb2
      rw [if_neg hb2]
      have h2 := szF_size c.ps ih (x - c.nm.length - c.ps.length) (by omega) hn
      rw [size_eq]
      omega
def pkN (o : Int) : Nat := if o = 4 then 1 else if o = 5 ∨ o = 6 then 2 else 0
def formS (o : Int) (n : List UInt8) (d : Int) (k : Nat) : Bool :=
  inB o 1 6 && decide (k = pkN o) && (if o = 2 then vName n else n.isEmpty) && (if o = 3 then inB d 0 36524 else decide (d = 0))
mutual
def forms : Cd → Bool
  | .mk o n d ps => formS o n d ps.length && formsL ps
def formsL : List Cd → Bool
  | [] => true
  | c :: l => forms c && formsL l
end
theorem formsL_eq : ∀ l : List Cd, formsL l = l.all forms
  | [] => by rw [formsL]; rfl
  | c :: l => by rw [formsL, formsL_eq l]; rfl
theorem forms_eq (c : Cd) : forms c = (formS c.op c.nm c.dy c.ps.length && c.ps.all forms) := by
  cases c; rw [forms, formsL_eq]; rfl
mutual
def cnt : Cd → Int → Int
  | .mk o n d ps, so => if 15 < so + 1 then -1 else if formS o n d ps.length = true then cntL ps (so + 1) else -1
def cntL : List Cd → Int → Int
  | [], x => x
  | c :: l, x => if cnt c x < 0 then -1 else cntL l (cnt c x)
end
theorem cntL_eq : ∀ (l : List Cd) (x : Int), cntL l x = szF cnt l x
  | [], x => by rw [cntL]; rfl
  | c :: l, x => by rw [cntL, szF, cntL_eq l]
theorem cnt_eq (c : Cd) (so : Int) : cnt c so = if 15 < so + 1 then -1 else if formS c.op c.nm c.dy c.ps.length = true then szF cnt c.ps (so + 1) else -1 := by
  cases c; rw [cnt, cntL_eq]; rfl
theorem szF_cnt : ∀ (l : List Cd), (∀ a ∈ l, ∀ x : Int, 0 ≤ x → x ≤ 15 → cnt a x = if forms a = true ∧ x + a.size ≤ 15 then x + a.size else -1) → ∀ x : Int, 0 ≤ x → x ≤ 15 →
    szF cnt l x = if l.all forms = true ∧ x + Cd.sizes l ≤ 15 then x + Cd.sizes l else -1
  | [], _, x, h0, h1 => by
    rw [sizes_nil, if_pos ⟨rfl, by omega⟩]
    show x = x + ((0 : Nat) : Int)
    omega
  | a :: l, h, x, h0, h1 => by
    have h2 := h a (List.mem_cons_self ..) x h0 h1
    rw [sizes_cons]
    unfold szF
    by_cases hf : forms a = true ∧ x + a.size ≤ 15
    · rw [if_pos hf] at h2
      have h3 := szF_cnt l (fun b hb => h b (List.mem_cons_of_mem _ hb)) (x + a.size) (by omega) hf.2
      rw [h2, if_neg (by omega), h3, List.all_cons, hf.1, Bool.true_and]
      by_cases hl : l.all forms = true ∧ x + a.size + Cd.sizes l ≤ 15
      · rw [if_pos hl, if_pos ⟨hl.1, by omega⟩]; omega
      · rw [if_neg hl, if_neg fun hh => hl ⟨hh.1, by omega⟩]
    · rw [if_neg hf] at h2
      rw [h2, if_pos (by decide), if_neg]
      rintro ⟨h3, h4⟩
      rw [List.all_cons, Bool.and_eq_true] at h3
      exact hf ⟨h3.1, by omega⟩
theorem cnt_val (c : Cd) : ∀ so : Int, 0 ≤ so → so ≤ 15 → cnt c so = if forms c = true ∧ so + c.size ≤ 15 then so + c.size else -1 := by
  refine Cd.ind (P := fun c => ∀ so : Int, 0 ≤ so → so ≤ 15 → cnt c so = if forms c = true ∧ so + c.size ≤ 15 then so + c.size else -1) (fun c ih so h0 h1 => ?_) c
  have hsz := size_eq c
  rw [cnt_eq, forms_eq]
  by_cases h15 : 15 < so + 1
  · rw [if_pos h15, if_neg (by omega)]
  rw [if_neg h15]
  cases hf : formS c.op c.nm c.dy c.ps.length
  · rw [if_neg (by decide), if_neg (by simp)]
  · rw [if_pos rfl, szF_cnt c.ps ih (so + 1) (by omega) (by omega), Bool.true_and]
    by_cases hl : c.ps.all forms = true ∧ so + 1 + Cd.sizes c.ps ≤ 15
    · rw [if_pos hl, if_pos ⟨hl.1, by omega⟩]; omega
    · rw [if_neg hl, if_neg fun hh => hl ⟨hh.1, by omega⟩]
theorem cnt_in (c : Cd) {so : Int} (h0 : 0 ≤ so) (h1 : so ≤ 15) : cnt c so = -1 ∨ (0 ≤ cnt c so ∧ cnt c so ≤ 15) := by
  rw [cnt_val c so h0 h1]
  split <;> omega
def okCd (c : Cd) : Bool := forms c && decide (c.size ≤ 15)
theorem cnt_ok (c : Cd) : decide (cnt c 0 > 0) = okCd c := by
  have := size_eq c
  rw [cnt_val c 0 (by omega) (by omega)]
  unfold okCd
  cases forms c
  · simp
  · by_cases h : c.size ≤ 15
    · rw [if_pos ⟨rfl, by omega⟩]; simp [h]; omega
    · rw [if_neg (by omega)]; simp [h]
mutual
def eng : Cd → List UInt8
  | .mk o n d ps =>
    if o = 1 then [105, 110, 32, 97, 108, 108, 32, 99, 97, 115, 101, 115]
    else if o = 2 then n ++ [32, 105, 115, 32, 107, 110, 111, 119, 110]
    else if o = 3 then [105, 116, 32, 105, 115, 32] ++ dateT d ++ [32, 111, 114, 32, 108, 97, 116, 101, 114]
    else if o = 4 then [105, 116, 32, 105, 115, 32, 110, 111, 116, 32, 116, 104, 101, 32, 99, 97, 115, 101, 32, 116, 104, 97, 116, 32] ++ (engs ps).getD 0 []
    else if o = 5 then [98, 111, 116, 104, 32] ++ (engs ps).getD 0 [] ++ [32, 97, 110, 100, 32] ++ (engs ps).getD 1 []
    else [101, 105, 116, 104, 101, 114, 32] ++ (engs ps).getD 0 [] ++ [32, 111, 114, 32] ++ (engs ps).getD 1 []
def engs : List Cd → List (List UInt8)
  | [] => []
  | c :: l => eng c :: engs l
end
theorem len_two {α : Type} {l : List α} (h : l.length = 2) : ∃ a b, l = [a, b] := by
  match l, h with
  | [a, b], _ => exact ⟨a, b, rfl⟩
theorem forms_cases {c : Cd} (h : forms c = true) : (c.op = 1 ∧ c.ps = []) ∨ (c.op = 2 ∧ c.ps = [] ∧ vName c.nm = true) ∨ (c.op = 3 ∧ c.ps = [] ∧ 0 ≤ c.dy ∧ c.dy ≤ 36524) ∨ (c.op = 4 ∧ ∃ a, c.ps = [a] ∧ forms a = true) ∨
    (c.op = 5 ∧ ∃ a b, c.ps = [a, b] ∧ forms a = true ∧ forms b = true) ∨ (c.op = 6 ∧ ∃ a b, c.ps = [a, b] ∧ forms a = true ∧ forms b = true) := by
  rw [forms_eq] at h
  obtain ⟨o, n, d, ps⟩ := c
  change (formS o n d ps.length && ps.all forms) = true at h
  simp only [Cd.op, Cd.nm, Cd.dy, Cd.ps]
  unfold formS at h
  rw [Bool.and_eq_true, Bool.and_eq_true, Bool.and_eq_true, Bool.and_eq_true] at h
  obtain ⟨⟨⟨⟨h1, h3⟩, h4⟩, h5⟩, h6⟩ := h
  have h3 := of_decide_eq_true h3
  unfold inB at h1
  rw [Bool.and_eq_true] at h1
  have h2 := of_decide_eq_true h1.2
  have h1 := of_decide_eq_true h1.1
  rcases (by omega : o = 1 ∨ o = 2 ∨ o = 3 ∨ o = 4 ∨ o = 5 ∨ o = 6) with rfl | rfl | rfl | rfl | rfl | rfl
  · exact .inl ⟨rfl, List.eq_nil_of_length_eq_zero h3⟩
  · exact .inr (.inl ⟨rfl, List.eq_nil_of_length_eq_zero h3, h4⟩)
  · rw [if_pos rfl] at h5
    unfold inB at h5
    rw [Bool.and_eq_true] at h5
    have h7 := of_decide_eq_true h5.1
    have h8 := of_decide_eq_true h5.2
    exact .inr (.inr (.inl ⟨rfl, List.eq_nil_of_length_eq_zero h3, by omega, by omega⟩))
  · obtain ⟨a, rfl⟩ := List.length_eq_one_iff.1 (show ps.length = 1 from h3)
    exact .inr (.inr (.inr (.inl ⟨rfl, a, rfl, List.all_eq_true.1 h6 a (by simp)⟩)))
  · obtain ⟨a, b, rfl⟩ := len_two (show ps.length = 2 from h3)
    exact .inr (.inr (.inr (.inr (.inl ⟨rfl, a, b, rfl, List.all_eq_true.1 h6 a (by simp), List.all_eq_true.1 h6 b (by simp)⟩))))
  · obtain ⟨a, b, rfl⟩ := len_two (show ps.length = 2 from h3)
    exact .inr (.inr (.inr (.inr (.inr ⟨rfl, a, b, rfl, List.all_eq_true.1 h6 a (by simp), List.all_eq_true.1 h6 b (by simp)⟩))))
end Go.Bee.Cn


namespace Go.Bee.C24n
open Go Go.Bee Go.Proofs Go.Bee.Ty Go.Bee.Cn
theorem bPk : evBuildSlice Tryz.prog 36 7 [(0, .d (.int .i64 (-1))), (1, .d (.int .i64 0)), (2, .d (.int .i64 0)), (3, .d (.int .i64 0)), (4, .d (.int .i64 1)), (5, .d (.int .i64 2)), (6, .d (.int .i64 2))] = some (.own 3 1 [.int .i64 (-1), .int .i64 0, .int .i64 0, .int .i64 0, .int .i64 1, .int .i64 2, .int .i64 2]) := by kernel_rfl
theorem tys : type_of% (And.intro Go.Bee.C24d.tys (And.intro Cd.e_eq bPk)) := And.intro Go.Bee.C24d.tys (And.intro Cd.e_eq bPk)
end Go.Bee.C24n
namespace Go.Bee.C24n
open Go Go.Bee Go.Proofs Go.Bee.Ty Go.Bee.C23 Go.Bee.C23s Go.Bee.Da Go.Bee.C24 Go.Bee.C24c Go.Bee.C24d Go.Bee.Cn
set_option linter.unusedVariables false
set_option maxRecDepth 20000
attribute [local irreducible] Go.Bee.bwp
theorem szConditionS_b (l : List Cd) (ih : ∀ c ∈ l, ∀ x : Int, 0 ≤ x → x ≤ 1048576 → BRet Tryz.prog 92 [] [.agg [.int c.op, .str c.nm, .int c.dy, .d (.sl 4 (c.ps.map Cd.e))], .int x] (.int (szC c x)) [])
    (x : Int) (h0 : 0 ≤ x) (hx : x ≤ 1048576) : BRet Tryz.prog 124 [] [.d (.sl 4 (l.map Cd.e)), .int x] (.int (szL szC l x)) [] := by
  refine BRet.len 0 (by kernel_rfl) rfl fun hl => ?_
  simp only [List.length_map] at hl
  refine bof Tryz.func124 ?_
  generalize hr : szL szC l x = r
  unfold szL at hr
  by_cases hneg : x - (l.length : Int) < 0
  · rw [if_pos hneg] at hr
    subst hr
    refine bgo ?_
    trivial
  · rw [if_neg hneg] at hr
    refine bgo ?_
    refine b_lp (ι := Nat × Int) (fun i => [(0, .d (.sl 4 (l.map Cd.e))), (1, .int i.2), (5, .int i.1)]) (fun _ => []) (fun i => i.1 ≤ l.length ∧ 0 ≤ i.2 ∧ i.2 ≤ x ∧ szF szC (l.drop i.1) i.2 = r) (fun i => l.length - i.1) (0, x - l.length) hs ⟨Nat.zero_le _, by dsimp only; omega, by dsimp only; omega, hr⟩ ?_
    clear hr
    rintro ⟨k, y⟩ ⟨hk, hy0, hyx, hj⟩ I nx
    dsimp only at hk hy0 hyx hj ⊢
    by_cases hlt : k < l.length
    · have hx : l[k]? = some l[k] := List.getElem?_eq_getElem hlt
      have hc := ih l[k] (List.getElem_mem hlt) y hy0 (by omega)
      have hn := szC_nice l[k] y hy0
      rw [szF_step hlt] at hj
      have hb : (k : Int) + 1 ≤ 1099511627776000 := by omega
      generalize hgs : l[k] = s at *
      generalize szC s y = z at *
      clear ih
      by_cases hb2 : z < 0
      · rw [if_pos hb2] at hj
        subst hj
        refine bgo ?_
        refine b_call hc rfl rfl rfl rfl ?_
        refine bgo ?_
        trivial
      · rw [if_neg hb2] at hj
        refine bgo ?_
        refine b_call hc rfl rfl rfl rfl ?_
        refine bgo ?_
        exact nx.go (k + 1, z) ⟨hlt, by dsimp only; omega, by dsimp only; omega, hj⟩ (by dsimp only; omega) hs
    · have hk' : k = l.length := by omega
      subst hk'
      rw [List.drop_length] at hj
      have hj2 : y = r := hj
      subst hj2
      clear hj ih
      refine bgo ?_
      refine wk_rfl ?_
      refine bgo ?_
      trivial
theorem szCondition_b (c : Cd) : ∀ x : Int, 0 ≤ x → x ≤ 1048576 → BRet Tryz.prog 92 [] [.agg [.int c.op, .str c.nm, .int c.dy, .d (.sl 4 (c.ps.map Cd.e))], .int x] (.int (szC c x)) [] := by
  refine Cd.ind (P := fun c => ∀ x : Int, 0 ≤ x → x ≤ 1048576 → BRet Tryz.prog 92 [] [.agg [.int c.op, .str c.nm, .int c.dy, .d (.sl 4 (c.ps.map Cd.e))], .int x] (.int (szC c x)) []) (fun c ih x h0 hx => ?_) c
  refine BRet.aslen 0 1 (by kernel_rfl) rfl rfl fun hl => ?_
  have hc := fun h1 => szConditionS_b c.ps ih (x - c.nm.length) h1 (by omega)
  have hn := szL_nice szC_nice c.ps (x - c.nm.length)
  rw [szC_eq]
  clear ih
  refine bof Tryz.func92 ?_
  generalize c.op = o at *
  generalize c.nm = n at *
  generalize c.dy = d at *
  generalize c.ps = ps at *
  by_cases h : x - (n.length : Int) < 0
  · rw [if_pos h]
    refine bgo ?_
    trivial
  · rw [if_neg h]
    have hc := hc (by omega)
    have hn := hn (by omega)
    generalize szL szC ps (x - (n.length : Int)) = z at *
    refine bgo ?_
    refine b_call hc rfl rfl rfl rfl ?_
    by_cases hz : z < 0
    · obtain rfl : z = -1 := by omega
      refine bgo ?_
      trivial
    · refine bgo ?_
      trivial
def Cd.z : List PV := [.int 0, .d (.str []), .int 0, .nilS]
theorem toConditionS_b (l : List Cd) (hl : l.length ≤ 1048576) (ih : ∀ c ∈ l, BRet Tryz.prog 98 [] [.agg [.int c.op, .str c.nm, .int c.dy, .d (.sl 4 (c.ps.map Cd.e))]] (.agg [.int c.op, .str c.nm, .int c.dy, .own 64 4 (c.ps.map Cd.e)]) []) :
    BRet Tryz.prog 130 [] [.d (.sl 4 (l.map Cd.e))] (.own 64 4 (l.map Cd.e)) [] := by
  refine bof Tryz.func130 ?_
  have hce : ∀ x ∈ l.map Cd.e, x.cells.length = 4 := fun x hx => by obtain ⟨y, _, rfl⟩ := List.mem_map.1 hx; rw [Cd.e_eq]; rfl
  refine bgo ?_
  refine ⟨by omega, by omega, ?_⟩
  refine b_loop (fun n st => ∃ k : Nat, n = l.length - k ∧ k ≤ l.length ∧ st.tm 0 = .d (.sl 4 (l.map Cd.e)) ∧ st.tm 3 = .rsl (.t 7) 64 4 l.length ∧ st.tm 4 = .int k ∧ st.bx (.t 7) = some (filling (l.map Cd.e) Cd.z l.length k) ∧ ∀ b, b ≠ .t 7 → st.bx b = none) l.length
    ⟨0, rfl, Nat.zero_le _, rfl, rfl, rfl, by rw [filling_0]; rfl, fun b hb => by simp [bx_put, bx_strip1, bx_sbx, bx_init, bxOf_nil, hb]⟩ ?_
  rintro n st ⟨k, rfl, hk, t0, t3, t4, t7, hb⟩
  by_cases hlt : k < l.length
  · have hx : l[k]? = some l[k] := List.getElem?_eq_getElem hlt
    have hc := ih l[k] (List.getElem_mem hlt)
    have hfl := filling_len (l := l.map Cd.e) (zero := Cd.z) (n := l.length) (k := k) (sz := 4) rfl hce (by simp) hk
    have hfs := filling_step (l := l.map Cd.e) (zero := Cd.z) (n := l.length) (k := k) (sz := 4) rfl hce (by simp) (by simpa using hlt)
    have hfb : (List.take (k * 4) (filling (l.map Cd.e) Cd.z l.length k) ++ [PV.int l[k].op, PV.str l[k].nm, PV.int l[k].dy, PV.own 64 4 (l[k].ps.map Cd.e)] ++ List.drop (k * 4 + 4) (filling (l.map Cd.e) Cd.z l.length k)).map PV.bC = filling (l.map Cd.e) Cd.z l.length (k + 1) := by
      rw [List.map_append, List.map_append, List.map_take, List.map_drop, filling_bC rfl, ← hfs, List.getElem_map, Cd.e_eq]; rfl
    clear ih hce hfs
    refine bgo ?_
    refine b_call hc rfl rfl rfl rfl ?_
    refine bgo ?_
    refine ⟨by omega, _, _, Weak.bC (.t 7), by omega, k + 1, rfl, hlt, t0, t3, rfl, congrArg some hfb, fun b hne => ?_⟩
    have := hb b hne
    simp [bx_put, bx_strip1, bx_sbx, hne, this]
  · have hk' : k = l.length := by omega
    subst hk'
    clear ih
    refine bgo ?_
    refine made (t := 3) (l := l.map Cd.e) t3 (t7.trans ?_) (by simp) hce hb fun s s3 hb => ?_
    · rw [← filling_n (l.map Cd.e) Cd.z, List.length_map]
    refine bgo ?_
    trivial
theorem toCondition_b (c : Cd) : c.size ≤ 1048577 → BRet Tryz.prog 98 [] [.agg [.int c.op, .str c.nm, .int c.dy, .d (.sl 4 (c.ps.map Cd.e))]] (.agg [.int c.op, .str c.nm, .int c.dy, .own 64 4 (c.ps.map Cd.e)]) [] := by
  refine Cd.ind (P := fun c => c.size ≤ 1048577 → BRet Tryz.prog 98 [] [.agg [.int c.op, .str c.nm, .int c.dy, .d (.sl 4 (c.ps.map Cd.e))]] (.agg [.int c.op, .str c.nm, .int c.dy, .own 64 4 (c.ps.map Cd.e)]) []) (fun c ih hsz => ?_) c
  have h1 := size_eq c
  have h2 := sizes_len c.ps
  have hc := toConditionS_b c.ps (by omega) (fun x hx => ih x hx (by have := size_part hx; omega))
  clear ih
  refine bof Tryz.func98 ?_
  generalize c.op = o at *
  generalize c.nm = n at *
  generalize c.dy = d at *
  generalize c.ps = ps at *
  refine bgo ?_
  refine b_call hc rfl rfl rfl rfl ?_
  refine bgo ?_
  trivial
theorem eqConditionS_s (l : List Cd) (ih : ∀ c ∈ l, BRet Tryz.prog 108 [] [.agg [.int c.op, .str c.nm, .int c.dy, .d (.sl 4 (c.ps.map Cd.e))], .agg [.int c.op, .str c.nm, .int c.dy, .d (.sl 4 (c.ps.map Cd.e))]] (.bool true) []) :
    BRet Tryz.prog 139 [] [.d (.sl 4 (l.map Cd.e)), .d (.sl 4 (l.map Cd.e))] (.bool true) [] := by
  refine BRet.len 0 (by kernel_rfl) rfl fun hl => ?_
  simp only [List.length_map] at hl
  refine bof Tryz.func139 ?_
  refine bgo ?_
  refine b_lp (ι := Nat × Unit) (fun i => [(0, .d (.sl 4 (l.map Cd.e))), (1, .d (.sl 4 (l.map Cd.e))), (5, .int i.1)]) (fun _ => []) (fun i => i.1 ≤ l.length) (fun i => l.length - i.1) (0, ()) hs (Nat.zero_le _) ?_
  rintro ⟨i, u⟩ hi I nx
  dsimp only at hi ⊢
  by_cases hlt : i < l.length
  · have hx : l[i]? = some l[i] := List.getElem?_eq_getElem hlt
    have hc := ih l[i] (List.getElem_mem hlt)
    generalize l[i] = x at *
    have hib : (i : Int) + 1 ≤ 1099511627776000 := by omega
    clear ih
    refine bgo ?_
    refine b_call hc rfl rfl rfl rfl ?_
    refine bgo ?_
    exact nx.go (i + 1, ()) hlt (by dsimp only; omega) hs
  · have hlt2 : ¬ i < l.length := by omega
    clear ih
    refine bgo ?_
    refine wk_rfl ?_
    refine bgo ?_
    trivial
theorem eqCondition_s (c : Cd) : BRet Tryz.prog 108 [] [.agg [.int c.op, .str c.nm, .int c.dy, .d (.sl 4 (c.ps.map Cd.e))], .agg [.int c.op, .str c.nm, .int c.dy, .d (.sl 4 (c.ps.map Cd.e))]] (.bool true) [] := by
  refine Cd.ind (P := fun c => BRet Tryz.prog 108 [] [.agg [.int c.op, .str c.nm, .int c.dy, .d (.sl 4 (c.ps.map Cd.e))], .agg [.int c.op, .str c.nm, .int c.dy, .d (.sl 4 (c.ps.map Cd.e))]] (.bool true) []) (fun c ih => ?_) c
  have hc := eqConditionS_s c.ps ih
  clear ih
  refine bof Tryz.func108 ?_
  generalize c.op = o at *
  generalize c.nm = n at *
  generalize c.dy = d at *
  generalize c.ps = ps at *
  refine bgo ?_
  refine b_call hc rfl rfl rfl rfl ?_
  refine bgo ?_
  trivial
end Go.Bee.C24n


namespace Go.Bee.C24n
open Go Go.Bee Go.Proofs Go.Bee.Ty Go.Bee.C23 Go.Bee.C23s Go.Bee.Da Go.Bee.C24 Go.Bee.C24c Go.Bee.C24d Go.Bee.Cn
set_option linter.unusedVariables false
set_option maxRecDepth 20000
attribute [local irreducible] Go.Bee.bwp
theorem formS_op {o d : Int} {n : Tx} {k : Nat} (h : ¬ (1 ≤ o ∧ o ≤ 6)) : formS o n d k = false := by
  unfold formS inB
  by_cases h1 : o ≥ 1
  · have h2 : ¬ o ≤ 6 := by omega
    simp [h2]
  · simp [h1]
theorem l5Form1_b (n : Tx) (d : Int) (l : List PD) : BRet Tryz.prog 146 [] [.agg [.int 1, .str n, .int d, .d (.sl 4 l)]] (.bool (formS 1 n d l.length)) [] := by
  refine BRet.alen 0 3 (by kernel_rfl) rfl rfl fun hl => ?_
  have hnm := l5Name_b n
  have hdy := l3Good_b d
  have n12 : ¬ ((1 : Int) = 2) := by decide
  have n13 : ¬ ((1 : Int) = 3) := by decide
  have n14 : ¬ ((1 : Int) = 4) := by decide
  have n15 : ¬ ((1 : Int) = 5) := by decide
  have n16 : ¬ ((1 : Int) = 6) := by decide
  have hf : formS 1 n d l.length = (decide (l.length = 0) && n.isEmpty && decide (d = 0)) := rfl
  rw [hf]
  clear hf
  refine bof Tryz.func146 ?_
  by_cases h1 : l.length = 0
  · have h1b : (l.length : Int) = 0 := by omega
    rw [decide_eq_true h1]
    clear h1
    by_cases h2 : n = []
    · subst h2
      by_cases h3 : d = 0
      · subst h3
        refine bgo ?_
        first
          | trivial
          | rfl
      · have h3c : (d == 0) = false := by rw [beq_eq_false_iff_ne]; exact h3
        rw [decide_eq_false h3]
        refine bgo ?_
        first
          | trivial
          | (simp [h3]; done)
    · have h2b : n.isEmpty = false := by cases n <;> simp_all
      have h2c : (n == []) = false := by rw [beq_eq_false_iff_ne]; exact h2
      rw [h2b]
      refine bgo ?_
      first
        | trivial
        | (refine ⟨by simp [h2]; rfl, by simp [h2]⟩; done)
  · have h1c : ((l.length : Int) == 0) = false := by rw [beq_eq_false_iff_ne]; omega
    have h1b : ¬ (l.length : Int) = 0 := by omega
    rw [decide_eq_false h1]
    clear h1
    refine bgo ?_
    first
      | trivial
      | rfl
theorem l5Form4_b (n : Tx) (d : Int) (l : List PD) : BRet Tryz.prog 146 [] [.agg [.int 4, .str n, .int d, .d (.sl 4 l)]] (.bool (formS 4 n d l.length)) [] := by
  refine BRet.alen 0 3 (by kernel_rfl) rfl rfl fun hl => ?_
  have hnm := l5Name_b n
  have hdy := l3Good_b d
  have n41 : ¬ ((4 : Int) = 1) := by decide
  have n42 : ¬ ((4 : Int) = 2) := by decide
  have n43 : ¬ ((4 : Int) = 3) := by decide
  have n45 : ¬ ((4 : Int) = 5) := by decide
  have n46 : ¬ ((4 : Int) = 6) := by decide
  have hf : formS 4 n d l.length = (decide (l.length = 1) && n.isEmpty && decide (d = 0)) := rfl
  rw [hf]
  clear hf
  refine bof Tryz.func146 ?_
  by_cases h1 : l.length = 1
  · have h1b : (l.length : Int) = 1 := by omega
    rw [decide_eq_true h1]
    clear h1
    by_cases h2 : n = []
    · subst h2
      by_cases h3 : d = 0
      · subst h3
        refine bgo ?_
        first
          | trivial
          | rfl
      · have h3c : (d == 0) = false := by rw [beq_eq_false_iff_ne]; exact h3
        rw [decide_eq_false h3]
        refine bgo ?_
        first
          | trivial
          | (simp [h3]; done)
    · have h2b : n.isEmpty = false := by cases n <;> simp_all
      have h2c : (n == []) = false := by rw [beq_eq_false_iff_ne]; exact h2
      rw [h2b]
      refine bgo ?_
      first
        | trivial
        | (refine ⟨by simp [h2]; rfl, by simp [h2]⟩; done)
  · have h1c : ((l.length : Int) == 1) = false := by rw [beq_eq_false_iff_ne]; omega
    have h1b : ¬ (l.length : Int) = 1 := by omega
    rw [decide_eq_false h1]
    clear h1
    refine bgo ?_
    first
      | trivial
      | rfl
theorem l5Form5_b (n : Tx) (d : Int) (l : List PD) : BRet Tryz.prog 146 [] [.agg [.int 5, .str n, .int d, .d (.sl 4 l)]] (.bool (formS 5 n d l.length)) [] := by
  refine BRet.alen 0 3 (by kernel_rfl) rfl rfl fun hl => ?_
  have hnm := l5Name_b n
  have hdy := l3Good_b d
  have n51 : ¬ ((5 : Int) = 1) := by decide
  have n52 : ¬ ((5 : Int) = 2) := by decide
  have n53 : ¬ ((5 : Int) = 3) := by decide
  have n54 : ¬ ((5 : Int) = 4) := by decide
  have n56 : ¬ ((5 : Int) = 6) := by decide
  have hf : formS 5 n d l.length = (decide (l.length = 2) && n.isEmpty && decide (d = 0)) := rfl
  rw [hf]
  clear hf
  refine bof Tryz.func146 ?_
  by_cases h1 : l.length = 2
  · have h1b : (l.length : Int) = 2 := by omega
    rw [decide_eq_true h1]
    clear h1
    by_cases h2 : n = []
    · subst h2
      by_cases h3 : d = 0
      · subst h3
        refine bgo ?_
        first
          | trivial
          | rfl
      · have h3c : (d == 0) = false := by rw [beq_eq_false_iff_ne]; exact h3
        rw [decide_eq_false h3]
        refine bgo ?_
        first
          | trivial
          | (simp [h3]; done)
    · have h2b : n.isEmpty = false := by cases n <;> simp_all
      have h2c : (n == []) = false := by rw [beq_eq_false_iff_ne]; exact h2
      rw [h2b]
      refine bgo ?_
      first
        | trivial
        | (refine ⟨by simp [h2]; rfl, by simp [h2]⟩; done)
  · have h1c : ((l.length : Int) == 2) = false := by rw [beq_eq_false_iff_ne]; omega
    have h1b : ¬ (l.length : Int) = 2 := by omega
    rw [decide_eq_false h1]
    clear h1
    refine bgo ?_
    first
      | trivial
      | rfl
theorem l5Form6_b (n : Tx) (d : Int) (l : List PD) : BRet Tryz.prog 146 [] [.agg [.int 6, .str n, .int d, .d (.sl 4 l)]] (.bool (formS 6 n d l.length)) [] := by
  refine BRet.alen 0 3 (by kernel_rfl) rfl rfl fun hl => ?_
  have hnm := l5Name_b n
  have hdy := l3Good_b d
  have n61 : ¬ ((6 : Int) = 1) := by decide
  have n62 : ¬ ((6 : Int) = 2) := by decide
  have n63 : ¬ ((6 : Int) = 3) := by decide
  have n64 : ¬ ((6 : Int) = 4) := by decide
  have n65 : ¬ ((6 : Int) = 5) := by decide
  have hf : formS 6 n d l.length = (decide (l.length = 2) && n.isEmpty && decide (d = 0)) := rfl
  rw [hf]
  clear hf
  refine bof Tryz.func146 ?_
  by_cases h1 : l.length = 2
  · have h1b : (l.length : Int) = 2 := by omega
    rw [decide_eq_true h1]
    clear h1
    by_cases h2 : n = []
    · subst h2
      by_cases h3 : d = 0
      · subst h3
        refine bgo ?_
        first
          | trivial
          | rfl
      · have h3c : (d == 0) = false := by rw [beq_eq_false_iff_ne]; exact h3
        rw [decide_eq_false h3]
        refine bgo ?_
        first
          | trivial
          | (simp [h3]; done)
    · have h2b : n.isEmpty = false := by cases n <;> simp_all
      have h2c : (n == []) = false := by rw [beq_eq_false_iff_ne]; exact h2
      rw [h2b]
      refine bgo ?_
      first
        | trivial
        | (refine ⟨by simp [h2]; rfl, by simp [h2]⟩; done)
  · have h1c : ((l.length : Int) == 2) = false := by rw [beq_eq_false_iff_ne]; omega
    have h1b : ¬ (l.length : Int) = 2 := by omega
    rw [decide_eq_false h1]
    clear h1
    refine bgo ?_
    first
      | trivial
      | rfl
theorem l5Form2_b (n : Tx) (d : Int) (l : List PD) : BRet Tryz.prog 146 [] [.agg [.int 2, .str n, .int d, .d (.sl 4 l)]] (.bool (formS 2 n d l.length)) [] := by
  refine BRet.alen 0 3 (by kernel_rfl) rfl rfl fun hl => ?_
  have hnm := l5Name_b n
  have hdy := l3Good_b d
  have n21 : ¬ ((2 : Int) = 1) := by decide
  have n23 : ¬ ((2 : Int) = 3) := by decide
  have n24 : ¬ ((2 : Int) = 4) := by decide
  have n25 : ¬ ((2 : Int) = 5) := by decide
  have n26 : ¬ ((2 : Int) = 6) := by decide
  have hf : formS 2 n d l.length = (decide (l.length = 0) && vName n && decide (d = 0)) := rfl
  rw [hf]
  clear hf
  refine bof Tryz.func146 ?_
  by_cases h1 : l.length = 0
  · have h1b : (l.length : Int) = 0 := by omega
    rw [decide_eq_true h1]
    clear h1
    cases hv : vName n
    · rw [hv] at hnm
      refine bgo ?_
      refine b_call hnm rfl rfl rfl rfl ?_
      refine bgo ?_
      first
        | trivial
        | rfl
    · rw [hv] at hnm
      by_cases h3 : d = 0
      · subst h3
        refine bgo ?_
        refine b_call hnm rfl rfl rfl rfl ?_
        refine bgo ?_
        first
          | trivial
          | rfl
      · have h3c : (d == 0) = false := by rw [beq_eq_false_iff_ne]; exact h3
        rw [decide_eq_false h3]
        refine bgo ?_
        refine b_call hnm rfl rfl rfl rfl ?_
        refine bgo ?_
        first
          | trivial
          | rfl
  · have h1c : ((l.length : Int) == 0) = false := by rw [beq_eq_false_iff_ne]; omega
    have h1b : ¬ (l.length : Int) = 0 := by omega
    rw [decide_eq_false h1]
    clear h1
    refine bgo ?_
    first
      | trivial
      | rfl
theorem l5Form3_b (n : Tx) (d : Int) (l : List PD) : BRet Tryz.prog 146 [] [.agg [.int 3, .str n, .int d, .d (.sl 4 l)]] (.bool (formS 3 n d l.length)) [] := by
  refine BRet.alen 0 3 (by kernel_rfl) rfl rfl fun hl => ?_
  have hnm := l5Name_b n
  have hdy := l3Good_b d
  have n31 : ¬ ((3 : Int) = 1) := by decide
  have n32 : ¬ ((3 : Int) = 2) := by decide
  have n34 : ¬ ((3 : Int) = 4) := by decide
  have n35 : ¬ ((3 : Int) = 5) := by decide
  have n36 : ¬ ((3 : Int) = 6) := by decide
  have hf : formS 3 n d l.length = (decide (l.length = 0) && n.isEmpty && inB d 0 36524) := rfl
  rw [hf]
  clear hf
  refine bof Tryz.func146 ?_
  by_cases h1 : l.length = 0
  · have h1b : (l.length : Int) = 0 := by omega
    rw [decide_eq_true h1]
    clear h1
    by_cases h2 : n = []
    · subst h2
      refine bgo ?_
      refine b_call hdy rfl rfl rfl rfl ?_
      refine bgo ?_
      first
        | trivial
        | rfl
    · have h2b : n.isEmpty = false := by cases n <;> simp_all
      have h2c : (n == []) = false := by rw [beq_eq_false_iff_ne]; exact h2
      rw [h2b]
      refine bgo ?_
      first
        | trivial
        | (refine ⟨by simp [h2]; rfl, by simp [h2]⟩; done)
  · have h1c : ((l.length : Int) == 0) = false := by rw [beq_eq_false_iff_ne]; omega
    have h1b : ¬ (l.length : Int) = 0 := by omega
    rw [decide_eq_false h1]
    clear h1
    refine bgo ?_
    first
      | trivial
      | rfl
theorem l5Form_b (o : Int) (n : Tx) (d : Int) (l : List PD) : BRet Tryz.prog 146 [] [.agg [.int o, .str n, .int d, .d (.sl 4 l)]] (.bool (formS o n d l.length)) [] := by
  by_cases ho : 1 ≤ o ∧ o ≤ 6
  · rcases (by omega : o = 1 ∨ o = 2 ∨ o = 3 ∨ o = 4 ∨ o = 5 ∨ o = 6) with rfl | rfl | rfl | rfl | rfl | rfl
    · exact l5Form1_b n d l
    · exact l5Form2_b n d l
    · exact l5Form3_b n d l
    · exact l5Form4_b n d l
    · exact l5Form5_b n d l
    · exact l5Form6_b n d l
  · refine BRet.alen 0 3 (by kernel_rfl) rfl rfl fun hl => ?_
    rw [formS_op ho]
    have h1 : ¬ o = 1 := by omega
    have h2 : ¬ o = 2 := by omega
    have h3 : ¬ o = 3 := by omega
    have h4 : ¬ o = 4 := by omega
    have h5 : ¬ o = 5 := by omega
    have h6 : ¬ o = 6 := by omega
    refine bof Tryz.func146 ?_
    refine bgo ?_
    trivial
theorem l5Forms_b (c : Cd) : BRet Tryz.prog 126 [] [.agg [.int c.op, .str c.nm, .int c.dy, .d (.sl 4 (c.ps.map Cd.e))]] (.bool (forms c)) [] := by
  refine Cd.ind (P := fun c => BRet Tryz.prog 126 [] [.agg [.int c.op, .str c.nm, .int c.dy, .d (.sl 4 (c.ps.map Cd.e))]] (.bool (forms c)) []) (fun c ih => ?_) c
  refine BRet.alen 0 3 (by kernel_rfl) rfl rfl fun hl => ?_
  have hf := l5Form_b c.op c.nm c.dy (c.ps.map Cd.e)
  rw [forms_eq]
  rw [List.length_map] at hf hl
  refine bof Tryz.func126 ?_
  generalize c.op = o at *
  generalize c.nm = n at *
  generalize c.dy = d at *
  generalize c.ps = l at *
  cases hv : formS o n d l.length
  · rw [hv] at hf
    refine bgo ?_
    refine b_call hf rfl rfl rfl rfl ?_
    refine bgo ?_
    trivial
  rw [hv] at hf
  rw [Bool.true_and]
  generalize hr : l.all forms = r
  refine bgo ?_
  refine b_call hf rfl rfl rfl rfl ?_
  refine bgo ?_
  refine b_lp (ι := Nat × Unit) (fun i => [(1, .ptr (.t 1) 0), (3, .int i.1)]) (fun _ => [(.t 1, [.int o, .str n, .int d, .d (.sl 4 (l.map Cd.e))])]) (fun i => i.1 ≤ l.length ∧ (l.drop i.1).all forms = r) (fun i => l.length - i.1) (0, ()) hs ⟨Nat.zero_le _, hr⟩ ?_
  clear hr hf
  rintro ⟨k, u⟩ ⟨hk, hj⟩ I nx
  dsimp only at hk hj ⊢
  by_cases hlt : k < l.length
  · have hx : l[k]? = some l[k] := List.getElem?_eq_getElem hlt
    have hc := ih l[k] (List.getElem_mem hlt)
    rw [List.drop_eq_getElem_cons hlt, List.all_cons] at hj
    have hb : (k : Int) + 1 ≤ 1099511627776000 := by omega
    generalize l[k] = x at *
    clear ih
    cases hfx : forms x
    · rw [hfx] at hc hj
      have hj : false = r := hj
      subst hj
      refine bgo ?_
      refine b_call hc rfl rfl rfl rfl ?_
      refine bgo ?_
      trivial
    · rw [hfx] at hc hj
      rw [Bool.true_and] at hj
      refine bgo ?_
      refine b_call hc rfl rfl rfl rfl ?_
      refine bgo ?_
      exact nx.go (k + 1, ()) ⟨hlt, hj⟩ (by dsimp only; omega) hs
  · have hk' : k = l.length := by omega
    subst hk'
    rw [List.drop_length] at hj
    have hj : true = r := hj
    subst hj
    clear ih
    refine bgo ?_
    refine wk_rfl ?_
    refine bgo ?_
    trivial
theorem l5Size_b (c : Cd) : c.size ≤ 1048577 → BRet Tryz.prog 127 [] [.agg [.int c.op, .str c.nm, .int c.dy, .d (.sl 4 (c.ps.map Cd.e))]] (.int c.size) [] := by
  refine Cd.ind (P := fun c => c.size ≤ 1048577 → BRet Tryz.prog 127 [] [.agg [.int c.op, .str c.nm, .int c.dy, .d (.sl 4 (c.ps.map Cd.e))]] (.int c.size) []) (fun c ih hsz => ?_) c
  refine BRet.alen 0 3 (by kernel_rfl) rfl rfl fun hl => ?_
  have hse := size_eq c
  have hih : ∀ x ∈ c.ps, BRet Tryz.prog 127 [] [.agg [.int x.op, .str x.nm, .int x.dy, .d (.sl 4 (x.ps.map Cd.e))]] (.int x.size) [] := fun x hx => ih x hx (by have := size_part hx; omega)
  have hml := fun x (hx : x ∈ c.ps) => size_part hx
  clear ih
  rw [List.length_map] at hl
  refine bof Tryz.func127 ?_
  generalize c.op = o at *
  generalize c.nm = n at *
  generalize c.dy = d at *
  generalize c.ps = l at *
  generalize hN : c.size = N at *
  clear hN
  have hse2 : Go.RowKit.Hid (1 + Cd.sizes l = N) := hse.symm
  clear hse
  refine bgo ?_
  refine b_lp (ι := Nat × Nat) (fun i => [(1, .ptr (.t 1) 0), (3, .int i.2), (4, .int i.1)]) (fun _ => [(.t 1, [.int o, .str n, .int d, .d (.sl 4 (l.map Cd.e))])]) (fun i => i.1 ≤ l.length ∧ i.2 + Cd.sizes (l.drop i.1) = N) (fun i => l.length - i.1) (0, 1) hs ⟨Nat.zero_le _, hse2.out⟩ ?_
  clear hse2
  rintro ⟨k, y⟩ ⟨hk, hj⟩ I nx
  dsimp only at hk hj ⊢
  by_cases hlt : k < l.length
  · have hx : l[k]? = some l[k] := List.getElem?_eq_getElem hlt
    have hc := hih l[k] (List.getElem_mem hlt)
    rw [sizes_drop l k hlt] at hj
    have hb : (k : Int) + 1 ≤ 1099511627776000 := by omega
    generalize l[k] = x at *
    clear hih hml
    generalize hz : x.size = z at *
    have hyz : y + z ≤ 1048577 := by omega
    refine bgo ?_
    refine b_call hc rfl rfl rfl rfl ?_
    refine bgo ?_
    exact nx.go (k + 1, y + z) ⟨hlt, by dsimp only; omega⟩ (by dsimp only; omega) hs
  · have hk' : k = l.length := by omega
    subst hk'
    rw [List.drop_length, sizes_nil] at hj
    have hj : y = N := hj
    subst hj
    clear hih hml
    refine bgo ?_
    refine wk_rfl ?_
    refine bgo ?_
    trivial
theorem l5Good_b (c : Cd) (hsz : c.size ≤ 1048577) : BRet Tryz.prog 94 [] [.agg [.int c.op, .str c.nm, .int c.dy, .d (.sl 4 (c.ps.map Cd.e))]] (.bool (okCd c)) [] := by
  have hf := l5Forms_b c
  have hz := l5Size_b c hsz
  unfold okCd
  generalize c.op = o at *
  generalize c.nm = n at *
  generalize c.dy = d at *
  generalize c.ps = l at *
  generalize c.size = N at *
  refine bof Tryz.func94 ?_
  cases hv : forms c
  · rw [hv] at hf
    refine bgo ?_
    refine b_call hf rfl rfl rfl rfl ?_
    refine bgo ?_
    first
      | trivial
      | rfl
  · rw [hv] at hf
    refine bgo ?_
    refine b_call hf rfl rfl rfl rfl ?_
    refine bgo ?_
    refine b_call hz rfl rfl rfl rfl ?_
    by_cases h15 : N ≤ 15
    · have h15b : (N : Int) ≤ 15 := by omega
      rw [decide_eq_true h15]
      refine bgo ?_
      first
        | trivial
        | rfl
    · have h15b : ¬ (N : Int) ≤ 15 := by omega
      rw [decide_eq_false h15]
      refine bgo ?_
      first
        | trivial
        | rfl
end Go.Bee.C24n


namespace Go.Bee.C24n
open Go Go.Bee Go.Proofs Go.Bee.Ty Go.Bee.C23 Go.Bee.C23s Go.Bee.Da Go.Bee.C24 Go.Bee.C24c Go.Bee.C24d Go.Bee.Cn
set_option linter.unusedVariables false
set_option maxRecDepth 20000
attribute [local irreducible] Go.Bee.bwp
end Go.Bee.C24n


namespace Go.Bee.C24n
open Go Go.Bee Go.Proofs Go.Bee.Ty Go.Bee.C23 Go.Bee.C23s Go.Bee.Da Go.Bee.C24 Go.Bee.C24c Go.Bee.C24d Go.Bee.Cn
set_option linter.unusedVariables false
set_option maxRecDepth 20000
attribute [local irreducible] Go.Bee.bwp
theorem count1_b (n : Tx) (d : Int) (l : List Cd) (ih : ∀ x ∈ l, ∀ so : Int, 0 ≤ so → so ≤ 15 → BRet Tryz.prog 134 [] [.agg [.int x.op, .str x.nm, .int x.dy, .d (.sl 4 (x.ps.map Cd.e))], .int so] (.int (cnt x so)) [])
    (so : Int) (h0 : 0 ≤ so) (h1 : ¬ so + 1 > 15) : BRet Tryz.prog 134 [] [.agg [.int 1, .str n, .int d, .d (.sl 4 (l.map Cd.e))], .int so] (.int (if formS 1 n d l.length = true then szF cnt l (so + 1) else -1)) [] := by
  refine BRet.alen 0 3 (by kernel_rfl) rfl rfl fun hl => ?_
  rw [List.length_map] at hl
  have hnm := IsValidName_b n
  have hdy := isDay_b d
  have f1 : ((false : Bool) == true) = false := rfl
  have f2 : (!false) = true := rfl
  have f3 : ((true : Bool) == true) = true := rfl
  have f4 : (!true) = false := rfl
  have f5 : ((true : Bool) == false) = false := rfl
  have f6 : ((false : Bool) == false) = true := rfl
  have z00 : ((0 : Int) != 0) = false := rfl
  have z33 : ((1 : Int) != 3) = true := rfl
  have hwi := within_b 1 1 6
  rw [show inB 1 1 6 = true from rfl] at hwi
  have n12 : ¬ ((1 : Int) = 2) := by decide
  have m12 : ((1 : Int) == 2) = false := rfl
  have n13 : ¬ ((1 : Int) = 3) := by decide
  have m13 : ((1 : Int) == 3) = false := rfl
  have hf : formS 1 n d l.length = (decide (l.length = 0) && n.isEmpty && decide (d = 0)) := rfl
  rw [hf]
  clear hf
  refine bof Tryz.func134 ?_
  by_cases hk : l.length = 0
  · have hkb : (l.length : Int) = 0 := by omega
    rw [decide_eq_true hk]
    clear hk
    by_cases h2 : n = []
    · subst h2
      by_cases h3 : d = 0
      · subst h3
        rw [show inB 0 0 36524 = true from rfl] at hdy
        rw [show (true && List.isEmpty ([] : Tx) && decide ((0 : Int) = 0)) = true from rfl]
        rw [if_pos rfl]
        generalize hr : szF cnt l (so + 1) = r
        refine bgo ?_
        refine b_call hwi rfl rfl rfl rfl ?_
        refine bgo ?_
        refine b_call hdy rfl rfl rfl rfl ?_
        refine bgo ?_
        refine b_lp (ι := Nat × Int) (fun i => [(1, .int i.2), (65, .d (.sl 4 (l.map Cd.e))), (66, .int 0), (67, .int i.1)]) (fun _ => []) (fun i => i.1 ≤ l.length ∧ 0 ≤ i.2 ∧ i.2 ≤ 15 ∧ szF cnt (l.drop i.1) i.2 = r) (fun i => l.length - i.1) (0, so + 1) hs ⟨Nat.zero_le _, by dsimp only; omega, by dsimp only; omega, hr⟩ ?_
        clear hr h0 h1 hnm hdy hwi
        rintro ⟨k, y⟩ ⟨hk2, hy0, hyx, hj⟩ I nx
        dsimp only at hk2 hy0 hyx hj ⊢
        by_cases hlt : k < l.length
        · exfalso; omega
        · obtain rfl : k = l.length := by omega
          have hltb : ¬ (l.length : Int) < 0 := by omega
          rw [List.drop_length] at hj
          have hj : y = r := hj
          subst hj
          clear ih
          refine bgo ?_
          refine wk_rfl ?_
          refine bgo ?_
          trivial
      · have h3c : (d == 0) = false := by rw [beq_eq_false_iff_ne]; exact h3
        have h3d : (d != 0) = true := by rw [bne_iff_ne]; exact h3
        rw [decide_eq_false h3]
        clear ih
        refine bgo ?_
        refine b_call hwi rfl rfl rfl rfl ?_
        refine bgo ?_
        trivial
    · have h2b : n.isEmpty = false := by cases n <;> simp_all
      have h2c : (n == []) = false := by rw [beq_eq_false_iff_ne]; exact h2
      have h2d : (n != []) = true := by rw [bne_iff_ne]; exact h2
      rw [h2b]
      clear ih
      refine bgo ?_
      refine b_call hwi rfl rfl rfl rfl ?_
      refine bgo ?_
      trivial
  · have hkb : ¬ (l.length : Int) = 0 := by omega
    have hkc : ((l.length : Int) == 0) = false := by rw [beq_eq_false_iff_ne]; exact hkb
    rw [decide_eq_false hk]
    clear hk ih
    refine bgo ?_
    refine b_call hwi rfl rfl rfl rfl ?_
    refine bgo ?_
    trivial
theorem count4_b (n : Tx) (d : Int) (l : List Cd) (ih : ∀ x ∈ l, ∀ so : Int, 0 ≤ so → so ≤ 15 → BRet Tryz.prog 134 [] [.agg [.int x.op, .str x.nm, .int x.dy, .d (.sl 4 (x.ps.map Cd.e))], .int so] (.int (cnt x so)) [])
    (so : Int) (h0 : 0 ≤ so) (h1 : ¬ so + 1 > 15) : BRet Tryz.prog 134 [] [.agg [.int 4, .str n, .int d, .d (.sl 4 (l.map Cd.e))], .int so] (.int (if formS 4 n d l.length = true then szF cnt l (so + 1) else -1)) [] := by
  refine BRet.alen 0 3 (by kernel_rfl) rfl rfl fun hl => ?_
  rw [List.length_map] at hl
  have hnm := IsValidName_b n
  have hdy := isDay_b d
  have f1 : ((false : Bool) == true) = false := rfl
  have f2 : (!false) = true := rfl
  have f3 : ((true : Bool) == true) = true := rfl
  have f4 : (!true) = false := rfl
  have f5 : ((true : Bool) == false) = false := rfl
  have f6 : ((false : Bool) == false) = true := rfl
  have z00 : ((0 : Int) != 0) = false := rfl
  have z33 : ((4 : Int) != 3) = true := rfl
  have hwi := within_b 4 1 6
  rw [show inB 4 1 6 = true from rfl] at hwi
  have n42 : ¬ ((4 : Int) = 2) := by decide
  have m42 : ((4 : Int) == 2) = false := rfl
  have n43 : ¬ ((4 : Int) = 3) := by decide
  have m43 : ((4 : Int) == 3) = false := rfl
  have hf : formS 4 n d l.length = (decide (l.length = 1) && n.isEmpty && decide (d = 0)) := rfl
  rw [hf]
  clear hf
  refine bof Tryz.func134 ?_
  by_cases hk : l.length = 1
  · have hkb : (l.length : Int) = 1 := by omega
    rw [decide_eq_true hk]
    clear hk
    by_cases h2 : n = []
    · subst h2
      by_cases h3 : d = 0
      · subst h3
        rw [show inB 0 0 36524 = true from rfl] at hdy
        rw [show (true && List.isEmpty ([] : Tx) && decide ((0 : Int) = 0)) = true from rfl]
        rw [if_pos rfl]
        generalize hr : szF cnt l (so + 1) = r
        refine bgo ?_
        refine b_call hwi rfl rfl rfl rfl ?_
        refine bgo ?_
        refine b_call hdy rfl rfl rfl rfl ?_
        refine bgo ?_
        refine b_lp (ι := Nat × Int) (fun i => [(1, .int i.2), (65, .d (.sl 4 (l.map Cd.e))), (66, .int 1), (67, .int i.1)]) (fun _ => []) (fun i => i.1 ≤ l.length ∧ 0 ≤ i.2 ∧ i.2 ≤ 15 ∧ szF cnt (l.drop i.1) i.2 = r) (fun i => l.length - i.1) (0, so + 1) hs ⟨Nat.zero_le _, by dsimp only; omega, by dsimp only; omega, hr⟩ ?_
        clear hr h0 h1 hnm hdy hwi
        rintro ⟨k, y⟩ ⟨hk2, hy0, hyx, hj⟩ I nx
        dsimp only at hk2 hy0 hyx hj ⊢
        by_cases hlt : k < l.length
        · have hx : l[k]? = some l[k] := List.getElem?_eq_getElem hlt
          have hltb : (k : Int) < 1 := by omega
          have hc := ih l[k] (List.getElem_mem hlt) y hy0 hyx
          have hin := cnt_in l[k] hy0 hyx
          rw [szF_step hlt] at hj
          have hb : (k : Int) + 1 ≤ 1099511627776000 := by omega
          generalize l[k] = x at *
          generalize cnt x y = z at *
          clear ih
          by_cases hz : z < 0
          · rw [if_pos hz] at hj
            subst hj
            refine bgo ?_
            refine b_call hc rfl rfl rfl rfl ?_
            refine bgo ?_
            trivial
          · rw [if_neg hz] at hj
            refine bgo ?_
            refine b_call hc rfl rfl rfl rfl ?_
            refine bgo ?_
            exact nx.go (k + 1, z) ⟨hlt, by dsimp only; omega, by dsimp only; omega, hj⟩ (by dsimp only; omega) hs
        · obtain rfl : k = l.length := by omega
          have hltb : ¬ (l.length : Int) < 1 := by omega
          rw [List.drop_length] at hj
          have hj : y = r := hj
          subst hj
          clear ih
          refine bgo ?_
          refine wk_rfl ?_
          refine bgo ?_
          trivial
      · have h3c : (d == 0) = false := by rw [beq_eq_false_iff_ne]; exact h3
        have h3d : (d != 0) = true := by rw [bne_iff_ne]; exact h3
        rw [decide_eq_false h3]
        clear ih
        refine bgo ?_
        refine b_call hwi rfl rfl rfl rfl ?_
        refine bgo ?_
        trivial
    · have h2b : n.isEmpty = false := by cases n <;> simp_all
      have h2c : (n == []) = false := by rw [beq_eq_false_iff_ne]; exact h2
      have h2d : (n != []) = true := by rw [bne_iff_ne]; exact h2
      rw [h2b]
      clear ih
      refine bgo ?_
      refine b_call hwi rfl rfl rfl rfl ?_
      refine bgo ?_
      trivial
  · have hkb : ¬ (l.length : Int) = 1 := by omega
    have hkc : ((l.length : Int) == 1) = false := by rw [beq_eq_false_iff_ne]; exact hkb
    rw [decide_eq_false hk]
    clear hk ih
    refine bgo ?_
    refine b_call hwi rfl rfl rfl rfl ?_
    refine bgo ?_
    trivial
theorem count5_b (n : Tx) (d : Int) (l : List Cd) (ih : ∀ x ∈ l, ∀ so : Int, 0 ≤ so → so ≤ 15 → BRet Tryz.prog 134 [] [.agg [.int x.op, .str x.nm, .int x.dy, .d (.sl 4 (x.ps.map Cd.e))], .int so] (.int (cnt x so)) [])
    (so : Int) (h0 : 0 ≤ so) (h1 : ¬ so + 1 > 15) : BRet Tryz.prog 134 [] [.agg [.int 5, .str n, .int d, .d (.sl 4 (l.map Cd.e))], .int so] (.int (if formS 5 n d l.length = true then szF cnt l (so + 1) else -1)) [] := by
  refine BRet.alen 0 3 (by kernel_rfl) rfl rfl fun hl => ?_
  rw [List.length_map] at hl
  have hnm := IsValidName_b n
  have hdy := isDay_b d
  have f1 : ((false : Bool) == true) = false := rfl
  have f2 : (!false) = true := rfl
  have f3 : ((true : Bool) == true) = true := rfl
  have f4 : (!true) = false := rfl
  have f5 : ((true : Bool) == false) = false := rfl
  have f6 : ((false : Bool) == false) = true := rfl
  have z00 : ((0 : Int) != 0) = false := rfl
  have z33 : ((5 : Int) != 3) = true := rfl
  have hwi := within_b 5 1 6
  rw [show inB 5 1 6 = true from rfl] at hwi
  have n52 : ¬ ((5 : Int) = 2) := by decide
  have m52 : ((5 : Int) == 2) = false := rfl
  have n53 : ¬ ((5 : Int) = 3) := by decide
  have m53 : ((5 : Int) == 3) = false := rfl
  have hf : formS 5 n d l.length = (decide (l.length = 2) && n.isEmpty && decide (d = 0)) := rfl
  rw [hf]
  clear hf
  refine bof Tryz.func134 ?_
  by_cases hk : l.length = 2
  · have hkb : (l.length : Int) = 2 := by omega
    rw [decide_eq_true hk]
    clear hk
    by_cases h2 : n = []
    · subst h2
      by_cases h3 : d = 0
      · subst h3
        rw [show inB 0 0 36524 = true from rfl] at hdy
        rw [show (true && List.isEmpty ([] : Tx) && decide ((0 : Int) = 0)) = true from rfl]
        rw [if_pos rfl]
        generalize hr : szF cnt l (so + 1) = r
        refine bgo ?_
        refine b_call hwi rfl rfl rfl rfl ?_
        refine bgo ?_
        refine b_call hdy rfl rfl rfl rfl ?_
        refine bgo ?_
        refine b_lp (ι := Nat × Int) (fun i => [(1, .int i.2), (65, .d (.sl 4 (l.map Cd.e))), (66, .int 2), (67, .int i.1)]) (fun _ => []) (fun i => i.1 ≤ l.length ∧ 0 ≤ i.2 ∧ i.2 ≤ 15 ∧ szF cnt (l.drop i.1) i.2 = r) (fun i => l.length - i.1) (0, so + 1) hs ⟨Nat.zero_le _, by dsimp only; omega, by dsimp only; omega, hr⟩ ?_
        clear hr h0 h1 hnm hdy hwi
        rintro ⟨k, y⟩ ⟨hk2, hy0, hyx, hj⟩ I nx
        dsimp only at hk2 hy0 hyx hj ⊢
        by_cases hlt : k < l.length
        · have hx : l[k]? = some l[k] := List.getElem?_eq_getElem hlt
          have hltb : (k : Int) < 2 := by omega
          have hc := ih l[k] (List.getElem_mem hlt) y hy0 hyx
          have hin := cnt_in l[k] hy0 hyx
          rw [szF_step hlt] at hj
          have hb : (k : Int) + 1 ≤ 1099511627776000 := by omega
          generalize l[k] = x at *
          generalize cnt x y = z at *
          clear ih
          by_cases hz : z < 0
          · rw [if_pos hz] at hj
            subst hj
            refine bgo ?_
            refine b_call hc rfl rfl rfl rfl ?_
            refine bgo ?_
            trivial
          · rw [if_neg hz] at hj
            refine bgo ?_
            refine b_call hc rfl rfl rfl rfl ?_
            refine bgo ?_
            exact nx.go (k + 1, z) ⟨hlt, by dsimp only; omega, by dsimp only; omega, hj⟩ (by dsimp only; omega) hs
        · obtain rfl : k = l.length := by omega
          have hltb : ¬ (l.length : Int) < 2 := by omega
          rw [List.drop_length] at hj
          have hj : y = r := hj
          subst hj
          clear ih
          refine bgo ?_
          refine wk_rfl ?_
          refine bgo ?_
          trivial
      · have h3c : (d == 0) = false := by rw [beq_eq_false_iff_ne]; exact h3
        have h3d : (d != 0) = true := by rw [bne_iff_ne]; exact h3
        rw [decide_eq_false h3]
        clear ih
        refine bgo ?_
        refine b_call hwi rfl rfl rfl rfl ?_
        refine bgo ?_
        trivial
    · have h2b : n.isEmpty = false := by cases n <;> simp_all
      have h2c : (n == []) = false := by rw [beq_eq_false_iff_ne]; exact h2
      have h2d : (n != []) = true := by rw [bne_iff_ne]; exact h2
      rw [h2b]
      clear ih
      refine bgo ?_
      refine b_call hwi rfl rfl rfl rfl ?_
      refine bgo ?_
      trivial
  · have hkb : ¬ (l.length : Int) = 2 := by omega
    have hkc : ((l.length : Int) == 2) = false := by rw [beq_eq_false_iff_ne]; exact hkb
    rw [decide_eq_false hk]
    clear hk ih
    refine bgo ?_
    refine b_call hwi rfl rfl rfl rfl ?_
    refine bgo ?_
    trivial
theorem count6_b (n : Tx) (d : Int) (l : List Cd) (ih : ∀ x ∈ l, ∀ so : Int, 0 ≤ so → so ≤ 15 → BRet Tryz.prog 134 [] [.agg [.int x.op, .str x.nm, .int x.dy, .d (.sl 4 (x.ps.map Cd.e))], .int so] (.int (cnt x so)) [])
    (so : Int) (h0 : 0 ≤ so) (h1 : ¬ so + 1 > 15) : BRet Tryz.prog 134 [] [.agg [.int 6, .str n, .int d, .d (.sl 4 (l.map Cd.e))], .int so] (.int (if formS 6 n d l.length = true then szF cnt l (so + 1) else -1)) [] := by
  refine BRet.alen 0 3 (by kernel_rfl) rfl rfl fun hl => ?_
  rw [List.length_map] at hl
  have hnm := IsValidName_b n
  have hdy := isDay_b d
  have f1 : ((false : Bool) == true) = false := rfl
  have f2 : (!false) = true := rfl
  have f3 : ((true : Bool) == true) = true := rfl
  have f4 : (!true) = false := rfl
  have f5 : ((true : Bool) == false) = false := rfl
  have f6 : ((false : Bool) == false) = true := rfl
  have z00 : ((0 : Int) != 0) = false := rfl
  have z33 : ((6 : Int) != 3) = true := rfl
  have hwi := within_b 6 1 6
  rw [show inB 6 1 6 = true from rfl] at hwi
  have n62 : ¬ ((6 : Int) = 2) := by decide
  have m62 : ((6 : Int) == 2) = false := rfl
  have n63 : ¬ ((6 : Int) = 3) := by decide
  have m63 : ((6 : Int) == 3) = false := rfl
  have hf : formS 6 n d l.length = (decide (l.length = 2) && n.isEmpty && decide (d = 0)) := rfl
  rw [hf]
  clear hf
  refine bof Tryz.func134 ?_
  by_cases hk : l.length = 2
  · have hkb : (l.length : Int) = 2 := by omega
    rw [decide_eq_true hk]
    clear hk
    by_cases h2 : n = []
    · subst h2
      by_cases h3 : d = 0
      · subst h3
        rw [show inB 0 0 36524 = true from rfl] at hdy
        rw [show (true && List.isEmpty ([] : Tx) && decide ((0 : Int) = 0)) = true from rfl]
        rw [if_pos rfl]
        generalize hr : szF cnt l (so + 1) = r
        refine bgo ?_
        refine b_call hwi rfl rfl rfl rfl ?_
        refine bgo ?_
        refine b_call hdy rfl rfl rfl rfl ?_
        refine bgo ?_
        refine b_lp (ι := Nat × Int) (fun i => [(1, .int i.2), (65, .d (.sl 4 (l.map Cd.e))), (66, .int 2), (67, .int i.1)]) (fun _ => []) (fun i => i.1 ≤ l.length ∧ 0 ≤ i.2 ∧ i.2 ≤ 15 ∧ szF cnt (l.drop i.1) i.2 = r) (fun i => l.length - i.1) (0, so + 1) hs ⟨Nat.zero_le _, by dsimp only; omega, by dsimp only; omega, hr⟩ ?_
        clear hr h0 h1 hnm hdy hwi
        rintro ⟨k, y⟩ ⟨hk2, hy0, hyx, hj⟩ I nx
        dsimp only at hk2 hy0 hyx hj ⊢
        by_cases hlt : k < l.length
        · have hx : l[k]? = some l[k] := List.getElem?_eq_getElem hlt
          have hltb : (k : Int) < 2 := by omega
          have hc := ih l[k] (List.getElem_mem hlt) y hy0 hyx
          have hin := cnt_in l[k] hy0 hyx
          rw [szF_step hlt] at hj
          have hb : (k : Int) + 1 ≤ 1099511627776000 := by omega
          generalize l[k] = x at *
          generalize cnt x y = z at *
          clear ih
          by_cases hz : z < 0
          · rw [if_pos hz] at hj
            subst hj
            refine bgo ?_
            refine b_call hc rfl rfl rfl rfl ?_
            refine bgo ?_
            trivial
          · rw [if_neg hz] at hj
            refine bgo ?_
            refine b_call hc rfl rfl rfl rfl ?_
            refine bgo ?_
            exact nx.go (k + 1, z) ⟨hlt, by dsimp only; omega, by dsimp only; omega, hj⟩ (by dsimp only; omega) hs
        · obtain rfl : k = l.length := by omega
          have hltb : ¬ (l.length : Int) < 2 := by omega
          rw [List.drop_length] at hj
          have hj : y = r := hj
          subst hj
          clear ih
          refine bgo ?_
          refine wk_rfl ?_
          refine bgo ?_
          trivial
      · have h3c : (d == 0) = false := by rw [beq_eq_false_iff_ne]; exact h3
        have h3d : (d != 0) = true := by rw [bne_iff_ne]; exact h3
        rw [decide_eq_false h3]
        clear ih
        refine bgo ?_
        refine b_call hwi rfl rfl rfl rfl ?_
        refine bgo ?_
        trivial
    · have h2b : n.isEmpty = false := by cases n <;> simp_all
      have h2c : (n == []) = false := by rw [beq_eq_false_iff_ne]; exact h2
      have h2d : (n != []) = true := by rw [bne_iff_ne]; exact h2
      rw [h2b]
      clear ih
      refine bgo ?_
      refine b_call hwi rfl rfl rfl rfl ?_
      refine bgo ?_
      trivial
  · have hkb : ¬ (l.length : Int) = 2 := by omega
    have hkc : ((l.length : Int) == 2) = false := by rw [beq_eq_false_iff_ne]; exact hkb
    rw [decide_eq_false hk]
    clear hk ih
    refine bgo ?_
    refine b_call hwi rfl rfl rfl rfl ?_
    refine bgo ?_
    trivial
theorem count2_b (n : Tx) (d : Int) (l : List Cd) (ih : ∀ x ∈ l, ∀ so : Int, 0 ≤ so → so ≤ 15 → BRet Tryz.prog 134 [] [.agg [.int x.op, .str x.nm, .int x.dy, .d (.sl 4 (x.ps.map Cd.e))], .int so] (.int (cnt x so)) [])
    (so : Int) (h0 : 0 ≤ so) (h1 : ¬ so + 1 > 15) : BRet Tryz.prog 134 [] [.agg [.int 2, .str n, .int d, .d (.sl 4 (l.map Cd.e))], .int so] (.int (if formS 2 n d l.length = true then szF cnt l (so + 1) else -1)) [] := by
  refine BRet.alen 0 3 (by kernel_rfl) rfl rfl fun hl => ?_
  rw [List.length_map] at hl
  have hnm := IsValidName_b n
  have hdy := isDay_b d
  have f1 : ((false : Bool) == true) = false := rfl
  have f2 : (!false) = true := rfl
  have f3 : ((true : Bool) == true) = true := rfl
  have f4 : (!true) = false := rfl
  have f5 : ((true : Bool) == false) = false := rfl
  have f6 : ((false : Bool) == false) = true := rfl
  have z00 : ((0 : Int) != 0) = false := rfl
  have z33 : ((2 : Int) != 3) = true := rfl
  have hwi := within_b 2 1 6
  rw [show inB 2 1 6 = true from rfl] at hwi
  have n23 : ¬ ((2 : Int) = 3) := by decide
  have m23 : ((2 : Int) == 3) = false := rfl
  have hf : formS 2 n d l.length = (decide (l.length = 0) && vName n && decide (d = 0)) := rfl
  rw [hf]
  clear hf
  refine bof Tryz.func134 ?_
  by_cases hk : l.length = 0
  · have hkb : (l.length : Int) = 0 := by omega
    rw [decide_eq_true hk]
    clear hk
    by_cases h2 : n = []
    · subst h2
      rw [show vName [] = false from rfl]
      clear ih
      refine bgo ?_
      refine b_call hwi rfl rfl rfl rfl ?_
      refine bgo ?_
      trivial
    · have h2c : (n == []) = false := by rw [beq_eq_false_iff_ne]; exact h2
      have h2d : (n != []) = true := by rw [bne_iff_ne]; exact h2
      cases hv : vName n
      · rw [hv] at hnm
        clear ih
        refine bgo ?_
        refine b_call hwi rfl rfl rfl rfl ?_
        refine bgo ?_
        refine b_call hnm rfl rfl rfl rfl ?_
        refine bgo ?_
        trivial
      · rw [hv] at hnm
        by_cases h3 : d = 0
        · subst h3
          rw [show inB 0 0 36524 = true from rfl] at hdy
          rw [show (true && true && decide ((0 : Int) = 0)) = true from rfl]
          rw [if_pos rfl]
          generalize hr : szF cnt l (so + 1) = r
          refine bgo ?_
          refine b_call hwi rfl rfl rfl rfl ?_
          refine bgo ?_
          refine b_call hnm rfl rfl rfl rfl ?_
          refine bgo ?_
          refine b_call hdy rfl rfl rfl rfl ?_
          refine bgo ?_
          refine b_lp (ι := Nat × Int) (fun i => [(1, .int i.2), (65, .d (.sl 4 (l.map Cd.e))), (66, .int 0), (67, .int i.1)]) (fun _ => []) (fun i => i.1 ≤ l.length ∧ 0 ≤ i.2 ∧ i.2 ≤ 15 ∧ szF cnt (l.drop i.1) i.2 = r) (fun i => l.length - i.1) (0, so + 1) hs ⟨Nat.zero_le _, by dsimp only; omega, by dsimp only; omega, hr⟩ ?_
          clear hr h0 h1 hnm hdy hwi
          rintro ⟨k, y⟩ ⟨hk2, hy0, hyx, hj⟩ I nx
          dsimp only at hk2 hy0 hyx hj ⊢
          by_cases hlt : k < l.length
          · exfalso; omega
          · obtain rfl : k = l.length := by omega
            have hltb : ¬ (l.length : Int) < 0 := by omega
            rw [List.drop_length] at hj
            have hj : y = r := hj
            subst hj
            clear ih
            refine bgo ?_
            refine wk_rfl ?_
            refine bgo ?_
            trivial
        · have h3c : (d == 0) = false := by rw [beq_eq_false_iff_ne]; exact h3
          have h3d : (d != 0) = true := by rw [bne_iff_ne]; exact h3
          rw [decide_eq_false h3]
          clear ih
          refine bgo ?_
          refine b_call hwi rfl rfl rfl rfl ?_
          refine bgo ?_
          refine b_call hnm rfl rfl rfl rfl ?_
          refine bgo ?_
          trivial
  · have hkb : ¬ (l.length : Int) = 0 := by omega
    have hkc : ((l.length : Int) == 0) = false := by rw [beq_eq_false_iff_ne]; exact hkb
    rw [decide_eq_false hk]
    clear hk ih
    refine bgo ?_
    refine b_call hwi rfl rfl rfl rfl ?_
    refine bgo ?_
    trivial
theorem count3_b (n : Tx) (d : Int) (l : List Cd) (ih : ∀ x ∈ l, ∀ so : Int, 0 ≤ so → so ≤ 15 → BRet Tryz.prog 134 [] [.agg [.int x.op, .str x.nm, .int x.dy, .d (.sl 4 (x.ps.map Cd.e))], .int so] (.int (cnt x so)) [])
    (so : Int) (h0 : 0 ≤ so) (h1 : ¬ so + 1 > 15) : BRet Tryz.prog 134 [] [.agg [.int 3, .str n, .int d, .d (.sl 4 (l.map Cd.e))], .int so] (.int (if formS 3 n d l.length = true then szF cnt l (so + 1) else -1)) [] := by
  refine BRet.alen 0 3 (by kernel_rfl) rfl rfl fun hl => ?_
  rw [List.length_map] at hl
  have hnm := IsValidName_b n
  have hdy := isDay_b d
  have f1 : ((false : Bool) == true) = false := rfl
  have f2 : (!false) = true := rfl
  have f3 : ((true : Bool) == true) = true := rfl
  have f4 : (!true) = false := rfl
  have f5 : ((true : Bool) == false) = false := rfl
  have f6 : ((false : Bool) == false) = true := rfl
  have z00 : ((0 : Int) != 0) = false := rfl
  have z33 : ((3 : Int) != 3) = false := rfl
  have hwi := within_b 3 1 6
  rw [show inB 3 1 6 = true from rfl] at hwi
  have n32 : ¬ ((3 : Int) = 2) := by decide
  have m32 : ((3 : Int) == 2) = false := rfl
  have hf : formS 3 n d l.length = (decide (l.length = 0) && n.isEmpty && inB d 0 36524) := rfl
  rw [hf]
  clear hf
  refine bof Tryz.func134 ?_
  by_cases hk : l.length = 0
  · have hkb : (l.length : Int) = 0 := by omega
    rw [decide_eq_true hk]
    clear hk
    by_cases h2 : n = []
    · subst h2
      cases hd : inB d 0 36524
      · rw [hd] at hdy
        clear ih
        refine bgo ?_
        refine b_call hwi rfl rfl rfl rfl ?_
        refine bgo ?_
        refine b_call hdy rfl rfl rfl rfl ?_
        refine bgo ?_
        trivial
      · rw [hd] at hdy
        rw [show (true && List.isEmpty ([] : Tx) && true) = true from rfl]
        rw [if_pos rfl]
        generalize hr : szF cnt l (so + 1) = r
        refine bgo ?_
        refine b_call hwi rfl rfl rfl rfl ?_
        refine bgo ?_
        refine b_call hdy rfl rfl rfl rfl ?_
        refine bgo ?_
        refine b_lp (ι := Nat × Int) (fun i => [(1, .int i.2), (65, .d (.sl 4 (l.map Cd.e))), (66, .int 0), (67, .int i.1)]) (fun _ => []) (fun i => i.1 ≤ l.length ∧ 0 ≤ i.2 ∧ i.2 ≤ 15 ∧ szF cnt (l.drop i.1) i.2 = r) (fun i => l.length - i.1) (0, so + 1) hs ⟨Nat.zero_le _, by dsimp only; omega, by dsimp only; omega, hr⟩ ?_
        clear hr h0 h1 hnm hdy hwi
        rintro ⟨k, y⟩ ⟨hk2, hy0, hyx, hj⟩ I nx
        dsimp only at hk2 hy0 hyx hj ⊢
        by_cases hlt : k < l.length
        · exfalso; omega
        · obtain rfl : k = l.length := by omega
          have hltb : ¬ (l.length : Int) < 0 := by omega
          rw [List.drop_length] at hj
          have hj : y = r := hj
          subst hj
          clear ih
          refine bgo ?_
          refine wk_rfl ?_
          refine bgo ?_
          trivial
    · have h2b : n.isEmpty = false := by cases n <;> simp_all
      have h2c : (n == []) = false := by rw [beq_eq_false_iff_ne]; exact h2
      have h2d : (n != []) = true := by rw [bne_iff_ne]; exact h2
      rw [h2b]
      clear ih
      refine bgo ?_
      refine b_call hwi rfl rfl rfl rfl ?_
      refine bgo ?_
      trivial
  · have hkb : ¬ (l.length : Int) = 0 := by omega
    have hkc : ((l.length : Int) == 0) = false := by rw [beq_eq_false_iff_ne]; exact hkb
    rw [decide_eq_false hk]
    clear hk ih
    refine bgo ?_
    refine b_call hwi rfl rfl rfl rfl ?_
    refine bgo ?_
    trivial
end Go.Bee.C24n


namespace Go.Bee.C24n
open Go Go.Bee Go.Proofs Go.Bee.Ty Go.Bee.C23 Go.Bee.C23s Go.Bee.Da Go.Bee.C24 Go.Bee.C24c Go.Bee.C24d Go.Bee.Cn
set_option linter.unusedVariables false
set_option maxRecDepth 20000
attribute [local irreducible] Go.Bee.bwp
theorem countCondition_b (c : Cd) : ∀ so : Int, 0 ≤ so → so ≤ 15 → BRet Tryz.prog 134 [] [.agg [.int c.op, .str c.nm, .int c.dy, .d (.sl 4 (c.ps.map Cd.e))], .int so] (.int (cnt c so)) [] := by
  refine Cd.ind (P := fun c => ∀ so : Int, 0 ≤ so → so ≤ 15 → BRet Tryz.prog 134 [] [.agg [.int c.op, .str c.nm, .int c.dy, .d (.sl 4 (c.ps.map Cd.e))], .int so] (.int (cnt c so)) []) (fun c ih so h0 h1 => ?_) c
  rw [cnt_eq]
  generalize c.op = o at *
  generalize c.nm = n at *
  generalize c.dy = d at *
  generalize c.ps = l at *
  by_cases h15 : so + 1 > 15
  · rw [if_pos (by omega)]
    refine BRet.alen 0 3 (by kernel_rfl) rfl rfl fun hl => ?_
    clear ih
    refine bof Tryz.func134 ?_
    refine bgo ?_
    trivial
  rw [if_neg (by omega)]
  by_cases ho : 1 ≤ o ∧ o ≤ 6
  · rcases (by omega : o = 1 ∨ o = 2 ∨ o = 3 ∨ o = 4 ∨ o = 5 ∨ o = 6) with rfl | rfl | rfl | rfl | rfl | rfl
    · exact count1_b n d l ih so h0 h15
    · exact count2_b n d l ih so h0 h15
    · exact count3_b n d l ih so h0 h15
    · exact count4_b n d l ih so h0 h15
    · exact count5_b n d l ih so h0 h15
    · exact count6_b n d l ih so h0 h15
  · refine BRet.alen 0 3 (by kernel_rfl) rfl rfl fun hl => ?_
    have hwi := within_b o 1 6
    have hfl : inB o 1 6 = false := by
      unfold inB
      by_cases h : o ≥ 1
      · have h2 : ¬ o ≤ 6 := by omega
        simp [h2]
      · simp [h]
    rw [hfl] at hwi
    rw [if_neg (by rw [formS_op ho]; decide)]
    clear ih
    refine bof Tryz.func134 ?_
    refine bgo ?_
    refine b_call hwi rfl rfl rfl rfl ?_
    refine bgo ?_
    trivial
theorem IsValidCondition_b (c : Cd) : BRet Tryz.prog 101 [] [.agg [.int c.op, .str c.nm, .int c.dy, .d (.sl 4 (c.ps.map Cd.e))]] (.bool (okCd c)) [] := by
  have hc := countCondition_b c 0 (by decide) (by decide)
  rw [← cnt_ok]
  generalize c.op = o at *
  generalize c.nm = n at *
  generalize c.dy = d at *
  generalize c.ps = l at *
  generalize cnt c 0 = z at *
  refine bof Tryz.func101 ?_
  refine bgo ?_
  refine b_call hc rfl rfl rfl rfl ?_
  refine bgo ?_
  trivial
def engR (c : Cd) : Tx := if okCd c = true then eng c else []
theorem okCd_in {c : Cd} (h : okCd c = true) : forms c = true ∧ c.size ≤ 15 := by
  unfold okCd at h
  rw [Bool.and_eq_true] at h
  exact ⟨h.1, of_decide_eq_true h.2⟩
theorem opnCdN (n : Nat) : OpnN Tryz.prog 83 Cd.e (fun _ => True) n := by
  induction n using Nat.strongRecOn with
  | _ n ih =>
    refine (opn_struct (n := n) (len := 4) (fun y : Int × List UInt8 × Int × List Cd => Cd.mk y.1 y.2.1 y.2.2.1 y.2.2.2) Tryz.underlying83 (by kernel_rfl) ?_
      (fun m hm => opnS_cons (off2 := 1) rfl ?_ (opn_int Tryz.underlying3 m) (opnS_cons (off2 := 2) rfl ?_ (opn_str Tryz.underlying9 m) (opnS_cons (off2 := 3) rfl ?_ (opn_int Tryz.underlying3 m)
        (opnS_one rfl ?_ (opn_slice (sz := 4) Tryz.underlying81 (by kernel_rfl) (by decide) (of_decide_eq_true (by kernel_rfl)) (fun k hk => ih k (by omega)))))))).imp fun _ _ => trivial
    · intro y; rw [Cd.e_eq]; rfl
    · kernel_rfl
    · kernel_rfl
    · kernel_rfl
    · kernel_rfl
end Go.Bee.C24n

