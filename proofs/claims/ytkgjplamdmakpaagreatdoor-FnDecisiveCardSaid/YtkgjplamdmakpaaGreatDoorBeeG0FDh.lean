/-
The logic and the walks, part 8. No condition.
-/
import Derived.Test.YtkgjplamdmakpaaGreatDoorBeeG0FDd
import Derived.ChangeArms
import Derived.SizedLaws
import Derived.Deep.Slices
import Derived.ChangeOld
import Derived.Below
import Derived.Carry
import Derived.ProofKit
import Derived.Test.YtkgjplamdmakpaaGreatDoorBeeG0FDe
/-
What reads as data is data of the logic; a call that gives true out of it is what a row asks. No condition.
-/
namespace Go.Bee
open Go.ChangeShapes Go.WideShapes Go.ChangeAt Go.RowKit
set_option linter.unusedVariables false

def Old (w : World) : Nat → Nat → Prop := fun g _ => g < w.heap.size
def Cells (w : World) (ps : List PD) (cs : List Value) : Prop := ps.length = cs.length ∧ (∀ x ∈ ps, x.scalar = true) ∧ ∀ (i : Nat) x v, ps[i]? = some x → cs[i]? = some v → RepD (Old w) w x v
theorem Cells.append {w : World} {ps ps' : List PD} {cs cs' : List Value} (h : Cells w ps cs) (k : Cells w ps' cs') : Cells w (ps ++ ps') (cs ++ cs') := by
  obtain ⟨h1, h2, h3⟩ := h
  obtain ⟨k1, k2, k3⟩ := k
  refine ⟨by simp [h1, k1], fun x hx => (List.mem_append.1 hx).elim (h2 x) (k2 x), fun i x v hx hv => ?_⟩
  by_cases hi : i < ps.length
  · rw [List.getElem?_append_left hi] at hx
    rw [List.getElem?_append_left (by omega)] at hv
    exact h3 i x v hx hv
  · rw [List.getElem?_append_right (by omega)] at hx hv
    rw [h1] at hx
    exact k3 _ x v hx hv
/-- All that reads as data of type t is e of something, of which B is true. -/
def OpnN {α : Type} (P : Program) (t : TypeId) (e : α → PD) (B : α → Prop) (fuel : Nat) : Prop :=
  ∀ (H : Type) (enc : TypeId × Value → H) (w : World) (spare : Nat → Bool) (held : Bool) (cs : List Value) (x : DataW H × List MemPlace),
    DataW.trod enc P w 0 spare held fuel t cs = some x → (∀ n ∈ x.1.weights P t, n ≤ reachBytes) → ∃ a, B a ∧ Cells w (e a).cells cs
def Opn {α : Type} (P : Program) (t : TypeId) (e : α → PD) (B : α → Prop) : Prop := ∀ fuel, OpnN P t e B fuel
theorem cells_one {w : World} {x : PD} {v : Value} (hs : x.scalar = true) (h : RepD (Old w) w x v) : Cells w x.cells [v] := by
  have hc : x.cells = [x] := by cases x <;> first | rfl | simp [PD.scalar] at hs
  rw [hc]
  refine ⟨rfl, by simpa using hs, fun i y u hy hu => ?_⟩
  cases i with
  | zero => simp at hy hu; subst hy; subst hu; exact h
  | succ i => simp at hy
theorem opn_int {P : Program} {t : TypeId} {k : IntKind} (ht : P.underlying t = some (.int k)) : Opn P t (fun n : Int => .int k n) (fun n => (Lit.int k n).wf = true) := by
  intro fuel H enc w spare held cs x h _
  obtain ⟨n, rfl, _, hw⟩ := DataW.trod_int ht h
  exact ⟨n, hw, cells_one rfl (.int k n)⟩
theorem opn_bool {P : Program} {t : TypeId} (ht : P.underlying t = some .bool) : Opn P t PD.bool (fun _ => True) := by
  intro fuel H enc w spare held cs x h _
  obtain ⟨n, rfl, _⟩ := DataW.trod_bool ht h
  exact ⟨n, trivial, cells_one rfl (.bool n)⟩
theorem opn_str {P : Program} {t : TypeId} (ht : P.underlying t = some .string) : Opn P t PD.str (fun _ => True) := by
  intro fuel H enc w spare held cs x h hb
  obtain ⟨s, rfl, rfl, _⟩ := DataW.trod_string ht h
  have := hb s.data.toList.length (by simp [DataW.weights])
  refine ⟨s.data.toList, trivial, cells_one rfl ?_⟩
  have hr := RepD.str (S := Old w) (w := w) s.data.toList (by unfold reachBytes at this; omega)
  simpa using hr
theorem choose_list {α : Type} (n : Nat) (R : Nat → α → Prop) (h : ∀ i, i < n → ∃ y, R i y) : ∃ ys : List α, ys.length = n ∧ ∀ i y, ys[i]? = some y → R i y := by
  induction n with
  | zero => exact ⟨[], rfl, fun i y hy => by simp at hy⟩
  | succ n ih =>
    obtain ⟨ys, hl, hr⟩ := ih (fun i hi => h i (by omega))
    obtain ⟨y, hy⟩ := h n (by omega)
    refine ⟨ys ++ [y], by simp [hl], fun i z hz => ?_⟩
    by_cases hi : i < ys.length
    · rw [List.getElem?_append_left hi] at hz
      exact hr i z hz
    · rw [List.getElem?_append_right (by omega)] at hz
      have : i = ys.length := by
        have := (List.getElem?_eq_some_iff.1 hz).1
        simp at this
        omega
      subst this
      simp at hz
      subst hz
      rw [hl]
      exact hy
theorem mem_weightsAll {H : Type} (P : Program) (e : TypeId) {n : Nat} : ∀ (l : List (DataW H)) (d : DataW H), d ∈ l → n ∈ d.weights P e → n ∈ DataW.weightsAll P e l
  | [], d, hd, _ => by simp at hd
  | a :: l, d, hd, hn => by
    rw [DataW.weightsAll, List.mem_append]
    rcases List.mem_cons.1 hd with rfl | hd
    · exact .inl hn
    · exact .inr (mem_weightsAll P e l d hd hn)
theorem cell_lt {w : World} {a : Addr} {v : Value} (h : w.cell? a = some v) : a.block < w.heap.size ∧ a.spot = none := by
  unfold World.cell? at h
  split at h
  · rename_i c _ _ hc
    split at h
    · cases h
    · rename_i hs
      exact ⟨(Array.getElem?_eq_some_iff.1 hc).1, by simpa using hs⟩
  · cases h
theorem run_of_each {w : World} {sz g : Nat} {α : Type} {e : α → PD} : ∀ (ys : List α) (o : Nat), (∀ (i : Nat) y, ys[i]? = some y → ∃ cs : List Value, cs.length = sz ∧ (∀ (j : Nat) u, cs[j]? = some u → w.cell? ⟨g, o + i * sz + j, none⟩ = some u) ∧ Cells w (e y).cells cs) →
    ∃ vs : List Value, vs.length = ys.length * sz ∧ Cells w (flat (ys.map e)) vs ∧ ∀ (i : Nat) v, vs[i]? = some v → w.cell? ⟨g, o + i, none⟩ = some v
  | [], o, _ => ⟨[], by simp, ⟨by simp [flat], by simp [flat], by simp [flat]⟩, by simp⟩
  | y :: ys, o, h => by
    obtain ⟨cs, h1, h2, h3⟩ := h 0 y rfl
    obtain ⟨vs, k1, k2, k3⟩ := run_of_each (w := w) (sz := sz) (g := g) (e := e) ys (o + sz) (fun i z hz => by
      obtain ⟨cs', q1, q2, q3⟩ := h (i + 1) z (by simpa using hz)
      refine ⟨cs', q1, fun j u hu => ?_, q3⟩
      rw [← q2 j u hu]
      congr 2
      rw [Nat.add_mul]; omega)
    refine ⟨cs ++ vs, by simp [h1, k1, Nat.add_mul]; omega, ?_, fun i v hv => ?_⟩
    · rw [List.map_cons, flat_cons]; exact h3.append k2
    · by_cases hi : i < cs.length
      · rw [List.getElem?_append_left hi] at hv
        have := h2 i v hv
        simpa using this
      · rw [List.getElem?_append_right (by omega)] at hv
        rw [← k3 _ v hv]
        congr 2
        omega
theorem opn_slice {P : Program} {t e : TypeId} {α : Type} {d : α → PD} {B : α → Prop} {sz fuel : Nat} (ht : P.underlying t = some (.slice e)) (hC : P.cellsOf e = sz) (hz : 0 < sz) (hby : 0 < P.bytesOf e)
    (h : ∀ n, n < fuel → OpnN P e d B n) : OpnN P t (fun l : List α => .sl sz (l.map d)) (fun l => ∀ a ∈ l, B a) fuel := by
  intro H enc w spare held cs x hx hw
  rcases DataW.trod_slice ht hx with ⟨rfl, _⟩ | ⟨a, len, cap, elems, rest, n, rfl, rfl, rfl, _, hl, hm, hlen, hel, _, _⟩
  · exact ⟨[], by simp, cells_one rfl (.nil sz)⟩
  · have hw2 : ∀ y ∈ elems, ∀ k ∈ y.1.weights P e, k ≤ reachBytes := fun y hy k hk => hw k (by
      rw [DataW.weights, ht]
      refine List.mem_cons_of_mem _ (List.mem_append_left _ (mem_weightsAll P e _ y.1 (List.mem_map_of_mem hy) hk)))
    obtain ⟨ys, hyl, hy⟩ := choose_list (α := α) len (fun i y => ∃ cs', w.cells? 0 (a.add (i * sz)) sz = some cs' ∧ B y ∧ Cells w (d y).cells cs') (fun i hi => by
      have h1 := hel i hi
      rw [List.getElem?_eq_getElem (by omega), Option.bind_eq_some_iff] at h1
      obtain ⟨cs', hc, hd⟩ := h1
      obtain ⟨y, hB, hk⟩ := h n (by omega) H enc w spare held cs' _ hd (hw2 _ (List.getElem_mem _))
      rw [hC] at hc
      exact ⟨y, cs', hc, hB, hk⟩)
    refine ⟨ys, fun y hm => ?_, cells_one rfl ?_⟩
    · obtain ⟨i, hi⟩ := List.getElem?_of_mem hm
      exact (hy i y hi).choose_spec.2.1
    · by_cases h0 : ys = []
      · subst h0
        simp only [List.length_nil] at hyl
        subst hyl
        exact .emp sz a cap
      · have hpos : 0 < ys.length := List.length_pos_iff.2 h0
        obtain ⟨cs0, hc0, -, hk0⟩ := hy 0 ys[0] (List.getElem?_eq_getElem hpos)
        obtain ⟨_, hcl0, hat0⟩ := World.cells?_some hc0
        have hcell := hat0 0 hz
        rw [List.getElem?_eq_getElem (by omega)] at hcell
        have hsp := (cell_lt hcell).2
        have hbl := (cell_lt hcell).1
        obtain ⟨g, o, sp⟩ := a
        have hsp' : sp = none := by simpa [Addr.add] using hsp
        subst hsp'
        obtain ⟨vs, k1, k2, k3⟩ := run_of_each (w := w) (sz := sz) (g := g) (e := d) ys o (fun i y hyi => by
          obtain ⟨cs', hc, hB, hk⟩ := hy i y hyi
          obtain ⟨_, hcl, hat⟩ := World.cells?_some hc
          refine ⟨cs', hcl, fun j u hu => ?_, hk⟩
          have hj : j < sz := by rw [← hcl]; exact (List.getElem?_eq_some_iff.1 hu).1
          have := hat j hj
          rw [hu, Addr.add_lit, Addr.add_lit] at this
          exact this)
        have hll : ys.length = (ys.map d).length := by simp
        have hmax : ys.length ≤ 140737488355328 := by
          have h1 : (elems.length + rest.length) * P.bytesOf e ≤ reachBytes := hw _ (by simp [DataW.weights, ht])
          have h2 : ys.length ≤ (elems.length + rest.length) * P.bytesOf e := Nat.le_trans (by omega) (Nat.le_mul_of_pos_right _ hby)
          unfold reachBytes at h1; omega
        rw [← hyl, hll]
        refine .sl sz (ys.map d) g o cap vs (by rw [← hll]; exact hmax) (by rw [← hll]; omega) (fun x hx => ?_) k2.2.1 k2.1.symm (fun i v hv => ⟨(cell_lt (k3 i v hv)).1, k3 i v hv⟩) k2.2.2
        obtain ⟨y, hym, rfl⟩ := List.mem_map.1 hx
        obtain ⟨i, hi⟩ := List.getElem?_of_mem hym
        obtain ⟨cs', hc, _, hk⟩ := hy i y hi
        obtain ⟨_, hcl, _⟩ := World.cells?_some hc
        rw [hk.1, hcl]
/-! Structs: field by field. -/
def OpnF {α : Type} (P : Program) (fs : List Field) (off : Nat) (e : α → List PD) (B : α → Prop) (n : Nat) : Prop :=
  ∀ (H : Type) (enc : TypeId × Value → H) (w : World) (spare : Nat → Bool) (held : Bool) (cs : List Value) (xs : List (DataW H × List MemPlace)), xs.length = fs.length →
    (∀ (i : Nat) (f : Field), fs[i]? = some f → DataW.trod enc P w 0 spare held n f.type ((cs.drop f.offset).take (P.cellsOf f.type)) = xs[i]?) →
    (∀ k ∈ DataW.weightsEach P (fs.map (·.type)) (xs.map (·.1)), k ≤ reachBytes) → ∃ y, B y ∧ Cells w (e y) (cs.drop off)
theorem opnF_nil {P : Program} {n off : Nat} : OpnF P [] off (fun _ : Unit => []) (fun _ => True) n → True := fun _ => trivial
theorem opnF_one {P : Program} {α : Type} {e : α → PD} {B : α → Prop} {n sz : Nat} {f : Field} {off : Nat} (ho : f.offset = off) (hC : P.cellsOf f.type = sz) (h : OpnN P f.type e B n) :
    ∀ (H : Type) (enc : TypeId × Value → H) (w : World) (spare : Nat → Bool) (held : Bool) (cs : List Value) (xs : List (DataW H × List MemPlace)), xs.length = [f].length → cs.length = off + sz →
    (∀ (i : Nat) (g : Field), [f][i]? = some g → DataW.trod enc P w 0 spare held n g.type ((cs.drop g.offset).take (P.cellsOf g.type)) = xs[i]?) →
    (∀ k ∈ DataW.weightsEach P ([f].map (·.type)) (xs.map (·.1)), k ≤ reachBytes) → ∃ y, B y ∧ Cells w (e y).cells (cs.drop off) := by
  intro H enc w spare held cs xs hl hcl hx hw
  match xs, hl with
  | [x], _ =>
    have h1 := hx 0 f rfl
    obtain ⟨y, hB, hk⟩ := h H enc w spare held _ x h1 (fun k hk => hw k (by simp [DataW.weightsEach, hk]))
    rw [ho, hC, List.take_of_length_le (by simp; omega)] at hk
    exact ⟨y, hB, hk⟩
/-- A struct's fields from off on read as e of something. -/
def OpnS {α : Type} (P : Program) (fs : List Field) (off len : Nat) (e : α → List PD) (B : α → Prop) (n : Nat) : Prop :=
  ∀ (H : Type) (enc : TypeId × Value → H) (w : World) (spare : Nat → Bool) (held : Bool) (cs : List Value) (xs : List (DataW H × List MemPlace)), xs.length = fs.length → cs.length = len →
    (∀ (i : Nat) (f : Field), fs[i]? = some f → DataW.trod enc P w 0 spare held n f.type ((cs.drop f.offset).take (P.cellsOf f.type)) = xs[i]?) →
    (∀ k ∈ DataW.weightsEach P (fs.map (·.type)) (xs.map (·.1)), k ≤ reachBytes) → ∃ y, B y ∧ Cells w (e y) (cs.drop off)
theorem opnS_one {P : Program} {α : Type} {e : α → PD} {B : α → Prop} {n off len : Nat} {f : Field} (ho : f.offset = off) (hC : off + P.cellsOf f.type = len) (h : OpnN P f.type e B n) : OpnS P [f] off len (fun y => (e y).cells) B n := by
  intro H enc w spare held cs xs hl hcl hx hw
  match xs, hl with
  | [x], _ =>
    have h1 := hx 0 f rfl
    obtain ⟨y, hB, hk⟩ := h H enc w spare held _ x h1 (fun k hk => hw k (by simp [DataW.weightsEach, hk]))
    rw [ho, List.take_of_length_le (by simp; omega)] at hk
    exact ⟨y, hB, hk⟩
theorem opnS_cons {P : Program} {α β : Type} {e : α → PD} {e2 : β → List PD} {B : α → Prop} {B2 : β → Prop} {n off off2 len : Nat} {f : Field} {fs : List Field} (ho : f.offset = off) (ho2 : off + P.cellsOf f.type = off2) (h : OpnN P f.type e B n) (h2 : OpnS P fs off2 len e2 B2 n) :
    OpnS P (f :: fs) off len (fun y : α × β => (e y.1).cells ++ e2 y.2) (fun y => B y.1 ∧ B2 y.2) n := by
  intro H enc w spare held cs xs hl hcl hx hw
  match xs, hl with
  | x :: xs, hl =>
    have h1 := hx 0 f rfl
    obtain ⟨y, hB, hk⟩ := h H enc w spare held _ x h1 (fun k hk => hw k (by simp [DataW.weightsEach, hk]))
    obtain ⟨y2, hB2, hk2⟩ := h2 H enc w spare held cs xs (by simpa using hl) hcl (fun i g hg => hx (i + 1) g (by simpa using hg)) (fun k hk => hw k (by simp [DataW.weightsEach, hk]))
    refine ⟨(y, y2), ⟨hB, hB2⟩, ?_⟩
    have e1 : cs.drop off = (cs.drop off).take (P.cellsOf f.type) ++ cs.drop off2 := by
      rw [← ho2, ← List.drop_drop, List.take_append_drop]
    rw [e1]
    rw [ho] at hk
    exact hk.append hk2
theorem opn_struct {P : Program} {t : TypeId} {α β : Type} {fs : Array Field} {d : α → List PD} {e : β → PD} {B : α → Prop} {n len : Nat} (f : α → β) (ht : P.underlying t = some (.struct fs)) (hC : P.cellsOf t = len) (he : ∀ y, (e (f y)).cells = d y)
    (h : ∀ m, m < n → OpnS P fs.toList 0 len d B m) : OpnN P t e (fun b => ∃ a, f a = b ∧ B a) n := by
  intro H enc w spare held cs x hx hw
  obtain ⟨xs, m, rfl, rfl, hl, hxl, hf⟩ := DataW.trod_struct ht hx
  obtain ⟨y, hB, hk⟩ := h m (by omega) H enc w spare held cs xs (by simpa using hxl) (by rw [hl, hC]) (fun i f hi => hf i f (by simpa using hi)) (fun k hk => hw k (by rw [DataW.weights, ht]; exact hk))
  refine ⟨f y, ⟨y, rfl, hB⟩, ?_⟩
  rw [he]
  simpa using hk
theorem OpnN.imp {α : Type} {P : Program} {t : TypeId} {e : α → PD} {B B' : α → Prop} {n : Nat} (h : OpnN P t e B n) (hb : ∀ a, B a → B' a) : OpnN P t e B' n := by
  intro H enc w spare held cs x hx hw
  obtain ⟨a, hB, hk⟩ := h H enc w spare held cs x hx hw
  exact ⟨a, hb a hB, hk⟩

theorem weights_of_each {H : Type} {P : Program} {ts : List TypeId} {ds : List (DataW H)} {j : Nat} {t : TypeId} {d : DataW H} (h : (DataW.weightsEach P ts ds).all (· ≤ reachBytes) = true) (ht : ts[j]? = some t) (hd : ds[j]? = some d) : ∀ n ∈ d.weights P t, n ≤ reachBytes := by
  intro n hn
  have := List.all_eq_true.1 h _ (DataW.weights_mem_each ht hd n hn)
  simpa using this
/-- A law's argument, by its reading. -/
theorem arg_opn {H : Type} {enc : TypeId × Value → H} {P : Program} {t : TypeId} {α : Type} {e : α → PD} {B : α → Prop} {W : World} {spare : Nat → Bool} {held : Bool} {v : Value} {x : DataW H} {p : List MemPlace} {ts : List TypeId} {ds : List (DataW H)} {j : Nat} (h : Opn P t e B)
    (hsz : (DataW.weightsEach P ts ds).all (· ≤ reachBytes) = true) (ht : ts[j]? = some t) (hd : ds[j]? = some x) (hv : DataW.Trod enc P W 0 spare held t v x p) : ∃ y, B y ∧ Cells W (e y).cells v.cells.toList := by
  obtain ⟨fuel, hf⟩ := hv
  exact h fuel H enc W spare held _ _ hf (weights_of_each hsz ht hd)
/-- The ghost at a call's start: all that lies there stays as it is. -/
def G0 (W : World) : Gh := { im := Old W, β := fun _ => 0, live := fun _ => False, own := fun _ => none, fz := fun g => g < W.heap.size }
theorem G0_hp (P : Program) (W : World) : Hp P (G0 W) W (bxOf []) :=
  ⟨fun b cells hc => (by cases b <;> simp [bxOf] at hc), fun b => (by cases b <;> simp [bxOf, G0]), fun b b' hl => False.elim hl, fun g o h => h, fun g p hg => (by cases hg), fun b hl => False.elim hl, fun b hl => False.elim hl⟩
theorem rep_agg {P : Program} {W : World} {i : Nat} {ps : List PD} {cs : Array Value} (h : Cells W ps cs.toList) : RepT P (G0 W) W (.t i) (.agg (ps.map .d)) (.agg cs) := by
  obtain ⟨h1, h2, h3⟩ := h
  refine ⟨cs, rfl, by simp [h1], fun u hu => ?_, fun j x u hx hu => ?_⟩
  · obtain ⟨j, hj, rfl⟩ := Array.mem_iff_getElem.1 hu
    have hj2 : j < ps.length := by rw [h1]; simpa using hj
    exact (h3 j ps[j] cs[j] (List.getElem?_eq_getElem hj2) (by simp [hj])).oneCell (h2 _ (List.getElem_mem hj2))
  · rw [List.getElem?_map] at hx
    obtain ⟨y, hy, rfl⟩ := Option.map_eq_some_iff.1 hx
    exact ⟨h3 j y u hy (by simpa using hu), h2 y (List.mem_of_getElem? hy)⟩
theorem rep_one {P : Program} {W : World} {i : Nat} {x : PD} {v : Value} (hs : x.scalar = true) (hv : v.cells = #[v]) (h : Cells W x.cells v.cells.toList) : RepT P (G0 W) W (.t i) (.d x) v := by
  have hc : x.cells = [x] := by cases x <;> first | rfl | simp [PD.scalar] at hs
  rw [hc, hv] at h
  exact ⟨h.2.2 0 x v rfl rfl, hs⟩
/-- A call that is told to give true, made from outside. -/
theorem call_true {P : Program} {f : Nat} {args : List PV} {vs : Array Value} {W : World} (h : BRet P f [] args (.bool true) []) (hl : vs.size = args.length) (ha : ∀ (i : Nat) x u, args[i]? = some x → vs[i]? = some u → RepT P (G0 W) W (.t i) x u) (htb : TabOk P (fun g => g < W.heap.size) W) :
    Calls P f vs W fun e W' => e = .returned (.bool true) ∧ Below W.heap.size W W' := by
  refine Calls.mono (h.2.2 (G0 W) W vs (fun _ => False) hl ha (G0_hp P W) (fun g p hg => by cases hg) (fun b hl => False.elim hl) (fun g hg => ⟨hg, id⟩) (fun g h1 _ => h1) htb) ?_
  rintro e W' ⟨v, G', rfl, hv, -, hx, -⟩
  obtain ⟨hv, -⟩ := hv
  cases hv
  exact ⟨rfl, hx.os, hx.tape, hx.output, hx.size, fun k hk => hx.old k hk id⟩
end Go.Bee

/- What a law's code of bytes reads as. -/
namespace Go.Bee.Dr
open Go Go.Bee Go.Proofs Go.Bee.Ty
set_option linter.unusedVariables false
theorem opnCode : Opn Tryz.prog 22 (fun bs : List UInt8 => .sl 1 (by1 bs)) (fun _ => True) := fun n => by
  have h := opn_slice (P := Tryz.prog) (d := fun n : Int => PD.int .u8 n) (B := fun n : Int => (Lit.int .u8 n).wf = true) (sz := 1) (fuel := n) Tryz.underlying22 (by kernel_rfl) (by decide) (of_decide_eq_true (by kernel_rfl)) (fun m _ => opn_int Tryz.underlying5 m)
  intro H enc w spare held cs x hx hw
  obtain ⟨l, hB, hc⟩ := h H enc w spare held cs x hx hw
  refine ⟨l.map fun n => UInt8.ofNat n.toNat, trivial, ?_⟩
  have e : by1 (l.map fun n => UInt8.ofNat n.toNat) = l.map (PD.int .u8) := by
    unfold by1
    rw [List.map_map]
    refine List.map_congr_left fun n hn => ?_
    have hwf := hB n hn
    have hr : 0 ≤ n ∧ n ≤ 255 := by
      simp only [Lit.wf, Bool.and_eq_true, decide_eq_true_eq] at hwf
      have h1 : IntKind.u8.min = 0 := by decide
      have h2 : IntKind.u8.max = 255 := by decide
      omega
    show PD.int .u8 ((UInt8.ofNat n.toNat).toNat : Int) = PD.int .u8 n
    have : (UInt8.ofNat n.toNat).toNat = n.toNat := by simp [UInt8.toNat_ofNat']; omega
    rw [this]
    congr 1
    omega
  show Cells w (PD.sl 1 (by1 (l.map fun n => UInt8.ofNat n.toNat))).cells cs
  rw [e]; exact hc
end Go.Bee.Dr
