/-
An argument of a law that reads as data is a value of its kind: whole numbers, bools, strings, slices, structs and trees, each with its bounds.
-/
import Derived.Test.YtlneimpoholkhaaVWords
import Derived.ChangeArms
import Derived.SizedLaws
import Derived.Deep.Slices
namespace Go.Proofs.YtlneimpoholkhaaOpen
open Go.RowKit Go.ChangeShapes Go.WideShapes Go.Proofs.YtlneimpoholkhaaW.PrintWords

def bStr (s : ByteArray) : Prop := s.size ≤ 140737488351232
def bInt (k : IntKind) (n : Int) : Prop := (Lit.int k n).wf = true
def bTrue {α : Type} (_ : α) : Prop := True
def bSl {α : Type} (bytes : Nat) (B : α → Prop) (l : List α) : Prop := l.length ≤ maxLen ∧ l.length * bytes ≤ 140737488351232 ∧ ∀ x ∈ l, B x

def OpensN {α : Type} (P : Program) (t : TypeId) (d : Kd α) (B : α → Prop) (fuel : Nat) : Prop :=
  ∀ (H : Type) (enc : TypeId × Value → H) (w : World) (spare : Nat → Bool) (held : Bool) (cs : List Value) (x : DataW H × List MemPlace),
    DataW.trod enc P w 0 spare held fuel t cs = some x → (∀ n ∈ x.1.weights P t, n ≤ reachBytes) → ∃ y, d.K w y cs ∧ B y
def Opens {α : Type} (P : Program) (t : TypeId) (d : Kd α) (B : α → Prop) : Prop := ∀ fuel, OpensN P t d B fuel

theorem opens_int {P : Program} {t : TypeId} {k : IntKind} (ht : P.underlying t = some (.int k)) : Opens P t (Kd.int k) (bInt k) := by
  intro fuel H enc w spare held cs x h _
  obtain ⟨n, rfl, _, hw⟩ := DataW.trod_int ht h
  exact ⟨n, rfl, hw⟩
theorem opens_bool {P : Program} {t : TypeId} (ht : P.underlying t = some .bool) : Opens P t Kd.bool bTrue := by
  intro fuel H enc w spare held cs x h _
  obtain ⟨n, rfl, _⟩ := DataW.trod_bool ht h
  exact ⟨n, rfl, trivial⟩
theorem opens_string {P : Program} {t : TypeId} (ht : P.underlying t = some .string) : Opens P t Kd.string bStr := by
  intro fuel H enc w spare held cs x h hb
  obtain ⟨s, rfl, rfl, _⟩ := DataW.trod_string ht h
  refine ⟨s, rfl, ?_⟩
  have := hb s.data.toList.length (by simp [DataW.weights])
  rw [data_length] at this
  exact this

theorem choose_list {α : Type} (n : Nat) (R : Nat → α → Prop) (h : ∀ i, i < n → ∃ y, R i y) : ∃ ys : List α, ys.length = n ∧ ∀ i y, ys[i]? = some y → R i y := by
  induction n with
  | zero => exact ⟨[], rfl, fun i y hy => by simp at hy⟩
  | succ n ih =>
    obtain ⟨ys, hl, hr⟩ := ih (fun i hi => h i (by omega))
    obtain ⟨y, hy⟩ := h n (by omega)
    refine ⟨ys ++ [y], by simp [hl], fun i z hz => ?_⟩
    by_cases hi : i < ys.length
    · rw [List.getElem?_append_left hi] at hz
      exact hr i z hz
    · rw [List.getElem?_append_right (by omega)] at hz
      have : i = ys.length := by
        have := (List.getElem?_eq_some_iff.1 hz).1
        simp at this
        omega
      subst this
      simp at hz
      subst hz
      rw [hl]
      exact hy

theorem mem_weightsAll {H : Type} (P : Program) (e : TypeId) {n : Nat} : ∀ (l : List (DataW H)) (d : DataW H), d ∈ l → n ∈ d.weights P e → n ∈ DataW.weightsAll P e l
  | [], d, hd, _ => by simp at hd
  | a :: l, d, hd, hn => by
    rw [DataW.weightsAll, List.mem_append]
    rcases List.mem_cons.1 hd with rfl | hd
    · exact .inl hn
    · exact .inr (mem_weightsAll P e l d hd hn)

theorem opens_slice {P : Program} {t e : TypeId} {α : Type} {d : Kd α} {B : α → Prop} {bytes fuel : Nat} (ht : P.underlying t = some (.slice e)) (hC : P.cellsOf e = d.sz) (hb : P.bytesOf e = bytes)
    (h : ∀ n, n < fuel → OpensN P e d B n) : OpensN P t (Kd.slice e d) (bSl bytes B) fuel := by
  intro H enc w spare held cs x hx hw
  rcases DataW.trod_slice ht hx with ⟨rfl, _⟩ | ⟨a, len, cap, elems, rest, n, rfl, rfl, rfl, _, hl, hm, hlen, hel, _, _⟩
  · exact ⟨[], ⟨none, 0, rfl, by simp, Kd.C_nil d w⟩, by simp [maxLen], by simp, fun x hx => by simp at hx⟩
  · have hw1 : (elems.length + rest.length) * P.bytesOf e ≤ reachBytes := hw _ (by simp [DataW.weights, ht])
    have hw2 : ∀ y ∈ elems, ∀ k ∈ y.1.weights P e, k ≤ reachBytes := fun y hy k hk => hw k (by
      rw [DataW.weights, ht]
      refine List.mem_cons_of_mem _ (List.mem_append_left _ (mem_weightsAll P e _ y.1 (List.mem_map_of_mem hy) hk)))
    obtain ⟨ys, hyl, hy⟩ := choose_list (α := α) len (fun i y => ∃ cs', w.cells? 0 (a.add (i * P.cellsOf e)) (P.cellsOf e) = some cs' ∧ d.K w y cs' ∧ B y) (fun i hi => by
      have h1 := hel i hi
      rw [List.getElem?_eq_getElem (by omega), Option.bind_eq_some_iff] at h1
      obtain ⟨cs', hc, hd⟩ := h1
      obtain ⟨y, hk, hB⟩ := h n (by omega) H enc w spare held cs' _ hd (hw2 _ (List.getElem_mem _))
      exact ⟨y, cs', hc, hk, hB⟩)
    refine ⟨ys, ⟨some a, cap, by rw [hyl], by omega, ⟨rfl, by rw [hyl]; unfold maxLen at hm; omega, fun _ => ⟨a, rfl, fun j p hj => ?_⟩⟩⟩, by unfold maxLen at hm ⊢; omega, ?_, fun y hm => ?_⟩
    · obtain ⟨cs', hc, hk, _⟩ := hy j p hj
      obtain ⟨_, hcl, hat⟩ := World.cells?_some hc
      refine ⟨cs', by rw [hcl, hC], hk, fun i u hu => ?_⟩
      have hi : i < P.cellsOf e := by
        have := (List.getElem?_eq_some_iff.1 hu).1
        omega
      rw [← hC, ← Go.Deep.add_add, hat i hi, hu]
    · rw [hyl, ← hb]
      refine Nat.le_trans (Nat.mul_le_mul_right _ ?_) hw1
      omega
    · obtain ⟨i, hi⟩ := List.getElem?_of_mem hm
      exact (hy i y hi).choose_spec.2.2

def OpensF {α : Type} (P : Program) (fs : List Field) (off : Nat) (d : Kd α) (B : α → Prop) (n : Nat) : Prop :=
  ∀ (H : Type) (enc : TypeId × Value → H) (w : World) (spare : Nat → Bool) (held : Bool) (cs : List Value) (xs : List (DataW H × List MemPlace)), xs.length = fs.length →
    (∀ (i : Nat) (f : Field), fs[i]? = some f → DataW.trod enc P w 0 spare held n f.type ((cs.drop f.offset).take (P.cellsOf f.type)) = xs[i]?) →
    (∀ k ∈ DataW.weightsEach P (fs.map (·.type)) (xs.map (·.1)), k ≤ reachBytes) → ∃ y, d.K w y ((cs.drop off).take d.sz) ∧ B y

theorem opensF_one {P : Program} {α : Type} {d : Kd α} {B : α → Prop} {n : Nat} {f : Field} {off : Nat} (ho : f.offset = off) (hC : P.cellsOf f.type = d.sz) (h : OpensN P f.type d B n) : OpensF P [f] off d B n := by
  intro H enc w spare held cs xs hl hx hw
  match xs, hl with
  | [x], _ =>
    have h1 := hx 0 f rfl
    obtain ⟨y, hk, hB⟩ := h H enc w spare held _ x h1 (fun k hk => hw k (by simp [DataW.weightsEach, hk]))
    rw [ho, hC] at hk
    exact ⟨y, hk, hB⟩
theorem opensF_cons {P : Program} {α β : Type} {d : Kd α} {d2 : Kd β} {B : α → Prop} {B2 : β → Prop} {n : Nat} {f : Field} {fs : List Field} {off off2 : Nat} (ho : f.offset = off) (hC : P.cellsOf f.type = d.sz) (ho2 : off2 = off + d.sz) (h : OpensN P f.type d B n)
    (h2 : OpensF P fs off2 d2 B2 n) : OpensF P (f :: fs) off (Kd.pair d d2) (fun x => B x.1 ∧ B2 x.2) n := by
  intro H enc w spare held cs xs hl hx hw
  match xs, hl with
  | x :: xs, hl =>
    have h1 := hx 0 f rfl
    obtain ⟨y, hk, hB⟩ := h H enc w spare held _ x h1 (fun k hk => hw k (by simp [DataW.weightsEach, hk]))
    obtain ⟨y2, hk2, hB2⟩ := h2 H enc w spare held cs xs (by simpa using hl) (fun i g hg => hx (i + 1) g (by simpa using hg)) (fun k hk => hw k (by simp [DataW.weightsEach, hk]))
    rw [ho, hC] at hk
    rw [ho2] at hk2
    refine ⟨(y, y2), ⟨_, _, ?_, hk, hk2⟩, hB, hB2⟩
    show (cs.drop off).take (d.sz + d2.sz) = _
    rw [List.take_add, List.drop_drop]
theorem opens_struct {P : Program} {t : TypeId} {α β : Type} {fs : Array Field} {d : Kd α} {B : α → Prop} {n : Nat} (f : β → α) (g : α → β) (hfg : ∀ y, f (g y) = y) (ht : P.underlying t = some (.struct fs)) (hC : P.cellsOf t = d.sz)
    (h : ∀ m, m < n → OpensF P fs.toList 0 d B m) : OpensN P t (Kd.iso d f) (fun x => B (f x)) n := by
  intro H enc w spare held cs x hx hw
  obtain ⟨xs, m, rfl, rfl, hl, hxl, hf⟩ := DataW.trod_struct ht hx
  obtain ⟨y, hk, hB⟩ := h m (by omega) H enc w spare held cs xs (by simpa using hxl) (fun i f hi => hf i f (by simpa using hi)) (fun k hk => hw k (by rw [DataW.weights, ht]; exact hk))
  refine ⟨g y, ?_, by show B (f (g y)); rw [hfg]; exact hB⟩
  show d.K w (f (g y)) cs
  rw [hfg]
  rw [List.drop_zero, ← hC, ← hl, List.take_length] at hk
  exact hk
theorem opens_fix {P : Program} {t : TypeId} {α : Type} {F : Kd α → Kd α} {sz : Nat} {E : List Nat} {hs : ∀ n, (Kd.upto F sz E n).sz = sz} {hE : ∀ n q, q ∈ (Kd.upto F sz E n).E → q ∈ E} {B : Nat → α → Prop}
    (hm : Kd.Mono F) (h : ∀ n (d : Kd α), d.sz = sz → (∀ m, m < n → OpensN P t d (B m) m) → OpensN P t (F d) (B n) n) : Opens P t (Kd.fix F sz E hs hE) (fun x => ∃ n, B n x) := by
  have key : ∀ n, OpensN P t (Kd.upto F sz E n) (B n) n := by
    intro n
    induction n using Nat.strongRecOn with
    | _ n ih =>
      cases n with
      | zero =>
        intro H enc w spare held cs x hx _
        simp [DataW.trod] at hx
      | succ n =>
        refine h (n + 1) _ (hs n) (fun m hm' => ?_)
        intro H enc w spare held cs x hx hw
        obtain ⟨y, hk, hB⟩ := ih m hm' H enc w spare held cs x hx hw
        exact ⟨y, Kd.upto_K_le hm hs (by omega) hk, hB⟩
  intro n H enc w spare held cs x hx hw
  obtain ⟨y, hk, hB⟩ := key n H enc w spare held cs x hx hw
  exact ⟨y, ⟨n, hk⟩, n, hB⟩

theorem weights_of_each {H : Type} {P : Program} {ts : List TypeId} {ds : List (DataW H)} {j : Nat} {t : TypeId} {d : DataW H} (h : (DataW.weightsEach P ts ds).all (· ≤ reachBytes) = true) (ht : ts[j]? = some t) (hd : ds[j]? = some d) : ∀ n ∈ d.weights P t, n ≤ reachBytes := by
  intro n hn
  have := List.all_eq_true.1 h _ (DataW.weights_mem_each ht hd n hn)
  simpa using this

/-- A law's argument, by its reading. -/
theorem arg_opens {H : Type} {enc : TypeId × Value → H} {P : Program} {t : TypeId} {α : Type} {d : Kd α} {B : α → Prop} {W : World} {spare : Nat → Bool} {held : Bool} {v : Value} {x : DataW H} {p : List MemPlace} {ts : List TypeId} {ds : List (DataW H)} {j : Nat} (h : Opens P t d B)
    (hsz : (DataW.weightsEach P ts ds).all (· ≤ reachBytes) = true) (ht : ts[j]? = some t) (hd : ds[j]? = some x) (hv : DataW.Trod enc P W 0 spare held t v x p) : ∃ y, d.K W y v.cells.toList ∧ B y := by
  obtain ⟨fuel, hf⟩ := hv
  exact h fuel H enc W spare held _ _ hf (weights_of_each hsz ht hd)
end Go.Proofs.YtlneimpoholkhaaOpen
