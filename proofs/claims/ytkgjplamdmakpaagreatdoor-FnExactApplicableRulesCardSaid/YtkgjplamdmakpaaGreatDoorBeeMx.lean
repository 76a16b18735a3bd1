/-
Calls that look at what is nobody's, that make what is nobody's, that write to it. No condition.
-/
import Derived.Test.YtkgjplamdmakpaaGreatDoorBeeM
namespace Go.Bee
set_option linter.unusedVariables false

theorem callX {P : Program} {a : Act} {w : World} {o : Oper} {f : Nat} {xs : List Operand} {ys : List PV} {r : PV} (hop : isValCall o (.func f) xs) (hlen : ys.length = xs.length) (hret : BRet P f [] ys r []) (Gc : Gh) (Wr : Nat → Prop)
    (hargs : ∀ (i : Nat) x y, xs[i]? = some x → ys[i]? = some y → RepT P Gc w (.t i) y (a.eval x)) (him : ∀ g o, Gc.im g o → g < w.heap.size) (hown : ∀ g, Gc.own g = none) (hlive : ∀ b, ¬ Gc.live b) (hfz : ∀ g, Gc.fz g ↔ g < w.heap.size ∧ ¬ Wr g)
    {K : Act → World → Prop} {Q : Exit → Act → World → Prop}
    (hK : ∀ v G' w', RepT P G' w' .res r v → Ext Gc.im w G'.im w' Wr → (∀ g p, G'.own g = some p → w.heap.size ≤ g ∨ Wr g) → (∀ g, FreeB Gc w g → KindSame w w' g ∧ (∃ cs e, w'.heap[g]? = some (.cells cs e (0, 0))) ∧ G'.own g = none ∧ ∀ o, ¬ G'.im g o) → Hp P G' w' (bxOf []) → K (a.put o.dst v) w') : o.wp P a w K Q := by
  obtain ⟨ts, hop⟩ := hop
  obtain ⟨hisfn, -, hret⟩ := hret
  have hp : Hp P Gc w (bxOf []) := ⟨fun b cells hc => (by cases b <;> simp [bxOf] at hc), fun b => (by cases b <;> simp [bxOf, hlive]), fun b b' hl => absurd hl (hlive b), him, fun g p hg => (by rw [hown g] at hg; cases hg), fun b hl => absurd hl (hlive b), fun b hl => absurd hl (hlive b)⟩
  have hcalls := hret Gc w (xs.toArray.map a.eval) Wr (by simp [hlen]) (fun i y u hy hu => by
      have hil : i < xs.length := by rw [← hlen]; exact (List.getElem?_eq_some_iff.1 hy).1
      have hu' : u = a.eval xs[i] := by simp [hil] at hu; exact hu.symm
      subst hu'
      exact hargs i _ y (List.getElem?_eq_getElem hil) hy) hp (fun g p hg => by rw [hown g] at hg; cases hg) (fun b hl => absurd hl (hlive b)) (fun g hg => (hfz g).1 hg) (fun g h1 h2 => (hfz g).2 ⟨h1, h2⟩)
  have hrunX : (execOp a.eval o).run P w = .ok (.enter f (xs.toArray.map a.eval)) w := by
    have := run_callFunc hisfn (xs.toArray.map a.eval) w
    simp [execOp, hop, resolve, Deferred.ofValue, Act.eval, invoke]
    simpa [Act.eval] using this
  unfold Oper.wp
  rw [hrunX]
  refine Calls.mono hcalls fun e w' hR => ?_
  obtain ⟨rv, G', rfl, hrv, hpG, hext, -, hown', hz⟩ := hR
  exact hK rv G' w' hrv hext hown' hz hpG

theorem plain_sc {S S' : Nat → Nat → Prop} {w w' : World} {x : PD} {v : Value} (hp : x.plain = true) (hs : x.scalar = true) (h : RepD S w x v) : RepD S' w' x v := by
  cases h with
  | bool b => exact .bool b
  | int k n => exact .int k n
  | str l hb => exact .str l hb
  | agg => cases hs
  | _ => cases hp
inductive All2 {α β : Type} (R : α → β → Prop) : List α → List β → Prop
  | nil : All2 R [] []
  | cons {a : α} {b : β} {l : List α} {m : List β} (h : R a b) (k : All2 R l m) : All2 R (a :: l) (b :: m)
theorem All2.len {α β : Type} {R : α → β → Prop} {l : List α} {m : List β} (h : All2 R l m) : m.length = l.length := by
  induction h with
  | nil => rfl
  | cons h k ih => simp [ih]
theorem All2.get {α β : Type} {R : α → β → Prop} {l : List α} {m : List β} (h : All2 R l m) : ∀ (j : Nat) x y, l[j]? = some x → m[j]? = some y → R x y := by
  induction h with
  | nil => intro j x y h; simp at h
  | cons h k ih =>
    intro j x y hx hy
    cases j with
    | zero => simp at hx hy; subst hx; subst hy; exact h
    | succ j => simp at hx hy; exact ih j x y hx hy
/-! Lent: what is read as data. -/
inductive Lend (B : Bx) : PV → PV → Prop
  | d (x : PD) : Lend B (.d x) (.d x)
  | nil : Lend B .nilS .nilS
  | q (x : PD) : Lend B (.q x) (.d x)
  | own (e sz : Nat) (l : List PD) : Lend B (.own e sz l) (.d (.sl sz l))
  | dp (x : PD) : Lend B (.dp x) (.d x)
  | rsv (b : BN) (sz n : Nat) (l : List PD) (rest : List PV) (hb : B b = some ((flat l).map .d ++ rest)) (hl : l.length = n) (hu : ∀ x ∈ l, x.cells.length = sz) : Lend B (.rsv b sz n) (.d (.sl sz l))
inductive LendV (B : Bx) : PV → PV → Prop
  | one (x y : PV) (h : Lend B x y) : LendV B x y
  | agg (l m : List PV) (h : All2 (Lend B) l m) : LendV B (.agg l) (.agg m)
def lentIm (G : Gh) (w : World) : Nat → Nat → Prop := fun g _ => g < w.heap.size
def Gh.lent (G : Gh) (w : World) : Gh := { im := lentIm G w, β := G.β, live := fun _ => False, own := fun _ => none, fz := fun g => g < w.heap.size }
theorem Lend.rep {P : Program} {G : Gh} {w : World} {B B0 : Bx} (hp : Hp P G w B0) (hB : ∀ b c, B b = some c → B0 b = some c) {p p' : Pos} {x y : PV} {v : Value} (h : Lend B x y) (hx : RepC P G w p x v) : RepC P (G.lent w) w p' y v := by
  have hk : Keep G.im w (lentIm G w) w := fun b o h => ⟨hp.imlt b o h, rfl⟩
  cases h with
  | d x => exact ⟨hx.1.keep hk, hx.2⟩
  | nil => exact hx
  | q x => exact ⟨hx.1.keep fun b o h => ⟨h.lt, rfl⟩, hx.2⟩
  | own e sz l => exact ⟨(OwnAt.data hx).keep hk, rfl⟩
  | dp x => exact ⟨hx.1.keep fun b o h => ⟨hp.imlt b o h.1, rfl⟩, hx.2⟩
  | rsv b sz n l rest hb hl hu =>
    obtain ⟨c, h1, rfl, h3, h4⟩ := hx
    obtain ⟨cs, e, k1, k2, k3, k4⟩ := hp.bx b _ (hB b _ hb)
    subst hl
    have hcell : ∀ (i : Nat) z, (flat l)[i]? = some z → ∃ u, cs[i]? = some u ∧ RepD (lentIm G w) w z u ∧ z.scalar = true := fun i z hz => by
      have hi := (List.getElem?_eq_some_iff.1 hz).1
      have hi2 : i < cs.size := by simp at k2; omega
      have := k4 i (.d z) cs[i] (by rw [List.getElem?_append_left (by simpa using hi), List.getElem?_map, hz]; rfl) (Array.getElem?_eq_getElem hi2)
      exact ⟨_, Array.getElem?_eq_getElem hi2, this.1.keep hk, this.2⟩
    refine ⟨.sl sz l (G.β b) 0 c (cs.toList.take (flat l).length) h4 h1 hu (fun z hz => ?_) (by simp at k2 ⊢; omega) (fun i u hi => ?_) (fun i z u hz hi => ?_), rfl⟩
    · obtain ⟨i, hi, rfl⟩ := List.mem_iff_getElem.1 hz
      obtain ⟨-, -, -, h⟩ := hcell i _ (List.getElem?_eq_getElem hi)
      exact h
    · rw [List.getElem?_take] at hi
      split at hi
      · rw [Array.getElem?_toList] at hi
        exact ⟨(Array.getElem?_eq_some_iff.1 k1).1, by simp [World.cell?, k1, hi]⟩
      · cases hi
    · obtain ⟨u', e1, e2, -⟩ := hcell i z hz
      rw [List.getElem?_take_of_lt (List.getElem?_eq_some_iff.1 hz).1, Array.getElem?_toList, e1] at hi
      cases hi; exact e2
theorem LendV.rep {P : Program} {G : Gh} {w : World} {B B0 : Bx} (hp : Hp P G w B0) (hB : ∀ b c, B b = some c → B0 b = some c) {loc loc' : Loc} {x y : PV} {v : Value} (h : LendV B x y) (hx : RepT P G w loc x v) : RepT P (G.lent w) w loc' y v := by
  cases h with
  | one _ _ h =>
    have hx' : RepC P G w (loc, 0, 0) x v := by cases h <;> exact hx
    have := Lend.rep hp hB (p' := (loc', 0, 0)) h hx'
    cases h <;> exact this
  | agg l m h =>
    have hl := h.len
    obtain ⟨cs, rfl, h1, h2, h3⟩ := hx
    refine ⟨cs, rfl, by omega, h2, fun j y u hy hu => ?_⟩
    have hj : j < l.length := by rw [← hl]; exact (List.getElem?_eq_some_iff.1 hy).1
    exact Lend.rep hp hB (h.get j _ y (List.getElem?_eq_getElem hj) hy) (h3 j _ u (List.getElem?_eq_getElem hj) hu)

/-! Taken: what a call gives, as what is nobody's. -/
inductive TakeC : PV → PV → Prop
  | d (x : PD) (h : x.plain = true) : TakeC (.d x) (.d x)
  | nil : TakeC .nilS .nilS
  | own0 (e sz : Nat) : TakeC (.own e sz []) (.d (.sl sz []))
  | dp (x : PD) : TakeC (.dp x) (.q x)
inductive TakeV : PV → PV → Prop
  | one (x y : PV) (h : TakeC x y) : TakeV x y
  | agg (l m : List PV) (h : All2 TakeC l m) : TakeV (.agg l) (.agg m)
inductive TakeT : PV → PV → Prop
  | one (x y : PV) (h : TakeV x y) : TakeT x y
  | tup (l m : List PV) (h : All2 TakeV l m) : TakeT (.tup l) (.tup m)
/-- The ghost behind such a call. -/
def Gh.took (G : Gh) (w : World) (own' : Nat → Option Pos) : Gh := { G with own := fun g => open Classical in if w.heap.size ≤ g ∧ (own' g).isSome = true then some qpos else G.own g }
theorem took_old {G : Gh} {w : World} {own' : Nat → Option Pos} {g : Nat} (h : g < w.heap.size) : (G.took w own').own g = G.own g := by
  simp only [Gh.took]; rw [if_neg (by omega)]
theorem TakeC.rep {P : Program} {F : Fr} {G G' : Gh} {st : St} {a : Act} {w w' : World} (h : Rel P F G st a w) (hn : ∀ g p, G'.own g = some p → w.heap.size ≤ g) {p p' : Pos} {x y : PV} {v : Value} (ht : TakeC x y) (hx : RepC P G' w' p x v) : RepC P (G.took w G'.own) w' p' y v := by
  cases ht with
  | d x hpl => exact ⟨plain_sc hpl hx.2 hx.1, hx.2⟩
  | nil => exact hx
  | own0 e sz =>
    refine ⟨?_, rfl⟩
    have h1 := OwnAt.data hx
    generalize e1 : PD.sl sz [] = z at h1
    cases h1 <;> cases e1
    · exact .nil sz
    · rename_i g o c vs _ _ _ _ _ _ _
      exact .emp sz ⟨g, o, none⟩ c
    · rename_i ad c; exact .emp sz ad c
  | dp x =>
    refine ⟨hx.1.keep fun b o ⟨h1, h2, cs, e, h3⟩ => ⟨⟨⟨cs, e, h3⟩, ?_, fun c hl => ?_, fun o' hi => ?_, fun hf => ?_⟩, rfl⟩, hx.2⟩
    · simp only [Gh.took]; rw [if_pos ⟨hn b p h2, by rw [h2]; rfl⟩]
    · have := hn b p h2
      obtain ⟨c', _, hbx⟩ := h.hp.box hl
      have := hbx.lt
      show G.β c ≠ b
      omega
    · have h5 := hn b p h2
      have h6 := h.hp.imlt b o' hi
      omega
    · have h5 := hn b p h2
      have h6 := (h.sn.fz b hf).1
      have := h.sn.ext.size
      omega
theorem TakeV.rep {P : Program} {F : Fr} {G G' : Gh} {st : St} {a : Act} {w w' : World} (h : Rel P F G st a w) (hn : ∀ g p, G'.own g = some p → w.heap.size ≤ g) {loc loc' : Loc} {i i' : Nat} {x y : PV} {v : Value} (ht : TakeV x y) (hx : RepV P G' w' loc i x v) : RepV P (G.took w G'.own) w' loc' i' y v := by
  cases ht with
  | one _ _ ht =>
    have hx' : RepC P G' w' (loc, i, 0) x v := by cases ht <;> exact hx
    have := TakeC.rep h hn (p' := (loc', i', 0)) ht hx'
    cases ht <;> exact this
  | agg l m ht =>
    have hl := ht.len
    obtain ⟨cs, rfl, h1, h2, h3⟩ := hx
    refine ⟨cs, rfl, by omega, h2, fun j y u hy hu => ?_⟩
    have hj : j < l.length := by rw [← hl]; exact (List.getElem?_eq_some_iff.1 hy).1
    exact TakeC.rep h hn (ht.get j _ y (List.getElem?_eq_getElem hj) hy) (h3 j _ u (List.getElem?_eq_getElem hj) hu)
theorem TakeT.rep {P : Program} {F : Fr} {G G' : Gh} {st : St} {a : Act} {w w' : World} (h : Rel P F G st a w) (hn : ∀ g p, G'.own g = some p → w.heap.size ≤ g) {loc loc' : Loc} {x y : PV} {v : Value} (ht : TakeT x y) (hx : RepT P G' w' loc x v) : RepT P (G.took w G'.own) w' loc' y v := by
  cases ht with
  | one _ _ ht =>
    have hx' : RepV P G' w' loc 0 x v := by cases ht with
      | one _ _ ht => cases ht <;> exact hx
      | agg l m ht => exact hx
    have := TakeV.rep h hn (loc' := loc') (i' := 0) ht hx'
    cases ht with
    | one _ _ ht => cases ht <;> exact this
    | agg l m ht => exact this
  | tup l m ht =>
    have hl := ht.len
    obtain ⟨vs, rfl, h1, h2⟩ := hx
    refine ⟨vs, rfl, by omega, fun j y u hy hu => ?_⟩
    have hj : j < l.length := by rw [← hl]; exact (List.getElem?_eq_some_iff.1 hy).1
    exact TakeV.rep h hn (ht.get j _ y (List.getElem?_eq_getElem hj) hy) (h2 j _ u (List.getElem?_eq_getElem hj) hu)

structure QStep (P : Program) (fl : AF) (o : Oper) (st : St) (v : PV) (f : Nat) (xs : List Operand) (ys : List PV) (r : PV) : Prop where
  call : isValCall o (.func f) xs
  pass : All2 (LendV (vz fl st.bx)) (xs.map st.ev) ys
  ret : BRet P f [] ys r []
  take : TakeT r v
theorem GStep.took {P : Program} {F : Fr} {G : Gh} {st : St} {a : Act} {w w' : World} (h : Rel P F G st a w) (own' : Nat → Option Pos) (hsz : w.heap.size ≤ w'.heap.size) (hold : ∀ g, g < w.heap.size → w'.heap[g]? = w.heap[g]?) :
    GStep G w (G.took w own') w' (fun p q => p = q) :=
  ⟨fun b o hb => ⟨hb, cell_of_heap (hold b (h.hp.imlt b o hb)) o⟩, fun b hl => ⟨hl, rfl⟩, rfl, fun g hg => hold g (by have := (h.sn.fz g hg).1; have := h.sn.ext.size; omega), hsz,
    fun g p q hg e => ⟨by rw [took_old (h.hp.ownlt g p hg), hg, e], hold g (h.hp.ownlt g p hg), fun _ h => h⟩,
    fun o g ho hf => ⟨⟨by rw [hold g hf.lt]; exact hf.1, by rw [took_old hf.lt]; exact hf.2.1, hf.2.2⟩, .heap (hold g hf.lt)⟩⟩
theorem qStep_sound {P : Program} {F : Fr} {G : Gh} {st : St} {a : Act} {w : World} (h : Rel P F G st a w) {fl : AF} {o : Oper} {v : PV} {f : Nat} {xs : List Operand} {ys : List PV} {r : PV}
    (hd : ∀ d', o.dst = some d' → d' < F.nt) (hc : QStep P fl o st v f xs ys r) {K : Act → World → Prop} {Q : Exit → Act → World → Prop} (hK : ∀ a' w', (∃ G', Rel P F G' (st.after fl o v (vz fl st.bx)) a' w') → K a' w') : o.wp P a w K Q := by
  have hbsub : ∀ b c, vz fl st.bx b = some c → st.bx b = some c := by
    intro b c hc; unfold vz at hc; split at hc
    · exact hc
    · cases hc
  obtain ⟨hop, hpass, hret, htake⟩ := hc
  have hlen : ys.length = xs.length := by simpa using hpass.len
  refine callX hop hlen hret (G.lent w) (fun _ => False) (fun i x y hx hy => ?_) (fun g o h => h) (fun _ => rfl) (fun _ h => h) (fun g => ⟨fun h => ⟨h, id⟩, fun h => h.1⟩) fun rv G' w' hrv hext hown' hz hpG => hK _ _ ⟨G.took w G'.own, ?_⟩
  · exact (hpass.get i _ y (by rw [List.getElem?_map, hx]; rfl) hy).rep h.hp hbsub (h.ev x)
  have hold : ∀ g, g < w.heap.size → w'.heap[g]? = w.heap[g]? := fun g hg => hext.old g hg id
  have hn : ∀ g p, G'.own g = some p → w.heap.size ≤ g := fun g p hg => (hown' g p hg).resolve_right id
  have hg := GStep.took (F := F) h G'.own hext.size hold
  have hsame : (if fl.be = true then vz fl st.bx else st.bx) = st.bx := by split <;> first | (rename_i hbe; simp [vz, hbe]) | rfl
  unfold St.after
  rw [hsame]
  refine h.next hg (fun t _ _ i j => rfl) (fun d' _ => htake.rep h hn hrv) hd ⟨fun b cells hb => ?_, h.hp.live, h.hp.inj, fun g o hg => Nat.lt_of_lt_of_le (h.hp.imlt g o hg) hext.size, fun g p hg => ?_, h.hp.boxim, fun b hl => ?_⟩ ?_
  · have hl := (h.hp.live b).2 (by simp [hb])
    exact (h.hp.bx b cells hb).step hg hl (fun j => rfl) (hold _ (h.hp.bx b cells hb).lt)
  · by_cases hlt : g < w.heap.size
    · exact Nat.lt_of_lt_of_le hlt hext.size
    · simp only [Gh.took] at hg
      split at hg
      · rename_i hc
        obtain ⟨p', hp'⟩ := Option.isSome_iff_exists.1 hc.2
        exact hpG.ownlt g p' hp'
      · exact absurd (h.hp.ownlt g p hg) hlt
  · obtain ⟨c, _, hbx⟩ := h.hp.box hl
    have := hbx.lt
    show (G.took w G'.own).own (G.β b) = none
    rw [took_old this]; exact h.hp.boxown b hl
  · have hx := h.sn.ext
    refine ⟨⟨hext.os.trans hx.os, hext.tape.trans hx.tape, hext.output.trans hx.output, Nat.le_trans hx.size hext.size, fun b hb hw => ?_, fun b o hb => ?_, fun b o hb => hx.new b o hb⟩, fun g p hg => ?_, h.sn.box, h.sn.βa, h.sn.fz, h.sn.fzm⟩
    · rw [hold b (Nat.lt_of_lt_of_le hb hx.size)]; exact hx.old b hb hw
    · have hk := hx.keep b o hb
      exact ⟨hk.1, (cell_of_heap (hold b (h.hp.imlt b o hk.1)) o).trans hk.2⟩
    · by_cases hlt : g < w.heap.size
      · rw [took_old hlt] at hg; exact h.sn.own g p hg
      · have := hx.size; left; omega

/-! A slice that is given and that nobody else knows, as a variable in memory. -/
inductive OwnIn (b : BN) (e sz : Nat) (l : List PD) : PV → PV → Prop
  | one : OwnIn b e sz l (.own e sz l) (.rsv b sz l.length)
  | agg1 (y : PD) (hy : y.plain = true) : OwnIn b e sz l (.agg [.d y, .own e sz l]) (.agg [.d y, .rsv b sz l.length])
theorem OwnIn.rep {P : Program} {G : Gh} {w : World} {b : BN} {e sz : Nat} {l : List PD} {x y : PV} {loc : Loc} {v : Value} (h : OwnIn b e sz l x y) (hx : RepV P G w loc 0 x v) :
    ∃ j u, OwnAt G w (loc, 0, j) e sz l u ∧ ∀ G2 w2 loc2, (∀ p, RepC P G2 w2 p (.rsv b sz l.length) u) → RepV P G2 w2 loc2 0 y v := by
  cases h with
  | one => exact ⟨0, v, hx, fun G2 w2 loc2 h => h (loc2, 0, 0)⟩
  | agg1 y hy =>
    obtain ⟨cs, rfl, h1, h2, h3⟩ := hx
    have hs : cs.size = 2 := by simpa using h1
    refine ⟨1, cs[1], h3 1 _ _ rfl (Array.getElem?_eq_getElem (by omega)), fun G2 w2 loc2 h => ⟨cs, rfl, by simpa using h1, h2, fun j z u hz hu => ?_⟩⟩
    match j, hz with
    | 0, hz =>
      simp at hz; subst hz
      have := h3 0 (.d y) u rfl hu
      exact ⟨plain_sc hy this.2 this.1, this.2⟩
    | 1, hz =>
      simp at hz; subst hz
      have : u = cs[1] := by rw [Array.getElem?_eq_getElem (by omega)] at hu; cases hu; rfl
      subst this; exact h _
    | j + 2, hz => simp at hz
theorem own_at0 {G : Gh} {w : World} {p : Pos} {e sz : Nat} {l : List PD} {v : Value} (h : OwnAt G w p e sz l v) (hl : l ≠ []) :
    ∃ g c, v = .slice (some ⟨g, 0, none⟩) l.length c ∧ l.length ≤ c ∧ RepRun G.im w g 0 (flat l) ∧ G.own g = some p ∧ ∃ cs e', w.heap[g]? = some (.cells cs e' (0, 0)) := by
  obtain ⟨hd, hw⟩ := h
  rcases hd.sl_shape with ⟨h1, -⟩ | ⟨g, o, c, rfl, h2, h3, h4⟩ | ⟨h1, -⟩
  · exact absurd h1 hl
  rotate_left
  · exact absurd h1 hl
  rcases hw with ⟨h5, h6⟩ | ⟨vs, h5, h6, h7⟩
  · rcases h5 with h5 | ⟨g', h5⟩
    · cases h5
    · cases h5; exact ⟨_, _, rfl, Nat.le_refl _, h4, h6 hl _ rfl⟩
  · rcases h5.2 with hn | ⟨g', cap, cur, hv, hb, hgg, rest⟩
    · simp at hn
    · simp only [Value.slice.injEq, Option.some.injEq, Addr.mk.injEq] at hv
      obtain ⟨⟨h8, h9⟩, h10⟩ := hv
      subst h8
      have h11 : o = 0 := by simpa using h9
      subst h11
      exact ⟨_, c, rfl, h2, h4, (h7 _ rfl).1, cur, e, hgg⟩
structure BxStep (P : Program) (fl : AF) (o : Oper) (st : St) (m : Nat) (f : Nat) (xs : List Operand) (ys : List PV) (R R' : PV) (x : PD) (e sz : Nat) (l : List PD) : Prop where
  call : isValCall o (.func f) xs
  pass : All2 (LendV (vz fl st.bx)) (xs.map st.ev) ys
  ret : BRet P f [] ys (.tup [R, .d x]) []
  shape : OwnIn (.t m) e sz l R R'
  plain : x.plain = true
  ne : l ≠ []
  flat : ∀ y ∈ flat l, y.plain = true
  be : fl.be = true
  free : st.bx (.t m) = none
theorem bxStep_sound {P : Program} {F : Fr} {G : Gh} {st : St} {a : Act} {w : World} (h : Rel P F G st a w) {fl : AF} {o : Oper} {m f : Nat} {xs : List Operand} {ys : List PV} {R R' : PV} {x : PD} {e sz : Nat} {l : List PD}
    (hd : ∀ d', o.dst = some d' → d' < F.nt) (hc : BxStep P fl o st m f xs ys R R' x e sz l) {K : Act → World → Prop} {Q : Exit → Act → World → Prop} (hK : ∀ a' w', (∃ G', Rel P F G' (st.after fl o (.tup [R', .d x]) (Bx.set st.bx (.t m) ((Bee.flat l).map .d))) a' w') → K a' w') : o.wp P a w K Q := by
  have hbsub : ∀ b c, vz fl st.bx b = some c → st.bx b = some c := by
    intro b c hc; unfold vz at hc; split at hc
    · exact hc
    · cases hc
  obtain ⟨hop, hpass, hret, hshape, hpl, hne, hflat, hbe, hbn⟩ := hc
  have hlen : ys.length = xs.length := by simpa using hpass.len
  refine callX hop hlen hret (G.lent w) (fun _ => False) (fun i x y hx hy => ?_) (fun g o h => h) (fun _ => rfl) (fun _ h => h) (fun g => ⟨fun h => ⟨h, id⟩, fun h => h.1⟩) fun rv G' w' hrv hext hown' hz hpG => ?_
  · exact (hpass.get i _ y (by rw [List.getElem?_map, hx]; rfl) hy).rep h.hp hbsub (h.ev x)
  have hold : ∀ g, g < w.heap.size → w'.heap[g]? = w.heap[g]? := fun g hg => hext.old g hg id
  obtain ⟨us, rfl, hus, hur⟩ := hrv
  have hus2 : us.size = 2 := by simpa using hus
  have hr0 := hur 0 R us[0] rfl (Array.getElem?_eq_getElem (by omega))
  have hr1 := hur 1 (.d x) us[1] rfl (Array.getElem?_eq_getElem (by omega))
  obtain ⟨j, u, hown, hback⟩ := hshape.rep hr0
  obtain ⟨g, c, rfl, hlc, hrun, hgo, cs, e', hgc⟩ := own_at0 hown hne
  have hgn : w.heap.size ≤ g := (hown' g _ hgo).resolve_right id
  have hgl : g < w'.heap.size := (Array.getElem?_eq_some_iff.1 hgc).1
  have hllen : l.length ≤ 140737488355328 := hown.1.len
  have hnl : ¬ G.live (.t m) := fun hl => by have := (h.hp.live _).1 hl; simp [hbn] at this
  have hβlt : ∀ b, G.live b → G.β b < w.heap.size := fun b hl => by obtain ⟨c, _, hbx⟩ := h.hp.box hl; exact hbx.lt
  let G2 : Gh := { im := G.im, β := fun c => if c = .t m then g else G.β c, live := fun c => c = .t m ∨ G.live c, own := G.own, fz := G.fz }
  have hg : GStep G w G2 w' (fun p q => p = q) :=
    ⟨fun b o hb => ⟨hb, cell_of_heap (hold b (h.hp.imlt b o hb)) o⟩, fun b hl => ⟨.inr hl, by simp only [G2]; rw [if_neg]; intro e; subst e; exact hnl hl⟩, rfl, fun g hg => hold g (by have := (h.sn.fz g hg).1; have := h.sn.ext.size; omega), hext.size,
      fun g p q hg e => ⟨by rw [← e]; exact hg, hold g (h.hp.ownlt g p hg), fun _ h => h⟩,
      fun o k ho hf => ⟨⟨by rw [hold k hf.lt]; exact hf.1, hf.2.1, fun b hl => by
        have := hf.lt
        by_cases e : b = .t m
        · simp only [G2, e, if_true]; omega
        · simp only [G2, e, if_false]; exact hf.2.2.1 b (hl.resolve_left e), hf.2.2.2⟩, .heap (hold k hf.lt)⟩⟩
  obtain ⟨vs, hv1, hv2, hv3, hv4⟩ := hrun
  have hcell : ∀ (i : Nat) z, (Bee.flat l)[i]? = some z → ∃ u, cs[i]? = some u ∧ RepD G'.im w' z u ∧ z.scalar = true := fun i z hz => by
    have hi := (List.getElem?_eq_some_iff.1 hz).1
    have hi2 : vs[i]? = some vs[i] := List.getElem?_eq_getElem (by omega)
    have h2 := (hv3 i _ hi2).2
    rw [Nat.zero_add] at h2
    simp only [World.cell?, hgc] at h2
    exact ⟨_, h2, hv4 i z _ hz hi2, hv2 z (List.mem_of_getElem? hz)⟩
  have hsz : (Bee.flat l).length ≤ cs.size := by
    rcases Nat.eq_zero_or_pos (Bee.flat l).length with h0 | h0
    · omega
    · obtain ⟨u, hu, -⟩ := hcell ((Bee.flat l).length - 1) _ (List.getElem?_eq_getElem (by omega))
      have := (Array.getElem?_eq_some_iff.1 hu).1
      omega
  refine hK _ _ ⟨G2, ?_⟩
  unfold St.after
  rw [if_pos hbe]
  refine h.next hg (fun t _ _ i j => rfl) (fun d' _ => ⟨us, rfl, by simpa using hus, fun i y u hy hu => ?_⟩) hd ?_ ?_
  · match i, hy with
    | 0, hy =>
      simp at hy; subst hy
      have : u = us[0] := by rw [Array.getElem?_eq_getElem (by omega)] at hu; cases hu; rfl
      subst this
      have := hback G2 w' (.t d') (fun p => ⟨c, hlc, by simp [G2], .inl rfl, hllen⟩)
      cases hshape <;> exact this
    | 1, hy =>
      simp at hy; subst hy
      have : u = us[1] := by rw [Array.getElem?_eq_getElem (by omega)] at hu; cases hu; rfl
      subst this
      exact ⟨plain_sc hpl hr1.2 hr1.1, hr1.2⟩
    | i + 2, hy => simp at hy
  · refine ⟨fun b bcells hbc => ?_, fun b => ?_, fun b b' hl hl' he => ?_, fun k o hk => Nat.lt_of_lt_of_le (h.hp.imlt k o hk) hext.size, fun k p hk => Nat.lt_of_lt_of_le (h.hp.ownlt k p hk) hext.size, fun b hl o him => ?_, fun b hl => ?_⟩
    · by_cases hbd : b = .t m
      · subst hbd
        simp only [Bx.set, if_true, Option.some.injEq] at hbc
        subst hbc
        refine ⟨cs, e', by simp only [G2, if_true]; exact hgc, by simpa using hsz, fun i u hi hu => ?_, fun i z u hz hu => ?_⟩
        · obtain ⟨u', h1, h2, h3⟩ := hcell i _ (List.getElem?_eq_getElem (by simpa using hi))
          rw [hu] at h1; cases h1
          exact h2.oneCell h3
        · rw [List.getElem?_map] at hz
          obtain ⟨z', hz', rfl⟩ := Option.map_eq_some_iff.1 hz
          obtain ⟨u', h1, h2, h3⟩ := hcell i z' hz'
          rw [hu] at h1; cases h1
          exact ⟨plain_sc (hflat z' (List.mem_of_getElem? hz')) h3 h2, h3⟩
      · simp only [Bx.set, hbd, if_false] at hbc
        have hl := (h.hp.live b).2 (by simp [hbc])
        exact (h.hp.bx b bcells hbc).step hg hl (fun j => rfl) (hold _ (hβlt b hl))
    · simp only [G2, Bx.set]
      by_cases hbd : b = .t m
      · simp [hbd]
      · simp [hbd, h.hp.live b]
    · simp only [G2] at he hl hl'
      by_cases h1 : b = .t m <;> by_cases h2 : b' = .t m
      · rw [h1, h2]
      · have := hβlt b' (hl'.resolve_left h2)
        simp [h1, h2] at he; omega
      · have := hβlt b (hl.resolve_left h1)
        simp [h1, h2] at he; omega
      · simp only [h1, h2, if_false] at he
        exact h.hp.inj b b' (hl.resolve_left h1) (hl'.resolve_left h2) he
    · by_cases hbd : b = .t m
      · simp only [G2, hbd, if_true] at him
        have := h.hp.imlt _ _ him; omega
      · simp only [G2, hbd, if_false] at him
        exact h.hp.boxim b (hl.resolve_left hbd) o him
    · by_cases hbd : b = .t m
      · simp only [G2, hbd, if_true]
        cases ho : G.own g with
        | none => rfl
        | some p => have := h.hp.ownlt _ _ ho; omega
      · simp only [G2, hbd, if_false]
        exact h.hp.boxown b (hl.resolve_left hbd)
  · have hx := h.sn.ext
    refine ⟨⟨hext.os.trans hx.os, hext.tape.trans hx.tape, hext.output.trans hx.output, Nat.le_trans hx.size hext.size, fun b hb hw => ?_, fun b o hb => ?_, fun b o hb => hx.new b o hb⟩, h.sn.own, fun b hl => ?_, fun k => by simp [G2, h.sn.βa k], h.sn.fz, h.sn.fzm⟩
    · rw [hold b (Nat.lt_of_lt_of_le hb hx.size)]; exact hx.old b hb hw
    · have hk := hx.keep b o hb
      exact ⟨hk.1, (cell_of_heap (hold b (h.hp.imlt b o hk.1)) o).trans hk.2⟩
    · by_cases hbd : b = .t m
      · left; simp only [G2, hbd, if_true]; have := hx.size; omega
      · simp only [G2, hbd, if_false]; exact h.sn.box b (hl.resolve_left hbd)

/-! Written to: what is nobody's. -/
def zpass : PV → Bool
  | .d _ => true
  | .zs _ => true
  | .nilS => true
  | .agg l => l.all fun | .d _ => true | .zs _ => true | .nilS => true | _ => false
  | _ => false
structure ZStep (P : Program) (fl : AF) (o : Oper) (st : St) (x : PD) (f : Nat) (xs : List Operand) : Prop where
  call : isValCall o (.func f) xs
  pass : ∀ x ∈ xs, zpass (st.ev x) = true
  ret : BRet P f [] (xs.map st.ev) (.d x) []
  plain : x.plain = true
def Gh.open' (G : Gh) (w : World) : Gh := { im := G.im, β := G.β, live := fun _ => False, own := fun _ => none, fz := fun g => g < w.heap.size ∧ ¬ FreeB G w g }
theorem open_free {G : Gh} {w : World} {g : Nat} (h : FreeB G w g) : FreeB (G.open' w) w g := ⟨h.1, rfl, fun b hl => hl.elim, h.2.2.2.1, fun hf => hf.2 h⟩
theorem zStep_sound {P : Program} {F : Fr} {G : Gh} {st : St} {a : Act} {w : World} (h : Rel P F G st a w) {fl : AF} {o : Oper} {x : PD} {f : Nat} {xs : List Operand}
    (hd : ∀ d', o.dst = some d' → d' < F.nt) (hc : ZStep P fl o st x f xs) {K : Act → World → Prop} {Q : Exit → Act → World → Prop} (hK : ∀ a' w', (∃ G', Rel P F G' (st.after fl o (.d x) (vz fl st.bx)) a' w') → K a' w') : o.wp P a w K Q := by
  obtain ⟨hop, hpass, hret, hpl⟩ := hc
  have hone : ∀ (y : PV) v p p', (match y with | .d _ => true | .zs _ => true | .nilS => true | _ => false) = true → RepC P G w p y v → RepC P (G.open' w) w p' y v := by
    intro y v p p' hy hr
    cases y <;> simp only [Bool.false_eq_true] at hy
    · exact hr
    · exact hr
    · exact ⟨hr.1.keep fun g hg => ⟨open_free hg, fun _ => rfl⟩, hr.2⟩
  refine callX hop (by simp) hret (G.open' w) (FreeB G w) (fun i X y hX hy => ?_) h.hp.imlt (fun _ => rfl) (fun _ h => h) (fun g => Iff.rfl) fun rv G' w' hrv hext hown' hz hpG => hK _ _ ⟨G, ?_⟩
  · rw [List.getElem?_map, hX] at hy
    cases hy
    have hp := hpass X (List.mem_of_getElem? hX)
    have hr := h.ev X
    generalize st.ev X = z at hp hr
    cases z <;> simp only [zpass, Bool.false_eq_true] at hp
    case agg l =>
      obtain ⟨cs, e, h1, h2, h3⟩ := hr
      refine ⟨cs, e, h1, h2, fun j y u hy hu => hone y u _ _ ?_ (h3 j y u hy hu)⟩
      have := List.all_eq_true.1 hp y (List.mem_of_getElem? hy)
      cases y <;> simp at this ⊢
    case d z => exact hr
    case nilS => exact hr
    case zs z => exact ⟨hr.1.keep fun g hg => ⟨open_free hg, fun _ => rfl⟩, hr.2⟩
  have hold : ∀ g, g < w.heap.size → ¬ FreeB G w g → w'.heap[g]? = w.heap[g]? := fun g hg hn => hext.old g hg hn
  have hfree : ∀ g, FreeB G w g → FreeB G w' g ∧ KindSame w w' g := fun g hg => ⟨⟨(hz g (open_free hg)).2.1, hg.2⟩, (hz g (open_free hg)).1⟩
  have hg : GStep G w G w' (fun p q => p = q) :=
    ⟨fun b o hb => ⟨hb, (hext.keep b o hb).2⟩, fun b hl => ⟨hl, rfl⟩, rfl, fun g hg => hold g (by have := (h.sn.fz g hg).1; have := h.sn.ext.size; omega) (fun hf => hf.2.2.2.2 hg), hext.size,
      fun g p q hg e => ⟨by rw [hg, e], hold g (h.hp.ownlt g p hg) (fun hf => by rw [hf.2.1] at hg; cases hg), fun _ h => h⟩,
      fun o g ho hf => by
        rcases ho with rfl | rfl
        · exact ⟨(hfree g hf).1, .kind (hfree g hf).2⟩
        · have hs := hold g hf.lt (fun hf2 => by have := hf.2.1; rw [hf2.2.1] at this; cases this)
          exact ⟨⟨by rw [hs]; exact hf.1, hf.2⟩, .heap hs⟩⟩
  have hsame : (if fl.be = true then vz fl st.bx else st.bx) = st.bx := by split <;> first | (rename_i hbe; simp [vz, hbe]) | rfl
  unfold St.after
  rw [hsame]
  refine h.next hg (fun t _ _ i j => rfl) (fun d' _ => ⟨plain_sc hpl hrv.2 hrv.1, hrv.2⟩) hd ⟨fun b cells hb => ?_, h.hp.live, h.hp.inj, fun g o hg => Nat.lt_of_lt_of_le (h.hp.imlt g o hg) hext.size, fun g p hg => Nat.lt_of_lt_of_le (h.hp.ownlt g p hg) hext.size, h.hp.boxim, h.hp.boxown⟩ ?_
  · have hl := (h.hp.live b).2 (by simp [hb])
    exact (h.hp.bx b cells hb).step hg hl (fun j => rfl) (hold _ (h.hp.bx b cells hb).lt (fun hf => hf.2.2.1 b hl rfl))
  · have hx := h.sn.ext
    refine ⟨⟨hext.os.trans hx.os, hext.tape.trans hx.tape, hext.output.trans hx.output, Nat.le_trans hx.size hext.size, fun b hb hw => ?_, fun b o hb => ?_, fun b o hb => hx.new b o hb⟩, h.sn.own, h.sn.box, h.sn.βa, h.sn.fz, h.sn.fzm⟩
    · rw [hold b (Nat.lt_of_lt_of_le hb hx.size) (fun hf => hf.2.2.2.2 (h.sn.fzm b hb hw))]; exact hx.old b hb hw
    · have hk := hx.keep b o hb
      exact ⟨hk.1, (hext.keep b o hk.1).2.trans hk.2⟩
end Go.Bee
