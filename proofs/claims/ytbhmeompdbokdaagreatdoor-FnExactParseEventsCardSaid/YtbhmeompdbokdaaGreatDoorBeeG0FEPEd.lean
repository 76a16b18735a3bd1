/-
The logic and the walks, part 4. No condition.
-/
import Derived.Test.YtbhmeompdbokdaaGreatDoorBeeG0FEPEc
namespace Go.Bee
set_option linter.unusedVariables false

theorem callX {P : Program} {a : Act} {w : World} {o : Oper} {f : Nat} {xs : List Operand} {ys : List PV} {r : PV} (hop : isValCall o (.func f) xs) (hlen : ys.length = xs.length) (hret : BRet P f [] ys r []) (Gc : Gh) (Wr : Nat → Prop)
    (hargs : ∀ (i : Nat) x y, xs[i]? = some x → ys[i]? = some y → RepT P Gc w (.t i) y (a.eval x)) (him : ∀ g o, Gc.im g o → g < w.heap.size) (hown : ∀ g, Gc.own g = none) (hlive : ∀ b, ¬ Gc.live b) (hfz : ∀ g, Gc.fz g ↔ g < w.heap.size ∧ ¬ Wr g) (htb : TabOk P Gc.fz w)
    {K : Act → World → Prop} {Q : Exit → Act → World → Prop}
    (hK : ∀ v G' w', RepT P G' w' .res r v → Ext Gc.im w G'.im w' Wr → (∀ g p, G'.own g = some p → w.heap.size ≤ g ∨ Wr g) → (∀ g, FreeB Gc w g → KindSame w w' g ∧ (∃ cs e, w'.heap[g]? = some (.cells cs e (0, 0))) ∧ G'.own g = none ∧ ∀ o, ¬ G'.im g o) → Hp P G' w' (bxOf []) → K (a.put o.dst v) w') : o.wp P a w K Q := by
  obtain ⟨ts, hop⟩ := hop
  obtain ⟨hisfn, -, hret⟩ := hret
  have hp : Hp P Gc w (bxOf []) := ⟨fun b cells hc => (by cases b <;> simp [bxOf] at hc), fun b => (by cases b <;> simp [bxOf, hlive]), fun b b' hl => absurd hl (hlive b), him, fun g p hg => (by rw [hown g] at hg; cases hg), fun b hl => absurd hl (hlive b), fun b hl => absurd hl (hlive b)⟩
  have hcalls := hret Gc w (xs.toArray.map a.eval) Wr (by simp [hlen]) (fun i y u hy hu => by
      have hil : i < xs.length := by rw [← hlen]; exact (List.getElem?_eq_some_iff.1 hy).1
      have hu' : u = a.eval xs[i] := by simp [hil] at hu; exact hu.symm
      subst hu'
      exact hargs i _ y (List.getElem?_eq_getElem hil) hy) hp (fun g p hg => by rw [hown g] at hg; cases hg) (fun b hl => absurd hl (hlive b)) (fun g hg => (hfz g).1 hg) (fun g h1 h2 => (hfz g).2 ⟨h1, h2⟩) htb
  have hrunX : (execOp a.eval o).run P w = .ok (.enter f (xs.toArray.map a.eval)) w := by
    have := run_callFunc hisfn (xs.toArray.map a.eval) w
    simp [execOp, hop, resolve, Deferred.ofValue, Act.eval, invoke]
    simpa [Act.eval] using this
  unfold Oper.wp
  rw [hrunX]
  refine Calls.mono hcalls fun e w' hR => ?_
  obtain ⟨rv, G', rfl, hrv, hpG, hext, -, hown', hz⟩ := hR
  exact hK rv G' w' hrv hext hown' hz hpG

theorem plain_sc {S S' : Nat → Nat → Prop} {w w' : World} {x : PD} {v : Value} (hp : x.plain = true) (hs : x.scalar = true) (h : RepD S w x v) : RepD S' w' x v := by
  cases h with
  | bool b => exact .bool b
  | int k n => exact .int k n
  | str l hb => exact .str l hb
  | agg => cases hs
  | _ => cases hp
inductive All2 {α β : Type} (R : α → β → Prop) : List α → List β → Prop
  | nil : All2 R [] []
  | cons {a : α} {b : β} {l : List α} {m : List β} (h : R a b) (k : All2 R l m) : All2 R (a :: l) (b :: m)
theorem All2.len {α β : Type} {R : α → β → Prop} {l : List α} {m : List β} (h : All2 R l m) : m.length = l.length := by
  induction h with
  | nil => rfl
  | cons h k ih => simp [ih]
theorem All2.get {α β : Type} {R : α → β → Prop} {l : List α} {m : List β} (h : All2 R l m) : ∀ (j : Nat) x y, l[j]? = some x → m[j]? = some y → R x y := by
  induction h with
  | nil => intro j x y h; simp at h
  | cons h k ih =>
    intro j x y hx hy
    cases j with
    | zero => simp at hx hy; subst hx; subst hy; exact h
    | succ j => simp at hx hy; exact ih j x y hx hy
inductive Lend (B : Bx) : PV → PV → Prop
  | d (x : PD) : Lend B (.d x) (.d x)
  | nil : Lend B .nilS .nilS
  | q (x : PD) : Lend B (.q x) (.d x)
  | own (e sz : Nat) (l : List PD) : Lend B (.own e sz l) (.d (.sl sz l))
  | dp (x : PD) : Lend B (.dp x) (.d x)
  | rsv (b : BN) (sz n : Nat) (l : List PD) (rest : List PV) (hb : B b = some ((flat l).map .d ++ rest)) (hl : l.length = n) (hu : ∀ x ∈ l, x.cells.length = sz) : Lend B (.rsv b sz n) (.d (.sl sz l))
inductive LendV (B : Bx) : PV → PV → Prop
  | one (x y : PV) (h : Lend B x y) : LendV B x y
  | agg (l m : List PV) (h : All2 (Lend B) l m) : LendV B (.agg l) (.agg m)
def lentIm (G : Gh) (w : World) : Nat → Nat → Prop := fun g _ => g < w.heap.size
def Gh.lent (G : Gh) (w : World) : Gh := { im := lentIm G w, β := G.β, live := fun _ => False, own := fun _ => none, fz := fun g => g < w.heap.size }
theorem Lend.rep {P : Program} {G : Gh} {w : World} {B B0 : Bx} (hp : Hp P G w B0) (hB : ∀ b c, B b = some c → B0 b = some c) {p p' : Pos} {x y : PV} {v : Value} (h : Lend B x y) (hx : RepC P G w p x v) : RepC P (G.lent w) w p' y v := by
  have hk : Keep G.im w (lentIm G w) w := fun b o h => ⟨hp.imlt b o h, rfl⟩
  cases h with
  | d x => exact ⟨hx.1.keep hk, hx.2⟩
  | nil => exact hx
  | q x => exact ⟨hx.1.keep fun b o h => ⟨h.lt, rfl⟩, hx.2⟩
  | own e sz l => exact ⟨(OwnAt.data hx).keep hk, rfl⟩
  | dp x => exact ⟨hx.1.keep fun b o h => ⟨hp.imlt b o h.1, rfl⟩, hx.2⟩
  | rsv b sz n l rest hb hl hu =>
    obtain ⟨c, h1, rfl, h3, h4⟩ := hx
    obtain ⟨cs, e, k1, k2, k3, k4⟩ := hp.bx b _ (hB b _ hb)
    subst hl
    have hcell : ∀ (i : Nat) z, (flat l)[i]? = some z → ∃ u, cs[i]? = some u ∧ RepD (lentIm G w) w z u ∧ z.scalar = true := fun i z hz => by
      have hi := (List.getElem?_eq_some_iff.1 hz).1
      have hi2 : i < cs.size := by simp at k2; omega
      have := k4 i (.d z) cs[i] (by rw [List.getElem?_append_left (by simpa using hi), List.getElem?_map, hz]; rfl) (Array.getElem?_eq_getElem hi2)
      exact ⟨_, Array.getElem?_eq_getElem hi2, this.1.keep hk, this.2⟩
    refine ⟨.sl sz l (G.β b) 0 c (cs.toList.take (flat l).length) h4 h1 hu (fun z hz => ?_) (by simp at k2 ⊢; omega) (fun i u hi => ?_) (fun i z u hz hi => ?_), rfl⟩
    · obtain ⟨i, hi, rfl⟩ := List.mem_iff_getElem.1 hz
      obtain ⟨-, -, -, h⟩ := hcell i _ (List.getElem?_eq_getElem hi)
      exact h
    · rw [List.getElem?_take] at hi
      split at hi
      · rw [Array.getElem?_toList] at hi
        exact ⟨(Array.getElem?_eq_some_iff.1 k1).1, by simp [World.cell?, k1, hi]⟩
      · cases hi
    · obtain ⟨u', e1, e2, -⟩ := hcell i z hz
      rw [List.getElem?_take_of_lt (List.getElem?_eq_some_iff.1 hz).1, Array.getElem?_toList, e1] at hi
      cases hi; exact e2
theorem LendV.rep {P : Program} {G : Gh} {w : World} {B B0 : Bx} (hp : Hp P G w B0) (hB : ∀ b c, B b = some c → B0 b = some c) {loc loc' : Loc} {x y : PV} {v : Value} (h : LendV B x y) (hx : RepT P G w loc x v) : RepT P (G.lent w) w loc' y v := by
  cases h with
  | one _ _ h =>
    have hx' : RepC P G w (loc, 0, 0) x v := by cases h <;> exact hx
    have := Lend.rep hp hB (p' := (loc', 0, 0)) h hx'
    cases h <;> exact this
  | agg l m h =>
    have hl := h.len
    obtain ⟨cs, rfl, h1, h2, h3⟩ := hx
    refine ⟨cs, rfl, by omega, h2, fun j y u hy hu => ?_⟩
    have hj : j < l.length := by rw [← hl]; exact (List.getElem?_eq_some_iff.1 hy).1
    exact Lend.rep hp hB (h.get j _ y (List.getElem?_eq_getElem hj) hy) (h3 j _ u (List.getElem?_eq_getElem hj) hu)

inductive TakeC : PV → PV → Prop
  | d (x : PD) (h : x.plain = true) : TakeC (.d x) (.d x)
  | nil : TakeC .nilS .nilS
  | own0 (e sz : Nat) : TakeC (.own e sz []) (.d (.sl sz []))
  | dp (x : PD) : TakeC (.dp x) (.q x)
inductive TakeV : PV → PV → Prop
  | one (x y : PV) (h : TakeC x y) : TakeV x y
  | agg (l m : List PV) (h : All2 TakeC l m) : TakeV (.agg l) (.agg m)
inductive TakeT : PV → PV → Prop
  | one (x y : PV) (h : TakeV x y) : TakeT x y
  | tup (l m : List PV) (h : All2 TakeV l m) : TakeT (.tup l) (.tup m)
def Gh.took (G : Gh) (w : World) (own' : Nat → Option Pos) : Gh := { G with own := fun g => open Classical in if w.heap.size ≤ g ∧ (own' g).isSome = true then some qpos else G.own g }
theorem took_old {G : Gh} {w : World} {own' : Nat → Option Pos} {g : Nat} (h : g < w.heap.size) : (G.took w own').own g = G.own g := by
  simp only [Gh.took]; rw [if_neg (by omega)]
theorem TakeC.rep {P : Program} {F : Fr} {G G' : Gh} {st : St} {a : Act} {w w' : World} (h : Rel P F G st a w) (hn : ∀ g p, G'.own g = some p → w.heap.size ≤ g) {p p' : Pos} {x y : PV} {v : Value} (ht : TakeC x y) (hx : RepC P G' w' p x v) : RepC P (G.took w G'.own) w' p' y v := by
  cases ht with
  | d x hpl => exact ⟨plain_sc hpl hx.2 hx.1, hx.2⟩
  | nil => exact hx
  | own0 e sz =>
    refine ⟨?_, rfl⟩
    have h1 := OwnAt.data hx
    generalize e1 : PD.sl sz [] = z at h1
    cases h1 <;> cases e1
    · exact .nil sz
    · rename_i g o c vs _ _ _ _ _ _ _
      exact .emp sz ⟨g, o, none⟩ c
    · rename_i ad c; exact .emp sz ad c
  | dp x =>
    refine ⟨hx.1.keep fun b o ⟨h1, h2, cs, e, h3⟩ => ⟨⟨⟨cs, e, h3⟩, ?_, fun c hl => ?_, fun o' hi => ?_, fun hf => ?_⟩, rfl⟩, hx.2⟩
    · simp only [Gh.took]; rw [if_pos ⟨hn b p h2, by rw [h2]; rfl⟩]
    · have := hn b p h2
      obtain ⟨c', _, hbx⟩ := h.hp.box hl
      have := hbx.lt
      show G.β c ≠ b
      omega
    · have h5 := hn b p h2
      have h6 := h.hp.imlt b o' hi
      omega
    · have h5 := hn b p h2
      have h6 := (h.sn.fz b hf).1
      have := h.sn.ext.size
      omega
theorem TakeV.rep {P : Program} {F : Fr} {G G' : Gh} {st : St} {a : Act} {w w' : World} (h : Rel P F G st a w) (hn : ∀ g p, G'.own g = some p → w.heap.size ≤ g) {loc loc' : Loc} {i i' : Nat} {x y : PV} {v : Value} (ht : TakeV x y) (hx : RepV P G' w' loc i x v) : RepV P (G.took w G'.own) w' loc' i' y v := by
  cases ht with
  | one _ _ ht =>
    have hx' : RepC P G' w' (loc, i, 0) x v := by cases ht <;> exact hx
    have := TakeC.rep h hn (p' := (loc', i', 0)) ht hx'
    cases ht <;> exact this
  | agg l m ht =>
    have hl := ht.len
    obtain ⟨cs, rfl, h1, h2, h3⟩ := hx
    refine ⟨cs, rfl, by omega, h2, fun j y u hy hu => ?_⟩
    have hj : j < l.length := by rw [← hl]; exact (List.getElem?_eq_some_iff.1 hy).1
    exact TakeC.rep h hn (ht.get j _ y (List.getElem?_eq_getElem hj) hy) (h3 j _ u (List.getElem?_eq_getElem hj) hu)
theorem TakeT.rep {P : Program} {F : Fr} {G G' : Gh} {st : St} {a : Act} {w w' : World} (h : Rel P F G st a w) (hn : ∀ g p, G'.own g = some p → w.heap.size ≤ g) {loc loc' : Loc} {x y : PV} {v : Value} (ht : TakeT x y) (hx : RepT P G' w' loc x v) : RepT P (G.took w G'.own) w' loc' y v := by
  cases ht with
  | one _ _ ht =>
    have hx' : RepV P G' w' loc 0 x v := by cases ht with
      | one _ _ ht => cases ht <;> exact hx
      | agg l m ht => exact hx
    have := TakeV.rep h hn (loc' := loc') (i' := 0) ht hx'
    cases ht with
    | one _ _ ht => cases ht <;> exact this
    | agg l m ht => exact this
  | tup l m ht =>
    have hl := ht.len
    obtain ⟨vs, rfl, h1, h2⟩ := hx
    refine ⟨vs, rfl, by omega, fun j y u hy hu => ?_⟩
    have hj : j < l.length := by rw [← hl]; exact (List.getElem?_eq_some_iff.1 hy).1
    exact TakeV.rep h hn (ht.get j _ y (List.getElem?_eq_getElem hj) hy) (h2 j _ u (List.getElem?_eq_getElem hj) hu)

structure QStep (P : Program) (fl : AF) (o : Oper) (st : St) (v : PV) (f : Nat) (xs : List Operand) (ys : List PV) (r : PV) : Prop where
  call : isValCall o (.func f) xs
  pass : All2 (LendV (vz fl st.bx)) (xs.map st.ev) ys
  ret : BRet P f [] ys r []
  take : TakeT r v
theorem GStep.took {P : Program} {F : Fr} {G : Gh} {st : St} {a : Act} {w w' : World} (h : Rel P F G st a w) (own' : Nat → Option Pos) (hsz : w.heap.size ≤ w'.heap.size) (hold : ∀ g, g < w.heap.size → w'.heap[g]? = w.heap[g]?) :
    GStep G w (G.took w own') w' (fun p q => p = q) :=
  ⟨fun b o hb => ⟨hb, cell_of_heap (hold b (h.hp.imlt b o hb)) o⟩, fun b hl => ⟨hl, rfl⟩, rfl, fun g hg => hold g (by have := (h.sn.fz g hg).1; have := h.sn.ext.size; omega), hsz,
    fun g p q hg e => ⟨by rw [took_old (h.hp.ownlt g p hg), hg, e], hold g (h.hp.ownlt g p hg), fun _ h => h⟩,
    fun o g ho hf => ⟨⟨by rw [hold g hf.lt]; exact hf.1, by rw [took_old hf.lt]; exact hf.2.1, hf.2.2⟩, .heap (hold g hf.lt)⟩⟩
theorem qStep_sound {P : Program} {F : Fr} {G : Gh} {st : St} {a : Act} {w : World} (h : Rel P F G st a w) {fl : AF} {o : Oper} {v : PV} {f : Nat} {xs : List Operand} {ys : List PV} {r : PV}
    (hd : ∀ d', o.dst = some d' → d' < F.nt) (hc : QStep P fl o st v f xs ys r) {K : Act → World → Prop} {Q : Exit → Act → World → Prop} (hK : ∀ a' w', (∃ G', Rel P F G' (st.after fl o v (vz fl st.bx)) a' w') → K a' w') : o.wp P a w K Q := by
  have hbsub : ∀ b c, vz fl st.bx b = some c → st.bx b = some c := by
    intro b c hc; unfold vz at hc; split at hc
    · exact hc
    · cases hc
  obtain ⟨hop, hpass, hret, htake⟩ := hc
  have hlen : ys.length = xs.length := by simpa using hpass.len
  refine callX hop hlen hret (G.lent w) (fun _ => False) (fun i x y hx hy => ?_) (fun g o h => h) (fun _ => rfl) (fun _ h => h) (fun g => ⟨fun h => ⟨h, id⟩, fun h => h.1⟩) (h.tab.mono (fun _ _ => rfl) (fun g _ h => h)) fun rv G' w' hrv hext hown' hz hpG => hK _ _ ⟨G.took w G'.own, ?_⟩
  · exact (hpass.get i _ y (by rw [List.getElem?_map, hx]; rfl) hy).rep h.hp hbsub (h.ev x)
  have hold : ∀ g, g < w.heap.size → w'.heap[g]? = w.heap[g]? := fun g hg => hext.old g hg id
  have hn : ∀ g p, G'.own g = some p → w.heap.size ≤ g := fun g p hg => (hown' g p hg).resolve_right id
  have hg := GStep.took (F := F) h G'.own hext.size hold
  have hsame : (if fl.be = true then vz fl st.bx else st.bx) = st.bx := by split <;> first | (rename_i hbe; simp [vz, hbe]) | rfl
  unfold St.after
  rw [hsame]
  refine h.next hg (fun t _ _ i j => rfl) (fun d' _ => htake.rep h hn hrv) hd ⟨fun b cells hb => ?_, h.hp.live, h.hp.inj, fun g o hg => Nat.lt_of_lt_of_le (h.hp.imlt g o hg) hext.size, fun g p hg => ?_, h.hp.boxim, fun b hl => ?_⟩ ?_
  · have hl := (h.hp.live b).2 (by simp [hb])
    exact (h.hp.bx b cells hb).step hg hl (fun j => rfl) (hold _ (h.hp.bx b cells hb).lt)
  · by_cases hlt : g < w.heap.size
    · exact Nat.lt_of_lt_of_le hlt hext.size
    · simp only [Gh.took] at hg
      split at hg
      · rename_i hc
        obtain ⟨p', hp'⟩ := Option.isSome_iff_exists.1 hc.2
        exact hpG.ownlt g p' hp'
      · exact absurd (h.hp.ownlt g p hg) hlt
  · obtain ⟨c, _, hbx⟩ := h.hp.box hl
    have := hbx.lt
    show (G.took w G'.own).own (G.β b) = none
    rw [took_old this]; exact h.hp.boxown b hl
  · have hx := h.sn.ext
    refine ⟨⟨hext.os.trans hx.os, hext.tape.trans hx.tape, hext.output.trans hx.output, Nat.le_trans hx.size hext.size, fun b hb hw => ?_, fun b o hb => ?_, fun b o hb => hx.new b o hb⟩, fun g p hg => ?_, h.sn.box, h.sn.βa, h.sn.fz, h.sn.fzm⟩
    · rw [hold b (Nat.lt_of_lt_of_le hb hx.size)]; exact hx.old b hb hw
    · have hk := hx.keep b o hb
      exact ⟨hk.1, (cell_of_heap (hold b (h.hp.imlt b o hk.1)) o).trans hk.2⟩
    · by_cases hlt : g < w.heap.size
      · rw [took_old hlt] at hg; exact h.sn.own g p hg
      · have := hx.size; left; omega

inductive OwnIn (b : BN) (e sz : Nat) (l : List PD) : PV → PV → Prop
  | one : OwnIn b e sz l (.own e sz l) (.rsv b sz l.length)
  | agg1 (y : PD) (hy : y.plain = true) : OwnIn b e sz l (.agg [.d y, .own e sz l]) (.agg [.d y, .rsv b sz l.length])
theorem OwnIn.rep {P : Program} {G : Gh} {w : World} {b : BN} {e sz : Nat} {l : List PD} {x y : PV} {loc : Loc} {v : Value} (h : OwnIn b e sz l x y) (hx : RepV P G w loc 0 x v) :
    ∃ j u, OwnAt G w (loc, 0, j) e sz l u ∧ ∀ G2 w2 loc2, (∀ p, RepC P G2 w2 p (.rsv b sz l.length) u) → RepV P G2 w2 loc2 0 y v := by
  cases h with
  | one => exact ⟨0, v, hx, fun G2 w2 loc2 h => h (loc2, 0, 0)⟩
  | agg1 y hy =>
    obtain ⟨cs, rfl, h1, h2, h3⟩ := hx
    have hs : cs.size = 2 := by simpa using h1
    refine ⟨1, cs[1], h3 1 _ _ rfl (Array.getElem?_eq_getElem (by omega)), fun G2 w2 loc2 h => ⟨cs, rfl, by simpa using h1, h2, fun j z u hz hu => ?_⟩⟩
    match j, hz with
    | 0, hz =>
      simp at hz; subst hz
      have := h3 0 (.d y) u rfl hu
      exact ⟨plain_sc hy this.2 this.1, this.2⟩
    | 1, hz =>
      simp at hz; subst hz
      have : u = cs[1] := by rw [Array.getElem?_eq_getElem (by omega)] at hu; cases hu; rfl
      subst this; exact h _
    | j + 2, hz => simp at hz
theorem own_at0 {G : Gh} {w : World} {p : Pos} {e sz : Nat} {l : List PD} {v : Value} (h : OwnAt G w p e sz l v) (hl : l ≠ []) :
    ∃ g c, v = .slice (some ⟨g, 0, none⟩) l.length c ∧ l.length ≤ c ∧ RepRun G.im w g 0 (flat l) ∧ G.own g = some p ∧ ∃ cs e', w.heap[g]? = some (.cells cs e' (0, 0)) := by
  obtain ⟨hd, hw⟩ := h
  rcases hd.sl_shape with ⟨h1, -⟩ | ⟨g, o, c, rfl, h2, h3, h4⟩ | ⟨h1, -⟩
  · exact absurd h1 hl
  rotate_left
  · exact absurd h1 hl
  rcases hw with ⟨h5, h6⟩ | ⟨vs, h5, h6, h7⟩
  · rcases h5 with h5 | ⟨g', h5⟩
    · cases h5
    · cases h5; exact ⟨_, _, rfl, Nat.le_refl _, h4, h6 hl _ rfl⟩
  · rcases h5.2 with hn | ⟨g', cap, cur, hv, hb, hgg, rest⟩
    · simp at hn
    · simp only [Value.slice.injEq, Option.some.injEq, Addr.mk.injEq] at hv
      obtain ⟨⟨h8, h9⟩, h10⟩ := hv
      subst h8
      have h11 : o = 0 := by simpa using h9
      subst h11
      exact ⟨_, c, rfl, h2, h4, (h7 _ rfl).1, cur, e, hgg⟩
structure BxStep (P : Program) (fl : AF) (o : Oper) (st : St) (m : Nat) (f : Nat) (xs : List Operand) (ys : List PV) (R R' : PV) (x : PD) (e sz : Nat) (l : List PD) : Prop where
  call : isValCall o (.func f) xs
  pass : All2 (LendV (vz fl st.bx)) (xs.map st.ev) ys
  ret : BRet P f [] ys (.tup [R, .d x]) []
  shape : OwnIn (.t m) e sz l R R'
  plain : x.plain = true
  ne : l ≠ []
  flat : ∀ y ∈ flat l, y.plain = true
  be : fl.be = true
  free : st.bx (.t m) = none
theorem bxStep_sound {P : Program} {F : Fr} {G : Gh} {st : St} {a : Act} {w : World} (h : Rel P F G st a w) {fl : AF} {o : Oper} {m f : Nat} {xs : List Operand} {ys : List PV} {R R' : PV} {x : PD} {e sz : Nat} {l : List PD}
    (hd : ∀ d', o.dst = some d' → d' < F.nt) (hc : BxStep P fl o st m f xs ys R R' x e sz l) {K : Act → World → Prop} {Q : Exit → Act → World → Prop} (hK : ∀ a' w', (∃ G', Rel P F G' (st.after fl o (.tup [R', .d x]) (Bx.set st.bx (.t m) ((Bee.flat l).map .d))) a' w') → K a' w') : o.wp P a w K Q := by
  have hbsub : ∀ b c, vz fl st.bx b = some c → st.bx b = some c := by
    intro b c hc; unfold vz at hc; split at hc
    · exact hc
    · cases hc
  obtain ⟨hop, hpass, hret, hshape, hpl, hne, hflat, hbe, hbn⟩ := hc
  have hlen : ys.length = xs.length := by simpa using hpass.len
  refine callX hop hlen hret (G.lent w) (fun _ => False) (fun i x y hx hy => ?_) (fun g o h => h) (fun _ => rfl) (fun _ h => h) (fun g => ⟨fun h => ⟨h, id⟩, fun h => h.1⟩) (h.tab.mono (fun _ _ => rfl) (fun g _ h => h)) fun rv G' w' hrv hext hown' hz hpG => ?_
  · exact (hpass.get i _ y (by rw [List.getElem?_map, hx]; rfl) hy).rep h.hp hbsub (h.ev x)
  have hold : ∀ g, g < w.heap.size → w'.heap[g]? = w.heap[g]? := fun g hg => hext.old g hg id
  obtain ⟨us, rfl, hus, hur⟩ := hrv
  have hus2 : us.size = 2 := by simpa using hus
  have hr0 := hur 0 R us[0] rfl (Array.getElem?_eq_getElem (by omega))
  have hr1 := hur 1 (.d x) us[1] rfl (Array.getElem?_eq_getElem (by omega))
  obtain ⟨j, u, hown, hback⟩ := hshape.rep hr0
  obtain ⟨g, c, rfl, hlc, hrun, hgo, cs, e', hgc⟩ := own_at0 hown hne
  have hgn : w.heap.size ≤ g := (hown' g _ hgo).resolve_right id
  have hgl : g < w'.heap.size := (Array.getElem?_eq_some_iff.1 hgc).1
  have hllen : l.length ≤ 140737488355328 := hown.1.len
  have hnl : ¬ G.live (.t m) := fun hl => by have := (h.hp.live _).1 hl; simp [hbn] at this
  have hβlt : ∀ b, G.live b → G.β b < w.heap.size := fun b hl => by obtain ⟨c, _, hbx⟩ := h.hp.box hl; exact hbx.lt
  let G2 : Gh := { im := G.im, β := fun c => if c = .t m then g else G.β c, live := fun c => c = .t m ∨ G.live c, own := G.own, fz := G.fz }
  have hg : GStep G w G2 w' (fun p q => p = q) :=
    ⟨fun b o hb => ⟨hb, cell_of_heap (hold b (h.hp.imlt b o hb)) o⟩, fun b hl => ⟨.inr hl, by simp only [G2]; rw [if_neg]; intro e; subst e; exact hnl hl⟩, rfl, fun g hg => hold g (by have := (h.sn.fz g hg).1; have := h.sn.ext.size; omega), hext.size,
      fun g p q hg e => ⟨by rw [← e]; exact hg, hold g (h.hp.ownlt g p hg), fun _ h => h⟩,
      fun o k ho hf => ⟨⟨by rw [hold k hf.lt]; exact hf.1, hf.2.1, fun b hl => by
        have := hf.lt
        by_cases e : b = .t m
        · simp only [G2, e, if_true]; omega
        · simp only [G2, e, if_false]; exact hf.2.2.1 b (hl.resolve_left e), hf.2.2.2⟩, .heap (hold k hf.lt)⟩⟩
  obtain ⟨vs, hv1, hv2, hv3, hv4⟩ := hrun
  have hcell : ∀ (i : Nat) z, (Bee.flat l)[i]? = some z → ∃ u, cs[i]? = some u ∧ RepD G'.im w' z u ∧ z.scalar = true := fun i z hz => by
    have hi := (List.getElem?_eq_some_iff.1 hz).1
    have hi2 : vs[i]? = some vs[i] := List.getElem?_eq_getElem (by omega)
    have h2 := (hv3 i _ hi2).2
    rw [Nat.zero_add] at h2
    simp only [World.cell?, hgc] at h2
    exact ⟨_, h2, hv4 i z _ hz hi2, hv2 z (List.mem_of_getElem? hz)⟩
  have hsz : (Bee.flat l).length ≤ cs.size := by
    rcases Nat.eq_zero_or_pos (Bee.flat l).length with h0 | h0
    · omega
    · obtain ⟨u, hu, -⟩ := hcell ((Bee.flat l).length - 1) _ (List.getElem?_eq_getElem (by omega))
      have := (Array.getElem?_eq_some_iff.1 hu).1
      omega
  refine hK _ _ ⟨G2, ?_⟩
  unfold St.after
  rw [if_pos hbe]
  refine h.next hg (fun t _ _ i j => rfl) (fun d' _ => ⟨us, rfl, by simpa using hus, fun i y u hy hu => ?_⟩) hd ?_ ?_
  · match i, hy with
    | 0, hy =>
      simp at hy; subst hy
      have : u = us[0] := by rw [Array.getElem?_eq_getElem (by omega)] at hu; cases hu; rfl
      subst this
      have := hback G2 w' (.t d') (fun p => ⟨c, hlc, by simp [G2], .inl rfl, hllen⟩)
      cases hshape <;> exact this
    | 1, hy =>
      simp at hy; subst hy
      have : u = us[1] := by rw [Array.getElem?_eq_getElem (by omega)] at hu; cases hu; rfl
      subst this
      exact ⟨plain_sc hpl hr1.2 hr1.1, hr1.2⟩
    | i + 2, hy => simp at hy
  · refine ⟨fun b bcells hbc => ?_, fun b => ?_, fun b b' hl hl' he => ?_, fun k o hk => Nat.lt_of_lt_of_le (h.hp.imlt k o hk) hext.size, fun k p hk => Nat.lt_of_lt_of_le (h.hp.ownlt k p hk) hext.size, fun b hl o him => ?_, fun b hl => ?_⟩
    · by_cases hbd : b = .t m
      · subst hbd
        simp only [Bx.set, if_true, Option.some.injEq] at hbc
        subst hbc
        refine ⟨cs, e', by simp only [G2, if_true]; exact hgc, by simpa using hsz, fun i u hi hu => ?_, fun i z u hz hu => ?_⟩
        · obtain ⟨u', h1, h2, h3⟩ := hcell i _ (List.getElem?_eq_getElem (by simpa using hi))
          rw [hu] at h1; cases h1
          exact h2.oneCell h3
        · rw [List.getElem?_map] at hz
          obtain ⟨z', hz', rfl⟩ := Option.map_eq_some_iff.1 hz
          obtain ⟨u', h1, h2, h3⟩ := hcell i z' hz'
          rw [hu] at h1; cases h1
          exact ⟨plain_sc (hflat z' (List.mem_of_getElem? hz')) h3 h2, h3⟩
      · simp only [Bx.set, hbd, if_false] at hbc
        have hl := (h.hp.live b).2 (by simp [hbc])
        exact (h.hp.bx b bcells hbc).step hg hl (fun j => rfl) (hold _ (hβlt b hl))
    · simp only [G2, Bx.set]
      by_cases hbd : b = .t m
      · simp [hbd]
      · simp [hbd, h.hp.live b]
    · simp only [G2] at he hl hl'
      by_cases h1 : b = .t m <;> by_cases h2 : b' = .t m
      · rw [h1, h2]
      · have := hβlt b' (hl'.resolve_left h2)
        simp [h1, h2] at he; omega
      · have := hβlt b (hl.resolve_left h1)
        simp [h1, h2] at he; omega
      · simp only [h1, h2, if_false] at he
        exact h.hp.inj b b' (hl.resolve_left h1) (hl'.resolve_left h2) he
    · by_cases hbd : b = .t m
      · simp only [G2, hbd, if_true] at him
        have := h.hp.imlt _ _ him; omega
      · simp only [G2, hbd, if_false] at him
        exact h.hp.boxim b (hl.resolve_left hbd) o him
    · by_cases hbd : b = .t m
      · simp only [G2, hbd, if_true]
        cases ho : G.own g with
        | none => rfl
        | some p => have := h.hp.ownlt _ _ ho; omega
      · simp only [G2, hbd, if_false]
        exact h.hp.boxown b (hl.resolve_left hbd)
  · have hx := h.sn.ext
    refine ⟨⟨hext.os.trans hx.os, hext.tape.trans hx.tape, hext.output.trans hx.output, Nat.le_trans hx.size hext.size, fun b hb hw => ?_, fun b o hb => ?_, fun b o hb => hx.new b o hb⟩, h.sn.own, fun b hl => ?_, fun k => by simp [G2, h.sn.βa k], h.sn.fz, h.sn.fzm⟩
    · rw [hold b (Nat.lt_of_lt_of_le hb hx.size)]; exact hx.old b hb hw
    · have hk := hx.keep b o hb
      exact ⟨hk.1, (cell_of_heap (hold b (h.hp.imlt b o hk.1)) o).trans hk.2⟩
    · by_cases hbd : b = .t m
      · left; simp only [G2, hbd, if_true]; have := hx.size; omega
      · simp only [G2, hbd, if_false]; exact h.sn.box b (hl.resolve_left hbd)

def zpass : PV → Bool
  | .d _ => true
  | .zs _ => true
  | .nilS => true
  | .agg l => l.all fun | .d _ => true | .zs _ => true | .nilS => true | _ => false
  | _ => false
structure ZStep (P : Program) (fl : AF) (o : Oper) (st : St) (x : PD) (f : Nat) (xs : List Operand) : Prop where
  call : isValCall o (.func f) xs
  pass : ∀ x ∈ xs, zpass (st.ev x) = true
  ret : BRet P f [] (xs.map st.ev) (.d x) []
  plain : x.plain = true
def Gh.open' (G : Gh) (w : World) : Gh := { im := G.im, β := G.β, live := fun _ => False, own := fun _ => none, fz := fun g => g < w.heap.size ∧ ¬ FreeB G w g }
theorem open_free {G : Gh} {w : World} {g : Nat} (h : FreeB G w g) : FreeB (G.open' w) w g := ⟨h.1, rfl, fun b hl => hl.elim, h.2.2.2.1, fun hf => hf.2 h⟩
theorem zStep_sound {P : Program} {F : Fr} {G : Gh} {st : St} {a : Act} {w : World} (h : Rel P F G st a w) {fl : AF} {o : Oper} {x : PD} {f : Nat} {xs : List Operand}
    (hd : ∀ d', o.dst = some d' → d' < F.nt) (hc : ZStep P fl o st x f xs) {K : Act → World → Prop} {Q : Exit → Act → World → Prop} (hK : ∀ a' w', (∃ G', Rel P F G' (st.after fl o (.d x) (vz fl st.bx)) a' w') → K a' w') : o.wp P a w K Q := by
  obtain ⟨hop, hpass, hret, hpl⟩ := hc
  have hone : ∀ (y : PV) v p p', (match y with | .d _ => true | .zs _ => true | .nilS => true | _ => false) = true → RepC P G w p y v → RepC P (G.open' w) w p' y v := by
    intro y v p p' hy hr
    cases y <;> simp only [Bool.false_eq_true] at hy
    · exact hr
    · exact hr
    · exact ⟨hr.1.keep fun g hg => ⟨open_free hg, fun _ => rfl⟩, hr.2⟩
  refine callX hop (by simp) hret (G.open' w) (FreeB G w) (fun i X y hX hy => ?_) h.hp.imlt (fun _ => rfl) (fun _ h => h) (fun g => Iff.rfl) (h.tab.mono (fun _ _ => rfl) (fun g h1 h2 => ⟨h2, fun h3 => h3.2.2.2.2 h1⟩)) fun rv G' w' hrv hext hown' hz hpG => hK _ _ ⟨G, ?_⟩
  · rw [List.getElem?_map, hX] at hy
    cases hy
    have hp := hpass X (List.mem_of_getElem? hX)
    have hr := h.ev X
    generalize st.ev X = z at hp hr
    cases z <;> simp only [zpass, Bool.false_eq_true] at hp
    case agg l =>
      obtain ⟨cs, e, h1, h2, h3⟩ := hr
      refine ⟨cs, e, h1, h2, fun j y u hy hu => hone y u _ _ ?_ (h3 j y u hy hu)⟩
      have := List.all_eq_true.1 hp y (List.mem_of_getElem? hy)
      cases y <;> simp at this ⊢
    case d z => exact hr
    case nilS => exact hr
    case zs z => exact ⟨hr.1.keep fun g hg => ⟨open_free hg, fun _ => rfl⟩, hr.2⟩
  have hold : ∀ g, g < w.heap.size → ¬ FreeB G w g → w'.heap[g]? = w.heap[g]? := fun g hg hn => hext.old g hg hn
  have hfree : ∀ g, FreeB G w g → FreeB G w' g ∧ KindSame w w' g := fun g hg => ⟨⟨(hz g (open_free hg)).2.1, hg.2⟩, (hz g (open_free hg)).1⟩
  have hg : GStep G w G w' (fun p q => p = q) :=
    ⟨fun b o hb => ⟨hb, (hext.keep b o hb).2⟩, fun b hl => ⟨hl, rfl⟩, rfl, fun g hg => hold g (by have := (h.sn.fz g hg).1; have := h.sn.ext.size; omega) (fun hf => hf.2.2.2.2 hg), hext.size,
      fun g p q hg e => ⟨by rw [hg, e], hold g (h.hp.ownlt g p hg) (fun hf => by rw [hf.2.1] at hg; cases hg), fun _ h => h⟩,
      fun o g ho hf => by
        rcases ho with rfl | rfl
        · exact ⟨(hfree g hf).1, .kind (hfree g hf).2⟩
        · have hs := hold g hf.lt (fun hf2 => by have := hf.2.1; rw [hf2.2.1] at this; cases this)
          exact ⟨⟨by rw [hs]; exact hf.1, hf.2⟩, .heap hs⟩⟩
  have hsame : (if fl.be = true then vz fl st.bx else st.bx) = st.bx := by split <;> first | (rename_i hbe; simp [vz, hbe]) | rfl
  unfold St.after
  rw [hsame]
  refine h.next hg (fun t _ _ i j => rfl) (fun d' _ => ⟨plain_sc hpl hrv.2 hrv.1, hrv.2⟩) hd ⟨fun b cells hb => ?_, h.hp.live, h.hp.inj, fun g o hg => Nat.lt_of_lt_of_le (h.hp.imlt g o hg) hext.size, fun g p hg => Nat.lt_of_lt_of_le (h.hp.ownlt g p hg) hext.size, h.hp.boxim, h.hp.boxown⟩ ?_
  · have hl := (h.hp.live b).2 (by simp [hb])
    exact (h.hp.bx b cells hb).step hg hl (fun j => rfl) (hold _ (h.hp.bx b cells hb).lt (fun hf => hf.2.2.1 b hl rfl))
  · have hx := h.sn.ext
    refine ⟨⟨hext.os.trans hx.os, hext.tape.trans hx.tape, hext.output.trans hx.output, Nat.le_trans hx.size hext.size, fun b hb hw => ?_, fun b o hb => ?_, fun b o hb => hx.new b o hb⟩, h.sn.own, h.sn.box, h.sn.βa, h.sn.fz, h.sn.fzm⟩
    · rw [hold b (Nat.lt_of_lt_of_le hb hx.size) (fun hf => hf.2.2.2.2 (h.sn.fzm b hb hw))]; exact hx.old b hb hw
    · have hk := hx.keep b o hb
      exact ⟨hk.1, (hext.keep b o hk.1).2.trans hk.2⟩
end Go.Bee


namespace Go.Bee
set_option linter.unusedVariables false

structure Bx1Step (P : Program) (fl : AF) (o : Oper) (st : St) (m : Nat) (f : Nat) (xs : List Operand) (ys : List PV) (R R' : PV) (e sz : Nat) (l : List PD) : Prop where
  call : isValCall o (.func f) xs
  pass : All2 (LendV (vz fl st.bx)) (xs.map st.ev) ys
  ret : BRet P f [] ys R []
  shape : OwnIn (.t m) e sz l R R'
  ne : l ≠ []
  flat : ∀ y ∈ flat l, y.plain = true
  be : fl.be = true
  free : st.bx (.t m) = none
theorem bx1Step_sound {P : Program} {F : Fr} {G : Gh} {st : St} {a : Act} {w : World} (h : Rel P F G st a w) {fl : AF} {o : Oper} {m f : Nat} {xs : List Operand} {ys : List PV} {R R' : PV} {e sz : Nat} {l : List PD}
    (hd : ∀ d', o.dst = some d' → d' < F.nt) (hc : Bx1Step P fl o st m f xs ys R R' e sz l) {K : Act → World → Prop} {Q : Exit → Act → World → Prop} (hK : ∀ a' w', (∃ G', Rel P F G' (st.after fl o R' (Bx.set st.bx (.t m) ((Bee.flat l).map .d))) a' w') → K a' w') : o.wp P a w K Q := by
  have hbsub : ∀ b c, vz fl st.bx b = some c → st.bx b = some c := by
    intro b c hc; unfold vz at hc; split at hc
    · exact hc
    · cases hc
  obtain ⟨hop, hpass, hret, hshape, hne, hflat, hbe, hbn⟩ := hc
  have hlen : ys.length = xs.length := by simpa using hpass.len
  refine callX hop hlen hret (G.lent w) (fun _ => False) (fun i x y hx hy => ?_) (fun g o h => h) (fun _ => rfl) (fun _ h => h) (fun g => ⟨fun h => ⟨h, id⟩, fun h => h.1⟩) (h.tab.mono (fun _ _ => rfl) (fun g _ h => h)) fun rv G' w' hrv hext hown' hz hpG => ?_
  · exact (hpass.get i _ y (by rw [List.getElem?_map, hx]; rfl) hy).rep h.hp hbsub (h.ev x)
  have hold : ∀ g, g < w.heap.size → w'.heap[g]? = w.heap[g]? := fun g hg => hext.old g hg id
  have hr0 : RepV P G' w' .res 0 R rv := by cases hshape <;> exact hrv
  obtain ⟨j, u, hown, hback⟩ := hshape.rep hr0
  obtain ⟨g, c, rfl, hlc, hrun, hgo, cs, e', hgc⟩ := own_at0 hown hne
  have hgn : w.heap.size ≤ g := (hown' g _ hgo).resolve_right id
  have hgl : g < w'.heap.size := (Array.getElem?_eq_some_iff.1 hgc).1
  have hllen : l.length ≤ 140737488355328 := hown.1.len
  have hnl : ¬ G.live (.t m) := fun hl => by have := (h.hp.live _).1 hl; simp [hbn] at this
  have hβlt : ∀ b, G.live b → G.β b < w.heap.size := fun b hl => by obtain ⟨c, _, hbx⟩ := h.hp.box hl; exact hbx.lt
  let G2 : Gh := { im := G.im, β := fun c => if c = .t m then g else G.β c, live := fun c => c = .t m ∨ G.live c, own := G.own, fz := G.fz }
  have hg : GStep G w G2 w' (fun p q => p = q) :=
    ⟨fun b o hb => ⟨hb, cell_of_heap (hold b (h.hp.imlt b o hb)) o⟩, fun b hl => ⟨.inr hl, by simp only [G2]; rw [if_neg]; intro e; subst e; exact hnl hl⟩, rfl, fun g hg => hold g (by have := (h.sn.fz g hg).1; have := h.sn.ext.size; omega), hext.size,
      fun g p q hg e => ⟨by rw [← e]; exact hg, hold g (h.hp.ownlt g p hg), fun _ h => h⟩,
      fun o k ho hf => ⟨⟨by rw [hold k hf.lt]; exact hf.1, hf.2.1, fun b hl => by
        have := hf.lt
        by_cases e : b = .t m
        · simp only [G2, e, if_true]; omega
        · simp only [G2, e, if_false]; exact hf.2.2.1 b (hl.resolve_left e), hf.2.2.2⟩, .heap (hold k hf.lt)⟩⟩
  obtain ⟨vs, hv1, hv2, hv3, hv4⟩ := hrun
  have hcell : ∀ (i : Nat) z, (Bee.flat l)[i]? = some z → ∃ u, cs[i]? = some u ∧ RepD G'.im w' z u ∧ z.scalar = true := fun i z hz => by
    have hi := (List.getElem?_eq_some_iff.1 hz).1
    have hi2 : vs[i]? = some vs[i] := List.getElem?_eq_getElem (by omega)
    have h2 := (hv3 i _ hi2).2
    rw [Nat.zero_add] at h2
    simp only [World.cell?, hgc] at h2
    exact ⟨_, h2, hv4 i z _ hz hi2, hv2 z (List.mem_of_getElem? hz)⟩
  have hsz : (Bee.flat l).length ≤ cs.size := by
    rcases Nat.eq_zero_or_pos (Bee.flat l).length with h0 | h0
    · omega
    · obtain ⟨u, hu, -⟩ := hcell ((Bee.flat l).length - 1) _ (List.getElem?_eq_getElem (by omega))
      have := (Array.getElem?_eq_some_iff.1 hu).1
      omega
  refine hK _ _ ⟨G2, ?_⟩
  unfold St.after
  rw [if_pos hbe]
  refine h.next hg (fun t _ _ i j => rfl) (fun d' _ => ?_) hd ?_ ?_
  · have := hback G2 w' (.t d') (fun p => ⟨c, hlc, by simp [G2], .inl rfl, hllen⟩)
    cases hshape <;> exact this
  · refine ⟨fun b bcells hbc => ?_, fun b => ?_, fun b b' hl hl' he => ?_, fun k o hk => Nat.lt_of_lt_of_le (h.hp.imlt k o hk) hext.size, fun k p hk => Nat.lt_of_lt_of_le (h.hp.ownlt k p hk) hext.size, fun b hl o him => ?_, fun b hl => ?_⟩
    · by_cases hbd : b = .t m
      · subst hbd
        simp only [Bx.set, if_true, Option.some.injEq] at hbc
        subst hbc
        refine ⟨cs, e', by simp only [G2, if_true]; exact hgc, by simpa using hsz, fun i u hi hu => ?_, fun i z u hz hu => ?_⟩
        · obtain ⟨u', h1, h2, h3⟩ := hcell i _ (List.getElem?_eq_getElem (by simpa using hi))
          rw [hu] at h1; cases h1
          exact h2.oneCell h3
        · rw [List.getElem?_map] at hz
          obtain ⟨z', hz', rfl⟩ := Option.map_eq_some_iff.1 hz
          obtain ⟨u', h1, h2, h3⟩ := hcell i z' hz'
          rw [hu] at h1; cases h1
          exact ⟨plain_sc (hflat z' (List.mem_of_getElem? hz')) h3 h2, h3⟩
      · simp only [Bx.set, hbd, if_false] at hbc
        have hl := (h.hp.live b).2 (by simp [hbc])
        exact (h.hp.bx b bcells hbc).step hg hl (fun j => rfl) (hold _ (hβlt b hl))
    · simp only [G2, Bx.set]
      by_cases hbd : b = .t m
      · simp [hbd]
      · simp [hbd, h.hp.live b]
    · simp only [G2] at he hl hl'
      by_cases h1 : b = .t m <;> by_cases h2 : b' = .t m
      · rw [h1, h2]
      · have := hβlt b' (hl'.resolve_left h2)
        simp [h1, h2] at he; omega
      · have := hβlt b (hl.resolve_left h1)
        simp [h1, h2] at he; omega
      · simp only [h1, h2, if_false] at he
        exact h.hp.inj b b' (hl.resolve_left h1) (hl'.resolve_left h2) he
    · by_cases hbd : b = .t m
      · simp only [G2, hbd, if_true] at him
        have := h.hp.imlt _ _ him; omega
      · simp only [G2, hbd, if_false] at him
        exact h.hp.boxim b (hl.resolve_left hbd) o him
    · by_cases hbd : b = .t m
      · simp only [G2, hbd, if_true]
        cases ho : G.own g with
        | none => rfl
        | some p => have := h.hp.ownlt _ _ ho; omega
      · simp only [G2, hbd, if_false]
        exact h.hp.boxown b (hl.resolve_left hbd)
  · have hx := h.sn.ext
    refine ⟨⟨hext.os.trans hx.os, hext.tape.trans hx.tape, hext.output.trans hx.output, Nat.le_trans hx.size hext.size, fun b hb hw => ?_, fun b o hb => ?_, fun b o hb => hx.new b o hb⟩, h.sn.own, fun b hl => ?_, fun k => by simp [G2, h.sn.βa k], h.sn.fz, h.sn.fzm⟩
    · rw [hold b (Nat.lt_of_lt_of_le hb hx.size)]; exact hx.old b hb hw
    · have hk := hx.keep b o hb
      exact ⟨hk.1, (cell_of_heap (hold b (h.hp.imlt b o hk.1)) o).trans hk.2⟩
    · by_cases hbd : b = .t m
      · left; simp only [G2, hbd, if_true]; have := hx.size; omega
      · simp only [G2, hbd, if_false]; exact h.sn.box b (hl.resolve_left hbd)

structure RdStep (P : Program) (fl : AF) (o : Oper) (st : St) (b : BN) (f : Nat) (x0 : Operand) (xs : List Operand) (ys : List PD) (sz n n' : Nat) (qs ps : List PD) : Prop where
  call : isValCall o (.func f) (x0 :: xs)
  x0 : st.ev x0 = .rsv b sz n
  box : st.bx b = some (qs.map .d)
  qpl : ∀ y ∈ qs, y.plain = true
  args : xs.map st.ev = ys.map .d
  plainA : ∀ y ∈ ys, y.plain = true
  ret : BRet P f [qs.map .d] (.rsv (.a 0) sz n :: ys.map .d) (.rsv (.a 0) sz n') [ps.map .d]
  plain : ∀ y ∈ ps, y.plain = true
  be : fl.be = true
theorem rdStep_sound {P : Program} {F : Fr} {G : Gh} {st : St} {a : Act} {w : World} (h : Rel P F G st a w) {fl : AF} {o : Oper} {b : BN} {f : Nat} {x0 : Operand} {xs : List Operand} {ys : List PD} {sz n n' : Nat} {qs ps : List PD}
    (hd : ∀ d', o.dst = some d' → d' < F.nt) (hc : RdStep P fl o st b f x0 xs ys sz n n' qs ps) {K : Act → World → Prop} {Q : Exit → Act → World → Prop} (hK : ∀ a' w', (∃ G', Rel P F G' (st.after fl o (.rsv b sz n') (Bx.set st.bx b (ps.map .d))) a' w') → K a' w') : o.wp P a w K Q := by
  obtain ⟨hop, hx0, hbx, hqpl, hargs, hplA, hret, hpl, hbe⟩ := hc
  obtain ⟨ts, hop⟩ := hop
  obtain ⟨hisfn, -, hret⟩ := hret
  have hlive : G.live b := (h.hp.live b).2 (by rw [hbx]; rfl)
  have hbox := h.hp.bx b _ hbx
  have hβlt := hbox.lt
  have hnew := h.sn.box b hlive
  let Gc : Gh := { im := G.im, β := fun _ => G.β b, live := fun c => c = .a 0, own := fun _ => none, fz := fun g => g < w.heap.size ∧ g ≠ G.β b }
  have hlenA : ys.length = xs.length := by have := congrArg List.length hargs; simpa using this.symm
  have hp : Hp P Gc w (bxOf [qs.map .d]) := by
    refine ⟨fun c cells hc => ?_, fun c => ?_, fun c c' hl hl' _ => by rw [show c = .a 0 from hl, show c' = .a 0 from hl'], h.hp.imlt, fun g p hg => (by cases hg), fun c hl o => h.hp.boxim b hlive o, fun c hl => rfl⟩
    · cases c with
      | t n => simp [bxOf] at hc
      | a k =>
        cases k with
        | zero =>
          simp [bxOf] at hc
          subst hc
          obtain ⟨cs, e, h1, h2, h3, h4⟩ := hbox
          refine ⟨cs, e, h1, h2, h3, fun j x u hx hu => ?_⟩
          have hr := h4 j x u hx hu
          rw [List.getElem?_map] at hx
          obtain ⟨z, hz, rfl⟩ := Option.map_eq_some_iff.1 hx
          exact ⟨plain_sc (hqpl z (List.mem_of_getElem? hz)) hr.2 hr.1, hr.2⟩
        | succ k => simp [bxOf] at hc
    · cases c with
      | t n => simp [bxOf, Gc]
      | a k => cases k <;> simp [bxOf, Gc]
  have hcalls := hret Gc w ((x0 :: xs).toArray.map a.eval) (fun g => g = G.β b) (by simp [hlenA]) (fun i y u hy hu => by
      cases i with
      | zero =>
        have hu' : u = a.eval x0 := by simpa using hu.symm
        simp at hy
        subst hu'; subst hy
        have hr := h.ev x0
        rw [hx0] at hr
        obtain ⟨c, h1, h2, h3, h4⟩ := hr
        exact ⟨c, h1, h2, rfl, h4⟩
      | succ i =>
        have hil : i < xs.length := by
          have := (List.getElem?_eq_some_iff.1 hy).1
          simp at this; omega
        have hu' : u = a.eval xs[i] := by simp [hil] at hu; exact hu.symm
        subst hu'
        simp only [List.getElem?_cons_succ] at hy
        have hev : (xs.map st.ev)[i]? = some (st.ev xs[i]) := by rw [List.getElem?_map, List.getElem?_eq_getElem hil]; rfl
        rw [hargs, hy] at hev
        have hr := h.ev xs[i]
        rw [← Option.some.inj hev] at hr
        rw [List.getElem?_map] at hy
        obtain ⟨z, hz, rfl⟩ := Option.map_eq_some_iff.1 hy
        exact ⟨plain_sc (hplA z (List.mem_of_getElem? hz)) hr.2 hr.1, hr.2⟩) hp (fun g p hg => (by cases hg)) (fun c hl => rfl) (fun g hg => hg) (fun g h1 h2 => ⟨h1, h2⟩) (h.tab.mono (fun _ _ => rfl) (fun g h1 h2 => ⟨h2, fun e => by
      obtain ⟨h3, h4⟩ := h.sn.fz g h1
      subst e
      rcases hnew with h5 | h5
      · omega
      · exact h4 h5⟩))
  have hrunX : (execOp a.eval o).run P w = .ok (.enter f ((x0 :: xs).toArray.map a.eval)) w := by
    have := run_callFunc hisfn ((x0 :: xs).toArray.map a.eval) w
    simp [execOp, hop, resolve, Deferred.ofValue, Act.eval, invoke]
    simpa [Act.eval] using this
  unfold Oper.wp
  rw [hrunX]
  refine Calls.mono hcalls fun e w' hR => ?_
  obtain ⟨rv, G', rfl, hrv, hpG, hext, hβ', -, -⟩ := hR
  have hβ0 : G'.β (.a 0) = G.β b := hβ' 0
  have hold : ∀ g, g < w.heap.size → g ≠ G.β b → w'.heap[g]? = w.heap[g]? := fun g hg hn => hext.old g hg hn
  have hg : GStep G w G w' (fun p q => p = q) :=
    ⟨fun b o hb => ⟨hb, (hext.keep b o hb).2⟩, fun b hl => ⟨hl, rfl⟩, rfl, fun g hg => by
        obtain ⟨h1, h2⟩ := h.sn.fz g hg
        have hs := h.sn.ext.size
        refine hold g (by omega) (fun e => ?_)
        subst e
        rcases hnew with h3 | h3
        · omega
        · exact h2 h3, hext.size,
      fun g p q hg e => ⟨by rw [hg, e], hold g (h.hp.ownlt g p hg) (fun e => by rw [e, h.hp.boxown b hlive] at hg; cases hg), fun _ h => h⟩,
      fun o g ho hf => by
        have hs := hold g hf.lt (fun e => hf.2.2.1 b hlive e.symm)
        exact ⟨⟨by rw [hs]; exact hf.1, hf.2⟩, .heap hs⟩⟩
  refine hK _ _ ⟨G, ?_⟩
  unfold St.after
  rw [if_pos hbe]
  refine h.next hg (fun t _ _ i j => rfl) (fun d' _ => ?_) hd ⟨fun c cells hc => ?_, fun c => ?_, h.hp.inj, fun g o hg => Nat.lt_of_lt_of_le (h.hp.imlt g o hg) hext.size, fun g p hg => Nat.lt_of_lt_of_le (h.hp.ownlt g p hg) hext.size, h.hp.boxim, h.hp.boxown⟩ ?_
  · obtain ⟨c, h1, h2, h3, h4⟩ := hrv
    exact ⟨c, h1, by rw [← hβ0]; exact h2, hlive, h4⟩
  · by_cases hcb : c = b
    · subst hcb
      simp only [Bx.set, if_true, Option.some.injEq] at hc
      subst hc
      obtain ⟨cs, e, h1, h2, h3, h4⟩ := hpG.bx (.a 0) (ps.map .d) (by simp [bxOf])
      rw [hβ0] at h1
      refine ⟨cs, e, h1, h2, h3, fun j x u hx hu => ?_⟩
      have hr := h4 j x u hx hu
      rw [List.getElem?_map] at hx
      obtain ⟨z, hz, rfl⟩ := Option.map_eq_some_iff.1 hx
      exact ⟨plain_sc (hpl z (List.mem_of_getElem? hz)) hr.2 hr.1, hr.2⟩
    · simp only [Bx.set, hcb, if_false] at hc
      have hl := (h.hp.live c).2 (by simp [hc])
      exact (h.hp.bx c cells hc).step hg hl (fun j => rfl) (hold _ (h.hp.bx c cells hc).lt (fun e => hcb (h.hp.inj c b hl hlive e)))
  · simp only [Bx.set]
    by_cases hcb : c = b
    · simp [hcb, hlive]
    · simp [hcb, h.hp.live c]
  · have hx := h.sn.ext
    refine ⟨⟨hext.os.trans hx.os, hext.tape.trans hx.tape, hext.output.trans hx.output, Nat.le_trans hx.size hext.size, fun g hb hw => ?_, fun g o hb => ?_, fun b o hb => hx.new b o hb⟩, h.sn.own, h.sn.box, h.sn.βa, h.sn.fz, h.sn.fzm⟩
    · rw [hold g (Nat.lt_of_lt_of_le hb hx.size) (fun e => by subst e; rcases hnew with h3 | h3; omega; exact hw h3)]; exact hx.old g hb hw
    · have hk := hx.keep g o hb
      exact ⟨hk.1, (hext.keep g o hk.1).2.trans hk.2⟩
end Go.Bee


namespace Go.Bee
set_option linter.unusedVariables false

def pdsOf : List PV → Option (List PD)
  | [] => some []
  | x :: xs => (x.pd).bind fun y => (pdsOf xs).map fun ys => y :: ys
theorem pdsOf_get : ∀ {l : List PV} {ys : List PD}, pdsOf l = some ys → ys.length = l.length ∧ ∀ (i : Nat) x y, l[i]? = some x → ys[i]? = some y → x.pd = some y
  | [], ys, h => by simp [pdsOf] at h; subst h; simp
  | x :: xs, ys, h => by
    simp only [pdsOf, Option.bind_eq_some_iff, Option.map_eq_some_iff] at h
    obtain ⟨y, hy, zs, hz, rfl⟩ := h
    obtain ⟨h1, h2⟩ := pdsOf_get hz
    refine ⟨by simp [h1], fun i a b ha hb => ?_⟩
    cases i with
    | zero => simp at ha hb; subst ha; subst hb; exact hy
    | succ i => simp at ha hb; exact h2 i a b ha hb
structure FnStep (fl : AF) (o : Oper) (st : St) (v : PV) (X : Operand) (xs : List Operand) (K : List PD → Option PD) (zs : List PD) (r : PD) : Prop where
  call : isValCall o X xs
  fn : st.ev X = .fn K
  args : pdsOf (xs.map st.ev) = some zs
  res : K zs = some r
  out : v = ofPD r

theorem fnStep_sound {P : Program} {F : Fr} {G : Gh} {st : St} {a : Act} {w : World} (h : Rel P F G st a w) {fl : AF} {o : Oper} {v : PV} {X : Operand} {xs : List Operand} {Kf : List PD → Option PD} {zs : List PD} {r : PD}
    (hd : ∀ d', o.dst = some d' → d' < F.nt) (hc : FnStep fl o st v X xs Kf zs r) {K : Act → World → Prop} {Q : Exit → Act → World → Prop} (hK : ∀ a' w', (∃ G', Rel P F G' (st.after fl o v (vz fl st.bx)) a' w') → K a' w') : o.wp P a w K Q := by
  obtain ⟨⟨tys, hop⟩, hfn, hargs, hres, rfl⟩ := hc
  have hX := h.ev X
  rw [hfn] at hX
  obtain ⟨f, caps, hXv, hisfn, hKK⟩ := hX
  obtain ⟨hpl, hcalls⟩ := hKK zs r hres
  obtain ⟨hzl, hzg⟩ := pdsOf_get hargs
  have hc := hcalls G.im w (Keep.refl _ _) (fun _ _ => rfl) (Nat.le_refl _) h.hp.imlt (xs.toArray.map a.eval) (by simpa using hzl.symm) (fun i x u hx hu => by
    have hil : i < xs.length := by
      have := (List.getElem?_eq_some_iff.1 hx).1
      rw [hzl] at this; simpa using this
    have hu' : u = a.eval xs[i] := by simp [hil] at hu; exact hu.symm
    subst hu'
    have hev : (xs.map st.ev)[i]? = some (st.ev xs[i]) := by rw [List.getElem?_map, List.getElem?_eq_getElem hil]; rfl
    exact pd_RepD (h.ev xs[i]) (hzg i _ x hev hx))
  have hrunX : (execOp a.eval o).run P w = .ok (.enter f (xs.toArray.map a.eval ++ caps)) w := by
    have := run_callFunc hisfn (xs.toArray.map a.eval ++ caps) w
    simp [execOp, hop, resolve, Deferred.ofValue, hXv, invoke]
    simpa using this
  unfold Oper.wp
  rw [hrunX]
  refine Calls.mono hc fun e w' hR => ?_
  obtain ⟨u, rfl, hext, hru⟩ := hR
  have hsame : (if fl.be = true then vz fl st.bx else st.bx) = st.bx := by split <;> first | (rename_i hbe; simp [vz, hbe]) | rfl
  have hg : GStep G w G w' (fun p q => p = q) := by
    refine ⟨hext.keep, fun b hl => ⟨hl, rfl⟩, rfl, fun g hg => ?_, hext.size, fun g p q hgp e => ⟨by rw [hgp, e], hext.old g (h.hp.ownlt g p hgp) (fun h => h), fun _ h => h⟩, fun o g ho hf => ⟨⟨by rw [hext.old g hf.lt (fun h => h)]; exact hf.1, hf.2⟩, .heap (hext.old g hf.lt (fun h => h))⟩⟩
    obtain ⟨h1, h2⟩ := h.sn.fz g hg
    have hs := h.sn.ext.size
    exact hext.old g (by omega) (fun h => h)
  refine hK _ _ ⟨G, ?_⟩
  unfold St.after
  rw [hsame]
  refine h.next hg (fun t _ _ i j => rfl) (fun d' _ => ofPD_rep hru) hd ⟨fun b cells hb => ?_, h.hp.live, h.hp.inj, fun g o hg => Nat.lt_of_lt_of_le (h.hp.imlt g o hg) hext.size, fun g p hg => Nat.lt_of_lt_of_le (h.hp.ownlt g p hg) hext.size, h.hp.boxim, h.hp.boxown⟩ ⟨h.sn.ext.trans hext (fun b hb => hb.elim), h.sn.own, h.sn.box, h.sn.βa, h.sn.fz, h.sn.fzm⟩
  have hl := (h.hp.live b).2 (by simp [hb])
  exact (h.hp.bx b cells hb).step hg hl (fun j => rfl) (hext.old _ (h.hp.bx b cells hb).lt (fun h => h))

inductive OS1 (P : Program) (fl : AF) (o : Oper) (st : St) : PV → Bx → Prop
  | ev (v : PV) (B' : Bx) (h : ev1 P fl o st.ev (vz fl st.bx) = some (v, B')) : OS1 P fl o st v B'
  | call (v : PV) (B' : Bx) (X : Operand) (xs : List Operand) (f : Nat) (caps ys : List PV) (nm : List BN) (bi bo : List (List PV)) (h : CallStep P fl o st v B' X xs f caps ys nm bi bo) : OS1 P fl o st v B'
  | fn (v : PV) (X : Operand) (xs : List Operand) (K : List PD → Option PD) (zs : List PD) (r : PD) (h : FnStep fl o st v X xs K zs r) : OS1 P fl o st v (vz fl st.bx)
  | look (v : PV) (f : Nat) (xs : List Operand) (ys : List PV) (r : PV) (h : QStep P fl o st v f xs ys r) : OS1 P fl o st v (vz fl st.bx)
  | writes (x : PD) (f : Nat) (xs : List Operand) (h : ZStep P fl o st x f xs) : OS1 P fl o st (.d x) (vz fl st.bx)
  | boxed (m f : Nat) (xs : List Operand) (ys : List PV) (R R' : PV) (x : PD) (e sz : Nat) (l : List PD) (h : BxStep P fl o st m f xs ys R R' x e sz l) : OS1 P fl o st (.tup [R', .d x]) (Bx.set st.bx (.t m) ((flat l).map .d))
  | boxed1 (m f : Nat) (xs : List Operand) (ys : List PV) (R R' : PV) (e sz : Nat) (l : List PD) (h : Bx1Step P fl o st m f xs ys R R' e sz l) : OS1 P fl o st R' (Bx.set st.bx (.t m) ((flat l).map .d))
  | redo (b : BN) (f : Nat) (x0 : Operand) (xs : List Operand) (ys : List PD) (sz n n' : Nat) (qs ps : List PD) (h : RdStep P fl o st b f x0 xs ys sz n n' qs ps) : OS1 P fl o st (.rsv b sz n') (Bx.set st.bx b (ps.map .d))
theorem os1_sound {P : Program} {F : Fr} {G : Gh} {st : St} {a : Act} {w : World} (h : Rel P F G st a w) {fl : AF} {o : Oper} {v : PV} {B' : Bx} (hd : ∀ d', o.dst = some d' → d' < F.nt)
    (hs : OS1 P fl o st v B') {K : Act → World → Prop} {Q : Exit → Act → World → Prop} (hK : ∀ a' w', (∃ G', Rel P F G' (st.after fl o v B') a' w') → K a' w') : o.wp P a w K Q := by
  cases hs with
  | ev _ _ he => exact ev1_sound h hd he hK
  | call _ _ X xs f caps ys nm bi bo hc => exact callStep_sound h hd hc hK
  | fn _ X xs K zs r hc => exact fnStep_sound h hd hc hK
  | look _ f xs ys r hc => exact qStep_sound h hd hc hK
  | writes x f xs hc => exact zStep_sound h hd hc hK
  | boxed m f xs ys R R' x e sz l hc => exact bxStep_sound h hd hc hK
  | boxed1 m f xs ys _ R' e sz l hc => exact bx1Step_sound h hd hc hK
  | redo b f x0 xs ys sz n n' qs ps hc => exact rdStep_sound h hd hc hK

def gd (ops : Array Oper) (o : Oper) (st : St) : Option Bool :=
  match o.guard with
  | none => some true
  | some (j, want) => match (ops[j]?).bind (·.dst) with
    | none => none
    | some t => match st.tm t with
      | .d (.bool b) => some (b == want)
      | .und => some false
      | _ => none
inductive OS (P : Program) (ops : Array Oper) (fl : AF) (o : Oper) (st : St) : St → Prop
  | run (v : PV) (B' : Bx) (hg : gd ops o st = some true) (h : OS1 P fl o st v B') : OS P ops fl o st (st.after fl o v B')
  | skip (hg : gd ops o st = some false) : OS P ops fl o st (st.upd [] o.dst .und st.bx)
theorem gd_wanted {P : Program} {F : Fr} {G : Gh} {st : St} {a : Act} {w : World} (h : Rel P F G st a w) {ops : Array Oper} {o : Oper} {b : Bool} (hg : gd ops o st = some b) : Region.wanted o (yielded ops a.tmps) = b := by
  unfold gd at hg
  unfold Region.wanted
  split at hg
  · rename_i hn; simp only [hn]; simpa using hg
  · rename_i j want hn
    simp only [hn]
    split at hg
    · cases hg
    · rename_i t ht
      have hr := h.tm t
      unfold yielded
      rw [ht]
      simp only [Option.bind_some]
      split at hg
      · rename_i c hc
        rw [hc] at hr
        obtain ⟨hr, -⟩ := hr
        have hv : a.tmps.getD t undef = .bool c := by generalize a.tmps.getD t undef = u at hr; cases hr; rfl
        have : a.tmps[t]? = some (.bool c) := by
          rw [Array.getD_eq_getD_getElem?] at hv
          cases hx : a.tmps[t]? with
          | none => rw [hx] at hv; simp [undef] at hv
          | some u => rw [hx] at hv; simp at hv; rw [hv]
        rw [this]
        simp only [Option.some.injEq] at hg
        subst hg
        cases c <;> cases want <;> rfl
      · rename_i hc
        rw [hc] at hr
        have hv : a.tmps.getD t undef = undef := hr
        simp only [Option.some.injEq] at hg
        subst hg
        rw [Array.getD_eq_getD_getElem?] at hv
        cases hx : a.tmps[t]? with
        | none => rfl
        | some u => rw [hx] at hv; simp at hv; rw [hv]; rfl
      · cases hg
theorem os_sound {P : Program} {F : Fr} {G : Gh} {st st' : St} {a : Act} {w : World} (h : Rel P F G st a w) {ops : Array Oper} {fl : AF} {i : Nat} {o : Oper} (ho : ops[i]? = some o) (hd : ∀ d', o.dst = some d' → d' < F.nt)
    (hs : OS P ops fl o st st') {K : Act → World → Prop} {Q : Exit → Act → World → Prop} (hK : ∀ a' w', (∃ G', Rel P F G' st' a' w') → K a' w') : wpOp P ops Q i K a w := by
  unfold wpOp
  rw [ho]
  cases hs with
  | run v B' hg hs =>
    simp only [gd_wanted h hg, if_true]
    exact .inl (os1_sound h hd hs hK)
  | skip hg =>
    simp only [gd_wanted h hg, Bool.false_eq_true, if_false]
    exact hK _ _ ⟨G, h.put1 [] hd (fun loc => rfl)⟩

def St.at (st : St) (B : Bx) : St := ⟨st.tm, B⟩
def joinB (l : List BN) (B' B : Bx) : Bx := fun b => if l.contains b = true then B' b else B b
inductive OSx (P : Program) (ops : Array Oper) (fl : AF) (inn : Option (List BN)) (o : Oper) (st st' : St) : Prop
  | all (h : inn = none) (hs : OS P ops fl o st st') : OSx P ops fl inn o st st'
  | loc (l : List BN) (h : inn = some l) (hs : ∀ B2 : Bx, (∀ b, l.contains b = true → B2 b = st.bx b) → OS P ops fl o (st.at B2) ⟨st'.tm, joinB l st'.bx B2⟩) (hout : ∀ b, l.contains b = false → st'.bx b = st.bx b) : OSx P ops fl inn o st st'
theorem OSx.os {P : Program} {ops : Array Oper} {fl : AF} {inn : Option (List BN)} {o : Oper} {st st' : St} (h : OSx P ops fl inn o st st') : OS P ops fl o st st' := by
  cases h with
  | all _ hs => exact hs
  | loc l _ hs hout =>
    have h1 := hs st.bx fun _ _ => rfl
    have e : (⟨st'.tm, joinB l st'.bx st.bx⟩ : St) = st' := by
      cases st' with
      | mk tm bx =>
        simp only [St.mk.injEq, true_and]
        funext b
        unfold joinB
        by_cases hb : l.contains b = true
        · rw [if_pos hb]
        · rw [if_neg hb]; exact (hout b (by simpa using hb)).symm
    rw [e] at h1; exact h1

inductive Runs (P : Program) (ops : Array Oper) (fls : Nat → AF) (inns : Nat → Option (List BN)) : List Nat → St → St → Prop
  | nil (st : St) : Runs P ops fls inns [] st st
  | cons (i : Nat) (l : List Nat) (o : Oper) (st s1 st' : St) (ho : ops[i]? = some o) (h : OSx P ops (fls i) (inns i) o st s1) (hl : Runs P ops fls inns l s1 st') : Runs P ops fls inns (i :: l) st st'

theorem runs_sound {P : Program} {F : Fr} {ops : Array Oper} {fls : Nat → AF} {inns : Nat → Option (List BN)} {Q : Exit → Act → World → Prop} (hd : ∀ (i : Nat) o, ops[i]? = some o → ∀ d', o.dst = some d' → d' < F.nt) {l : List Nat} {st sF : St} (hr : Runs P ops fls inns l st sF) :
    ∀ {G : Gh} {a : Act} {w : World}, Rel P F G st a w → (∀ a' w', (∃ G', Rel P F G' sF a' w') → Q .normal a' w') → wpOps P ops Q l a w := by
  induction hr with
  | nil st => intro G a w h hQ; exact hQ a w ⟨G, h⟩
  | cons i l o st s1 st' ho hs hl ih =>
    intro G a w h hQ
    rw [wpOps_cons]
    exact os_sound h ho (hd i o ho) hs.os fun a' w' ⟨G', h'⟩ => ih h' hQ

def touched (ops : Array Oper) (o : Oper) : List Nat := o.dst.toList ++ o.looksAt ops
def written (fl : AF) (o : Oper) : List Nat := o.dst.toList ++ stripsOf fl o
def apart : Option (List BN) → Option (List BN) → Bool
  | some l, some m => l.all fun b => !m.contains b
  | _, _ => false
def inAll (inn : Option (List BN)) (b : BN) : Bool := match inn with
  | none => true
  | some l => l.contains b
def indep (ops : Array Oper) (f1 f2 : AF) (i1 i2 : Option (List BN)) (x y : Oper) : Bool :=
  ((written f1 x).all fun t => !(touched ops y).contains t) && ((written f2 y).all fun t => !(touched ops x).contains t) && (apart i1 i2 || (!(f1.be && (f2.bt || f2.be)) && !(f2.be && (f1.bt || f1.be))))

theorem looks_tmps {ops : Array Oper} {o : Oper} {t : Nat} (h : Operand.tmp t ∈ o.op.operands) : t ∈ touched ops o := by
  unfold touched Oper.looksAt
  simp only [List.mem_append, List.mem_filterMap]
  exact .inr (.inl ⟨.tmp t, by simpa using h, rfl⟩)
theorem ev_congr {st σ : St} {ops : Array Oper} {o : Oper} (h : ∀ t, t ∈ touched ops o → σ.tm t = st.tm t) : ∀ x, x ∈ o.op.operands → σ.ev x = st.ev x := by
  intro x hx
  cases x with
  | tmp t => exact h t (looks_tmps hx)
  | const v => rfl
  | global g => rfl
  | func f => rfl
theorem ev1_congr {P : Program} {fl : AF} {o : Oper} {ρ ρ' : Operand → PV} {B : Bx} (h : ∀ x, x ∈ o.op.operands → ρ' x = ρ x) : ev1 P fl o ρ' B = ev1 P fl o ρ B := by
  unfold ev1
  cases hop : o.op <;> simp only [hop, Op.operands, Call.operands] at h <;> try rfl
  case move x => simp [h x (by simp)]
  case assign x => simp [h x (by simp)]
  case pick c a b => simp [h c (by simp), h a (by simp), h b (by simp)]
  case box t x => simp [h x (by simp)]
  case build t parts =>
    have : parts.toList.map (fun p => (p.1, ρ' p.2)) = parts.toList.map (fun p => (p.1, ρ p.2)) := by
      apply List.map_congr_left
      intro p hp
      rw [h p.2 (by simp only [List.mem_toArray, List.mem_map]; exact ⟨p, hp, rfl⟩)]
    simp [this]
  case buildSlice t len parts =>
    have : parts.toList.map (fun p => (p.1, ρ' p.2)) = parts.toList.map (fun p => (p.1, ρ p.2)) := by
      apply List.map_congr_left
      intro p hp
      rw [h p.2 (by simp only [List.mem_toArray, List.mem_map]; exact ⟨p, hp, rfl⟩)]
    simp [this]
  case load t x => simp [h x (by simp)]
  case store t x y => simp [h x (by simp), h y (by simp)]
  case nilCheck x => simp [h x (by simp)]
  case binOp op t x y yt => simp [h x (by simp), h y (by simp)]
  case unOp op t x => simp [h x (by simp)]
  case convert s t x => simp [h x (by simp)]
  case makeFunc fn first caps =>
    have e1 : caps.toList.map (fun c => (ρ' c).bC) = caps.toList.map (fun c => (ρ c).bC) := by
      apply List.map_congr_left
      intro c hc
      rw [h c (by simp; exact .inr (by simpa using hc))]
    have e2 : caps.toList.all (fun c => ((ρ' c).bC).isAt) = caps.toList.all (fun c => ((ρ c).bC).isAt) := by
      rw [Bool.eq_iff_iff, List.all_eq_true, List.all_eq_true]
      constructor <;> intro hh c hc
      · have := hh c hc; rwa [h c (by simp; exact .inr (by simpa using hc))] at this
      · have := hh c hc; rwa [← h c (by simp; exact .inr (by simpa using hc))] at this
    cases fn <;> simp only [] <;> rw [e1, e2]
  case slice t x lo hi mx =>
    have e1 : lo.map ρ' = lo.map ρ := by cases lo with | none => rfl | some q => simp [h q (by simp)]
    have e2 : hi.map ρ' = hi.map ρ := by cases hi with | none => rfl | some q => simp [h q (by simp)]
    simp only [h x (by simp), e1, e2]
  case fieldAddr t x f => simp [h x (by simp)]
  case field t x f => simp [h x (by simp)]
  case indexAddr t x i => simp [h x (by simp), h i (by simp)]
  case index t x i => simp [h x (by simp), h i (by simp)]
  case makeSlice t lo hi => simp [h lo (by simp), h hi (by simp)]
  case extract x i => simp [h x (by simp)]
  case call c =>
    simp only
    split
    · rename_i x t hc ha ht
      have : x ∈ c.args := by have : x ∈ c.args.toList := by rw [ha]; simp
                              simpa using this
      rw [h x (by simp [hc, this])]
    · rename_i s x t t' hc ha ht
      have h1 : s ∈ c.args := by have : s ∈ c.args.toList := by rw [ha]; simp
                                 simpa using this
      have h2 : x ∈ c.args := by have : x ∈ c.args.toList := by rw [ha]; simp
                                 simpa using this
      rw [h s (by simp [hc, h1]), h x (by simp [hc, h2])]
    · rename_i s x t t' hc ha ht
      have h1 : s ∈ c.args := by have : s ∈ c.args.toList := by rw [ha]; simp
                                 simpa using this
      have h2 : x ∈ c.args := by have : x ∈ c.args.toList := by rw [ha]; simp
                                 simpa using this
      rw [h s (by simp [hc, h1]), h x (by simp [hc, h2])]
    · rename_i s x t t' hc ha ht
      have h1 : s ∈ c.args := by have : s ∈ c.args.toList := by rw [ha]; simp
                                 simpa using this
      have h2 : x ∈ c.args := by have : x ∈ c.args.toList := by rw [ha]; simp
                                 simpa using this
      rw [h s (by simp [hc, h1]), h x (by simp [hc, h2])]
    · rfl

end Go.Bee


namespace Go.Bee
set_option linter.unusedVariables false

theorem gd_congr {ops : Array Oper} {o : Oper} {st σ : St} (h : ∀ t, t ∈ touched ops o → σ.tm t = st.tm t) : gd ops o σ = gd ops o st := by
  unfold gd
  cases hgd : o.guard with
  | none => rfl
  | some g =>
    obtain ⟨j, want⟩ := g
    simp only
    cases ht : (ops[j]?).bind (·.dst) with
    | none => rfl
    | some t =>
      simp only
      have : t ∈ touched ops o := by
        unfold touched Oper.looksAt
        simp [hgd, ht]
      rw [h t this]

def St.mix (σ st' : St) (ws : List Nat) (be : Bool) : St := ⟨fun t => if t ∈ ws then st'.tm t else σ.tm t, if be = true then st'.bx else σ.bx⟩
theorem vz_congr {fl : AF} {st σ : St} (h : (fl.bt = true ∨ fl.be = true) → σ.bx = st.bx) : vz fl σ.bx = vz fl st.bx := by
  unfold vz
  split
  · rename_i hc; rw [h hc]
  · rfl
theorem strips_touched {ops : Array Oper} {fl : AF} {o : Oper} {t : Nat} (h : t ∈ stripsOf fl o) : t ∈ touched ops o := by
  unfold stripsOf at h
  split at h
  · exact looks_tmps (by simpa using mem_tmpsOf.1 h)
  · simp at h
theorem after_mix {ops : Array Oper} {fl : AF} {o : Oper} {st σ : St} {v : PV} {B' : Bx} (h : ∀ t, t ∈ touched ops o → σ.tm t = st.tm t) : σ.after fl o v B' = σ.mix (st.after fl o v B') (written fl o) fl.be := by
  unfold St.after St.mix St.upd
  congr 1
  · funext t
    simp only [written, List.mem_append]
    by_cases h1 : some t = o.dst
    · have : t ∈ o.dst.toList := by rw [← h1]; simp
      simp [h1, this]
    · have hn : t ∉ o.dst.toList := by intro hm; apply h1; simpa using (Option.mem_toList.1 hm).symm
      by_cases h2 : t ∈ stripsOf fl o
      · simp [h1, h2, h t (strips_touched h2)]
      · simp [h1, h2, hn]
  · by_cases hb : fl.be = true <;> simp [hb]
theorem callF_ev {ops : Array Oper} {o : Oper} {st σ : St} (h : ∀ t, t ∈ touched ops o → σ.tm t = st.tm t) {f : Nat} {xs : List Operand} (hc : isValCall o (.func f) xs) : xs.map σ.ev = xs.map st.ev :=
  List.map_congr_left fun x hx => by
    apply ev_congr h
    obtain ⟨ts, hop⟩ := hc
    rw [hop]
    simp only [Op.operands, Call.operands, Array.mem_append, List.mem_toArray]
    right; exact hx
theorem OS.frame {P : Program} {ops : Array Oper} {fl : AF} {o : Oper} {st st' σ : St} (hs : OS P ops fl o st st') (h : ∀ t, t ∈ touched ops o → σ.tm t = st.tm t) (hb : (fl.bt = true ∨ fl.be = true) → σ.bx = st.bx) :
    OS P ops fl o σ (σ.mix st' (written fl o) fl.be) := by
  have hgd := gd_congr h
  cases hs with
  | run v B' hg hs =>
    rw [← after_mix h]
    refine .run v B' (by rw [hgd]; exact hg) ?_
    have hvz := vz_congr hb
    cases hs with
    | ev _ _ he => exact .ev _ _ (by rw [hvz, ev1_congr (ev_congr h)]; exact he)
    | call _ _ X xs f caps ys nm bi bo hc =>
      have hX : ∀ x, x = X ∨ x ∈ xs → σ.ev x = st.ev x := by
        intro x hx
        apply ev_congr h
        obtain ⟨ts, hop⟩ := hc.call
        rw [hop]
        simp only [Op.operands, Call.operands, Array.mem_append, List.mem_toArray]
        rcases hx with rfl | hx
        · left; simp
        · right; exact hx
      have hmap : xs.map σ.ev = xs.map st.ev := List.map_congr_left fun x hx => hX x (.inr hx)
      exact .call _ _ X xs f caps ys nm bi bo ⟨hc.call, by rw [hX X (.inl rfl)]; exact hc.clo, hc.len, by rw [hmap, hvz]; exact hc.pass, hc.nodup, hc.names, hc.bl, by rw [hvz]; exact hc.bin, hc.bip, hc.bop, hc.gives, hc.ret, hc.be, by rw [hvz]; exact hc.out⟩
    | fn _ X xs K zs r hc =>
      have hX : ∀ x, x = X ∨ x ∈ xs → σ.ev x = st.ev x := by
        intro x hx
        apply ev_congr h
        obtain ⟨ts, hop⟩ := hc.call
        rw [hop]
        simp only [Op.operands, Call.operands, Array.mem_append, List.mem_toArray]
        rcases hx with rfl | hx
        · left; simp
        · right; exact hx
      have hmap : xs.map σ.ev = xs.map st.ev := List.map_congr_left fun x hx => hX x (.inr hx)
      rw [← hvz]
      exact .fn v X xs K zs r ⟨hc.call, by rw [hX X (.inl rfl)]; exact hc.fn, by rw [hmap]; exact hc.args, hc.res, hc.out⟩
    | look _ f xs ys r hc =>
      have hmap : xs.map σ.ev = xs.map st.ev := callF_ev h hc.call
      rw [← hvz]
      exact .look v f xs ys r ⟨hc.call, by rw [hmap, hvz]; exact hc.pass, hc.ret, hc.take⟩
    | writes x f xs hc =>
      have hmap : xs.map σ.ev = xs.map st.ev := callF_ev h hc.call
      rw [← hvz]
      refine .writes x f xs ⟨hc.call, fun y hy => ?_, by rw [hmap]; exact hc.ret, hc.plain⟩
      have : σ.ev y = st.ev y := List.map_inj_left.1 hmap y hy
      rw [this]; exact hc.pass y hy
    | boxed m f xs ys R R' x e sz l hc =>
      have hmap : xs.map σ.ev = xs.map st.ev := callF_ev h hc.call
      have hbx := hb (.inr hc.be)
      rw [← hbx]
      exact .boxed m f xs ys R R' x e sz l ⟨hc.call, by rw [hmap, hvz]; exact hc.pass, hc.ret, hc.shape, hc.plain, hc.ne, hc.flat, hc.be, by rw [hbx]; exact hc.free⟩
    | boxed1 m f xs ys R _ e sz l hc =>
      have hmap : xs.map σ.ev = xs.map st.ev := callF_ev h hc.call
      have hbx := hb (.inr hc.be)
      rw [← hbx]
      exact .boxed1 m f xs ys R _ e sz l ⟨hc.call, by rw [hmap, hvz]; exact hc.pass, hc.ret, hc.shape, hc.ne, hc.flat, hc.be, by rw [hbx]; exact hc.free⟩
    | redo b f x0 xs ys sz n n' qs ps hc =>
      have hmap : (x0 :: xs).map σ.ev = (x0 :: xs).map st.ev := callF_ev h hc.call
      have hbx := hb (.inr hc.be)
      rw [← hbx]
      simp only [List.map_cons, List.cons.injEq] at hmap
      exact .redo b f x0 xs ys sz n n' qs ps ⟨hc.call, by rw [hmap.1]; exact hc.x0, by rw [hbx]; exact hc.box, hc.qpl, by rw [hmap.2]; exact hc.args, hc.plainA, hc.ret, hc.plain, hc.be⟩
  | skip hg =>
    have : σ.mix (st.upd [] o.dst .und st.bx) (written fl o) fl.be = σ.upd [] o.dst .und σ.bx ∨ True := .inr trivial
    have e : (σ.upd [] o.dst .und σ.bx) = σ.mix (st.upd [] o.dst .und st.bx) (written fl o) fl.be := by
      unfold St.mix St.upd
      congr 1
      · funext t
        simp only [written, List.mem_append]
        by_cases h1 : some t = o.dst
        · have : t ∈ o.dst.toList := by rw [← h1]; simp
          simp [h1, this]
        · have hn : t ∉ o.dst.toList := by intro hm; apply h1; simpa using (Option.mem_toList.1 hm).symm
          by_cases h2 : t ∈ stripsOf fl o
          · simp [h1, h2, h t (strips_touched h2)]
          · simp [h1, h2, hn]
      · by_cases hbe : fl.be = true
        · simp [hbe, hb (.inr hbe)]
        · simp [hbe]
    rw [← e]
    exact .skip (by rw [hgd]; exact hg)
theorem OS.outside {P : Program} {ops : Array Oper} {fl : AF} {o : Oper} {st st' : St} (hs : OS P ops fl o st st') : (∀ t, t ∉ written fl o → st'.tm t = st.tm t) ∧ (fl.be = false → st'.bx = st.bx) := by
  cases hs with
  | run v B' hg hs =>
    refine ⟨fun t ht => ?_, fun hbe => by simp [St.after, St.upd, hbe]⟩
    simp only [written, List.mem_append, not_or] at ht
    have h1 : ¬ some t = o.dst := by intro e; apply ht.1; rw [← e]; simp
    simp [St.after, St.upd, h1, ht.2]
  | skip hg =>
    refine ⟨fun t ht => ?_, fun _ => rfl⟩
    simp only [written, List.mem_append, not_or] at ht
    have h1 : ¬ some t = o.dst := by intro e; apply ht.1; rw [← e]; simp
    simp [St.upd, h1]

def rdB (fl : AF) (inn : Option (List BN)) (b : BN) : Prop := (fl.bt = true ∨ fl.be = true) ∧ inAll inn b = true
def wrB (fl : AF) (inn : Option (List BN)) (b : BN) : Bool := fl.be && inAll inn b
def St.mixx (σ st' : St) (ws : List Nat) (wr : BN → Bool) : St := ⟨fun t => if t ∈ ws then st'.tm t else σ.tm t, fun b => if wr b = true then st'.bx b else σ.bx b⟩
theorem OSx.frame {P : Program} {ops : Array Oper} {fl : AF} {inn : Option (List BN)} {o : Oper} {st st' σ : St} (hs : OSx P ops fl inn o st st') (h : ∀ t, t ∈ touched ops o → σ.tm t = st.tm t) (hb : ∀ b, rdB fl inn b → σ.bx b = st.bx b) :
    OSx P ops fl inn o σ (σ.mixx st' (written fl o) (wrB fl inn)) := by
  cases hs with
  | all he hs =>
    subst he
    refine .all rfl ?_
    have h1 := hs.frame h fun hc => funext fun b => hb b ⟨hc, rfl⟩
    have e : σ.mixx st' (written fl o) (wrB fl none) = σ.mix st' (written fl o) fl.be := by
      unfold St.mixx St.mix wrB
      congr 1
      funext b
      by_cases hbe : fl.be = true <;> simp [hbe, inAll]
    rw [e]; exact h1
  | loc l he hs hout =>
    subst he
    refine .loc l rfl (fun B2 hB => ?_) fun b hbl => ?_
    · by_cases hc : fl.bt = true ∨ fl.be = true
      · have h1 := hs B2 fun b hbl => (hB b hbl).trans (hb b ⟨hc, hbl⟩)
        have h2 := h1.frame (σ := σ.at B2) h fun _ => rfl
        have e : (σ.at B2).mix ⟨st'.tm, joinB l st'.bx B2⟩ (written fl o) fl.be = ⟨(σ.mixx st' (written fl o) (wrB fl (some l))).tm, joinB l (σ.mixx st' (written fl o) (wrB fl (some l))).bx B2⟩ := by
          unfold St.mixx St.mix wrB St.at joinB inAll
          simp only [St.mk.injEq, true_and]
          funext b
          by_cases hbe : fl.be = true
          · by_cases hbl : l.contains b = true <;> simp only [hbe, hbl, if_true, Bool.true_and, Bool.false_eq_true, if_false]
          · by_cases hbl : l.contains b = true
            · simp only [hbe, hbl, if_true, Bool.false_eq_true, if_false, Bool.false_and]; exact hB b hbl
            · simp only [hbe, hbl, Bool.false_eq_true, if_false]
        rw [e] at h2; exact h2
      · have hbe : fl.be = false := by
          cases hx : fl.be with
          | false => rfl
          | true => exact absurd (.inr hx) hc
        have h1 := hs st.bx fun _ _ => rfl
        have h2 := h1.frame (σ := σ.at B2) h fun hc' => absurd hc' hc
        have e : (σ.at B2).mix ⟨st'.tm, joinB l st'.bx st.bx⟩ (written fl o) fl.be = ⟨(σ.mixx st' (written fl o) (wrB fl (some l))).tm, joinB l (σ.mixx st' (written fl o) (wrB fl (some l))).bx B2⟩ := by
          unfold St.mixx St.mix wrB St.at joinB inAll
          simp only [St.mk.injEq, true_and]
          funext b
          by_cases hbl : l.contains b = true
          · simp only [hbe, hbl, if_true, Bool.false_eq_true, if_false, Bool.false_and]; exact hB b hbl
          · simp only [hbe, hbl, Bool.false_eq_true, if_false]
        rw [e] at h2; exact h2
    · show (if wrB fl (some l) b = true then st'.bx b else σ.bx b) = σ.bx b
      have : wrB fl (some l) b = false := by simp only [wrB, inAll, hbl, Bool.and_false]
      rw [this]; rfl
theorem OSx.outside {P : Program} {ops : Array Oper} {fl : AF} {inn : Option (List BN)} {o : Oper} {st st' : St} (hs : OSx P ops fl inn o st st') : (∀ t, t ∉ written fl o → st'.tm t = st.tm t) ∧ ∀ b, wrB fl inn b = false → st'.bx b = st.bx b := by
  refine ⟨hs.os.outside.1, fun b hb => ?_⟩
  cases hbe : fl.be with
  | false => rw [hs.os.outside.2 hbe]
  | true =>
    cases hs with
    | all he hs => subst he; simp [wrB, inAll, hbe] at hb
    | loc l he hs hout => subst he; simp only [wrB, inAll, hbe, Bool.true_and] at hb; exact hout b hb
theorem wr_rd {fl : AF} {inn : Option (List BN)} {b : BN} (h : wrB fl inn b = true) : rdB fl inn b := by
  simp only [wrB, Bool.and_eq_true] at h
  exact ⟨.inr h.1, h.2⟩
theorem apart_not {i1 i2 : Option (List BN)} (h : apart i1 i2 = true) {b : BN} (h1 : inAll i1 b = true) : inAll i2 b = false := by
  cases i1 with
  | none => simp [apart] at h
  | some l =>
    cases i2 with
    | none => simp [apart] at h
    | some m =>
      simp only [apart, List.all_eq_true] at h
      have := h b (by simpa [inAll] using h1)
      simpa [inAll] using this
theorem OSx.swap {P : Program} {ops : Array Oper} {f1 f2 : AF} {n1 n2 : Option (List BN)} {x y : Oper} {st s1 s2 : St} (hi : indep ops f1 f2 n1 n2 x y = true) (h1 : OSx P ops f1 n1 x st s1) (h2 : OSx P ops f2 n2 y s1 s2) : ∃ s1', OSx P ops f2 n2 y st s1' ∧ OSx P ops f1 n1 x s1' s2 := by
  unfold indep at hi
  simp only [Bool.and_eq_true, Bool.or_eq_true, Bool.not_eq_true', List.all_eq_true, Bool.and_eq_false_iff, Bool.or_eq_false_iff] at hi
  obtain ⟨⟨i1, i2⟩, i3⟩ := hi
  have w1 : ∀ t, t ∈ written f1 x → t ∉ touched ops y := fun t ht hc => by have := i1 t ht; simp [hc] at this
  have w2 : ∀ t, t ∈ written f2 y → t ∉ touched ops x := fun t ht hc => by have := i2 t ht; simp [hc] at this
  have wt2 : ∀ t, t ∈ written f2 y → t ∈ touched ops y := by
    intro t ht
    simp only [written, List.mem_append] at ht
    rcases ht with ht | ht
    · simp [touched, ht]
    · exact strips_touched ht
  have hA : ∀ b, wrB f1 n1 b = true → ¬ rdB f2 n2 b := by
    intro b hb ⟨hr1, hr2⟩
    simp only [wrB, Bool.and_eq_true] at hb
    rcases i3 with h | ⟨h, -⟩
    · rw [apart_not h hb.2] at hr2; cases hr2
    · rcases h with h | ⟨h, h'⟩
      · rw [h] at hb; cases hb.1
      · rcases hr1 with hc | hc
        · rw [h] at hc; cases hc
        · rw [h'] at hc; cases hc
  have hB : ∀ b, wrB f2 n2 b = true → ¬ rdB f1 n1 b := by
    intro b hb ⟨hr1, hr2⟩
    simp only [wrB, Bool.and_eq_true] at hb
    rcases i3 with h | ⟨-, h⟩
    · rw [apart_not h hr2] at hb; cases hb.2
    · rcases h with h | ⟨h, h'⟩
      · rw [h] at hb; cases hb.1
      · rcases hr1 with hc | hc
        · rw [h] at hc; cases hc
        · rw [h'] at hc; cases hc
  obtain ⟨o1, o2⟩ := h1.outside
  obtain ⟨q1, q2⟩ := h2.outside
  have hf : ∀ {b : Bool}, ¬ b = true → b = false := fun h => by simpa using h
  have e1 := h2.frame (σ := st) (fun t ht => (o1 t (fun hw => w1 t hw ht)).symm) (fun b hb => (o2 b (hf fun hw => hA b hw hb)).symm)
  generalize hs1' : st.mixx s2 (written f2 y) (wrB f2 n2) = s1' at e1
  refine ⟨s1', e1, ?_⟩
  have e2 := h1.frame (σ := s1') (fun t ht => by
    have : t ∉ written f2 y := fun hw => w2 t hw ht
    rw [← hs1']; simp [St.mixx, this]) (fun b hb => by
      rw [← hs1']
      have : wrB f2 n2 b = false := hf fun hw => hB b hw hb
      simp [St.mixx, this])
  have e3 : s1'.mixx s1 (written f1 x) (wrB f1 n1) = s2 := by
    rw [← hs1']
    cases s2 with
    | mk tm2 bx2 =>
      unfold St.mixx
      simp only [St.mk.injEq]
      refine ⟨?_, ?_⟩
      · funext t
        by_cases ht1 : t ∈ written f1 x
        · have hn : t ∉ written f2 y := fun hw => w1 t ht1 (wt2 t hw)
          simp only [ht1, if_true]
          exact (q1 t hn).symm
        · by_cases ht2 : t ∈ written f2 y
          · simp [ht1, ht2]
          · simp only [ht1, ht2, if_false]
            rw [← o1 t ht1]; exact (q1 t ht2).symm
      · funext b
        by_cases hb : wrB f1 n1 b = true
        · have : wrB f2 n2 b = false := hf fun hw => hA b hb (wr_rd hw)
          simp only [hb, if_true]
          exact (q2 b this).symm
        · by_cases hb2 : wrB f2 n2 b = true
          · simp [hb, hb2]
          · simp only [hb, hb2, if_false, Bool.false_eq_true]
            rw [← o2 b (hf hb)]; exact (q2 b (hf hb2)).symm
  rw [← e3]
  exact e2

def edgesOk (ops : Array Oper) : Bool := (List.range ops.size).all fun i => match ops[i]? with
  | some o => o.after.all fun e => !Region.binds .any e || decide (e.on < i)
  | none => true
def reachB (ops : Array Oper) : Nat → Nat → Nat → Bool
  | 0, _, _ => false
  | n + 1, i, j => match ops[i]? with
    | some o => o.after.any fun e => Region.binds .any e && (e.on == j || reachB ops n e.on j)
    | none => false
def Closed (ops : Array Oper) (listed : Array Bool) : Prop := ∀ (i : Nat) o, listed[i]? = some true → ops[i]? = some o → ∀ e ∈ o.after, Region.binds .any e = true → listed[e.on]? = some true
theorem reach_listed {ops : Array Oper} {listed : Array Bool} (hc : Closed ops listed) : ∀ (n i j : Nat), (∀ o, ops[i]? = some o → ∀ e ∈ o.after, Region.binds .any e = true → listed[e.on]? = some true) → reachB ops n i j = true → listed[j]? = some true
  | 0, i, j, _, h => by simp [reachB] at h
  | n + 1, i, j, hi, h => by
    unfold reachB at h
    cases ho : ops[i]? with
    | none => rw [ho] at h; cases h
    | some o =>
      rw [ho] at h
      simp only [Array.any_eq_true'] at h
      obtain ⟨e, he, hb⟩ := h
      simp only [Bool.and_eq_true, Bool.or_eq_true, beq_iff_eq] at hb
      have h1 := hi o ho e he hb.1
      rcases hb.2 with rfl | h2
      · exact h1
      · exact reach_listed hc n e.on j (fun o' ho' => hc e.on o' h1 ho') h2
def regOk (ops : Array Oper) (fls : Nat → AF) (inns : Nat → Option (List BN)) : Bool := edgesOk ops && (List.range ops.size).all fun i => (List.range i).all fun j => match ops[i]?, ops[j]? with
  | some oi, some oj => reachB ops 3 i j || indep ops (fls j) (fls i) (inns j) (inns i) oj oi
  | _, _ => true

theorem runs_bubble {P : Program} {ops : Array Oper} {fls : Nat → AF} {inns : Nat → Option (List BN)} {i : Nat} {oi : Oper} (hoi : ops[i]? = some oi) : ∀ (pre post : List Nat) (st sF : St), (∀ j ∈ pre, ∀ oj, ops[j]? = some oj → indep ops (fls j) (fls i) (inns j) (inns i) oj oi = true) →
    Runs P ops fls inns (pre ++ i :: post) st sF → ∃ s1, OSx P ops (fls i) (inns i) oi st s1 ∧ Runs P ops fls inns (pre ++ post) s1 sF
  | [], post, st, sF, _, h => by
    cases h with
    | cons _ _ o _ s1 _ ho hs hl => rw [hoi] at ho; cases ho; exact ⟨s1, hs, hl⟩
  | j :: pre, post, st, sF, hin, h => by
    cases h with
    | cons _ _ oj _ s1 _ hoj hs hl =>
      obtain ⟨s2, hs2, hl2⟩ := runs_bubble hoi pre post s1 sF (fun k hk => hin k (List.mem_cons_of_mem _ hk)) hl
      obtain ⟨s1', h1, h2⟩ := OSx.swap (hin j (List.mem_cons_self ..) oj hoj) hs hs2
      exact ⟨s1', h1, .cons j _ oj _ _ _ hoj h2 hl2⟩

def remaining (ops : Array Oper) (listed : Array Bool) : List Nat := (List.range ops.size).filter fun i => !listed.getD i true

theorem remaining_split {ops : Array Oper} {listed : Array Bool} {i : Nat} (hi : i < ops.size) (hl : listed.getD i true = false) (hsz : listed.size = ops.size) :
    ∃ pre post, remaining ops listed = pre ++ i :: post ∧ remaining ops (listed.setIfInBounds i true) = pre ++ post ∧ ∀ j ∈ pre, j < i ∧ listed.getD j true = false := by
  have hr : List.range ops.size = List.range i ++ i :: (List.range (ops.size - i - 1)).map (· + (i + 1)) := by
    apply List.ext_getElem?
    intro k
    by_cases h1 : k < i
    · rw [List.getElem?_append_left (by simpa using h1), List.getElem?_range (by omega), List.getElem?_range h1]
    · rw [List.getElem?_append_right (by simpa using h1), List.length_range]
      by_cases h2 : k = i
      · subst h2; simp [hi]
      · have : k - i = (k - i - 1) + 1 := by omega
        rw [this, List.getElem?_cons_succ, List.getElem?_map]
        by_cases h3 : k < ops.size
        · rw [List.getElem?_range h3, List.getElem?_range (by omega)]
          simp; omega
        · rw [List.getElem?_eq_none (by simpa using h3), List.getElem?_eq_none (by simp; omega)]
          rfl
  have hset : ∀ j, j ≠ i → (listed.setIfInBounds i true).getD j true = listed.getD j true := fun j hj => getD_set_ne true (Ne.symm hj)
  have hseti : (listed.setIfInBounds i true).getD i true = true := by simp [hsz, hi]
  refine ⟨(List.range i).filter fun j => !listed.getD j true, ((List.range (ops.size - i - 1)).map (· + (i + 1))).filter fun j => !listed.getD j true, ?_, ?_, ?_⟩
  · unfold remaining
    rw [hr, List.filter_append, List.filter_cons]
    simp only [hl, Bool.not_false, if_true]
  · unfold remaining
    rw [hr, List.filter_append, List.filter_cons]
    simp only [hseti, Bool.not_true, Bool.false_eq_true, if_false]
    congr 1
    · apply List.filter_congr
      intro j hj
      rw [hset j (by have := List.mem_range.1 hj; omega)]
    · apply List.filter_congr
      intro j hj
      obtain ⟨k, _, rfl⟩ := List.mem_map.1 hj
      rw [hset _ (by omega)]
  · intro j hj
    obtain ⟨h1, h2⟩ := List.mem_filter.1 hj
    exact ⟨List.mem_range.1 h1, by simpa using h2⟩

theorem getD_true {l : Array Bool} {k : Nat} (h : l.getD k false = true) : l[k]? = some true := by
  rw [Array.getD_eq_getD_getElem?] at h
  cases hk : l[k]? with
  | none => rw [hk] at h; cases h
  | some b => rw [hk] at h; simp at h; rw [h]
theorem closed_set {ops : Array Oper} {listed : Array Bool} {i : Nat} {oi : Oper} (hc : Closed ops listed) (hoi : ops[i]? = some oi) (hi : ∀ e ∈ oi.after, Region.binds .any e = true → listed[e.on]? = some true) : Closed ops (listed.setIfInBounds i true) := by
  have hup : ∀ k : Nat, listed[k]? = some true → (listed.setIfInBounds i true)[k]? = some true := by
    intro k hk
    rw [Array.getElem?_setIfInBounds]
    split
    · rename_i e
      subst e
      have := (Array.getElem?_eq_some_iff.1 hk).1
      rw [if_pos this]
    · exact hk
  intro k o hk ho e he hb
  apply hup
  by_cases hik : i = k
  · subst hik
    rw [hoi] at ho; cases ho
    exact hi e he hb
  · rw [Array.getElem?_setIfInBounds, if_neg hik] at hk
    exact hc k o hk ho e he hb
theorem any_sound {P : Program} {F : Fr} {ops : Array Oper} {fls : Nat → AF} {inns : Nat → Option (List BN)} {Q : Exit → Act → World → Prop} (hd : ∀ (i : Nat) o, ops[i]? = some o → ∀ d', o.dst = some d' → d' < F.nt) (hok : regOk ops fls inns = true) {sF : St}
    (hQ : ∀ a' w', (∃ G', Rel P F G' sF a' w') → Q .normal a' w') : ∀ (fuel : Nat) (listed : Array Bool) (st : St) (G : Gh) (a : Act) (w : World), listed.size = ops.size → Closed ops listed → Rel P F G st a w → Runs P ops fls inns (remaining ops listed) st sF → (remaining ops listed).length ≤ fuel →
    wpAny P .any ops Q fuel listed a w := by
  unfold regOk edgesOk at hok
  simp only [Bool.and_eq_true, List.all_eq_true, List.mem_range] at hok
  obtain ⟨hedge, hind⟩ := hok
  -- where nothing may come up, nothing is left
  have hnone : ∀ listed : Array Bool, listed.size = ops.size → Region.ready .any ops listed = [] → remaining ops listed = [] := by
    intro listed hsz hr
    apply Classical.byContradiction
    intro hne
    obtain ⟨m, rest, hm⟩ := List.exists_cons_of_ne_nil hne
    have hm1 : m ∈ remaining ops listed := by rw [hm]; simp
    obtain ⟨hm2, hm3⟩ := List.mem_filter.1 hm1
    have hmlt := List.mem_range.1 hm2
    have hmin : ∀ j, j < m → listed.getD j true = true := by
      intro j hj
      apply Classical.byContradiction
      intro hc
      have hc' : listed.getD j true = false := by simpa using hc
      have hjm : j ∈ remaining ops listed := List.mem_filter.2 ⟨List.mem_range.2 (by omega), by simp [hc']⟩
      rw [hm] at hjm
      have hsorted : (remaining ops listed).Pairwise (· < ·) := List.Pairwise.filter _ List.pairwise_lt_range
      rw [hm] at hsorted
      rcases List.mem_cons.1 hjm with rfl | hjr
      · omega
      · have := (List.pairwise_cons.1 hsorted).1 j hjr; omega
    have : m ∈ Region.ready .any ops listed := by
      rw [mem_ready]
      refine ⟨by simpa using hm3, ops[m], Array.getElem?_eq_getElem hmlt, fun e he hb => ?_⟩
      have h1 := hedge m hmlt
      rw [Array.getElem?_eq_getElem hmlt] at h1
      simp only [Array.all_eq_true_iff_forall_mem] at h1
      have h2 := h1 e he
      simp only [hb, Bool.not_true, Bool.false_or, decide_eq_true_eq] at h2
      have h3 := hmin e.on h2
      have hlt : e.on < listed.size := by omega
      simp [hlt] at h3 ⊢
      exact h3
    rw [hr] at this; simp at this
  intro fuel
  induction fuel with
  | zero =>
    intro listed st G a w hsz hcl h hr hl
    have hn : remaining ops listed = [] := List.length_eq_zero_iff.1 (by omega)
    rw [hn] at hr
    cases hr
    refine ⟨?_, hQ a w ⟨G, h⟩⟩
    apply Classical.byContradiction
    intro hne
    obtain ⟨m, rest, hm⟩ := List.exists_cons_of_ne_nil hne
    have hm1 : m ∈ Region.ready .any ops listed := by rw [hm]; simp
    rw [mem_ready] at hm1
    obtain ⟨h1, o, ho, _⟩ := hm1
    have : m ∈ remaining ops listed := List.mem_filter.2 ⟨List.mem_range.2 (Array.getElem?_eq_some_iff.1 ho).1, by simp [h1]⟩
    rw [hn] at this; simp at this
  | succ fuel ih =>
    intro listed st G a w hsz hcl h hr hl
    refine ⟨fun hn => ?_, fun i hi => ?_⟩
    · rw [hnone listed hsz hn] at hr
      cases hr
      exact hQ a w ⟨G, h⟩
    · rw [mem_ready] at hi
      obtain ⟨h1, oi, hoi, hall⟩ := hi
      have hlt := (Array.getElem?_eq_some_iff.1 hoi).1
      obtain ⟨pre, post, e1, e2, e3⟩ := remaining_split hlt h1 hsz
      rw [e1] at hr hl
      obtain ⟨s1, hs1, hr1⟩ := runs_bubble hoi pre post st sF (fun j hj oj hoj => by
        obtain ⟨hji, hjl⟩ := e3 j hj
        have hk := hind i hlt j hji
        rw [hoi, hoj] at hk
        simp only [Bool.or_eq_true] at hk
        rcases hk with hk | hk
        · exfalso
          have h5 := reach_listed hcl 3 i j (fun o ho e he hb => by
            rw [hoi] at ho; cases ho
            exact getD_true (hall e he hb)) hk
          rw [Array.getD_eq_getD_getElem?, h5] at hjl
          cases hjl
        · exact hk) hr
      refine os_sound h hoi (hd i oi hoi) hs1.os fun a' w' ⟨G', h'⟩ => ?_
      refine ih _ s1 G' a' w' (by simpa using hsz) (closed_set hcl hoi fun e he hb => getD_true (hall e he hb)) h' (by rw [e2]; exact hr1) ?_
      rw [e2]
      simp only [List.length_append, List.length_cons] at hl ⊢
      omega

theorem Rel.drew {P : Program} {F : Fr} {G : Gh} {st : St} {a : Act} {w : World} (h : Rel P F G st a w) : Rel P F G st a { w with drawn := w.drawn + 1 } := by
  have hg : GStep G w G { w with drawn := w.drawn + 1 } (fun p q => p = q) := ⟨fun _ _ h => ⟨h, rfl⟩, fun _ h => ⟨h, rfl⟩, rfl, fun _ _ => rfl, Nat.le_refl _, fun g p q h e => ⟨by rw [h, e], rfl, fun _ h => h⟩, fun o g _ h => ⟨h, .heap rfl⟩⟩
  refine ⟨fun t => (h.tm t).step hg (fun i j => rfl), ⟨fun b cells hb => (h.hp.bx b cells hb).step hg ((h.hp.live b).2 (by simp [hb])) (fun j => rfl) rfl, h.hp.live, h.hp.inj, h.hp.imlt, h.hp.ownlt, h.hp.boxim, h.hp.boxown⟩, ⟨?_, h.sn.own, h.sn.box, h.sn.βa, h.sn.fz, h.sn.fzm⟩, h.nt, h.defers, h.z, h.tab⟩
  have := h.sn.ext
  exact ⟨this.os, this.tape, this.output, this.size, this.old, fun b o hb => ⟨(this.keep b o hb).1, (this.keep b o hb).2⟩, this.new⟩

end Go.Bee

