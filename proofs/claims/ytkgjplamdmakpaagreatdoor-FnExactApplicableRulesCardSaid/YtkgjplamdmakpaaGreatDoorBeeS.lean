/-
Loops, calls, and what may be taken for known. No condition.
-/
import Derived.Test.YtkgjplamdmakpaaGreatDoorBeeR
namespace Go.Bee
set_option linter.unusedVariables false

theorem Weak.refl {P : Program} (st : St) : Weak P st st := fun F G a w h => ⟨G, h⟩
theorem wk_rfl {P : Program} {K : St → Prop} {s : St} (h : K s) : wk P K s := ⟨s, Weak.refl s, h⟩
theorem wk_of {P : Program} {K : St → Prop} {s s' : St} (hw : Weak P s s') (h : K s') : wk P K s := ⟨s', hw, h⟩
theorem Weak.trans {P : Program} {s t u : St} (h : Weak P s t) (k : Weak P t u) : Weak P s u := fun F G a w hr => by
  obtain ⟨G', h'⟩ := h F G a w hr
  exact k F G' a w h'
theorem b_loop {P : Program} {H : Nat → List Nat} {c : Code} {Q : Ex → St → Prop} {st : St} (I : Nat → St → Prop) (n : Nat) (hI : I n st) (hr : ∀ n s, I n s → bwp P H c (loopK P I n Q) s) : bloop P (bwp P H c) Q st :=
  ⟨I, ⟨n, st, Weak.refl st, hI⟩, hr⟩
theorem b_loopw {P : Program} {H : Nat → List Nat} {c : Code} {Q : Ex → St → Prop} {st s : St} (I : Nat → St → Prop) (n : Nat) (hw : Weak P st s) (hI : I n s) (hr : ∀ n s, I n s → bwp P H c (loopK P I n Q) s) : bloop P (bwp P H c) Q st :=
  ⟨I, ⟨n, s, hw, hI⟩, hr⟩

/-- A slot may forget, or say less. -/
theorem Weak.put {P : Program} {st : St} {t : Nat} {x : PV} (h : ∀ (G : Gh) (w : World) (v : Value), RepT P G w (.t t) (st.tm t) v → RepT P G w (.t t) x v) : Weak P st (st.put t x) := fun F G a w hr =>
  ⟨G, ⟨fun u => by
    by_cases hu : u = t
    · subst hu; simp only [tm_put, if_true]; exact h G w _ (hr.tm u)
    · simp only [tm_put, hu, if_false]; exact hr.tm u, hr.hp, hr.sn, hr.nt, hr.defers, hr.z⟩⟩
theorem Weak.nil_own {P : Program} {st : St} {t : Nat} (e sz : Nat) (h : st.tm t = .nilS) : Weak P st (st.put t (.own e sz [])) := Weak.put fun G w v hv => by
  rw [h] at hv
  have hv' : v = .slice none 0 0 := hv
  rw [hv']
  exact ⟨.nil sz, .inl ⟨.inl rfl, fun h => absurd rfl h⟩⟩
theorem Weak.bT {P : Program} {st : St} (t : Nat) : Weak P st (st.put t (st.tm t).bT) := Weak.put fun G w v hv => hv.bT _
theorem Weak.own_d {P : Program} {st : St} {t e sz : Nat} {l : List PD} (h : st.tm t = .own e sz l) : Weak P st (st.put t (.d (.sl sz l))) := Weak.put fun G w v hv => by rw [h] at hv; exact ⟨hv.1, rfl⟩
theorem Weak.nil_d {P : Program} {st : St} {t : Nat} (sz : Nat) (h : st.tm t = .nilS) : Weak P st (st.put t (.d (.sl sz []))) := Weak.put fun G w v hv => by
  rw [h] at hv
  have hv' : v = .slice none 0 0 := hv
  rw [hv']
  exact ⟨.nil sz, rfl⟩
theorem Weak.junk {P : Program} {st : St} (t : Nat) : Weak P st (st.put t .junk) := Weak.put fun G w v hv => trivial

/-- A variable in memory whose parts are nobody's own. -/
theorem Weak.bC {P : Program} {st : St} (b : BN) : Weak P st ⟨st.tm, fun c => if c = b then (st.bx c).map (·.map PV.bC) else st.bx c⟩ := fun F G a w hr =>
  ⟨G, ⟨hr.tm, ⟨fun c cells hc => by
    simp only at hc
    split at hc
    · rename_i e
      obtain ⟨cells', hc', rfl⟩ := Option.map_eq_some_iff.1 hc
      obtain ⟨cs, q, h1, h2, h3, h4⟩ := hr.hp.bx c cells' hc'
      refine ⟨cs, q, h1, by simpa using h2, fun j u hj hu => h3 j u (by simpa using hj) hu, fun j x u hx hu => ?_⟩
      rw [List.getElem?_map] at hx
      obtain ⟨z, hz, rfl⟩ := Option.map_eq_some_iff.1 hx
      exact (h4 j z u hz hu).bC _
    · exact hr.hp.bx c cells hc, fun c => by
    simp only
    split
    · simp [hr.hp.live c]
    · exact hr.hp.live c, hr.hp.inj, hr.hp.imlt, hr.hp.ownlt, hr.hp.boxim, hr.hp.boxown⟩, hr.sn, hr.nt, hr.defers, hr.z⟩⟩

theorem FreeO.less {G : Gh} {w : World} {o : Option Pos} {g : Nat} {L : BN → Prop} (h : FreeO G w o g) (hL : ∀ b, L b → G.live b) : FreeO { G with live := L } w o g := ⟨h.1, h.2.1, fun b hb => h.2.2.1 b (hL b hb), h.2.2.2⟩
def PV.killC (b : BN) : PV → PV
  | .ptr c o => if c = b then .junk else .ptr c o
  | .rsl c e sz n => if c = b then .junk else .rsl c e sz n
  | .rsv c sz n => if c = b then .junk else .rsv c sz n
  | .clo f caps => if caps.any (fun x => match x with | .ptr c _ => decide (c = b) | _ => false) then .junk else .clo f caps
  | x => x
def PV.killV (b : BN) : PV → PV
  | .agg l => .agg (l.map (PV.killC b))
  | x => x.killC b
def PV.kill (b : BN) : PV → PV
  | .tup l => .tup (l.map (PV.killV b))
  | x => x.killV b
def St.drop (st : St) (b : BN) : St := ⟨fun t => (st.tm t).kill b, fun c => if c = b then none else (st.bx c).map fun cells => cells.map (PV.killC b)⟩
theorem killC_rep {P : Program} {G : Gh} {w : World} {b : BN} {p : Pos} {x : PV} {v : Value} (h : RepC P G w p x v) : RepC P { G with live := fun c => c ≠ b ∧ G.live c } w p (x.killC b) v := by
  have hAt : ∀ (y : PV) u, (match y with | .ptr c _ => decide (c = b) | _ => false) = false → RepAt G w y u → RepAt { G with live := fun c => c ≠ b ∧ G.live c } w y u := by
    intro y u hy hr
    cases y <;> simp only [RepAt] at hr ⊢ <;> try exact hr
    case ptr c o => exact ⟨hr.1, by simpa using hy, hr.2⟩
  cases x
  case ptr c o =>
    simp only [PV.killC]
    split
    · trivial
    · rename_i hc
      exact ⟨h.1, hc, h.2⟩
  case rsl c e sz n =>
    simp only [PV.killC]
    split
    · trivial
    · rename_i hc
      exact ⟨h.1, ⟨hc, h.2.1⟩, h.2.2⟩
  case rsv c sz n =>
    simp only [PV.killC]
    split
    · trivial
    · rename_i hc
      obtain ⟨k, h1, h2, h3, h4⟩ := h
      exact ⟨k, h1, h2, ⟨hc, h3⟩, h4⟩
  case q x => exact ⟨h.1.keep fun b o hb => ⟨hb.less fun _ h => h.2, rfl⟩, h.2⟩
  case zs x => exact ⟨h.1.keep fun g hg => ⟨hg.less fun _ h => h.2, fun _ => rfl⟩, h.2⟩
  case zp x => obtain ⟨g, o, h1, h2⟩ := h; exact ⟨g, o, h1, h2.keep fun g hg => ⟨hg.less fun _ h => h.2, fun _ => rfl⟩⟩
  case clo f caps =>
    simp only [PV.killC]
    split
    · trivial
    · rename_i hc
      obtain ⟨vs, hv, hl, hr⟩ := h
      refine ⟨vs, hv, hl, fun i y u h1 h2 => hAt y u ?_ (hr i y u h1 h2)⟩
      have := hc
      simp only [List.any_eq_true, not_exists, not_and, Bool.not_eq_true] at this
      exact this y (List.mem_of_getElem? h1)
  case agg l => exact h
  case tup l => exact h
  all_goals exact h
theorem killV_rep {P : Program} {G : Gh} {w : World} {b : BN} {loc : Loc} {i : Nat} {x : PV} {v : Value} (h : RepV P G w loc i x v) : RepV P { G with live := fun c => c ≠ b ∧ G.live c } w loc i (x.killV b) v := by
  cases x
  case agg l =>
    obtain ⟨cs, hv, hl, h1, hr⟩ := h
    refine ⟨cs, hv, by simpa using hl, h1, fun j y u hy hu => ?_⟩
    rw [List.getElem?_map] at hy
    obtain ⟨z, hz, rfl⟩ := Option.map_eq_some_iff.1 hy
    exact killC_rep (hr j z u hz hu)
  case ptr c o =>
    have := killC_rep (P := P) (w := w) (b := b) (p := (loc, i, 0)) (x := .ptr c o) h
    simp only [PV.killV]
    generalize PV.killC b (.ptr c o) = y at this
    cases y <;> first | exact this | exact absurd this (by simp [RepC])
  case rsl c e sz n =>
    have := killC_rep (P := P) (w := w) (b := b) (p := (loc, i, 0)) (x := .rsl c e sz n) h
    simp only [PV.killV]
    generalize PV.killC b (.rsl c e sz n) = y at this
    cases y <;> first | exact this | exact absurd this (by simp [RepC])
  case rsv c sz n =>
    have := killC_rep (P := P) (w := w) (b := b) (p := (loc, i, 0)) (x := .rsv c sz n) h
    simp only [PV.killV]
    generalize PV.killC b (.rsv c sz n) = y at this
    cases y <;> first | exact this | exact absurd this (by simp [RepC])
  case q y => exact killC_rep (P := P) (w := w) (b := b) (p := (loc, i, 0)) (x := .q y) h
  case zs y => exact killC_rep (P := P) (w := w) (b := b) (p := (loc, i, 0)) (x := .zs y) h
  case zp y => exact killC_rep (P := P) (w := w) (b := b) (p := (loc, i, 0)) (x := .zp y) h
  case clo f caps =>
    have := killC_rep (P := P) (w := w) (b := b) (p := (loc, i, 0)) (x := .clo f caps) h
    simp only [PV.killV]
    generalize PV.killC b (.clo f caps) = y at this
    cases y <;> first | exact this | exact absurd this (by simp [RepC])
  case tup l => exact h
  all_goals exact h
theorem kill_rep {P : Program} {G : Gh} {w : World} {b : BN} {loc : Loc} {x : PV} {v : Value} (h : RepT P G w loc x v) : RepT P { G with live := fun c => c ≠ b ∧ G.live c } w loc (x.kill b) v := by
  cases x
  case tup l =>
    obtain ⟨vs, hv, hl, hr⟩ := h
    refine ⟨vs, hv, by simpa using hl, fun j y u hy hu => ?_⟩
    rw [List.getElem?_map] at hy
    obtain ⟨z, hz, rfl⟩ := Option.map_eq_some_iff.1 hy
    exact killV_rep (hr j z u hz hu)
  case agg l => exact killV_rep (P := P) (w := w) (i := 0) (x := .agg l) h
  case ptr c o => exact RepV.toT (killV_rep (P := P) (w := w) (b := b) (i := 0) (x := .ptr c o) h)
  case rsl c e sz n => exact RepV.toT (killV_rep (P := P) (w := w) (b := b) (i := 0) (x := .rsl c e sz n) h)
  case rsv c sz n => exact RepV.toT (killV_rep (P := P) (w := w) (b := b) (i := 0) (x := .rsv c sz n) h)
  case q y => exact killV_rep (P := P) (w := w) (b := b) (loc := loc) (i := 0) (x := .q y) h
  case zs y => exact killV_rep (P := P) (w := w) (b := b) (loc := loc) (i := 0) (x := .zs y) h
  case zp y => exact killV_rep (P := P) (w := w) (b := b) (loc := loc) (i := 0) (x := .zp y) h
  case clo f caps => exact RepV.toT (killV_rep (P := P) (w := w) (b := b) (i := 0) (x := .clo f caps) h)
  all_goals exact h
/-- A variable in memory that nobody looks at any more. -/
theorem Weak.drop {P : Program} {st : St} (b : BN) : Weak P st (st.drop b) := fun F G a w hr => by
  refine ⟨{ G with live := fun c => c ≠ b ∧ G.live c }, ⟨fun t => kill_rep (hr.tm t), ⟨fun c cells hc => ?_, fun c => ?_, fun c c' hl hl' => hr.hp.inj c c' hl.2 hl'.2, hr.hp.imlt, hr.hp.ownlt, fun c hl => hr.hp.boxim c hl.2, fun c hl => hr.hp.boxown c hl.2⟩,
    ⟨hr.sn.ext, hr.sn.own, fun c hl => hr.sn.box c hl.2, hr.sn.βa, hr.sn.fz, hr.sn.fzm⟩, hr.nt, hr.defers, fun g hg => ⟨(hr.z g hg).1.less fun _ h => h.2, (hr.z g hg).2⟩⟩⟩
  · simp only [St.drop] at hc
    split at hc
    · cases hc
    · obtain ⟨cells', hc', rfl⟩ := Option.map_eq_some_iff.1 hc
      obtain ⟨cs, e, h1, h2, h3, h4⟩ := hr.hp.bx c cells' hc'
      refine ⟨cs, e, h1, by simpa using h2, fun j u hj hu => h3 j u (by simpa using hj) hu, fun j x u hx hu => ?_⟩
      rw [List.getElem?_map] at hx
      obtain ⟨z, hz, rfl⟩ := Option.map_eq_some_iff.1 hx
      exact killC_rep (h4 j z u hz hu)
  · simp only [St.drop]
    by_cases hcb : c = b
    · simp [hcb]
    · simp [hcb, hr.hp.live c]
theorem tm_drop (st : St) (b : BN) (t : Nat) : (st.drop b).tm t = (st.tm t).kill b := rfl
theorem bx_drop (st : St) (b c : BN) : (st.drop b).bx c = if c = b then none else (st.bx c).map fun cells => cells.map (PV.killC b) := rfl

/-- A slice that was made and filled, and is not written any more. -/
theorem Weak.freeze {P : Program} {st : St} {t : Nat} {b : BN} {e sz n : Nat} {l : List PD} (ht : st.tm t = .rsl b e sz n) (hb : st.bx b = some ((flat l).map .d)) (hl : l.length = n) (hu : ∀ x ∈ l, x.cells.length = sz) : Weak P st ((st.drop b).put t (.own e sz l)) := fun F G a w hr => by
  subst hl
  have hrt := hr.tm t
  rw [ht] at hrt
  obtain ⟨hv, hlive, hlen⟩ := hrt
  obtain ⟨cs, q, h1, h2, h3, h4⟩ := hr.hp.bx b _ hb
  have hcs : ∀ (i : Nat) x u, (flat l)[i]? = some x → cs[i]? = some u → RepD G.im w x u ∧ x.scalar = true := fun i x u hx hu => h4 i (.d x) u (by rw [List.getElem?_map, hx]; rfl) hu
  have hsz : (flat l).length ≤ cs.size := by simpa using h2
  have hβlt : ∀ c, G.live c → G.β c < w.heap.size := fun c hl => by obtain ⟨x, _, hbx⟩ := hr.hp.box hl; exact hbx.lt
  let G' : Gh := { im := (fun g o => G.im g o ∨ (g = G.β b ∧ o < (flat l).length)), β := G.β, live := (fun c => c ≠ b ∧ G.live c), own := (fun g => if g = G.β b then some (.t t, 0, 0) else G.own g), fz := G.fz }
  have hk : Keep G.im w G'.im w := fun g o h => ⟨.inl h, rfl⟩
  let G2 : Gh := { G' with live := G.live }
  have hstep : GStep G w G2 w (fun p q => p = q) := by
    refine ⟨hk, fun c hl => ⟨hl, rfl⟩, rfl, fun _ _ => rfl, Nat.le_refl _, fun g p q hg e => ⟨?_, rfl, fun o ho => ?_⟩, fun o' g ho' hf => ?_⟩
    · rw [← e]
      show (if g = G.β b then some (.t t, 0, 0) else G.own g) = some p
      rw [if_neg (fun e => ?_)]
      · exact hg
      · have : G.own (G.β b) = some p := e ▸ hg
        rw [hr.hp.boxown b hlive] at this; cases this
    · rcases ho with ho | ⟨rfl, _⟩
      · exact ho
      · have : G.own (G.β b) = some p := hg
        rw [hr.hp.boxown b hlive] at this; cases this
    · have hne : g ≠ G.β b := fun e => hf.2.2.1 b hlive e.symm
      exact ⟨⟨hf.1, (if_neg hne).trans hf.2.1, hf.2.2.1, fun o ho => ho.elim (hf.2.2.2.1 o) (fun ho => hne ho.1), hf.2.2.2.2⟩, .heap rfl⟩
  have hrep : RepD G'.im w (.sl sz l) (.slice (some ⟨G.β b, 0, none⟩) l.length l.length) := by
    refine .sl sz l (G.β b) 0 l.length (cs.toList.take (flat l).length) hlen (Nat.le_refl _) hu (fun x hx => ?_) (by simp; omega) (fun i v hi => ?_) (fun i x v hx hv => ?_)
    · obtain ⟨i, hi, rfl⟩ := List.mem_iff_getElem.1 hx
      exact (hcs i _ cs[i] (List.getElem?_eq_getElem hi) (Array.getElem?_eq_getElem (by omega))).2
    · rw [List.getElem?_take] at hi
      split at hi
      · rename_i hlt
        rw [Array.getElem?_toList] at hi
        rw [Nat.zero_add]
        exact ⟨.inr ⟨rfl, hlt⟩, by simp [World.cell?, h1, hi]⟩
      · cases hi
    · rw [List.getElem?_take_of_lt (List.getElem?_eq_some_iff.1 hx).1] at hv
      exact (hcs i x v hx (by simpa using hv)).1.keep hk
  have hown1 : ∀ g p, G'.own g = some p → g < w.heap.size := fun g p hg => by
    by_cases e : g = G.β b
    · rw [e]; exact hβlt b hlive
    · exact hr.hp.ownlt g p ((if_neg e).symm.trans hg)
  have hown2 : ∀ g p, G'.own g = some p → F.w0.heap.size ≤ g ∨ F.Wr g := fun g p hg => by
    by_cases e : g = G.β b
    · rw [e]; exact hr.sn.box b hlive
    · exact hr.sn.own g p ((if_neg e).symm.trans hg)
  refine ⟨G', fun u => ?_, ⟨fun c cells hc => ?_, fun c => ?_, fun c c' hl hl' => hr.hp.inj c c' hl.2 hl'.2, fun g o hg => ?_, hown1, fun c hl o hg => ?_, fun c hl => (if_neg (fun e => hl.1 (hr.hp.inj c b hl.2 hlive e))).trans (hr.hp.boxown c hl.2)⟩, ⟨?_, hown2, fun c hl => hr.sn.box c hl.2, hr.sn.βa, hr.sn.fz, hr.sn.fzm⟩, hr.nt, hr.defers, fun g hg => ⟨(hstep.free _ g (.inl rfl) (hr.z g hg).1).1.less fun _ h => h.2, (hr.z g hg).2⟩⟩
  · by_cases hu' : u = t
    · subst hu'
      simp only [tm_put, if_true]
      rw [hv]
      exact ⟨hrep, .inl ⟨.inr ⟨_, rfl⟩, fun _ g hg => by simp [Value.ownBlock] at hg; subst hg; exact ⟨if_pos rfl, cs, q, h1⟩⟩⟩
    · simp only [tm_put, hu', if_false, tm_drop]
      exact kill_rep (G := G2) (b := b) ((hr.tm u).step hstep (fun i j => rfl))
  · simp only [bx_put, bx_drop] at hc
    split at hc
    · cases hc
    · rename_i hcb
      obtain ⟨cells', hc', rfl⟩ := Option.map_eq_some_iff.1 hc
      obtain ⟨cs', e', k1, k2, k3, k4⟩ := hr.hp.bx c cells' hc'
      refine ⟨cs', e', k1, by simpa using k2, fun j u hj hu => k3 j u (by simpa using hj) hu, fun j x u hx hu => ?_⟩
      rw [List.getElem?_map] at hx
      obtain ⟨z, hz, rfl⟩ := Option.map_eq_some_iff.1 hx
      exact killC_rep (G := G2) (b := b) ((k4 j z u hz hu).step hstep rfl)
  · simp only [bx_put, bx_drop]
    by_cases hcb : c = b
    · simp [hcb, G']
    · simp [hcb, G', hr.hp.live c]
  · rcases hg with hg | ⟨rfl, _⟩
    · exact hr.hp.imlt g o hg
    · exact hβlt b hlive
  · rcases hg with hg | ⟨hg, _⟩
    · exact hr.hp.boxim c hl.2 o hg
    · exact hl.1 (hr.hp.inj c b hl.2 hlive hg)
  · have hx := hr.sn.ext
    have hbf := hr.sn.box b hlive
    refine ⟨hx.os, hx.tape, hx.output, hx.size, hx.old, fun g o hg => ⟨.inl (hx.keep g o hg).1, (hx.keep g o hg).2⟩, fun g o hg => ?_⟩
    rcases hg with hg | ⟨rfl, _⟩
    · exact hx.new g o hg
    · rcases hbf with h | h
      · exact .inr (.inl h)
      · exact .inr (.inr h)

/-! What is known of an argument. -/
theorem BRet.know {P : Program} {f : Nat} {bi bo : List (List PV)} {args : List PV} {r : PV} (hf : isFn P f = true) (hl : bo.length = bi.length) {A : Prop} (ha : ∀ (G : Gh) (w : World) (vs : Array Value), vs.size = args.length →
    (∀ (i : Nat) x u, args[i]? = some x → vs[i]? = some u → RepT P G w (.t i) x u) → A) (h : A → BRet P f bi args r bo) : BRet P f bi args r bo :=
  ⟨hf, hl, fun G w vs Wr hvs hargs => (h (ha G w vs hvs hargs)).2.2 G w vs Wr hvs hargs⟩
theorem BRet.len {P : Program} {f : Nat} {args : List PV} {r : PV} (i : Nat) {sz : Nat} {l : List PD} (hf : isFn P f = true) (ha : args[i]? = some (.d (.sl sz l))) (h : l.length ≤ 140737488355328 → BRet P f [] args r []) : BRet P f [] args r [] :=
  BRet.know hf rfl (fun G w vs hvs hargs => by
    have hi : i < vs.size := by rw [hvs]; exact (List.getElem?_eq_some_iff.1 ha).1
    exact (hargs i _ vs[i] ha (Array.getElem?_eq_getElem hi)).1.len) h
theorem BRet.slen {P : Program} {f : Nat} {args : List PV} {r : PV} (i : Nat) {l : List UInt8} (hf : isFn P f = true) (ha : args[i]? = some (.d (.str l))) (h : l.length ≤ 140737488355328 → BRet P f [] args r []) : BRet P f [] args r [] :=
  BRet.know hf rfl (fun G w vs hvs hargs => by
    have hi : i < vs.size := by rw [hvs]; exact (List.getElem?_eq_some_iff.1 ha).1
    exact (hargs i _ vs[i] ha (Array.getElem?_eq_getElem hi)).1.slen) h
theorem BRet.alen {P : Program} {f : Nat} {args : List PV} {r : PV} (i j : Nat) {cs : List PV} {sz : Nat} {l : List PD} (hf : isFn P f = true) (ha : args[i]? = some (.agg cs)) (hj : cs[j]? = some (.d (.sl sz l))) (h : l.length ≤ 140737488355328 → BRet P f [] args r []) : BRet P f [] args r [] :=
  BRet.know hf rfl (fun G w vs hvs hargs => by
    have hi : i < vs.size := by rw [hvs]; exact (List.getElem?_eq_some_iff.1 ha).1
    obtain ⟨us, -, hus, -, hr⟩ := hargs i _ vs[i] ha (Array.getElem?_eq_getElem hi)
    have hj' : j < us.size := by rw [hus]; exact (List.getElem?_eq_some_iff.1 hj).1
    exact (hr j _ us[j] hj (Array.getElem?_eq_getElem hj')).1.len) h
theorem BRet.aslen {P : Program} {f : Nat} {args : List PV} {r : PV} (i j : Nat) {cs : List PV} {l : List UInt8} (hf : isFn P f = true) (ha : args[i]? = some (.agg cs)) (hj : cs[j]? = some (.d (.str l))) (h : l.length ≤ 140737488355328 → BRet P f [] args r []) : BRet P f [] args r [] :=
  BRet.know hf rfl (fun G w vs hvs hargs => by
    have hi : i < vs.size := by rw [hvs]; exact (List.getElem?_eq_some_iff.1 ha).1
    obtain ⟨us, -, hus, -, hr⟩ := hargs i _ vs[i] ha (Array.getElem?_eq_getElem hi)
    have hj' : j < us.size := by rw [hus]; exact (List.getElem?_eq_some_iff.1 hj).1
    exact (hr j _ us[j] hj (Array.getElem?_eq_getElem hj')).1.slen) h
/-- A slice is nil, or it is not. -/
theorem BRet.nil0 {P : Program} {f : Nat} {args : List PV} {r : PV} {sz : Nat} {l : List PD} (hf : isFn P f = true) (h1 : l = [] → BRet P f [] (.nilS :: args) r []) (h2 : BRet P f [] (.nn sz l :: args) r []) : BRet P f [] (.d (.sl sz l) :: args) r [] := by
  refine ⟨hf, rfl, fun G w vs Wr hvs hargs => ?_⟩
  have hi : 0 < vs.size := by rw [hvs]; simp
  have h0 := hargs 0 _ vs[0] rfl (Array.getElem?_eq_getElem hi)
  have hgo : ∀ x, RepT P G w (.t 0) x vs[0] → ∀ (i : Nat) y u, (x :: args)[i]? = some y → vs[i]? = some u → RepT P G w (.t i) y u := by
    intro x hx i y u hy hu
    cases i with
    | zero => simp at hy; rw [Array.getElem?_eq_getElem hi] at hu; cases hu; subst hy; exact hx
    | succ i => exact hargs (i + 1) y u hy hu
  obtain ⟨hd, -⟩ := h0
  rcases hd.sl_shape with ⟨rfl, hv⟩ | ⟨g, o, c, hv, _⟩ | ⟨rfl, a, c, hv⟩
  rotate_left 2
  · exact h2.2.2 G w vs Wr (by simpa using hvs) (hgo (.nn sz []) ⟨hd, fun n c e => by rw [hv] at e; cases e⟩)
  · exact (h1 rfl).2.2 G w vs Wr (by simpa using hvs) (hgo .nilS hv)
  · exact h2.2.2 G w vs Wr (by simpa using hvs) (hgo (.nn sz l) ⟨hd, fun n c e => by rw [hv] at e; cases e⟩)

/-! Calls. -/
theorem joinB_same {l : List BN} {B B2 : Bx} (h : ∀ b, l.contains b = true → B2 b = B b) : joinB l B B2 = B2 := by
  funext b
  unfold joinB
  by_cases hl : l.contains b = true
  · rw [if_pos hl]; exact (h b hl).symm
  · rw [if_neg hl]
theorem vz_be {fl : AF} (h : fl.be = true) (B : Bx) : vz fl B = B := by simp [vz, h]
/-- What looks at no box. -/
theorem bcallD_of {P : Program} {inn : Option (List BN)} {fl : AF} {o : Oper} {K : St → Prop} {st : St} {r : PV} (h : ∀ B2 : Bx, OS1 P fl o (st.at B2) r (vz fl B2)) (k : K (st.after fl o r (vz fl st.bx))) : bcallD P inn fl o K st := by
  have h0 : OS1 P fl o st r (vz fl st.bx) := h st.bx
  cases inn with
  | none => exact ⟨r, _, h0, k⟩
  | some l =>
    refine ⟨r, _, h0, ⟨fun B2 hB => ⟨_, h B2, fun hbe => ?_⟩, fun hbe b hb => by rw [vz_be hbe]⟩, k⟩
    rw [vz_be hbe, vz_be hbe]
    exact (joinB_same hB).symm
theorem call_os1 {P : Program} {fl : AF} {st : St} {dd : Option Nat} {xs : List Operand} {ts : Array TypeId} {ty : TypeId} {pos : String} {af : Array Edge} {g : Option (Nat × Bool)} {f : Nat} {ys : List PV} {r : PV}
    (hret : BRet P f [] ys r []) (hmv : fl.mv = false) (hys : xs.map (fun x => (st.ev x).bT) = ys) (hp : (xs.map st.ev).all PV.passable = true) (hg : r.gives = true) :
    OS1 P fl ⟨dd, .call ⟨.value (.func f), xs.toArray, ts⟩, ty, pos, af, g⟩ st r (vz fl st.bx) := by
  refine .call _ _ (.func f) xs f [] ys [] [] [] ⟨⟨ts, rfl⟩, rfl, by rw [← hys]; simp, fun i x y hx hy => ?_, fun h => by rw [hmv] at h; (cases h), by simp, rfl, by simp, by simp, by simp, hg, hret, by simp, rfl⟩
  rw [List.append_nil] at hx
  rw [List.getElem?_map] at hx
  obtain ⟨z, hz, rfl⟩ := Option.map_eq_some_iff.1 hx
  rw [← hys, List.getElem?_map, hz] at hy
  simp at hy
  subst hy
  have : (st.ev z).bT = mvd fl.mv (st.ev z) := by rw [hmv]; rfl
  rw [this]
  exact .val _ (List.all_eq_true.1 hp _ (List.mem_map.2 ⟨z, List.mem_of_getElem? hz, rfl⟩))
theorem b_call {P : Program} {inn : Option (List BN)} {fl : AF} {K : St → Prop} {st : St} {d : Nat} {xs : List Operand} {ts : Array TypeId} {ty : TypeId} {pos : String} {af : Array Edge} {g : Option (Nat × Bool)} {f : Nat} {ys : List PV} {r : PV}
    (hret : BRet P f [] ys r []) (hmv : fl.mv = false) (hys : xs.map (fun x => (st.ev x).bT) = ys) (hp : (xs.map st.ev).all PV.passable = true) (hg : r.gives = true) (k : K (st.put d r)) :
    bcallD P inn fl ⟨some d, .call ⟨.value (.func f), xs.toArray, ts⟩, ty, pos, af, g⟩ K st :=
  bcallD_of (fun B2 => call_os1 (st := st.at B2) hret hmv (by rw [ev_at]; exact hys) (by rw [ev_at]; exact hp) hg) (by rw [after_pure rfl, hmv]; exact k)
/-- A call that looks at what is nobody's. -/
theorem b_look {P : Program} {inn : Option (List BN)} {fl : AF} {K : St → Prop} {st : St} {d : Nat} {xs : List Operand} {ts : Array TypeId} {ty : TypeId} {pos : String} {af : Array Edge} {g : Option (Nat × Bool)} {f : Nat} {ys xv : List PV} {r v : PV}
    (hret : BRet P f [] ys r []) (hmv : fl.mv = false) (hxv : xs.map st.ev = xv) (hp : ∀ B, All2 (LendV B) xv ys) (ht : TakeT r v) (k : K (st.put d v)) :
    bcallD P inn fl ⟨some d, .call ⟨.value (.func f), xs.toArray, ts⟩, ty, pos, af, g⟩ K st :=
  bcallD_of (fun B2 => .look v f xs ys r ⟨⟨ts, rfl⟩, by rw [ev_at, hxv]; exact hp _, hret, ht⟩) (by rw [after_pure rfl, hmv]; exact k)
/-- The same where a variable is looked at. -/
theorem b_lookb {P : Program} {fl : AF} {K : St → Prop} {st : St} {d : Nat} {xs : List Operand} {ts : Array TypeId} {ty : TypeId} {pos : String} {af : Array Edge} {g : Option (Nat × Bool)} {f : Nat} {ys xv : List PV} {r v : PV}
    (hret : BRet P f [] ys r []) (hmv : fl.mv = false) (hbe : fl.be = true) (hxv : xs.map st.ev = xv) (hp : All2 (LendV st.bx) xv ys) (ht : TakeT r v) (k : K (st.put d v)) :
    bcallD P none fl ⟨some d, .call ⟨.value (.func f), xs.toArray, ts⟩, ty, pos, af, g⟩ K st :=
  ⟨v, _, .look v f xs ys r ⟨⟨ts, rfl⟩, by rw [vz_be hbe, hxv]; exact hp, hret, ht⟩, by rw [after_pure rfl, hmv]; exact k⟩
/-- A call that writes to what is nobody's. -/
theorem b_writes {P : Program} {inn : Option (List BN)} {fl : AF} {K : St → Prop} {st : St} {d : Nat} {xs : List Operand} {ts : Array TypeId} {ty : TypeId} {pos : String} {af : Array Edge} {g : Option (Nat × Bool)} {f : Nat} {ys : List PV} {x : PD}
    (hret : BRet P f [] ys (.d x) []) (hmv : fl.mv = false) (hys : xs.map st.ev = ys) (hp : ys.all zpass = true) (hx : x.plain = true) (k : K (st.put d (.d x))) :
    bcallD P inn fl ⟨some d, .call ⟨.value (.func f), xs.toArray, ts⟩, ty, pos, af, g⟩ K st :=
  bcallD_of (fun B2 => .writes x f xs ⟨⟨ts, rfl⟩, fun y hy => by
    rw [ev_at]
    exact List.all_eq_true.1 hp _ (by rw [← hys]; exact List.mem_map.2 ⟨y, hy, rfl⟩), by rw [ev_at, hys]; exact hret, hx⟩) (by rw [after_pure rfl, hmv]; exact k)
/-- A call whose slice nobody else knows: it goes on as a variable in memory. -/
theorem b_boxed {P : Program} {fl : AF} {K : St → Prop} {st : St} {d : Nat} {xs : List Operand} {ts : Array TypeId} {ty : TypeId} {pos : String} {af : Array Edge} {g : Option (Nat × Bool)} {f : Nat} {ys xv : List PV} {R R' : PV} {x : PD} {e sz : Nat} {l : List PD} (m : Nat)
    (hret : BRet P f [] ys (.tup [R, .d x]) []) (hs : OwnIn (.t m) e sz l R R') (hmv : fl.mv = false) (hbe : fl.be = true) (hxv : xs.map st.ev = xv) (hp : ∀ B, All2 (LendV B) xv ys) (hx : x.plain = true) (hne : l ≠ []) (hf : ∀ y ∈ flat l, y.plain = true) (hb : st.bx (.t m) = none)
    (k : K ((st.sbx (.t m) ((flat l).map .d)).put d (.tup [R', .d x]))) :
    bcallD P none fl ⟨some d, .call ⟨.value (.func f), xs.toArray, ts⟩, ty, pos, af, g⟩ K st :=
  ⟨_, _, .boxed m f xs ys R R' x e sz l ⟨⟨ts, rfl⟩, by rw [hxv]; exact hp _, hret, hs, hx, hne, hf, hbe, hb⟩, by
    have e : st.after fl ⟨some d, .call ⟨.value (.func f), xs.toArray, ts⟩, ty, pos, af, g⟩ (.tup [R', .d x]) (Bx.set st.bx (.t m) ((flat l).map .d)) = (st.sbx (.t m) ((flat l).map .d)).put d (.tup [R', .d x]) := by
      unfold St.after St.upd St.put St.sbx stripsOf
      simp [hmv, hbe]
    rw [e]; exact k⟩
/-- A slice of a variable in front, which the call writes; data behind it. -/
theorem b_callr {P : Program} {fl : AF} {K : St → Prop} {st : St} {d : Nat} {x0 : Operand} {xs : List Operand} {ts : Array TypeId} {ty : TypeId} {pos : String} {af : Array Edge} {g : Option (Nat × Bool)} {f : Nat} {ys cells cells' : List PV} {r : PV} {b : BN} {sz n : Nat}
    (hret : BRet P f [cells] (.rsv (.a 0) sz n :: ys) r [cells']) (hx0 : st.ev x0 = .rsv b sz n) (hb : st.bx b = some cells) (hc1 : cells.all PV.pass1 = true) (hc2 : cells'.all PV.gives1 = true) (hmv : fl.mv = false) (hbe : fl.be = true) (hys : xs.map (fun x => (st.ev x).bT) = ys) (hp : (xs.map st.ev).all PV.passable = true) (hg : r.gives = true)
    (k : K ((st.sbx b cells').put d r)) : bcallD P none fl ⟨some d, .call ⟨.value (.func f), (x0 :: xs).toArray, ts⟩, ty, pos, af, g⟩ K st := by
  refine ⟨r, Bx.set st.bx b cells', .call _ _ (.func f) (x0 :: xs) f [] (.rsv (.a 0) sz n :: ys) [b] [cells] [cells'] ⟨⟨ts, rfl⟩, rfl, by rw [← hys]; simp, fun i x y hx hy => ?_, fun h => by rw [hmv] at h; (cases h), by simp, rfl, fun k b' hk => ?_, fun c hc => ?_, fun c hc => ?_, hg, hret, fun _ => hbe, ?_⟩, ?_⟩
  · rw [List.append_nil, List.map_cons, hx0] at hx
    cases i with
    | zero =>
      simp only [List.getElem?_cons_zero, Option.some.injEq] at hx hy
      subst hx; subst hy
      exact .rsv b sz n 0 rfl
    | succ i =>
      simp only [List.getElem?_cons_succ] at hx hy
      rw [List.getElem?_map] at hx
      obtain ⟨z, hz, rfl⟩ := Option.map_eq_some_iff.1 hx
      rw [← hys, List.getElem?_map, hz] at hy
      simp at hy
      subst hy
      have : (st.ev z).bT = mvd fl.mv (st.ev z) := by rw [hmv]; rfl
      rw [this]
      exact .val _ (List.all_eq_true.1 hp _ (List.mem_map.2 ⟨z, List.mem_of_getElem? hz, rfl⟩))
  · cases k with
    | zero =>
      simp only [List.getElem?_cons_zero, Option.some.injEq] at hk
      subst hk
      rw [vz_be hbe, hb]; rfl
    | succ k => simp at hk
  · rw [List.mem_singleton.1 hc]; exact hc1
  · rw [List.mem_singleton.1 hc]; exact hc2
  · rw [vz_be hbe]; rfl
  · have e : st.after fl ⟨some d, .call ⟨.value (.func f), (x0 :: xs).toArray, ts⟩, ty, pos, af, g⟩ r (Bx.set st.bx b cells') = (st.sbx b cells').put d r := by
      unfold St.after St.upd St.put St.sbx stripsOf
      simp [hmv, hbe]
    rw [e]; exact k
/-- What is nobody's may be written from here on. -/
def PV.unqC : PV → PV
  | .q x => .zs x
  | x => x
def PV.unqV : PV → PV
  | .agg l => .agg (l.map PV.unqC)
  | x => x.unqC
def PV.unq : PV → PV
  | .tup l => .tup (l.map PV.unqV)
  | x => x.unqV
def St.unq (st : St) : St := ⟨fun t => (st.tm t).unq, fun b => (st.bx b).map fun cells => cells.map PV.unqC⟩
theorem Weak.unq {P : Program} {st : St} : Weak P st st.unq := fun F G a w hr => by
  let G' : Gh := { G with own := fun g => if G.own g = some qpos then none else G.own g }
  have hB : ∀ g, FreeB G w g → FreeB G' w g := fun g hg => ⟨hg.1, by simp [G', hg.2.1], hg.2.2⟩
  have hQ : ∀ g, FreeQ G w g → FreeB G' w g := fun g hg => ⟨hg.1, by simp [G', hg.2.1], hg.2.2⟩
  have hOwn : ∀ p, p ≠ qpos → ∀ g, G.own g = some p → G'.own g = some p := fun p hp g hg => by simp [G', hg, hp]
  have hAt : ∀ x v, RepAt G w x v → RepAt G' w x v := fun x v h => by cases x <;> exact h
  have hC : ∀ p, p ≠ qpos → ∀ x v, RepC P G w p x v → RepC P G' w p x.unqC v := by
    intro p hp x v h
    cases x
    case own e sz l =>
      refine ⟨h.1, h.2.imp (fun ⟨h1, h2⟩ => ⟨h1, fun hl g hg => ⟨hOwn p hp g (h2 hl g hg).1, (h2 hl g hg).2⟩⟩) fun ⟨vs, h1, h2, h3⟩ => ⟨vs, h1, h2, fun g hg => ⟨hOwn p hp g (h3 g hg).1, (h3 g hg).2⟩⟩⟩
    case dp x => exact ⟨h.1.keep fun b o ⟨h1, h2, h3⟩ => ⟨⟨h1, hOwn p hp b h2, h3⟩, rfl⟩, h.2⟩
    case q x => exact ⟨h.1.zd (fun b o hb => hQ b hb) h.2, h.2⟩
    case zs x => exact ⟨h.1.keep fun g hg => ⟨hB g hg, fun _ => rfl⟩, h.2⟩
    case zp x => obtain ⟨g, o, h1, h2⟩ := h; exact ⟨g, o, h1, h2.keep fun g hg => ⟨hB g hg, fun _ => rfl⟩⟩
    case clo f caps => obtain ⟨vs, h1, h2, h3⟩ := h; exact ⟨vs, h1, h2, fun i x u hx hu => hAt x u (h3 i x u hx hu)⟩
    all_goals exact h
  have hV : ∀ loc i, (∀ j, (loc, i, j) ≠ qpos) → ∀ x v, RepV P G w loc i x v → RepV P G' w loc i x.unqV v := by
    intro loc i hne x v h
    cases x
    case agg l =>
      obtain ⟨cs, h1, h2, h3, h4⟩ := h
      refine ⟨cs, h1, by simpa using h2, h3, fun j y u hy hu => ?_⟩
      rw [List.getElem?_map] at hy
      obtain ⟨z, hz, rfl⟩ := Option.map_eq_some_iff.1 hy
      exact hC _ (hne j) z u (h4 j z u hz hu)
    case d z => exact hC (loc, i, 0) (hne 0) (.d z) v h
    case nilS => exact hC (loc, i, 0) (hne 0) (.nilS) v h
    case nn sz l => exact hC (loc, i, 0) (hne 0) (.nn sz l) v h
    case own e sz l => exact hC (loc, i, 0) (hne 0) (.own e sz l) v h
    case ptr b o => exact hC (loc, i, 0) (hne 0) (.ptr b o) v h
    case rsl b e sz n => exact hC (loc, i, 0) (hne 0) (.rsl b e sz n) v h
    case eptr cs => exact hC (loc, i, 0) (hne 0) (.eptr cs) v h
    case efn K => exact hC (loc, i, 0) (hne 0) (.efn K) v h
    case dp z => exact hC (loc, i, 0) (hne 0) (.dp z) v h
    case rsv b sz n => exact hC (loc, i, 0) (hne 0) (.rsv b sz n) v h
    case q z => exact hC (loc, i, 0) (hne 0) (.q z) v h
    case zs z => exact hC (loc, i, 0) (hne 0) (.zs z) v h
    case zp z => exact hC (loc, i, 0) (hne 0) (.zp z) v h
    case one => exact hC (loc, i, 0) (hne 0) (.one) v h
    case clo f caps => exact hC (loc, i, 0) (hne 0) (.clo f caps) v h
    case fn K => exact hC (loc, i, 0) (hne 0) (.fn K) v h
    case junk => exact hC (loc, i, 0) (hne 0) (.junk) v h
    case und => exact hC (loc, i, 0) (hne 0) (.und) v h
    case tup l => exact h
  have hT : ∀ loc, loc ≠ .q → ∀ x v, RepT P G w loc x v → RepT P G' w loc x.unq v := by
    intro loc hne x v h
    have hn : ∀ i j, (loc, i, j) ≠ qpos := fun i j e => hne (by simp [qpos] at e; exact e.1)
    cases x
    case tup l =>
      obtain ⟨vs, h1, h2, h3⟩ := h
      refine ⟨vs, h1, by simpa using h2, fun j y u hy hu => ?_⟩
      rw [List.getElem?_map] at hy
      obtain ⟨z, hz, rfl⟩ := Option.map_eq_some_iff.1 hy
      exact hV loc j (hn j) z u (h3 j z u hz hu)
    case agg l => exact hV loc 0 (hn 0) (.agg l) v h
    case d z => exact hC (loc, 0, 0) (hn 0 0) (.d z) v h
    case nilS => exact hC (loc, 0, 0) (hn 0 0) (.nilS) v h
    case nn sz l => exact hC (loc, 0, 0) (hn 0 0) (.nn sz l) v h
    case own e sz l => exact hC (loc, 0, 0) (hn 0 0) (.own e sz l) v h
    case ptr b o => exact hC (loc, 0, 0) (hn 0 0) (.ptr b o) v h
    case rsl b e sz n => exact hC (loc, 0, 0) (hn 0 0) (.rsl b e sz n) v h
    case eptr cs => exact hC (loc, 0, 0) (hn 0 0) (.eptr cs) v h
    case efn K => exact hC (loc, 0, 0) (hn 0 0) (.efn K) v h
    case dp z => exact hC (loc, 0, 0) (hn 0 0) (.dp z) v h
    case rsv b sz n => exact hC (loc, 0, 0) (hn 0 0) (.rsv b sz n) v h
    case q z => exact hC (loc, 0, 0) (hn 0 0) (.q z) v h
    case zs z => exact hC (loc, 0, 0) (hn 0 0) (.zs z) v h
    case zp z => exact hC (loc, 0, 0) (hn 0 0) (.zp z) v h
    case one => exact hC (loc, 0, 0) (hn 0 0) (.one) v h
    case clo f caps => exact hC (loc, 0, 0) (hn 0 0) (.clo f caps) v h
    case fn K => exact hC (loc, 0, 0) (hn 0 0) (.fn K) v h
    case junk => exact hC (loc, 0, 0) (hn 0 0) (.junk) v h
    case und => exact hC (loc, 0, 0) (hn 0 0) (.und) v h
  refine ⟨G', fun t => hT _ (by simp) _ _ (hr.tm t), ⟨fun b cells hb => ?_, fun b => ?_, hr.hp.inj, hr.hp.imlt, fun g p hg => ?_, hr.hp.boxim, fun b hl => ?_⟩, ⟨hr.sn.ext, fun g p hg => ?_, hr.sn.box, hr.sn.βa, hr.sn.fz, hr.sn.fzm⟩, hr.nt, hr.defers, fun g hg => ⟨hB g (hr.z g hg).1, (hr.z g hg).2⟩⟩
  · simp only [St.unq, Option.map_eq_some_iff] at hb
    obtain ⟨cells', hc, rfl⟩ := hb
    obtain ⟨cs, e, h1, h2, h3, h4⟩ := hr.hp.bx b cells' hc
    refine ⟨cs, e, h1, by simpa using h2, fun j u hj hu => h3 j u (by simpa using hj) hu, fun j y u hy hu => ?_⟩
    rw [List.getElem?_map] at hy
    obtain ⟨z, hz, rfl⟩ := Option.map_eq_some_iff.1 hy
    exact hC _ (by simp [qpos]) z u (h4 j z u hz hu)
  · simp only [St.unq, Option.isSome_map]; exact hr.hp.live b
  · simp only [G'] at hg
    split at hg
    · cases hg
    · exact hr.hp.ownlt g p hg
  · simp [G', hr.hp.boxown b hl]
  · simp only [G'] at hg
    split at hg
    · cases hg
    · exact hr.sn.own g p hg
/-- A pointer to a variable in front, data behind it. -/
theorem callp_os1 {P : Program} {fl : AF} {st : St} {dd : Option Nat} {x0 : Operand} {xs : List Operand} {ts : Array TypeId} {ty : TypeId} {pos : String} {af : Array Edge} {g : Option (Nat × Bool)} {f : Nat} {ys cells cells' : List PV} {r : PV} {b : BN} {o : Nat}
    (hret : BRet P f [cells] (.ptr (.a 0) o :: ys) r [cells']) (hx0 : st.ev x0 = .ptr b o) (hb : st.bx b = some cells) (hc1 : cells.all PV.pass1 = true) (hc2 : cells'.all PV.gives1 = true) (hmv : fl.mv = false) (hbe : fl.be = true) (hys : xs.map (fun x => (st.ev x).bT) = ys) (hp : (xs.map st.ev).all PV.passable = true) (hg : r.gives = true) :
    OS1 P fl ⟨dd, .call ⟨.value (.func f), (x0 :: xs).toArray, ts⟩, ty, pos, af, g⟩ st r (Bx.set st.bx b cells') := by
  refine .call _ _ (.func f) (x0 :: xs) f [] (.ptr (.a 0) o :: ys) [b] [cells] [cells'] ⟨⟨ts, rfl⟩, rfl, by rw [← hys]; simp, fun i x y hx hy => ?_, fun h => by rw [hmv] at h; (cases h), by simp, rfl, fun k b' hk => ?_, fun c hc => ?_, fun c hc => ?_, hg, hret, fun _ => hbe, ?_⟩
  · rw [List.append_nil, List.map_cons, hx0] at hx
    cases i with
    | zero =>
      simp only [List.getElem?_cons_zero, Option.some.injEq] at hx hy
      subst hx; subst hy
      exact .ptr b o 0 rfl
    | succ i =>
      simp only [List.getElem?_cons_succ] at hx hy
      rw [List.getElem?_map] at hx
      obtain ⟨z, hz, rfl⟩ := Option.map_eq_some_iff.1 hx
      rw [← hys, List.getElem?_map, hz] at hy
      simp at hy
      subst hy
      have : (st.ev z).bT = mvd fl.mv (st.ev z) := by rw [hmv]; rfl
      rw [this]
      exact .val _ (List.all_eq_true.1 hp _ (List.mem_map.2 ⟨z, List.mem_of_getElem? hz, rfl⟩))
  · cases k with
    | zero =>
      simp only [List.getElem?_cons_zero, Option.some.injEq] at hk
      subst hk
      rw [vz_be hbe, hb]; rfl
    | succ k => simp at hk
  · rw [List.mem_singleton.1 hc]; exact hc1
  · rw [List.mem_singleton.1 hc]; exact hc2
  · rw [vz_be hbe]; rfl
theorem b_callp {P : Program} {inn : Option (List BN)} {fl : AF} {K : St → Prop} {st : St} {d : Nat} {x0 : Operand} {xs : List Operand} {ts : Array TypeId} {ty : TypeId} {pos : String} {af : Array Edge} {g : Option (Nat × Bool)} {f : Nat} {ys cells cells' : List PV} {r : PV} {b : BN} {o : Nat}
    (hret : BRet P f [cells] (.ptr (.a 0) o :: ys) r [cells']) (hx0 : st.ev x0 = .ptr b o) (hb : st.bx b = some cells) (hc1 : cells.all PV.pass1 = true) (hc2 : cells'.all PV.gives1 = true) (hmv : fl.mv = false) (hbe : fl.be = true) (hin : inAll inn b = true) (hys : xs.map (fun x => (st.ev x).bT) = ys) (hp : (xs.map st.ev).all PV.passable = true) (hg : r.gives = true)
    (k : K ((st.sbx b cells').put d r)) : bcallD P inn fl ⟨some d, .call ⟨.value (.func f), (x0 :: xs).toArray, ts⟩, ty, pos, af, g⟩ K st := by
  have h0 := callp_os1 (dd := some d) (ts := ts) (ty := ty) (pos := pos) (af := af) (g := g) hret hx0 hb hc1 hc2 hmv hbe hys hp hg
  have hk : st.after fl ⟨some d, .call ⟨.value (.func f), (x0 :: xs).toArray, ts⟩, ty, pos, af, g⟩ r (Bx.set st.bx b cells') = (st.sbx b cells').put d r := by
    unfold St.after St.upd St.put St.sbx stripsOf
    simp [hbe, hmv]
  cases inn with
  | none => exact ⟨r, _, h0, by rw [hk]; exact k⟩
  | some l =>
    refine ⟨r, _, h0, ⟨fun B2 hB => ⟨_, callp_os1 (st := st.at B2) hret (by rw [ev_at]; exact hx0) (by show B2 b = _; rw [hB b hin]; exact hb) hc1 hc2 hmv hbe (by rw [ev_at]; exact hys) (by rw [ev_at]; exact hp) hg, fun _ => ?_⟩, fun _ b2 hb2 => ?_⟩, by rw [hk]; exact k⟩
    · funext b2
      show (if b2 = b then some cells' else B2 b2) = if l.contains b2 = true then (if b2 = b then some cells' else st.bx b2) else B2 b2
      by_cases hl : l.contains b2 = true
      · rw [if_pos hl, hB b2 hl]
      · rw [if_neg hl]
        have : ¬ b2 = b := fun e => hl (e ▸ hin)
        rw [if_neg this]
    · have : ¬ b2 = b := fun e => by rw [e] at hb2; rw [show l.contains b = true from hin] at hb2; cases hb2
      simp only [Bx.set, if_neg this]
/-- The last argument is a function with its captured variables. -/
theorem b_callc {P : Program} {fl : AF} {K : St → Prop} {st : St} {d : Nat} {xs : List Operand} {c : Operand} {ts : Array TypeId} {ty : TypeId} {pos : String} {af : Array Edge} {g : Option (Nat × Bool)} {f : Nat} {ys : List PV} {r : PV} {f' : Nat} {caps : List PV} (Kf : List PD → Option PD)
    (hret : BRet P f [] (ys ++ [.fn Kf]) r []) (hmv : fl.mv = false) (hys : xs.map (fun x => (st.ev x).bT) = ys) (hp : (xs.map st.ev).all PV.passable = true) (hc : st.ev c = .clo f' caps) (hok : CloOK P (vz fl st.bx) f' caps Kf) (hg : r.gives = true) (k : K (st.put d r)) :
    bcallD P none fl ⟨some d, .call ⟨.value (.func f), (xs ++ [c]).toArray, ts⟩, ty, pos, af, g⟩ K st := by
  show bcall P fl _ K st
  refine ⟨r, vz fl st.bx, .call _ _ (.func f) (xs ++ [c]) f [] (ys ++ [.fn Kf]) [] [] [] ⟨⟨ts, rfl⟩, rfl, by rw [← hys]; simp, fun i x y hx hy => ?_, fun h => by rw [hmv] at h; (cases h), by simp, rfl, by simp, by simp, by simp, hg, hret, by simp, rfl⟩, ?_⟩
  · rw [List.append_nil, List.map_append] at hx
    have hl : ys.length = (xs.map st.ev).length := by rw [← hys]; simp
    by_cases hi : i < (xs.map st.ev).length
    · rw [List.getElem?_append_left hi] at hx
      rw [List.getElem?_append_left (by omega)] at hy
      rw [List.getElem?_map] at hx
      obtain ⟨z, hz, rfl⟩ := Option.map_eq_some_iff.1 hx
      rw [← hys, List.getElem?_map, hz] at hy
      simp at hy
      subst hy
      have : (st.ev z).bT = mvd fl.mv (st.ev z) := by rw [hmv]; rfl
      rw [this]
      exact .val _ (List.all_eq_true.1 hp _ (List.mem_map.2 ⟨z, List.mem_of_getElem? hz, rfl⟩))
    · rw [List.getElem?_append_right (by omega)] at hx hy
      rw [hl] at hy
      generalize i - (xs.map st.ev).length = j at hx hy
      cases j with
      | zero =>
        simp at hx hy
        subst hx; subst hy
        rw [hc]
        exact .fn f' caps Kf hok (by simp)
      | succ j => simp at hx
  · rw [after_pure rfl, hmv]
    exact k
theorem b_callc2 {P : Program} {fl : AF} {K : St → Prop} {st : St} {d : Nat} {x c : Operand} {ts : Array TypeId} {ty : TypeId} {pos : String} {af : Array Edge} {g : Option (Nat × Bool)} {f : Nat} {y r : PV} {f' : Nat} {caps : List PV} {Kf : List PD → Option PD}
    (hret : BRet P f [] [y, .fn Kf] r []) (hmv : fl.mv = false) (hys : (st.ev x).bT = y) (hp : (st.ev x).passable = true) (hc : st.ev c = .clo f' caps) (hok : CloOK P (vz fl st.bx) f' caps Kf) (hg : r.gives = true) (k : K (st.put d r)) :
    bcallD P none fl ⟨some d, .call ⟨.value (.func f), #[x, c], ts⟩, ty, pos, af, g⟩ K st :=
  b_callc (xs := [x]) (ys := [y]) Kf hret hmv (by rw [← hys]; rfl) (by simpa using hp) hc hok hg k
/-- A function value that was handed in. -/
theorem b_fn {P : Program} {fl : AF} {K : St → Prop} {st : St} {d t : Nat} {xs : List Operand} {ts : Array TypeId} {ty : TypeId} {pos : String} {af : Array Edge} {g : Option (Nat × Bool)} {Kf : List PD → Option PD} {zs : List PD} {r : PD}
    (hf : st.tm t = .fn Kf) (hmv : fl.mv = false) (hz : pdsOf (xs.map st.ev) = some zs) (hr : Kf zs = some r) (k : K (st.put d (ofPD r))) :
    bcallD P none fl ⟨some d, .call ⟨.value (.tmp t), xs.toArray, ts⟩, ty, pos, af, g⟩ K st := by
  show bcall P fl _ K st
  refine ⟨ofPD r, vz fl st.bx, .fn _ (.tmp t) xs Kf zs r ⟨⟨ts, rfl⟩, hf, hz, hr, rfl⟩, ?_⟩
  rw [after_pure rfl, hmv]
  exact k

/-! Results in variables. -/
theorem ret_cc {P : Program} {a b : Nat} {t u : TypeId} {r : PV} {st : St} {n m : Nat} {c1 c2 : List PV} {i j : TI} (ha : st.tm a = .ptr (.t n) 0) (hb : st.tm b = .ptr (.t m) 0) (h1 : st.bx (.t n) = some c1) (h2 : st.bx (.t m) = some c2) (hne : n ≠ m)
    (hi : tyi P t = some i) (hj : tyi P u = some j) (hia : i.agg = true) (hja : j.agg = true) (hl1 : c1.length = i.sz) (hl2 : c2.length = j.sz) (g1 : c1.all PV.gives1 = true) (g2 : c2.all PV.gives1 = true) (hr : .tup [.agg c1, .agg c2] = r) (hk : ∀ k, st.bx (.a k) = none) :
    retK P [.cell a t, .cell b u] r [] st :=
  ⟨[(.b (.t n), .agg c1), (.b (.t m), .agg c2)], by simp [resAll, resOf, ha, hb, h1, h2], by simp [cellsFit, ha, hb, h1, h2, hi, hj, hia, hja, hl1, hl2], by simp [hne], by simp only [List.map_cons, List.map_nil, List.all_cons, List.all_nil, PV.gives2, g1, g2]; rfl, by simpa [resPV] using hr, fun k => by simpa using hk k, by simp⟩
theorem ret_ct {P : Program} {a b : Nat} {t : TypeId} {r x : PV} {st : St} {n : Nat} {c1 : List PV} {i : TI} (ha : st.tm a = .ptr (.t n) 0) (h1 : st.bx (.t n) = some c1) (hb : st.tm b = x) 
    (hi : tyi P t = some i) (hia : i.agg = true) (hl1 : c1.length = i.sz) (g1 : c1.all PV.gives1 = true) (g2 : x.gives2 = true) (hr : .tup [.agg c1, x] = r) (hk : ∀ k, st.bx (.a k) = none) :
    retK P [.cell a t, .tmp b] r [] st := by
  subst hb
  exact ⟨[(.b (.t n), .agg c1), (.t b, st.tm b)], by simp [resAll, resOf, ha, h1], by simp [cellsFit, ha, h1, hi, hia, hl1], by simp, by simp only [List.map_cons, List.map_nil, List.all_cons, List.all_nil, g2, Bool.and_true]; exact g1, by simpa [resPV] using hr, fun k => by simpa using hk k, by simp⟩

/-- A result, and a variable that was handed in. -/
theorem ret_1p {P : Program} {t : Nat} {r : PV} {st : St} {c : List PV} (hx : st.tm t = r) (g : r.gives2 = true) (hb : st.bx (.a 0) = some c) (hk : ∀ k, st.bx (.a (k + 1)) = none) (hc : c.all PV.gives1 = true) : retK P [.tmp t] r [c] st := by
  subst hx
  refine ⟨[(.t t, st.tm t)], by simp [resAll, resOf], by simp [cellsFit], by simp, by simpa using g, by simp [resPV], fun k => ?_, by simpa using hc⟩
  cases k with
  | zero => simpa using hb
  | succ k => simpa using hk k
theorem ret_cp {P : Program} {a : Nat} {t : TypeId} {r : PV} {st : St} {n : Nat} {c1 c : List PV} {i : TI} (ha : st.tm a = .ptr (.t n) 0) (h1 : st.bx (.t n) = some c1) (hi : tyi P t = some i) (hia : i.agg = true) (hl1 : c1.length = i.sz) (g1 : c1.all PV.gives1 = true)
    (hr : .agg c1 = r) (hb : st.bx (.a 0) = some c) (hk : ∀ k, st.bx (.a (k + 1)) = none) (hc : c.all PV.gives1 = true) : retK P [.cell a t] r [c] st := by
  refine ⟨[(.b (.t n), .agg c1)], by simp [resAll, resOf, ha, h1], by simp [cellsFit, ha, h1, hi, hia, hl1], by simp, by simpa [PV.gives2] using g1, by simpa [resPV] using hr, fun k => ?_, by simpa using hc⟩
  cases k with
  | zero => simpa using hb
  | succ k => simpa using hk k

end Go.Bee
