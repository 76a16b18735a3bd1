/-
Loops, calls, and what may be taken for known. No condition.
-/
import Derived.Test.YtkgjplamdmakpaaGreatDoorBeeR
namespace Go.Bee
set_option linter.unusedVariables false

theorem Weak.refl {P : Program} (st : St) : Weak P st st := fun F G a w h => ⟨G, h⟩
theorem wk_rfl {P : Program} {K : St → Prop} {s : St} (h : K s) : wk P K s := ⟨s, Weak.refl s, h⟩
theorem wk_of {P : Program} {K : St → Prop} {s s' : St} (hw : Weak P s s') (h : K s') : wk P K s := ⟨s', hw, h⟩
theorem Weak.trans {P : Program} {s t u : St} (h : Weak P s t) (k : Weak P t u) : Weak P s u := fun F G a w hr => by
  obtain ⟨G', h'⟩ := h F G a w hr
  exact k F G' a w h'
theorem b_loop {P : Program} {H : Nat → List Nat} {c : Code} {Q : Ex → St → Prop} {st : St} (I : Nat → St → Prop) (n : Nat) (hI : I n st) (hr : ∀ n s, I n s → bwp P H c (loopK P I n Q) s) : bloop P (bwp P H c) Q st :=
  ⟨I, ⟨n, st, Weak.refl st, hI⟩, hr⟩
theorem b_loopw {P : Program} {H : Nat → List Nat} {c : Code} {Q : Ex → St → Prop} {st s : St} (I : Nat → St → Prop) (n : Nat) (hw : Weak P st s) (hI : I n s) (hr : ∀ n s, I n s → bwp P H c (loopK P I n Q) s) : bloop P (bwp P H c) Q st :=
  ⟨I, ⟨n, s, hw, hI⟩, hr⟩

/-- A slot may forget, or say less. -/
theorem Weak.put {P : Program} {st : St} {t : Nat} {x : PV} (h : ∀ (G : Gh) (w : World) (v : Value), RepT P G w (.t t) (st.tm t) v → RepT P G w (.t t) x v) : Weak P st (st.put t x) := fun F G a w hr =>
  ⟨G, ⟨fun u => by
    by_cases hu : u = t
    · subst hu; simp only [tm_put, if_true]; exact h G w _ (hr.tm u)
    · simp only [tm_put, hu, if_false]; exact hr.tm u, hr.hp, hr.sn, hr.nt, hr.defers⟩⟩
theorem Weak.nil_own {P : Program} {st : St} {t : Nat} (e sz : Nat) (h : st.tm t = .nilS) : Weak P st (st.put t (.own e sz [])) := Weak.put fun G w v hv => by
  rw [h] at hv
  have hv' : v = .slice none 0 0 := hv
  rw [hv']
  exact ⟨.nil sz, .inl ⟨⟨none, rfl⟩, fun h => absurd rfl h⟩⟩
theorem Weak.bT {P : Program} {st : St} (t : Nat) : Weak P st (st.put t (st.tm t).bT) := Weak.put fun G w v hv => hv.bT _
theorem Weak.own_d {P : Program} {st : St} {t e sz : Nat} {l : List PD} (h : st.tm t = .own e sz l) : Weak P st (st.put t (.d (.sl sz l))) := Weak.put fun G w v hv => by rw [h] at hv; exact ⟨hv.1, rfl⟩
theorem Weak.nil_d {P : Program} {st : St} {t : Nat} (sz : Nat) (h : st.tm t = .nilS) : Weak P st (st.put t (.d (.sl sz []))) := Weak.put fun G w v hv => by
  rw [h] at hv
  have hv' : v = .slice none 0 0 := hv
  rw [hv']
  exact ⟨.nil sz, rfl⟩
theorem Weak.junk {P : Program} {st : St} (t : Nat) : Weak P st (st.put t .junk) := Weak.put fun G w v hv => trivial

/-- A variable in memory whose parts are nobody's own. -/
theorem Weak.bC {P : Program} {st : St} (b : BN) : Weak P st ⟨st.tm, fun c => if c = b then (st.bx c).map (·.map PV.bC) else st.bx c⟩ := fun F G a w hr =>
  ⟨G, ⟨hr.tm, ⟨fun c cells hc => by
    simp only at hc
    split at hc
    · rename_i e
      obtain ⟨cells', hc', rfl⟩ := Option.map_eq_some_iff.1 hc
      obtain ⟨cs, q, h1, h2, h3, h4⟩ := hr.hp.bx c cells' hc'
      refine ⟨cs, q, h1, by simpa using h2, h3, fun j x u hx hu => ?_⟩
      rw [List.getElem?_map] at hx
      obtain ⟨z, hz, rfl⟩ := Option.map_eq_some_iff.1 hx
      exact (h4 j z u hz hu).bC _
    · exact hr.hp.bx c cells hc, fun c => by
    simp only
    split
    · simp [hr.hp.live c]
    · exact hr.hp.live c, hr.hp.inj, hr.hp.imlt, hr.hp.ownlt, hr.hp.boxim, hr.hp.boxown⟩, hr.sn, hr.nt, hr.defers⟩⟩

def PV.killC (b : BN) : PV → PV
  | .ptr c o => if c = b then .junk else .ptr c o
  | .rsl c e sz n => if c = b then .junk else .rsl c e sz n
  | .clo f caps => if caps.any (fun x => match x with | .ptr c _ => decide (c = b) | _ => false) then .junk else .clo f caps
  | x => x
def PV.killV (b : BN) : PV → PV
  | .agg l => .agg (l.map (PV.killC b))
  | x => x.killC b
def PV.kill (b : BN) : PV → PV
  | .tup l => .tup (l.map (PV.killV b))
  | x => x.killV b
def St.drop (st : St) (b : BN) : St := ⟨fun t => (st.tm t).kill b, fun c => if c = b then none else (st.bx c).map fun cells => cells.map (PV.killC b)⟩
theorem killC_rep {P : Program} {G : Gh} {w : World} {b : BN} {p : Pos} {x : PV} {v : Value} (h : RepC P G w p x v) : RepC P { G with live := fun c => c ≠ b ∧ G.live c } w p (x.killC b) v := by
  have hAt : ∀ (y : PV) u, (match y with | .ptr c _ => decide (c = b) | _ => false) = false → RepAt G w y u → RepAt { G with live := fun c => c ≠ b ∧ G.live c } w y u := by
    intro y u hy hr
    cases y <;> simp only [RepAt] at hr ⊢ <;> try exact hr
    case ptr c o => exact ⟨hr.1, by simpa using hy, hr.2⟩
  cases x
  case ptr c o =>
    simp only [PV.killC]
    split
    · trivial
    · rename_i hc
      exact ⟨h.1, hc, h.2⟩
  case rsl c e sz n =>
    simp only [PV.killC]
    split
    · trivial
    · rename_i hc
      exact ⟨h.1, ⟨hc, h.2.1⟩, h.2.2⟩
  case clo f caps =>
    simp only [PV.killC]
    split
    · trivial
    · rename_i hc
      obtain ⟨vs, hv, hl, hr⟩ := h
      refine ⟨vs, hv, hl, fun i y u h1 h2 => hAt y u ?_ (hr i y u h1 h2)⟩
      have := hc
      simp only [List.any_eq_true, not_exists, not_and, Bool.not_eq_true] at this
      exact this y (List.mem_of_getElem? h1)
  case agg l => exact h
  case tup l => exact h
  all_goals exact h
theorem killV_rep {P : Program} {G : Gh} {w : World} {b : BN} {loc : Loc} {i : Nat} {x : PV} {v : Value} (h : RepV P G w loc i x v) : RepV P { G with live := fun c => c ≠ b ∧ G.live c } w loc i (x.killV b) v := by
  cases x
  case agg l =>
    obtain ⟨cs, hv, hl, h1, hr⟩ := h
    refine ⟨cs, hv, by simpa using hl, h1, fun j y u hy hu => ?_⟩
    rw [List.getElem?_map] at hy
    obtain ⟨z, hz, rfl⟩ := Option.map_eq_some_iff.1 hy
    exact killC_rep (hr j z u hz hu)
  case ptr c o =>
    have := killC_rep (P := P) (w := w) (b := b) (p := (loc, i, 0)) (x := .ptr c o) h
    simp only [PV.killV]
    generalize PV.killC b (.ptr c o) = y at this
    cases y <;> first | exact this | exact absurd this (by simp [RepC])
  case rsl c e sz n =>
    have := killC_rep (P := P) (w := w) (b := b) (p := (loc, i, 0)) (x := .rsl c e sz n) h
    simp only [PV.killV]
    generalize PV.killC b (.rsl c e sz n) = y at this
    cases y <;> first | exact this | exact absurd this (by simp [RepC])
  case clo f caps =>
    have := killC_rep (P := P) (w := w) (b := b) (p := (loc, i, 0)) (x := .clo f caps) h
    simp only [PV.killV]
    generalize PV.killC b (.clo f caps) = y at this
    cases y <;> first | exact this | exact absurd this (by simp [RepC])
  case tup l => exact h
  all_goals exact h
theorem kill_rep {P : Program} {G : Gh} {w : World} {b : BN} {loc : Loc} {x : PV} {v : Value} (h : RepT P G w loc x v) : RepT P { G with live := fun c => c ≠ b ∧ G.live c } w loc (x.kill b) v := by
  cases x
  case tup l =>
    obtain ⟨vs, hv, hl, hr⟩ := h
    refine ⟨vs, hv, by simpa using hl, fun j y u hy hu => ?_⟩
    rw [List.getElem?_map] at hy
    obtain ⟨z, hz, rfl⟩ := Option.map_eq_some_iff.1 hy
    exact killV_rep (hr j z u hz hu)
  case agg l => exact killV_rep (P := P) (w := w) (i := 0) (x := .agg l) h
  case ptr c o => exact RepV.toT (killV_rep (P := P) (w := w) (b := b) (i := 0) (x := .ptr c o) h)
  case rsl c e sz n => exact RepV.toT (killV_rep (P := P) (w := w) (b := b) (i := 0) (x := .rsl c e sz n) h)
  case clo f caps => exact RepV.toT (killV_rep (P := P) (w := w) (b := b) (i := 0) (x := .clo f caps) h)
  all_goals exact h
/-- A variable in memory that nobody looks at any more. -/
theorem Weak.drop {P : Program} {st : St} (b : BN) : Weak P st (st.drop b) := fun F G a w hr => by
  refine ⟨{ G with live := fun c => c ≠ b ∧ G.live c }, ⟨fun t => kill_rep (hr.tm t), ⟨fun c cells hc => ?_, fun c => ?_, fun c c' hl hl' => hr.hp.inj c c' hl.2 hl'.2, hr.hp.imlt, hr.hp.ownlt, fun c hl => hr.hp.boxim c hl.2, fun c hl => hr.hp.boxown c hl.2⟩,
    ⟨hr.sn.ext, hr.sn.own, fun c hl => hr.sn.box c hl.2, hr.sn.βa, hr.sn.fz⟩, hr.nt, hr.defers⟩⟩
  · simp only [St.drop] at hc
    split at hc
    · cases hc
    · obtain ⟨cells', hc', rfl⟩ := Option.map_eq_some_iff.1 hc
      obtain ⟨cs, e, h1, h2, h3, h4⟩ := hr.hp.bx c cells' hc'
      refine ⟨cs, e, h1, by simpa using h2, h3, fun j x u hx hu => ?_⟩
      rw [List.getElem?_map] at hx
      obtain ⟨z, hz, rfl⟩ := Option.map_eq_some_iff.1 hx
      exact killC_rep (h4 j z u hz hu)
  · simp only [St.drop]
    by_cases hcb : c = b
    · simp [hcb]
    · simp [hcb, hr.hp.live c]
theorem tm_drop (st : St) (b : BN) (t : Nat) : (st.drop b).tm t = (st.tm t).kill b := rfl
theorem bx_drop (st : St) (b c : BN) : (st.drop b).bx c = if c = b then none else (st.bx c).map fun cells => cells.map (PV.killC b) := rfl

/-- A slice that was made and filled, and is not written any more. -/
theorem Weak.freeze {P : Program} {st : St} {t : Nat} {b : BN} {e sz n : Nat} {l : List PD} (ht : st.tm t = .rsl b e sz n) (hb : st.bx b = some ((flat l).map .d)) (hl : l.length = n) (hu : ∀ x ∈ l, x.cells.length = sz) : Weak P st ((st.drop b).put t (.own e sz l)) := fun F G a w hr => by
  subst hl
  have hrt := hr.tm t
  rw [ht] at hrt
  obtain ⟨hv, hlive, hlen⟩ := hrt
  obtain ⟨cs, q, h1, h2, h3, h4⟩ := hr.hp.bx b _ hb
  have hcs : ∀ (i : Nat) x u, (flat l)[i]? = some x → cs[i]? = some u → RepD G.im w x u ∧ x.scalar = true := fun i x u hx hu => h4 i (.d x) u (by rw [List.getElem?_map, hx]; rfl) hu
  have hsz : cs.size = (flat l).length := by simpa using h2
  have hβlt : ∀ c, G.live c → G.β c < w.heap.size := fun c hl => by obtain ⟨x, _, hbx⟩ := hr.hp.box hl; exact hbx.lt
  let G' : Gh := { im := (fun g o => G.im g o ∨ (g = G.β b ∧ o < cs.size)), β := G.β, live := (fun c => c ≠ b ∧ G.live c), own := (fun g => if g = G.β b then some (.t t, 0, 0) else G.own g), fz := G.fz }
  have hk : Keep G.im w G'.im w := fun g o h => ⟨.inl h, rfl⟩
  have hstep : ∀ {G1 : Gh}, G1 = { G with live := fun c => c ≠ b ∧ G.live c } → GStep G1 w G' w (fun p q => p = q) := by
    rintro G1 rfl
    refine ⟨hk, fun c hl => ⟨hl, rfl⟩, rfl, fun _ _ => rfl, Nat.le_refl _, fun g p q hg e => ⟨?_, rfl, fun o ho => ?_⟩⟩
    · rw [← e]
      show (if g = G.β b then some (.t t, 0, 0) else G.own g) = some p
      rw [if_neg (fun e => ?_)]
      · exact hg
      · have : G.own (G.β b) = some p := e ▸ hg
        rw [hr.hp.boxown b hlive] at this; cases this
    rcases ho with ho | ⟨rfl, _⟩
    · exact ho
    · have : G.own (G.β b) = some p := hg
      rw [hr.hp.boxown b hlive] at this; cases this
  have hrep : RepD G'.im w (.sl sz l) (.slice (some ⟨G.β b, 0, none⟩) l.length l.length) := by
    refine .sl sz l (G.β b) 0 l.length cs.toList hlen (Nat.le_refl _) hu (fun x hx => ?_) (by simp [hsz]) (fun i v hi => ?_) (fun i x v hx hv => ?_)
    · obtain ⟨i, hi, rfl⟩ := List.mem_iff_getElem.1 hx
      exact (hcs i _ cs[i] (List.getElem?_eq_getElem hi) (Array.getElem?_eq_getElem (by omega))).2
    · rw [Array.getElem?_toList] at hi
      rw [Nat.zero_add]
      exact ⟨.inr ⟨rfl, (Array.getElem?_eq_some_iff.1 hi).1⟩, by simp [World.cell?, h1, hi]⟩
    · exact (hcs i x v hx (by simpa using hv)).1.keep hk
  have hown1 : ∀ g p, G'.own g = some p → g < w.heap.size := fun g p hg => by
    by_cases e : g = G.β b
    · rw [e]; exact hβlt b hlive
    · exact hr.hp.ownlt g p ((if_neg e).symm.trans hg)
  have hown2 : ∀ g p, G'.own g = some p → F.w0.heap.size ≤ g ∨ F.Wr g := fun g p hg => by
    by_cases e : g = G.β b
    · rw [e]; exact hr.sn.box b hlive
    · exact hr.sn.own g p ((if_neg e).symm.trans hg)
  refine ⟨G', fun u => ?_, ⟨fun c cells hc => ?_, fun c => ?_, fun c c' hl hl' => hr.hp.inj c c' hl.2 hl'.2, fun g o hg => ?_, hown1, fun c hl o hg => ?_, fun c hl => (if_neg (fun e => hl.1 (hr.hp.inj c b hl.2 hlive e))).trans (hr.hp.boxown c hl.2)⟩, ⟨?_, hown2, fun c hl => hr.sn.box c hl.2, hr.sn.βa, hr.sn.fz⟩, hr.nt, hr.defers⟩
  · by_cases hu' : u = t
    · subst hu'
      simp only [tm_put, if_true]
      rw [hv]
      exact ⟨hrep, .inl ⟨⟨_, rfl⟩, fun _ g hg => by simp [Value.ownBlock] at hg; subst hg; exact ⟨if_pos rfl, cs, q, h1⟩⟩⟩
    · simp only [tm_put, hu', if_false, tm_drop]
      exact (kill_rep (b := b) (hr.tm u)).step (hstep rfl) (fun i j => rfl)
  · simp only [bx_put, bx_drop] at hc
    split at hc
    · cases hc
    · rename_i hcb
      obtain ⟨cells', hc', rfl⟩ := Option.map_eq_some_iff.1 hc
      obtain ⟨cs', e', k1, k2, k3, k4⟩ := hr.hp.bx c cells' hc'
      refine ⟨cs', e', k1, by simpa using k2, k3, fun j x u hx hu => ?_⟩
      rw [List.getElem?_map] at hx
      obtain ⟨z, hz, rfl⟩ := Option.map_eq_some_iff.1 hx
      exact (killC_rep (b := b) (k4 j z u hz hu)).step (hstep rfl) rfl
  · simp only [bx_put, bx_drop]
    by_cases hcb : c = b
    · simp [hcb, G']
    · simp [hcb, G', hr.hp.live c]
  · rcases hg with hg | ⟨rfl, _⟩
    · exact hr.hp.imlt g o hg
    · exact hβlt b hlive
  · rcases hg with hg | ⟨hg, _⟩
    · exact hr.hp.boxim c hl.2 o hg
    · exact hl.1 (hr.hp.inj c b hl.2 hlive hg)
  · have hx := hr.sn.ext
    have hbf := hr.sn.box b hlive
    refine ⟨hx.os, hx.tape, hx.output, hx.size, hx.old, fun g o hg => ⟨.inl (hx.keep g o hg).1, (hx.keep g o hg).2⟩, fun g o hg => ?_⟩
    rcases hg with hg | ⟨rfl, _⟩
    · exact hx.new g o hg
    · rcases hbf with h | h
      · exact .inr (.inl h)
      · exact .inr (.inr h)

/-! What is known of an argument. -/
theorem BRet.know {P : Program} {f : Nat} {bi bo : List (List PV)} {args : List PV} {r : PV} (hf : isFn P f = true) (hl : bo.length = bi.length) {A : Prop} (ha : ∀ (G : Gh) (w : World) (vs : Array Value), vs.size = args.length →
    (∀ (i : Nat) x u, args[i]? = some x → vs[i]? = some u → RepT P G w (.t i) x u) → A) (h : A → BRet P f bi args r bo) : BRet P f bi args r bo :=
  ⟨hf, hl, fun G w vs Wr hvs hargs => (h (ha G w vs hvs hargs)).2.2 G w vs Wr hvs hargs⟩
theorem BRet.len {P : Program} {f : Nat} {args : List PV} {r : PV} (i : Nat) {sz : Nat} {l : List PD} (hf : isFn P f = true) (ha : args[i]? = some (.d (.sl sz l))) (h : l.length ≤ 140737488355328 → BRet P f [] args r []) : BRet P f [] args r [] :=
  BRet.know hf rfl (fun G w vs hvs hargs => by
    have hi : i < vs.size := by rw [hvs]; exact (List.getElem?_eq_some_iff.1 ha).1
    exact (hargs i _ vs[i] ha (Array.getElem?_eq_getElem hi)).1.len) h
theorem BRet.slen {P : Program} {f : Nat} {args : List PV} {r : PV} (i : Nat) {l : List UInt8} (hf : isFn P f = true) (ha : args[i]? = some (.d (.str l))) (h : l.length ≤ 140737488355328 → BRet P f [] args r []) : BRet P f [] args r [] :=
  BRet.know hf rfl (fun G w vs hvs hargs => by
    have hi : i < vs.size := by rw [hvs]; exact (List.getElem?_eq_some_iff.1 ha).1
    exact (hargs i _ vs[i] ha (Array.getElem?_eq_getElem hi)).1.slen) h
theorem BRet.alen {P : Program} {f : Nat} {args : List PV} {r : PV} (i j : Nat) {cs : List PV} {sz : Nat} {l : List PD} (hf : isFn P f = true) (ha : args[i]? = some (.agg cs)) (hj : cs[j]? = some (.d (.sl sz l))) (h : l.length ≤ 140737488355328 → BRet P f [] args r []) : BRet P f [] args r [] :=
  BRet.know hf rfl (fun G w vs hvs hargs => by
    have hi : i < vs.size := by rw [hvs]; exact (List.getElem?_eq_some_iff.1 ha).1
    obtain ⟨us, -, hus, -, hr⟩ := hargs i _ vs[i] ha (Array.getElem?_eq_getElem hi)
    have hj' : j < us.size := by rw [hus]; exact (List.getElem?_eq_some_iff.1 hj).1
    exact (hr j _ us[j] hj (Array.getElem?_eq_getElem hj')).1.len) h
theorem BRet.aslen {P : Program} {f : Nat} {args : List PV} {r : PV} (i j : Nat) {cs : List PV} {l : List UInt8} (hf : isFn P f = true) (ha : args[i]? = some (.agg cs)) (hj : cs[j]? = some (.d (.str l))) (h : l.length ≤ 140737488355328 → BRet P f [] args r []) : BRet P f [] args r [] :=
  BRet.know hf rfl (fun G w vs hvs hargs => by
    have hi : i < vs.size := by rw [hvs]; exact (List.getElem?_eq_some_iff.1 ha).1
    obtain ⟨us, -, hus, -, hr⟩ := hargs i _ vs[i] ha (Array.getElem?_eq_getElem hi)
    have hj' : j < us.size := by rw [hus]; exact (List.getElem?_eq_some_iff.1 hj).1
    exact (hr j _ us[j] hj (Array.getElem?_eq_getElem hj')).1.slen) h
/-- A slice is nil, or it is not. -/
theorem BRet.nil0 {P : Program} {f : Nat} {args : List PV} {r : PV} {sz : Nat} {l : List PD} (hf : isFn P f = true) (h1 : l = [] → BRet P f [] (.nilS :: args) r []) (h2 : BRet P f [] (.nn sz l :: args) r []) : BRet P f [] (.d (.sl sz l) :: args) r [] := by
  refine ⟨hf, rfl, fun G w vs Wr hvs hargs => ?_⟩
  have hi : 0 < vs.size := by rw [hvs]; simp
  have h0 := hargs 0 _ vs[0] rfl (Array.getElem?_eq_getElem hi)
  have hgo : ∀ x, RepT P G w (.t 0) x vs[0] → ∀ (i : Nat) y u, (x :: args)[i]? = some y → vs[i]? = some u → RepT P G w (.t i) y u := by
    intro x hx i y u hy hu
    cases i with
    | zero => simp at hy; rw [Array.getElem?_eq_getElem hi] at hu; cases hu; subst hy; exact hx
    | succ i => exact hargs (i + 1) y u hy hu
  obtain ⟨hd, -⟩ := h0
  rcases hd.sl_shape with ⟨rfl, hv⟩ | ⟨g, o, c, hv, _⟩ | ⟨rfl, a, c, hv⟩
  rotate_left 2
  · exact h2.2.2 G w vs Wr (by simpa using hvs) (hgo (.nn sz []) ⟨hd, fun n c e => by rw [hv] at e; cases e⟩)
  · exact (h1 rfl).2.2 G w vs Wr (by simpa using hvs) (hgo .nilS hv)
  · exact h2.2.2 G w vs Wr (by simpa using hvs) (hgo (.nn sz l) ⟨hd, fun n c e => by rw [hv] at e; cases e⟩)

/-! Calls. -/
theorem b_call {P : Program} {fl : AF} {K : St → Prop} {st : St} {d : Nat} {xs : List Operand} {ts : Array TypeId} {ty : TypeId} {pos : String} {af : Array Edge} {g : Option (Nat × Bool)} {f : Nat} {ys : List PV} {r : PV}
    (hret : BRet P f [] ys r []) (hmv : fl.mv = false) (hys : xs.map (fun x => (st.ev x).bT) = ys) (hp : (xs.map st.ev).all PV.passable = true) (hg : r.gives = true) (k : K (st.put d r)) :
    bcall P fl ⟨some d, .call ⟨.value (.func f), xs.toArray, ts⟩, ty, pos, af, g⟩ K st := by
  refine ⟨r, vz fl st.bx, .call _ _ (.func f) xs f [] ys [] [] [] ⟨⟨ts, rfl⟩, rfl, by rw [← hys]; simp, fun i x y hx hy => ?_, fun h => by rw [hmv] at h; (cases h), by simp, rfl, by simp, by simp, by simp, hg, hret, by simp, rfl⟩, ?_⟩
  · rw [List.append_nil] at hx
    rw [List.getElem?_map] at hx
    obtain ⟨z, hz, rfl⟩ := Option.map_eq_some_iff.1 hx
    rw [← hys, List.getElem?_map, hz] at hy
    simp at hy
    subst hy
    have : (st.ev z).bT = mvd fl.mv (st.ev z) := by rw [hmv]; rfl
    rw [this]
    exact .val _ (List.all_eq_true.1 hp _ (List.mem_map.2 ⟨z, List.mem_of_getElem? hz, rfl⟩))
  · rw [after_pure rfl, hmv]
    exact k
/-- The last argument is a function with its captured variables. -/
theorem b_callc {P : Program} {fl : AF} {K : St → Prop} {st : St} {d : Nat} {xs : List Operand} {c : Operand} {ts : Array TypeId} {ty : TypeId} {pos : String} {af : Array Edge} {g : Option (Nat × Bool)} {f : Nat} {ys : List PV} {r : PV} {f' : Nat} {caps : List PV} (Kf : List PD → Option PD)
    (hret : BRet P f [] (ys ++ [.fn Kf]) r []) (hmv : fl.mv = false) (hys : xs.map (fun x => (st.ev x).bT) = ys) (hp : (xs.map st.ev).all PV.passable = true) (hc : st.ev c = .clo f' caps) (hok : CloOK P (vz fl st.bx) f' caps Kf) (hg : r.gives = true) (k : K (st.put d r)) :
    bcall P fl ⟨some d, .call ⟨.value (.func f), (xs ++ [c]).toArray, ts⟩, ty, pos, af, g⟩ K st := by
  refine ⟨r, vz fl st.bx, .call _ _ (.func f) (xs ++ [c]) f [] (ys ++ [.fn Kf]) [] [] [] ⟨⟨ts, rfl⟩, rfl, by rw [← hys]; simp, fun i x y hx hy => ?_, fun h => by rw [hmv] at h; (cases h), by simp, rfl, by simp, by simp, by simp, hg, hret, by simp, rfl⟩, ?_⟩
  · rw [List.append_nil, List.map_append] at hx
    have hl : ys.length = (xs.map st.ev).length := by rw [← hys]; simp
    by_cases hi : i < (xs.map st.ev).length
    · rw [List.getElem?_append_left hi] at hx
      rw [List.getElem?_append_left (by omega)] at hy
      rw [List.getElem?_map] at hx
      obtain ⟨z, hz, rfl⟩ := Option.map_eq_some_iff.1 hx
      rw [← hys, List.getElem?_map, hz] at hy
      simp at hy
      subst hy
      have : (st.ev z).bT = mvd fl.mv (st.ev z) := by rw [hmv]; rfl
      rw [this]
      exact .val _ (List.all_eq_true.1 hp _ (List.mem_map.2 ⟨z, List.mem_of_getElem? hz, rfl⟩))
    · rw [List.getElem?_append_right (by omega)] at hx hy
      rw [hl] at hy
      generalize i - (xs.map st.ev).length = j at hx hy
      cases j with
      | zero =>
        simp at hx hy
        subst hx; subst hy
        rw [hc]
        exact .fn f' caps Kf hok (by simp)
      | succ j => simp at hx
  · rw [after_pure rfl, hmv]
    exact k
theorem b_callc2 {P : Program} {fl : AF} {K : St → Prop} {st : St} {d : Nat} {x c : Operand} {ts : Array TypeId} {ty : TypeId} {pos : String} {af : Array Edge} {g : Option (Nat × Bool)} {f : Nat} {y r : PV} {f' : Nat} {caps : List PV} {Kf : List PD → Option PD}
    (hret : BRet P f [] [y, .fn Kf] r []) (hmv : fl.mv = false) (hys : (st.ev x).bT = y) (hp : (st.ev x).passable = true) (hc : st.ev c = .clo f' caps) (hok : CloOK P (vz fl st.bx) f' caps Kf) (hg : r.gives = true) (k : K (st.put d r)) :
    bcall P fl ⟨some d, .call ⟨.value (.func f), #[x, c], ts⟩, ty, pos, af, g⟩ K st :=
  b_callc (xs := [x]) (ys := [y]) Kf hret hmv (by rw [← hys]; rfl) (by simpa using hp) hc hok hg k
/-- A function value that was handed in. -/
theorem b_fn {P : Program} {fl : AF} {K : St → Prop} {st : St} {d t : Nat} {xs : List Operand} {ts : Array TypeId} {ty : TypeId} {pos : String} {af : Array Edge} {g : Option (Nat × Bool)} {Kf : List PD → Option PD} {zs : List PD} {r : PD}
    (hf : st.tm t = .fn Kf) (hmv : fl.mv = false) (hz : pdsOf (xs.map st.ev) = some zs) (hr : Kf zs = some r) (k : K (st.put d (ofPD r))) :
    bcall P fl ⟨some d, .call ⟨.value (.tmp t), xs.toArray, ts⟩, ty, pos, af, g⟩ K st := by
  refine ⟨ofPD r, vz fl st.bx, .fn _ (.tmp t) xs Kf zs r ⟨⟨ts, rfl⟩, hf, hz, hr, rfl⟩, ?_⟩
  rw [after_pure rfl, hmv]
  exact k

end Go.Bee
