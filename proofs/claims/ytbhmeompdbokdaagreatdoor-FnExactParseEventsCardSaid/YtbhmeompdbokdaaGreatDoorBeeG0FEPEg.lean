/-
The logic and the walks, part 7. No condition.
-/
import Derived.Test.YtbhmeompdbokdaaGreatDoorBeeG0FEPEf
import Derived.Test.YtbhmeompdbokdaaGreatDoorBeeG0FEPEe
import Derived.Shelf.Sort.Plain
import Derived.Sort.EncStr
namespace Go.Bee
set_option linter.unusedVariables false

theorem Weak.refl {P : Program} (st : St) : Weak P st st := fun F G a w h => ⟨G, h⟩
theorem wk_rfl {P : Program} {K : St → Prop} {s : St} (h : K s) : wk P K s := ⟨s, Weak.refl s, h⟩
theorem wk_of {P : Program} {K : St → Prop} {s s' : St} (hw : Weak P s s') (h : K s') : wk P K s := ⟨s', hw, h⟩
theorem Weak.trans {P : Program} {s t u : St} (h : Weak P s t) (k : Weak P t u) : Weak P s u := fun F G a w hr => by
  obtain ⟨G', h'⟩ := h F G a w hr
  exact k F G' a w h'
theorem b_loop {P : Program} {H : Nat → List Nat} {c : Code} {Q : Ex → St → Prop} {st : St} (I : Nat → St → Prop) (n : Nat) (hI : I n st) (hr : ∀ n s, I n s → bwp P H c (loopK P I n Q) s) : bloop P (bwp P H c) Q st :=
  ⟨I, ⟨n, st, Weak.refl st, hI⟩, hr⟩
theorem Weak.put {P : Program} {st : St} {t : Nat} {x : PV} (h : ∀ (G : Gh) (w : World) (v : Value), RepT P G w (.t t) (st.tm t) v → RepT P G w (.t t) x v) : Weak P st (st.put t x) := fun F G a w hr =>
  ⟨G, ⟨fun u => by
    by_cases hu : u = t
    · subst hu; simp only [tm_put, if_true]; exact h G w _ (hr.tm u)
    · simp only [tm_put, hu, if_false]; exact hr.tm u, hr.hp, hr.sn, hr.nt, hr.defers, hr.z, hr.tab⟩⟩
theorem Weak.bT {P : Program} {st : St} (t : Nat) : Weak P st (st.put t (st.tm t).bT) := Weak.put fun G w v hv => hv.bT _
theorem Weak.junk {P : Program} {st : St} (t : Nat) : Weak P st (st.put t .junk) := Weak.put fun G w v hv => trivial

theorem Weak.bC {P : Program} {st : St} (b : BN) : Weak P st ⟨st.tm, fun c => if c = b then (st.bx c).map (·.map PV.bC) else st.bx c⟩ := fun F G a w hr =>
  ⟨G, ⟨hr.tm, ⟨fun c cells hc => by
    simp only at hc
    split at hc
    · rename_i e
      obtain ⟨cells', hc', rfl⟩ := Option.map_eq_some_iff.1 hc
      obtain ⟨cs, q, h1, h2, h3, h4⟩ := hr.hp.bx c cells' hc'
      refine ⟨cs, q, h1, by simpa using h2, fun j u hj hu => h3 j u (by simpa using hj) hu, fun j x u hx hu => ?_⟩
      rw [List.getElem?_map] at hx
      obtain ⟨z, hz, rfl⟩ := Option.map_eq_some_iff.1 hx
      exact (h4 j z u hz hu).bC _
    · exact hr.hp.bx c cells hc, fun c => by
    simp only
    split
    · simp [hr.hp.live c]
    · exact hr.hp.live c, hr.hp.inj, hr.hp.imlt, hr.hp.ownlt, hr.hp.boxim, hr.hp.boxown⟩, hr.sn, hr.nt, hr.defers, hr.z, hr.tab⟩⟩

theorem FreeO.less {G : Gh} {w : World} {o : Option Pos} {g : Nat} {L : BN → Prop} (h : FreeO G w o g) (hL : ∀ b, L b → G.live b) : FreeO { G with live := L } w o g := ⟨h.1, h.2.1, fun b hb => h.2.2.1 b (hL b hb), h.2.2.2⟩
def PV.killC (b : BN) : PV → PV
  | .ptr c o => if c = b then .junk else .ptr c o
  | .rsl c e sz n => if c = b then .junk else .rsl c e sz n
  | .rsv c sz n => if c = b then .junk else .rsv c sz n
  | .clo f caps => if caps.any (fun x => match x with | .ptr c _ => decide (c = b) | _ => false) then .junk else .clo f caps
  | x => x
def PV.killV (b : BN) : PV → PV
  | .agg l => .agg (l.map (PV.killC b))
  | x => x.killC b
def PV.kill (b : BN) : PV → PV
  | .tup l => .tup (l.map (PV.killV b))
  | x => x.killV b
def St.drop (st : St) (b : BN) : St := ⟨fun t => (st.tm t).kill b, fun c => if c = b then none else (st.bx c).map fun cells => cells.map (PV.killC b)⟩
theorem killC_rep {P : Program} {G : Gh} {w : World} {b : BN} {p : Pos} {x : PV} {v : Value} (h : RepC P G w p x v) : RepC P { G with live := fun c => c ≠ b ∧ G.live c } w p (x.killC b) v := by
  have hAt : ∀ (y : PV) u, (match y with | .ptr c _ => decide (c = b) | _ => false) = false → RepAt G w y u → RepAt { G with live := fun c => c ≠ b ∧ G.live c } w y u := by
    intro y u hy hr
    cases y <;> simp only [RepAt] at hr ⊢ <;> try exact hr
    case ptr c o => exact ⟨hr.1, by simpa using hy, hr.2⟩
  cases x
  case ptr c o =>
    simp only [PV.killC]
    split
    · trivial
    · rename_i hc
      exact ⟨h.1, hc, h.2⟩
  case rsl c e sz n =>
    simp only [PV.killC]
    split
    · trivial
    · rename_i hc
      exact ⟨h.1, ⟨hc, h.2.1⟩, h.2.2⟩
  case rsv c sz n =>
    simp only [PV.killC]
    split
    · trivial
    · rename_i hc
      obtain ⟨k, h1, h2, h3, h4⟩ := h
      exact ⟨k, h1, h2, ⟨hc, h3⟩, h4⟩
  case q x => exact ⟨h.1.keep fun b o hb => ⟨hb.less fun _ h => h.2, rfl⟩, h.2⟩
  case zs x => exact ⟨h.1.keep fun g hg => ⟨hg.less fun _ h => h.2, fun _ => rfl⟩, h.2⟩
  case zp x => obtain ⟨g, o, h1, h2⟩ := h; exact ⟨g, o, h1, h2.keep fun g hg => ⟨hg.less fun _ h => h.2, fun _ => rfl⟩⟩
  case clo f caps =>
    simp only [PV.killC]
    split
    · trivial
    · rename_i hc
      obtain ⟨vs, hv, hl, hr⟩ := h
      refine ⟨vs, hv, hl, fun i y u h1 h2 => hAt y u ?_ (hr i y u h1 h2)⟩
      have := hc
      simp only [List.any_eq_true, not_exists, not_and, Bool.not_eq_true] at this
      exact this y (List.mem_of_getElem? h1)
  case agg l => exact h
  case tup l => exact h
  all_goals exact h
theorem killV_rep {P : Program} {G : Gh} {w : World} {b : BN} {loc : Loc} {i : Nat} {x : PV} {v : Value} (h : RepV P G w loc i x v) : RepV P { G with live := fun c => c ≠ b ∧ G.live c } w loc i (x.killV b) v := by
  cases x
  case agg l =>
    obtain ⟨cs, hv, hl, h1, hr⟩ := h
    refine ⟨cs, hv, by simpa using hl, h1, fun j y u hy hu => ?_⟩
    rw [List.getElem?_map] at hy
    obtain ⟨z, hz, rfl⟩ := Option.map_eq_some_iff.1 hy
    exact killC_rep (hr j z u hz hu)
  case ptr c o =>
    have := killC_rep (P := P) (w := w) (b := b) (p := (loc, i, 0)) (x := .ptr c o) h
    simp only [PV.killV]
    generalize PV.killC b (.ptr c o) = y at this
    cases y <;> first | exact this | exact absurd this (by simp [RepC])
  case rsl c e sz n =>
    have := killC_rep (P := P) (w := w) (b := b) (p := (loc, i, 0)) (x := .rsl c e sz n) h
    simp only [PV.killV]
    generalize PV.killC b (.rsl c e sz n) = y at this
    cases y <;> first | exact this | exact absurd this (by simp [RepC])
  case rsv c sz n =>
    have := killC_rep (P := P) (w := w) (b := b) (p := (loc, i, 0)) (x := .rsv c sz n) h
    simp only [PV.killV]
    generalize PV.killC b (.rsv c sz n) = y at this
    cases y <;> first | exact this | exact absurd this (by simp [RepC])
  case q y => exact killC_rep (P := P) (w := w) (b := b) (p := (loc, i, 0)) (x := .q y) h
  case zs y => exact killC_rep (P := P) (w := w) (b := b) (p := (loc, i, 0)) (x := .zs y) h
  case zp y => exact killC_rep (P := P) (w := w) (b := b) (p := (loc, i, 0)) (x := .zp y) h
  case clo f caps =>
    have := killC_rep (P := P) (w := w) (b := b) (p := (loc, i, 0)) (x := .clo f caps) h
    simp only [PV.killV]
    generalize PV.killC b (.clo f caps) = y at this
    cases y <;> first | exact this | exact absurd this (by simp [RepC])
  case tup l => exact h
  all_goals exact h
theorem kill_rep {P : Program} {G : Gh} {w : World} {b : BN} {loc : Loc} {x : PV} {v : Value} (h : RepT P G w loc x v) : RepT P { G with live := fun c => c ≠ b ∧ G.live c } w loc (x.kill b) v := by
  cases x
  case tup l =>
    obtain ⟨vs, hv, hl, hr⟩ := h
    refine ⟨vs, hv, by simpa using hl, fun j y u hy hu => ?_⟩
    rw [List.getElem?_map] at hy
    obtain ⟨z, hz, rfl⟩ := Option.map_eq_some_iff.1 hy
    exact killV_rep (hr j z u hz hu)
  case agg l => exact killV_rep (P := P) (w := w) (i := 0) (x := .agg l) h
  case ptr c o => exact RepV.toT (killV_rep (P := P) (w := w) (b := b) (i := 0) (x := .ptr c o) h)
  case rsl c e sz n => exact RepV.toT (killV_rep (P := P) (w := w) (b := b) (i := 0) (x := .rsl c e sz n) h)
  case rsv c sz n => exact RepV.toT (killV_rep (P := P) (w := w) (b := b) (i := 0) (x := .rsv c sz n) h)
  case q y => exact killV_rep (P := P) (w := w) (b := b) (loc := loc) (i := 0) (x := .q y) h
  case zs y => exact killV_rep (P := P) (w := w) (b := b) (loc := loc) (i := 0) (x := .zs y) h
  case zp y => exact killV_rep (P := P) (w := w) (b := b) (loc := loc) (i := 0) (x := .zp y) h
  case clo f caps => exact RepV.toT (killV_rep (P := P) (w := w) (b := b) (i := 0) (x := .clo f caps) h)
  all_goals exact h
theorem Weak.drop {P : Program} {st : St} (b : BN) : Weak P st (st.drop b) := fun F G a w hr => by
  refine ⟨{ G with live := fun c => c ≠ b ∧ G.live c }, ⟨fun t => kill_rep (hr.tm t), ⟨fun c cells hc => ?_, fun c => ?_, fun c c' hl hl' => hr.hp.inj c c' hl.2 hl'.2, hr.hp.imlt, hr.hp.ownlt, fun c hl => hr.hp.boxim c hl.2, fun c hl => hr.hp.boxown c hl.2⟩,
    ⟨hr.sn.ext, hr.sn.own, fun c hl => hr.sn.box c hl.2, hr.sn.βa, hr.sn.fz, hr.sn.fzm⟩, hr.nt, hr.defers, fun g hg => ⟨(hr.z g hg).1.less fun _ h => h.2, (hr.z g hg).2⟩, hr.tab⟩⟩
  · simp only [St.drop] at hc
    split at hc
    · cases hc
    · obtain ⟨cells', hc', rfl⟩ := Option.map_eq_some_iff.1 hc
      obtain ⟨cs, e, h1, h2, h3, h4⟩ := hr.hp.bx c cells' hc'
      refine ⟨cs, e, h1, by simpa using h2, fun j u hj hu => h3 j u (by simpa using hj) hu, fun j x u hx hu => ?_⟩
      rw [List.getElem?_map] at hx
      obtain ⟨z, hz, rfl⟩ := Option.map_eq_some_iff.1 hx
      exact killC_rep (h4 j z u hz hu)
  · simp only [St.drop]
    by_cases hcb : c = b
    · simp [hcb]
    · simp [hcb, hr.hp.live c]
theorem tm_drop (st : St) (b : BN) (t : Nat) : (st.drop b).tm t = (st.tm t).kill b := rfl
theorem bx_drop (st : St) (b c : BN) : (st.drop b).bx c = if c = b then none else (st.bx c).map fun cells => cells.map (PV.killC b) := rfl

theorem Weak.freeze {P : Program} {st : St} {t : Nat} {b : BN} {e sz n : Nat} {l : List PD} (ht : st.tm t = .rsl b e sz n) (hb : st.bx b = some ((flat l).map .d)) (hl : l.length = n) (hu : ∀ x ∈ l, x.cells.length = sz) : Weak P st ((st.drop b).put t (.own e sz l)) := fun F G a w hr => by
  subst hl
  have hrt := hr.tm t
  rw [ht] at hrt
  obtain ⟨hv, hlive, hlen⟩ := hrt
  obtain ⟨cs, q, h1, h2, h3, h4⟩ := hr.hp.bx b _ hb
  have hcs : ∀ (i : Nat) x u, (flat l)[i]? = some x → cs[i]? = some u → RepD G.im w x u ∧ x.scalar = true := fun i x u hx hu => h4 i (.d x) u (by rw [List.getElem?_map, hx]; rfl) hu
  have hsz : (flat l).length ≤ cs.size := by simpa using h2
  have hβlt : ∀ c, G.live c → G.β c < w.heap.size := fun c hl => by obtain ⟨x, _, hbx⟩ := hr.hp.box hl; exact hbx.lt
  let G' : Gh := { im := (fun g o => G.im g o ∨ (g = G.β b ∧ o < (flat l).length)), β := G.β, live := (fun c => c ≠ b ∧ G.live c), own := (fun g => if g = G.β b then some (.t t, 0, 0) else G.own g), fz := G.fz }
  have hk : Keep G.im w G'.im w := fun g o h => ⟨.inl h, rfl⟩
  let G2 : Gh := { G' with live := G.live }
  have hstep : GStep G w G2 w (fun p q => p = q) := by
    refine ⟨hk, fun c hl => ⟨hl, rfl⟩, rfl, fun _ _ => rfl, Nat.le_refl _, fun g p q hg e => ⟨?_, rfl, fun o ho => ?_⟩, fun o' g ho' hf => ?_⟩
    · rw [← e]
      show (if g = G.β b then some (.t t, 0, 0) else G.own g) = some p
      rw [if_neg (fun e => ?_)]
      · exact hg
      · have : G.own (G.β b) = some p := e ▸ hg
        rw [hr.hp.boxown b hlive] at this; cases this
    · rcases ho with ho | ⟨rfl, _⟩
      · exact ho
      · have : G.own (G.β b) = some p := hg
        rw [hr.hp.boxown b hlive] at this; cases this
    · have hne : g ≠ G.β b := fun e => hf.2.2.1 b hlive e.symm
      exact ⟨⟨hf.1, (if_neg hne).trans hf.2.1, hf.2.2.1, fun o ho => ho.elim (hf.2.2.2.1 o) (fun ho => hne ho.1), hf.2.2.2.2⟩, .heap rfl⟩
  have hrep : RepD G'.im w (.sl sz l) (.slice (some ⟨G.β b, 0, none⟩) l.length l.length) := by
    refine .sl sz l (G.β b) 0 l.length (cs.toList.take (flat l).length) hlen (Nat.le_refl _) hu (fun x hx => ?_) (by simp; omega) (fun i v hi => ?_) (fun i x v hx hv => ?_)
    · obtain ⟨i, hi, rfl⟩ := List.mem_iff_getElem.1 hx
      exact (hcs i _ cs[i] (List.getElem?_eq_getElem hi) (Array.getElem?_eq_getElem (by omega))).2
    · rw [List.getElem?_take] at hi
      split at hi
      · rename_i hlt
        rw [Array.getElem?_toList] at hi
        rw [Nat.zero_add]
        exact ⟨.inr ⟨rfl, hlt⟩, by simp [World.cell?, h1, hi]⟩
      · cases hi
    · rw [List.getElem?_take_of_lt (List.getElem?_eq_some_iff.1 hx).1] at hv
      exact (hcs i x v hx (by simpa using hv)).1.keep hk
  have hown1 : ∀ g p, G'.own g = some p → g < w.heap.size := fun g p hg => by
    by_cases e : g = G.β b
    · rw [e]; exact hβlt b hlive
    · exact hr.hp.ownlt g p ((if_neg e).symm.trans hg)
  have hown2 : ∀ g p, G'.own g = some p → F.w0.heap.size ≤ g ∨ F.Wr g := fun g p hg => by
    by_cases e : g = G.β b
    · rw [e]; exact hr.sn.box b hlive
    · exact hr.sn.own g p ((if_neg e).symm.trans hg)
  refine ⟨G', fun u => ?_, ⟨fun c cells hc => ?_, fun c => ?_, fun c c' hl hl' => hr.hp.inj c c' hl.2 hl'.2, fun g o hg => ?_, hown1, fun c hl o hg => ?_, fun c hl => (if_neg (fun e => hl.1 (hr.hp.inj c b hl.2 hlive e))).trans (hr.hp.boxown c hl.2)⟩, ⟨?_, hown2, fun c hl => hr.sn.box c hl.2, hr.sn.βa, hr.sn.fz, hr.sn.fzm⟩, hr.nt, hr.defers, fun g hg => ⟨(hstep.free _ g (.inl rfl) (hr.z g hg).1).1.less fun _ h => h.2, (hr.z g hg).2⟩, hr.tab⟩
  · by_cases hu' : u = t
    · subst hu'
      simp only [tm_put, if_true]
      rw [hv]
      exact ⟨hrep, .inl ⟨.inr ⟨_, rfl⟩, fun _ g hg => by simp [Value.ownBlock] at hg; subst hg; exact ⟨if_pos rfl, cs, q, h1⟩⟩⟩
    · simp only [tm_put, hu', if_false, tm_drop]
      exact kill_rep (G := G2) (b := b) ((hr.tm u).step hstep (fun i j => rfl))
  · simp only [bx_put, bx_drop] at hc
    split at hc
    · cases hc
    · rename_i hcb
      obtain ⟨cells', hc', rfl⟩ := Option.map_eq_some_iff.1 hc
      obtain ⟨cs', e', k1, k2, k3, k4⟩ := hr.hp.bx c cells' hc'
      refine ⟨cs', e', k1, by simpa using k2, fun j u hj hu => k3 j u (by simpa using hj) hu, fun j x u hx hu => ?_⟩
      rw [List.getElem?_map] at hx
      obtain ⟨z, hz, rfl⟩ := Option.map_eq_some_iff.1 hx
      exact killC_rep (G := G2) (b := b) ((k4 j z u hz hu).step hstep rfl)
  · simp only [bx_put, bx_drop]
    by_cases hcb : c = b
    · simp [hcb, G']
    · simp [hcb, G', hr.hp.live c]
  · rcases hg with hg | ⟨rfl, _⟩
    · exact hr.hp.imlt g o hg
    · exact hβlt b hlive
  · rcases hg with hg | ⟨hg, _⟩
    · exact hr.hp.boxim c hl.2 o hg
    · exact hl.1 (hr.hp.inj c b hl.2 hlive hg)
  · have hx := hr.sn.ext
    have hbf := hr.sn.box b hlive
    refine ⟨hx.os, hx.tape, hx.output, hx.size, hx.old, fun g o hg => ⟨.inl (hx.keep g o hg).1, (hx.keep g o hg).2⟩, fun g o hg => ?_⟩
    rcases hg with hg | ⟨rfl, _⟩
    · exact hx.new g o hg
    · rcases hbf with h | h
      · exact .inr (.inl h)
      · exact .inr (.inr h)

theorem BRet.know {P : Program} {f : Nat} {bi bo : List (List PV)} {args : List PV} {r : PV} (hf : isFn P f = true) (hl : bo.length = bi.length) {A : Prop} (ha : ∀ (G : Gh) (w : World) (vs : Array Value), vs.size = args.length →
    (∀ (i : Nat) x u, args[i]? = some x → vs[i]? = some u → RepT P G w (.t i) x u) → A) (h : A → BRet P f bi args r bo) : BRet P f bi args r bo :=
  ⟨hf, hl, fun G w vs Wr hvs hargs => (h (ha G w vs hvs hargs)).2.2 G w vs Wr hvs hargs⟩
theorem BRet.len {P : Program} {f : Nat} {args : List PV} {r : PV} (i : Nat) {sz : Nat} {l : List PD} (hf : isFn P f = true) (ha : args[i]? = some (.d (.sl sz l))) (h : l.length ≤ 140737488355328 → BRet P f [] args r []) : BRet P f [] args r [] :=
  BRet.know hf rfl (fun G w vs hvs hargs => by
    have hi : i < vs.size := by rw [hvs]; exact (List.getElem?_eq_some_iff.1 ha).1
    exact (hargs i _ vs[i] ha (Array.getElem?_eq_getElem hi)).1.len) h
theorem BRet.slen {P : Program} {f : Nat} {args : List PV} {r : PV} (i : Nat) {l : List UInt8} (hf : isFn P f = true) (ha : args[i]? = some (.d (.str l))) (h : l.length ≤ 140737488355328 → BRet P f [] args r []) : BRet P f [] args r [] :=
  BRet.know hf rfl (fun G w vs hvs hargs => by
    have hi : i < vs.size := by rw [hvs]; exact (List.getElem?_eq_some_iff.1 ha).1
    exact (hargs i _ vs[i] ha (Array.getElem?_eq_getElem hi)).1.slen) h
theorem BRet.alen {P : Program} {f : Nat} {args : List PV} {r : PV} (i j : Nat) {cs : List PV} {sz : Nat} {l : List PD} (hf : isFn P f = true) (ha : args[i]? = some (.agg cs)) (hj : cs[j]? = some (.d (.sl sz l))) (h : l.length ≤ 140737488355328 → BRet P f [] args r []) : BRet P f [] args r [] :=
  BRet.know hf rfl (fun G w vs hvs hargs => by
    have hi : i < vs.size := by rw [hvs]; exact (List.getElem?_eq_some_iff.1 ha).1
    obtain ⟨us, -, hus, -, hr⟩ := hargs i _ vs[i] ha (Array.getElem?_eq_getElem hi)
    have hj' : j < us.size := by rw [hus]; exact (List.getElem?_eq_some_iff.1 hj).1
    exact (hr j _ us[j] hj (Array.getElem?_eq_getElem hj')).1.len) h
theorem joinB_same {l : List BN} {B B2 : Bx} (h : ∀ b, l.contains b = true → B2 b = B b) : joinB l B B2 = B2 := by
  funext b
  unfold joinB
  by_cases hl : l.contains b = true
  · rw [if_pos hl]; exact (h b hl).symm
  · rw [if_neg hl]
theorem vz_be {fl : AF} (h : fl.be = true) (B : Bx) : vz fl B = B := by simp [vz, h]
theorem bcallD_of {P : Program} {inn : Option (List BN)} {fl : AF} {o : Oper} {K : St → Prop} {st : St} {r : PV} (h : ∀ B2 : Bx, OS1 P fl o (st.at B2) r (vz fl B2)) (k : K (st.after fl o r (vz fl st.bx))) : bcallD P inn fl o K st := by
  have h0 : OS1 P fl o st r (vz fl st.bx) := h st.bx
  cases inn with
  | none => exact ⟨r, _, h0, k⟩
  | some l =>
    refine ⟨r, _, h0, ⟨fun B2 hB => ⟨_, h B2, fun hbe => ?_⟩, fun hbe b hb => by rw [vz_be hbe]⟩, k⟩
    rw [vz_be hbe, vz_be hbe]
    exact (joinB_same hB).symm
theorem call_os1 {P : Program} {fl : AF} {st : St} {dd : Option Nat} {xs : List Operand} {ts : Array TypeId} {ty : TypeId} {pos : String} {af : Array Edge} {g : Option (Nat × Bool)} {f : Nat} {ys : List PV} {r : PV}
    (hret : BRet P f [] ys r []) (hmv : fl.mv = false) (hys : xs.map (fun x => (st.ev x).bT) = ys) (hp : (xs.map st.ev).all PV.passable = true) (hg : r.gives = true) :
    OS1 P fl ⟨dd, .call ⟨.value (.func f), xs.toArray, ts⟩, ty, pos, af, g⟩ st r (vz fl st.bx) := by
  refine .call _ _ (.func f) xs f [] ys [] [] [] ⟨⟨ts, rfl⟩, rfl, by rw [← hys]; simp, fun i x y hx hy => ?_, fun h => by rw [hmv] at h; (cases h), by simp, rfl, by simp, by simp, by simp, hg, hret, by simp, rfl⟩
  rw [List.append_nil] at hx
  rw [List.getElem?_map] at hx
  obtain ⟨z, hz, rfl⟩ := Option.map_eq_some_iff.1 hx
  rw [← hys, List.getElem?_map, hz] at hy
  simp at hy
  subst hy
  have : (st.ev z).bT = mvd fl.mv (st.ev z) := by rw [hmv]; rfl
  rw [this]
  exact .val _ (List.all_eq_true.1 hp _ (List.mem_map.2 ⟨z, List.mem_of_getElem? hz, rfl⟩))
theorem b_call {P : Program} {inn : Option (List BN)} {fl : AF} {K : St → Prop} {st : St} {d : Nat} {xs : List Operand} {ts : Array TypeId} {ty : TypeId} {pos : String} {af : Array Edge} {g : Option (Nat × Bool)} {f : Nat} {ys : List PV} {r : PV}
    (hret : BRet P f [] ys r []) (hmv : fl.mv = false) (hys : xs.map (fun x => (st.ev x).bT) = ys) (hp : (xs.map st.ev).all PV.passable = true) (hg : r.gives = true) (k : K (st.put d r)) :
    bcallD P inn fl ⟨some d, .call ⟨.value (.func f), xs.toArray, ts⟩, ty, pos, af, g⟩ K st :=
  bcallD_of (fun B2 => call_os1 (st := st.at B2) hret hmv (by rw [ev_at]; exact hys) (by rw [ev_at]; exact hp) hg) (by rw [after_pure rfl, hmv]; exact k)
theorem b_look {P : Program} {inn : Option (List BN)} {fl : AF} {K : St → Prop} {st : St} {d : Nat} {xs : List Operand} {ts : Array TypeId} {ty : TypeId} {pos : String} {af : Array Edge} {g : Option (Nat × Bool)} {f : Nat} {ys xv : List PV} {r v : PV}
    (hret : BRet P f [] ys r []) (hmv : fl.mv = false) (hxv : xs.map st.ev = xv) (hp : ∀ B, All2 (LendV B) xv ys) (ht : TakeT r v) (k : K (st.put d v)) :
    bcallD P inn fl ⟨some d, .call ⟨.value (.func f), xs.toArray, ts⟩, ty, pos, af, g⟩ K st :=
  bcallD_of (fun B2 => .look v f xs ys r ⟨⟨ts, rfl⟩, by rw [ev_at, hxv]; exact hp _, hret, ht⟩) (by rw [after_pure rfl, hmv]; exact k)
theorem b_lookb {P : Program} {fl : AF} {K : St → Prop} {st : St} {d : Nat} {xs : List Operand} {ts : Array TypeId} {ty : TypeId} {pos : String} {af : Array Edge} {g : Option (Nat × Bool)} {f : Nat} {ys xv : List PV} {r v : PV}
    (hret : BRet P f [] ys r []) (hmv : fl.mv = false) (hbe : fl.be = true) (hxv : xs.map st.ev = xv) (hp : All2 (LendV st.bx) xv ys) (ht : TakeT r v) (k : K (st.put d v)) :
    bcallD P none fl ⟨some d, .call ⟨.value (.func f), xs.toArray, ts⟩, ty, pos, af, g⟩ K st :=
  ⟨v, _, .look v f xs ys r ⟨⟨ts, rfl⟩, by rw [vz_be hbe, hxv]; exact hp, hret, ht⟩, by rw [after_pure rfl, hmv]; exact k⟩
theorem b_writes {P : Program} {inn : Option (List BN)} {fl : AF} {K : St → Prop} {st : St} {d : Nat} {xs : List Operand} {ts : Array TypeId} {ty : TypeId} {pos : String} {af : Array Edge} {g : Option (Nat × Bool)} {f : Nat} {ys : List PV} {x : PD}
    (hret : BRet P f [] ys (.d x) []) (hmv : fl.mv = false) (hys : xs.map st.ev = ys) (hp : ys.all zpass = true) (hx : x.plain = true) (k : K (st.put d (.d x))) :
    bcallD P inn fl ⟨some d, .call ⟨.value (.func f), xs.toArray, ts⟩, ty, pos, af, g⟩ K st :=
  bcallD_of (fun B2 => .writes x f xs ⟨⟨ts, rfl⟩, fun y hy => by
    rw [ev_at]
    exact List.all_eq_true.1 hp _ (by rw [← hys]; exact List.mem_map.2 ⟨y, hy, rfl⟩), by rw [ev_at, hys]; exact hret, hx⟩) (by rw [after_pure rfl, hmv]; exact k)
theorem b_boxed {P : Program} {fl : AF} {K : St → Prop} {st : St} {d : Nat} {xs : List Operand} {ts : Array TypeId} {ty : TypeId} {pos : String} {af : Array Edge} {g : Option (Nat × Bool)} {f : Nat} {ys xv : List PV} {R R' : PV} {x : PD} {e sz : Nat} {l : List PD} (m : Nat)
    (hret : BRet P f [] ys (.tup [R, .d x]) []) (hs : OwnIn (.t m) e sz l R R') (hmv : fl.mv = false) (hbe : fl.be = true) (hxv : xs.map st.ev = xv) (hp : ∀ B, All2 (LendV B) xv ys) (hx : x.plain = true) (hne : l ≠ []) (hf : ∀ y ∈ flat l, y.plain = true) (hb : st.bx (.t m) = none)
    (k : K ((st.sbx (.t m) ((flat l).map .d)).put d (.tup [R', .d x]))) :
    bcallD P none fl ⟨some d, .call ⟨.value (.func f), xs.toArray, ts⟩, ty, pos, af, g⟩ K st :=
  ⟨_, _, .boxed m f xs ys R R' x e sz l ⟨⟨ts, rfl⟩, by rw [hxv]; exact hp _, hret, hs, hx, hne, hf, hbe, hb⟩, by
    have e : st.after fl ⟨some d, .call ⟨.value (.func f), xs.toArray, ts⟩, ty, pos, af, g⟩ (.tup [R', .d x]) (Bx.set st.bx (.t m) ((flat l).map .d)) = (st.sbx (.t m) ((flat l).map .d)).put d (.tup [R', .d x]) := by
      unfold St.after St.upd St.put St.sbx stripsOf
      simp [hmv, hbe]
    rw [e]; exact k⟩
theorem b_callr {P : Program} {fl : AF} {K : St → Prop} {st : St} {d : Nat} {x0 : Operand} {xs : List Operand} {ts : Array TypeId} {ty : TypeId} {pos : String} {af : Array Edge} {g : Option (Nat × Bool)} {f : Nat} {ys cells cells' : List PV} {r : PV} {b : BN} {sz n : Nat}
    (hret : BRet P f [cells] (.rsv (.a 0) sz n :: ys) r [cells']) (hx0 : st.ev x0 = .rsv b sz n) (hb : st.bx b = some cells) (hc1 : cells.all PV.pass1 = true) (hc2 : cells'.all PV.gives1 = true) (hmv : fl.mv = false) (hbe : fl.be = true) (hys : xs.map (fun x => (st.ev x).bT) = ys) (hp : (xs.map st.ev).all PV.passable = true) (hg : r.gives = true)
    (k : K ((st.sbx b cells').put d r)) : bcallD P none fl ⟨some d, .call ⟨.value (.func f), (x0 :: xs).toArray, ts⟩, ty, pos, af, g⟩ K st := by
  refine ⟨r, Bx.set st.bx b cells', .call _ _ (.func f) (x0 :: xs) f [] (.rsv (.a 0) sz n :: ys) [b] [cells] [cells'] ⟨⟨ts, rfl⟩, rfl, by rw [← hys]; simp, fun i x y hx hy => ?_, fun h => by rw [hmv] at h; (cases h), by simp, rfl, fun k b' hk => ?_, fun c hc => ?_, fun c hc => ?_, hg, hret, fun _ => hbe, ?_⟩, ?_⟩
  · rw [List.append_nil, List.map_cons, hx0] at hx
    cases i with
    | zero =>
      simp only [List.getElem?_cons_zero, Option.some.injEq] at hx hy
      subst hx; subst hy
      exact .rsv b sz n 0 rfl
    | succ i =>
      simp only [List.getElem?_cons_succ] at hx hy
      rw [List.getElem?_map] at hx
      obtain ⟨z, hz, rfl⟩ := Option.map_eq_some_iff.1 hx
      rw [← hys, List.getElem?_map, hz] at hy
      simp at hy
      subst hy
      have : (st.ev z).bT = mvd fl.mv (st.ev z) := by rw [hmv]; rfl
      rw [this]
      exact .val _ (List.all_eq_true.1 hp _ (List.mem_map.2 ⟨z, List.mem_of_getElem? hz, rfl⟩))
  · cases k with
    | zero =>
      simp only [List.getElem?_cons_zero, Option.some.injEq] at hk
      subst hk
      rw [vz_be hbe, hb]; rfl
    | succ k => simp at hk
  · rw [List.mem_singleton.1 hc]; exact hc1
  · rw [List.mem_singleton.1 hc]; exact hc2
  · rw [vz_be hbe]; rfl
  · have e : st.after fl ⟨some d, .call ⟨.value (.func f), (x0 :: xs).toArray, ts⟩, ty, pos, af, g⟩ r (Bx.set st.bx b cells') = (st.sbx b cells').put d r := by
      unfold St.after St.upd St.put St.sbx stripsOf
      simp [hmv, hbe]
    rw [e]; exact k
def PV.unqC : PV → PV
  | .q x => .zs x
  | x => x
def PV.unqV : PV → PV
  | .agg l => .agg (l.map PV.unqC)
  | x => x.unqC
def PV.unq : PV → PV
  | .tup l => .tup (l.map PV.unqV)
  | x => x.unqV
def St.unq (st : St) : St := ⟨fun t => (st.tm t).unq, fun b => (st.bx b).map fun cells => cells.map PV.unqC⟩
theorem Weak.unq {P : Program} {st : St} : Weak P st st.unq := fun F G a w hr => by
  let G' : Gh := { G with own := fun g => if G.own g = some qpos then none else G.own g }
  have hB : ∀ g, FreeB G w g → FreeB G' w g := fun g hg => ⟨hg.1, by simp [G', hg.2.1], hg.2.2⟩
  have hQ : ∀ g, FreeQ G w g → FreeB G' w g := fun g hg => ⟨hg.1, by simp [G', hg.2.1], hg.2.2⟩
  have hOwn : ∀ p, p ≠ qpos → ∀ g, G.own g = some p → G'.own g = some p := fun p hp g hg => by simp [G', hg, hp]
  have hAt : ∀ x v, RepAt G w x v → RepAt G' w x v := fun x v h => by cases x <;> exact h
  have hC : ∀ p, p ≠ qpos → ∀ x v, RepC P G w p x v → RepC P G' w p x.unqC v := by
    intro p hp x v h
    cases x
    case own e sz l =>
      refine ⟨h.1, h.2.imp (fun ⟨h1, h2⟩ => ⟨h1, fun hl g hg => ⟨hOwn p hp g (h2 hl g hg).1, (h2 hl g hg).2⟩⟩) fun ⟨vs, h1, h2, h3⟩ => ⟨vs, h1, h2, fun g hg => ⟨hOwn p hp g (h3 g hg).1, (h3 g hg).2⟩⟩⟩
    case dp x => exact ⟨h.1.keep fun b o ⟨h1, h2, h3⟩ => ⟨⟨h1, hOwn p hp b h2, h3⟩, rfl⟩, h.2⟩
    case q x => exact ⟨h.1.zd (fun b o hb => hQ b hb) h.2, h.2⟩
    case zs x => exact ⟨h.1.keep fun g hg => ⟨hB g hg, fun _ => rfl⟩, h.2⟩
    case zp x => obtain ⟨g, o, h1, h2⟩ := h; exact ⟨g, o, h1, h2.keep fun g hg => ⟨hB g hg, fun _ => rfl⟩⟩
    case clo f caps => obtain ⟨vs, h1, h2, h3⟩ := h; exact ⟨vs, h1, h2, fun i x u hx hu => hAt x u (h3 i x u hx hu)⟩
    all_goals exact h
  have hV : ∀ loc i, (∀ j, (loc, i, j) ≠ qpos) → ∀ x v, RepV P G w loc i x v → RepV P G' w loc i x.unqV v := by
    intro loc i hne x v h
    cases x
    case agg l =>
      obtain ⟨cs, h1, h2, h3, h4⟩ := h
      refine ⟨cs, h1, by simpa using h2, h3, fun j y u hy hu => ?_⟩
      rw [List.getElem?_map] at hy
      obtain ⟨z, hz, rfl⟩ := Option.map_eq_some_iff.1 hy
      exact hC _ (hne j) z u (h4 j z u hz hu)
    case d z => exact hC (loc, i, 0) (hne 0) (.d z) v h
    case nilS => exact hC (loc, i, 0) (hne 0) (.nilS) v h
    case nn sz l => exact hC (loc, i, 0) (hne 0) (.nn sz l) v h
    case own e sz l => exact hC (loc, i, 0) (hne 0) (.own e sz l) v h
    case ptr b o => exact hC (loc, i, 0) (hne 0) (.ptr b o) v h
    case rsl b e sz n => exact hC (loc, i, 0) (hne 0) (.rsl b e sz n) v h
    case eptr cs => exact hC (loc, i, 0) (hne 0) (.eptr cs) v h
    case efn K => exact hC (loc, i, 0) (hne 0) (.efn K) v h
    case dp z => exact hC (loc, i, 0) (hne 0) (.dp z) v h
    case rsv b sz n => exact hC (loc, i, 0) (hne 0) (.rsv b sz n) v h
    case q z => exact hC (loc, i, 0) (hne 0) (.q z) v h
    case zs z => exact hC (loc, i, 0) (hne 0) (.zs z) v h
    case zp z => exact hC (loc, i, 0) (hne 0) (.zp z) v h
    case one => exact hC (loc, i, 0) (hne 0) (.one) v h
    case er b => exact hC (loc, i, 0) (hne 0) (.er b) v h
    case clo f caps => exact hC (loc, i, 0) (hne 0) (.clo f caps) v h
    case fn K => exact hC (loc, i, 0) (hne 0) (.fn K) v h
    case junk => exact hC (loc, i, 0) (hne 0) (.junk) v h
    case und => exact hC (loc, i, 0) (hne 0) (.und) v h
    case tup l => exact h
  have hT : ∀ loc, loc ≠ .q → ∀ x v, RepT P G w loc x v → RepT P G' w loc x.unq v := by
    intro loc hne x v h
    have hn : ∀ i j, (loc, i, j) ≠ qpos := fun i j e => hne (by simp [qpos] at e; exact e.1)
    cases x
    case tup l =>
      obtain ⟨vs, h1, h2, h3⟩ := h
      refine ⟨vs, h1, by simpa using h2, fun j y u hy hu => ?_⟩
      rw [List.getElem?_map] at hy
      obtain ⟨z, hz, rfl⟩ := Option.map_eq_some_iff.1 hy
      exact hV loc j (hn j) z u (h3 j z u hz hu)
    case agg l => exact hV loc 0 (hn 0) (.agg l) v h
    case d z => exact hC (loc, 0, 0) (hn 0 0) (.d z) v h
    case nilS => exact hC (loc, 0, 0) (hn 0 0) (.nilS) v h
    case nn sz l => exact hC (loc, 0, 0) (hn 0 0) (.nn sz l) v h
    case own e sz l => exact hC (loc, 0, 0) (hn 0 0) (.own e sz l) v h
    case ptr b o => exact hC (loc, 0, 0) (hn 0 0) (.ptr b o) v h
    case rsl b e sz n => exact hC (loc, 0, 0) (hn 0 0) (.rsl b e sz n) v h
    case eptr cs => exact hC (loc, 0, 0) (hn 0 0) (.eptr cs) v h
    case efn K => exact hC (loc, 0, 0) (hn 0 0) (.efn K) v h
    case dp z => exact hC (loc, 0, 0) (hn 0 0) (.dp z) v h
    case rsv b sz n => exact hC (loc, 0, 0) (hn 0 0) (.rsv b sz n) v h
    case q z => exact hC (loc, 0, 0) (hn 0 0) (.q z) v h
    case zs z => exact hC (loc, 0, 0) (hn 0 0) (.zs z) v h
    case zp z => exact hC (loc, 0, 0) (hn 0 0) (.zp z) v h
    case one => exact hC (loc, 0, 0) (hn 0 0) (.one) v h
    case er b => exact hC (loc, 0, 0) (hn 0 0) (.er b) v h
    case clo f caps => exact hC (loc, 0, 0) (hn 0 0) (.clo f caps) v h
    case fn K => exact hC (loc, 0, 0) (hn 0 0) (.fn K) v h
    case junk => exact hC (loc, 0, 0) (hn 0 0) (.junk) v h
    case und => exact hC (loc, 0, 0) (hn 0 0) (.und) v h
  refine ⟨G', fun t => hT _ (by simp) _ _ (hr.tm t), ⟨fun b cells hb => ?_, fun b => ?_, hr.hp.inj, hr.hp.imlt, fun g p hg => ?_, hr.hp.boxim, fun b hl => ?_⟩, ⟨hr.sn.ext, fun g p hg => ?_, hr.sn.box, hr.sn.βa, hr.sn.fz, hr.sn.fzm⟩, hr.nt, hr.defers, fun g hg => ⟨hB g (hr.z g hg).1, (hr.z g hg).2⟩, hr.tab⟩
  · simp only [St.unq, Option.map_eq_some_iff] at hb
    obtain ⟨cells', hc, rfl⟩ := hb
    obtain ⟨cs, e, h1, h2, h3, h4⟩ := hr.hp.bx b cells' hc
    refine ⟨cs, e, h1, by simpa using h2, fun j u hj hu => h3 j u (by simpa using hj) hu, fun j y u hy hu => ?_⟩
    rw [List.getElem?_map] at hy
    obtain ⟨z, hz, rfl⟩ := Option.map_eq_some_iff.1 hy
    exact hC _ (by simp [qpos]) z u (h4 j z u hz hu)
  · simp only [St.unq, Option.isSome_map]; exact hr.hp.live b
  · simp only [G'] at hg
    split at hg
    · cases hg
    · exact hr.hp.ownlt g p hg
  · simp [G', hr.hp.boxown b hl]
  · simp only [G'] at hg
    split at hg
    · cases hg
    · exact hr.sn.own g p hg
theorem callp_os1 {P : Program} {fl : AF} {st : St} {dd : Option Nat} {x0 : Operand} {xs : List Operand} {ts : Array TypeId} {ty : TypeId} {pos : String} {af : Array Edge} {g : Option (Nat × Bool)} {f : Nat} {ys cells cells' : List PV} {r : PV} {b : BN} {o : Nat}
    (hret : BRet P f [cells] (.ptr (.a 0) o :: ys) r [cells']) (hx0 : st.ev x0 = .ptr b o) (hb : st.bx b = some cells) (hc1 : cells.all PV.pass1 = true) (hc2 : cells'.all PV.gives1 = true) (hmv : fl.mv = false) (hbe : fl.be = true) (hys : xs.map (fun x => (st.ev x).bT) = ys) (hp : (xs.map st.ev).all PV.passable = true) (hg : r.gives = true) :
    OS1 P fl ⟨dd, .call ⟨.value (.func f), (x0 :: xs).toArray, ts⟩, ty, pos, af, g⟩ st r (Bx.set st.bx b cells') := by
  refine .call _ _ (.func f) (x0 :: xs) f [] (.ptr (.a 0) o :: ys) [b] [cells] [cells'] ⟨⟨ts, rfl⟩, rfl, by rw [← hys]; simp, fun i x y hx hy => ?_, fun h => by rw [hmv] at h; (cases h), by simp, rfl, fun k b' hk => ?_, fun c hc => ?_, fun c hc => ?_, hg, hret, fun _ => hbe, ?_⟩
  · rw [List.append_nil, List.map_cons, hx0] at hx
    cases i with
    | zero =>
      simp only [List.getElem?_cons_zero, Option.some.injEq] at hx hy
      subst hx; subst hy
      exact .ptr b o 0 rfl
    | succ i =>
      simp only [List.getElem?_cons_succ] at hx hy
      rw [List.getElem?_map] at hx
      obtain ⟨z, hz, rfl⟩ := Option.map_eq_some_iff.1 hx
      rw [← hys, List.getElem?_map, hz] at hy
      simp at hy
      subst hy
      have : (st.ev z).bT = mvd fl.mv (st.ev z) := by rw [hmv]; rfl
      rw [this]
      exact .val _ (List.all_eq_true.1 hp _ (List.mem_map.2 ⟨z, List.mem_of_getElem? hz, rfl⟩))
  · cases k with
    | zero =>
      simp only [List.getElem?_cons_zero, Option.some.injEq] at hk
      subst hk
      rw [vz_be hbe, hb]; rfl
    | succ k => simp at hk
  · rw [List.mem_singleton.1 hc]; exact hc1
  · rw [List.mem_singleton.1 hc]; exact hc2
  · rw [vz_be hbe]; rfl
theorem b_callp {P : Program} {inn : Option (List BN)} {fl : AF} {K : St → Prop} {st : St} {d : Nat} {x0 : Operand} {xs : List Operand} {ts : Array TypeId} {ty : TypeId} {pos : String} {af : Array Edge} {g : Option (Nat × Bool)} {f : Nat} {ys cells cells' : List PV} {r : PV} {b : BN} {o : Nat}
    (hret : BRet P f [cells] (.ptr (.a 0) o :: ys) r [cells']) (hx0 : st.ev x0 = .ptr b o) (hb : st.bx b = some cells) (hc1 : cells.all PV.pass1 = true) (hc2 : cells'.all PV.gives1 = true) (hmv : fl.mv = false) (hbe : fl.be = true) (hin : inAll inn b = true) (hys : xs.map (fun x => (st.ev x).bT) = ys) (hp : (xs.map st.ev).all PV.passable = true) (hg : r.gives = true)
    (k : K ((st.sbx b cells').put d r)) : bcallD P inn fl ⟨some d, .call ⟨.value (.func f), (x0 :: xs).toArray, ts⟩, ty, pos, af, g⟩ K st := by
  have h0 := callp_os1 (dd := some d) (ts := ts) (ty := ty) (pos := pos) (af := af) (g := g) hret hx0 hb hc1 hc2 hmv hbe hys hp hg
  have hk : st.after fl ⟨some d, .call ⟨.value (.func f), (x0 :: xs).toArray, ts⟩, ty, pos, af, g⟩ r (Bx.set st.bx b cells') = (st.sbx b cells').put d r := by
    unfold St.after St.upd St.put St.sbx stripsOf
    simp [hbe, hmv]
  cases inn with
  | none => exact ⟨r, _, h0, by rw [hk]; exact k⟩
  | some l =>
    refine ⟨r, _, h0, ⟨fun B2 hB => ⟨_, callp_os1 (st := st.at B2) hret (by rw [ev_at]; exact hx0) (by show B2 b = _; rw [hB b hin]; exact hb) hc1 hc2 hmv hbe (by rw [ev_at]; exact hys) (by rw [ev_at]; exact hp) hg, fun _ => ?_⟩, fun _ b2 hb2 => ?_⟩, by rw [hk]; exact k⟩
    · funext b2
      show (if b2 = b then some cells' else B2 b2) = if l.contains b2 = true then (if b2 = b then some cells' else st.bx b2) else B2 b2
      by_cases hl : l.contains b2 = true
      · rw [if_pos hl, hB b2 hl]
      · rw [if_neg hl]
        have : ¬ b2 = b := fun e => hl (e ▸ hin)
        rw [if_neg this]
    · have : ¬ b2 = b := fun e => by rw [e] at hb2; rw [show l.contains b = true from hin] at hb2; cases hb2
      simp only [Bx.set, if_neg this]
theorem b_callc {P : Program} {fl : AF} {K : St → Prop} {st : St} {d : Nat} {xs : List Operand} {c : Operand} {ts : Array TypeId} {ty : TypeId} {pos : String} {af : Array Edge} {g : Option (Nat × Bool)} {f : Nat} {ys : List PV} {r : PV} {f' : Nat} {caps : List PV} (Kf : List PD → Option PD)
    (hret : BRet P f [] (ys ++ [.fn Kf]) r []) (hmv : fl.mv = false) (hys : xs.map (fun x => (st.ev x).bT) = ys) (hp : (xs.map st.ev).all PV.passable = true) (hc : st.ev c = .clo f' caps) (hok : CloOK P (vz fl st.bx) f' caps Kf) (hg : r.gives = true) (k : K (st.put d r)) :
    bcallD P none fl ⟨some d, .call ⟨.value (.func f), (xs ++ [c]).toArray, ts⟩, ty, pos, af, g⟩ K st := by
  show bcall P fl _ K st
  refine ⟨r, vz fl st.bx, .call _ _ (.func f) (xs ++ [c]) f [] (ys ++ [.fn Kf]) [] [] [] ⟨⟨ts, rfl⟩, rfl, by rw [← hys]; simp, fun i x y hx hy => ?_, fun h => by rw [hmv] at h; (cases h), by simp, rfl, by simp, by simp, by simp, hg, hret, by simp, rfl⟩, ?_⟩
  · rw [List.append_nil, List.map_append] at hx
    have hl : ys.length = (xs.map st.ev).length := by rw [← hys]; simp
    by_cases hi : i < (xs.map st.ev).length
    · rw [List.getElem?_append_left hi] at hx
      rw [List.getElem?_append_left (by omega)] at hy
      rw [List.getElem?_map] at hx
      obtain ⟨z, hz, rfl⟩ := Option.map_eq_some_iff.1 hx
      rw [← hys, List.getElem?_map, hz] at hy
      simp at hy
      subst hy
      have : (st.ev z).bT = mvd fl.mv (st.ev z) := by rw [hmv]; rfl
      rw [this]
      exact .val _ (List.all_eq_true.1 hp _ (List.mem_map.2 ⟨z, List.mem_of_getElem? hz, rfl⟩))
    · rw [List.getElem?_append_right (by omega)] at hx hy
      rw [hl] at hy
      generalize i - (xs.map st.ev).length = j at hx hy
      cases j with
      | zero =>
        simp at hx hy
        subst hx; subst hy
        rw [hc]
        exact .fn f' caps Kf hok (by simp)
      | succ j => simp at hx
  · rw [after_pure rfl, hmv]
    exact k
theorem b_callc2 {P : Program} {fl : AF} {K : St → Prop} {st : St} {d : Nat} {x c : Operand} {ts : Array TypeId} {ty : TypeId} {pos : String} {af : Array Edge} {g : Option (Nat × Bool)} {f : Nat} {y r : PV} {f' : Nat} {caps : List PV} {Kf : List PD → Option PD}
    (hret : BRet P f [] [y, .fn Kf] r []) (hmv : fl.mv = false) (hys : (st.ev x).bT = y) (hp : (st.ev x).passable = true) (hc : st.ev c = .clo f' caps) (hok : CloOK P (vz fl st.bx) f' caps Kf) (hg : r.gives = true) (k : K (st.put d r)) :
    bcallD P none fl ⟨some d, .call ⟨.value (.func f), #[x, c], ts⟩, ty, pos, af, g⟩ K st :=
  b_callc (xs := [x]) (ys := [y]) Kf hret hmv (by rw [← hys]; rfl) (by simpa using hp) hc hok hg k
theorem b_fn {P : Program} {fl : AF} {K : St → Prop} {st : St} {d t : Nat} {xs : List Operand} {ts : Array TypeId} {ty : TypeId} {pos : String} {af : Array Edge} {g : Option (Nat × Bool)} {Kf : List PD → Option PD} {zs : List PD} {r : PD}
    (hf : st.tm t = .fn Kf) (hmv : fl.mv = false) (hz : pdsOf (xs.map st.ev) = some zs) (hr : Kf zs = some r) (k : K (st.put d (ofPD r))) :
    bcallD P none fl ⟨some d, .call ⟨.value (.tmp t), xs.toArray, ts⟩, ty, pos, af, g⟩ K st := by
  show bcall P fl _ K st
  refine ⟨ofPD r, vz fl st.bx, .fn _ (.tmp t) xs Kf zs r ⟨⟨ts, rfl⟩, hf, hz, hr, rfl⟩, ?_⟩
  rw [after_pure rfl, hmv]
  exact k

theorem ret_ct {P : Program} {a b : Nat} {t : TypeId} {r x : PV} {st : St} {n : Nat} {c1 : List PV} {i : TI} (ha : st.tm a = .ptr (.t n) 0) (h1 : st.bx (.t n) = some c1) (hb : st.tm b = x) 
    (hi : tyi P t = some i) (hia : i.agg = true) (hl1 : c1.length = i.sz) (g1 : c1.all PV.gives1 = true) (g2 : x.gives2 = true) (hr : .tup [.agg c1, x] = r) (hk : ∀ k, st.bx (.a k) = none) :
    retK P [.cell a t, .tmp b] r [] st := by
  subst hb
  exact ⟨[(.b (.t n), .agg c1), (.t b, st.tm b)], by simp [resAll, resOf, ha, h1], by simp [cellsFit, ha, h1, hi, hia, hl1], by simp, by simp only [List.map_cons, List.map_nil, List.all_cons, List.all_nil, g2, Bool.and_true]; exact g1, by simpa [resPV] using hr, fun k => by simpa using hk k, by simp⟩

theorem ret_1p {P : Program} {t : Nat} {r : PV} {st : St} {c : List PV} (hx : st.tm t = r) (g : r.gives2 = true) (hb : st.bx (.a 0) = some c) (hk : ∀ k, st.bx (.a (k + 1)) = none) (hc : c.all PV.gives1 = true) : retK P [.tmp t] r [c] st := by
  subst hx
  refine ⟨[(.t t, st.tm t)], by simp [resAll, resOf], by simp [cellsFit], by simp, by simpa using g, by simp [resPV], fun k => ?_, by simpa using hc⟩
  cases k with
  | zero => simpa using hb
  | succ k => simpa using hk k
end Go.Bee


namespace Go.Bee
set_option linter.unusedVariables false

structure PLe (y x : PV) : Prop where
  t : ∀ (P : Program) (G : Gh) (w : World) (loc : Loc) (v : Value), RepT P G w loc y v → RepT P G w loc x v
structure CLe (y x : PV) : Prop where
  c : ∀ (P : Program) (G : Gh) (w : World) (p : Pos) (v : Value), RepC P G w p y v → RepC P G w p x v
theorem PLe.rfl {x : PV} : PLe x x := ⟨fun _ _ _ _ _ h => h⟩
theorem CLe.rfl {x : PV} : CLe x x := ⟨fun _ _ _ _ _ h => h⟩
theorem PLe.eq {y x : PV} (h : y = x) : PLe y x := h ▸ PLe.rfl
theorem CLe.eq {y x : PV} (h : y = x) : CLe y x := h ▸ CLe.rfl
theorem PLe.junk {y : PV} : PLe y .junk := ⟨fun _ _ _ _ _ _ => trivial⟩
theorem PLe.own {e sz : Nat} {l : List PD} : PLe (.own e sz l) (.d (.sl sz l)) := ⟨fun _ _ _ _ _ h => ⟨h.1, Eq.refl _⟩⟩
theorem PLe.dp {x : PD} : PLe (.dp x) (.d x) := ⟨fun P G w loc v h => RepC.bC (P := P) (p := (loc, 0, 0)) (loc, 0, 0) (x := .dp x) h⟩
theorem CLe.dp {x : PD} : CLe (.dp x) (.d x) := ⟨fun P G w p v h => RepC.bC (P := P) p (x := .dp x) h⟩
theorem PLe.nn {sz : Nat} {l : List PD} : PLe (.nn sz l) (.d (.sl sz l)) := ⟨fun _ _ _ _ _ h => ⟨h.1, Eq.refl _⟩⟩
theorem CLe.own {e sz : Nat} {l : List PD} : CLe (.own e sz l) (.d (.sl sz l)) := ⟨fun _ _ _ _ _ h => ⟨h.1, Eq.refl _⟩⟩
theorem PLe.nil {sz : Nat} : PLe .nilS (.d (.sl sz [])) := ⟨fun P G w loc v h => by
  obtain rfl : v = .slice none 0 0 := h
  exact ⟨.nil sz, Eq.refl _⟩⟩
theorem CLe.nil {sz : Nat} : CLe .nilS (.d (.sl sz [])) := ⟨fun P G w p v h => by
  obtain rfl : v = .slice none 0 0 := h
  exact ⟨.nil sz, Eq.refl _⟩⟩
theorem nil_ownAt {G : Gh} {w : World} {p : Pos} {e sz : Nat} : OwnAt G w p e sz [] (.slice none 0 0) :=
  ⟨.nil sz, .inl ⟨.inl (Eq.refl _), fun h => absurd (Eq.refl _) h⟩⟩
theorem PLe.nilO {e sz : Nat} : PLe .nilS (.own e sz []) := ⟨fun P G w loc v h => by
  obtain rfl : v = .slice none 0 0 := h
  exact nil_ownAt⟩
theorem CLe.nilO {e sz : Nat} : CLe .nilS (.own e sz []) := ⟨fun P G w p v h => by
  obtain rfl : v = .slice none 0 0 := h
  exact nil_ownAt⟩

def hasB (L : List BN) (b : BN) : Bool := L.any fun c => decide (c = b)
def okA (L : List BN) : PV → Bool
  | .ptr b _ => hasB L b
  | _ => true
def okC (L : List BN) : PV → Bool
  | .ptr b _ => hasB L b
  | .rsl b _ _ _ => hasB L b
  | .rsv b _ _ => hasB L b
  | .clo _ caps => caps.all (okA L)
  | _ => true
def okV (L : List BN) : PV → Bool
  | .agg l => l.all (okC L)
  | x => okC L x
def okT (L : List BN) : PV → Bool
  | .tup l => l.all (okV L)
  | x => okV L x
def Gh.lim (G : Gh) (L : List BN) : Gh := { G with live := fun c => hasB L c = true }
theorem okA_rep {G : Gh} {w : World} {L : List BN} {x : PV} {v : Value} (h : RepAt G w x v) (ho : okA L x = true) : RepAt (G.lim L) w x v := by
  cases x <;> first | exact h | exact ⟨h.1, ho⟩
theorem okC_rep {P : Program} {G : Gh} {w : World} {L : List BN} {p : Pos} {x : PV} {v : Value} (hL : ∀ b, hasB L b = true → G.live b) (h : RepC P G w p x v) (ho : okC L x = true) : RepC P (G.lim L) w p x v := by
  cases x
  case rsv b sz n => obtain ⟨k, h1, h2, h3, h4⟩ := h; exact ⟨k, h1, h2, ho, h4⟩
  case q x => exact ⟨h.1.keep fun b o hb => ⟨hb.less hL, rfl⟩, h.2⟩
  case zs x => exact ⟨h.1.keep fun g hg => ⟨hg.less hL, fun _ => rfl⟩, h.2⟩
  case zp x => obtain ⟨g, o, h1, h2⟩ := h; exact ⟨g, o, h1, h2.keep fun g hg => ⟨hg.less hL, fun _ => rfl⟩⟩
  case ptr b o => exact ⟨h.1, ho⟩
  case rsl b e sz n => exact ⟨h.1, ho, h.2.2⟩
  case clo f caps =>
    obtain ⟨vs, hv, hl, hr⟩ := h
    exact ⟨vs, hv, hl, fun i x u hx hu => okA_rep (hr i x u hx hu) (List.all_eq_true.1 ho x (List.mem_of_getElem? hx))⟩
  all_goals exact h
theorem okV_rep {P : Program} {G : Gh} {w : World} {L : List BN} {loc : Loc} {i : Nat} {x : PV} {v : Value} (hL : ∀ b, hasB L b = true → G.live b) (h : RepV P G w loc i x v) (ho : okV L x = true) : RepV P (G.lim L) w loc i x v := by
  cases x
  case agg l =>
    obtain ⟨cs, hv, hl, h1, hr⟩ := h
    exact ⟨cs, hv, hl, h1, fun j x u hx hu => okC_rep hL (hr j x u hx hu) (List.all_eq_true.1 ho x (List.mem_of_getElem? hx))⟩
  case d y => exact okC_rep (P := P) (G := G) (w := w) (L := L) (v := v) (p := (loc, i, 0)) (x := .d y) hL h ho
  case nilS => exact okC_rep (P := P) (G := G) (w := w) (L := L) (v := v) (p := (loc, i, 0)) (x := .nilS) hL h ho
  case nn sz l => exact okC_rep (P := P) (G := G) (w := w) (L := L) (v := v) (p := (loc, i, 0)) (x := .nn sz l) hL h ho
  case own e sz l => exact okC_rep (P := P) (G := G) (w := w) (L := L) (v := v) (p := (loc, i, 0)) (x := .own e sz l) hL h ho
  case ptr b o => exact okC_rep (P := P) (G := G) (w := w) (L := L) (v := v) (p := (loc, i, 0)) (x := .ptr b o) hL h ho
  case rsl b e sz n => exact okC_rep (P := P) (G := G) (w := w) (L := L) (v := v) (p := (loc, i, 0)) (x := .rsl b e sz n) hL h ho
  case eptr cs => exact okC_rep (P := P) (G := G) (w := w) (L := L) (v := v) (p := (loc, i, 0)) (x := .eptr cs) hL h ho
  case clo f caps => exact okC_rep (P := P) (G := G) (w := w) (L := L) (v := v) (p := (loc, i, 0)) (x := .clo f caps) hL h ho
  case fn K => exact okC_rep (P := P) (G := G) (w := w) (L := L) (v := v) (p := (loc, i, 0)) (x := .fn K) hL h ho
  case one => exact okC_rep (P := P) (G := G) (w := w) (L := L) (v := v) (p := (loc, i, 0)) (x := .one) hL h ho
  case er b => exact okC_rep (P := P) (G := G) (w := w) (L := L) (v := v) (p := (loc, i, 0)) (x := .er b) hL h ho
  case efn K => exact okC_rep (P := P) (G := G) (w := w) (L := L) (v := v) (p := (loc, i, 0)) (x := .efn K) hL h ho
  case dp y => exact okC_rep (P := P) (G := G) (w := w) (L := L) (v := v) (p := (loc, i, 0)) (x := .dp y) hL h ho
  case rsv b sz n => exact okC_rep (P := P) (G := G) (w := w) (L := L) (v := v) (p := (loc, i, 0)) (x := .rsv b sz n) hL h ho
  case q y => exact okC_rep (P := P) (G := G) (w := w) (L := L) (v := v) (p := (loc, i, 0)) (x := .q y) hL h ho
  case zs y => exact okC_rep (P := P) (G := G) (w := w) (L := L) (v := v) (p := (loc, i, 0)) (x := .zs y) hL h ho
  case zp y => exact okC_rep (P := P) (G := G) (w := w) (L := L) (v := v) (p := (loc, i, 0)) (x := .zp y) hL h ho
  case junk => exact okC_rep (P := P) (G := G) (w := w) (L := L) (v := v) (p := (loc, i, 0)) (x := .junk) hL h ho
  case und => exact okC_rep (P := P) (G := G) (w := w) (L := L) (v := v) (p := (loc, i, 0)) (x := .und) hL h ho
  case tup l => exact okC_rep (P := P) (G := G) (w := w) (L := L) (v := v) (p := (loc, i, 0)) (x := .tup l) hL h ho
theorem okT_rep {P : Program} {G : Gh} {w : World} {L : List BN} {loc : Loc} {x : PV} {v : Value} (hL : ∀ b, hasB L b = true → G.live b) (h : RepT P G w loc x v) (ho : okT L x = true) : RepT P (G.lim L) w loc x v := by
  cases x
  case tup l =>
    obtain ⟨vs, hv, hl, hr⟩ := h
    exact ⟨vs, hv, hl, fun j x u hx hu => okV_rep hL (hr j x u hx hu) (List.all_eq_true.1 ho x (List.mem_of_getElem? hx))⟩
  case agg l => exact okV_rep (i := 0) (x := .agg l) hL h ho
  case d y => exact okC_rep (P := P) (G := G) (w := w) (L := L) (v := v) (p := (loc, 0, 0)) (x := .d y) hL h ho
  case nilS => exact okC_rep (P := P) (G := G) (w := w) (L := L) (v := v) (p := (loc, 0, 0)) (x := .nilS) hL h ho
  case nn sz l => exact okC_rep (P := P) (G := G) (w := w) (L := L) (v := v) (p := (loc, 0, 0)) (x := .nn sz l) hL h ho
  case own e sz l => exact okC_rep (P := P) (G := G) (w := w) (L := L) (v := v) (p := (loc, 0, 0)) (x := .own e sz l) hL h ho
  case ptr b o => exact okC_rep (P := P) (G := G) (w := w) (L := L) (v := v) (p := (loc, 0, 0)) (x := .ptr b o) hL h ho
  case rsl b e sz n => exact okC_rep (P := P) (G := G) (w := w) (L := L) (v := v) (p := (loc, 0, 0)) (x := .rsl b e sz n) hL h ho
  case eptr cs => exact okC_rep (P := P) (G := G) (w := w) (L := L) (v := v) (p := (loc, 0, 0)) (x := .eptr cs) hL h ho
  case clo f caps => exact okC_rep (P := P) (G := G) (w := w) (L := L) (v := v) (p := (loc, 0, 0)) (x := .clo f caps) hL h ho
  case fn K => exact okC_rep (P := P) (G := G) (w := w) (L := L) (v := v) (p := (loc, 0, 0)) (x := .fn K) hL h ho
  case one => exact okC_rep (P := P) (G := G) (w := w) (L := L) (v := v) (p := (loc, 0, 0)) (x := .one) hL h ho
  case er b => exact okC_rep (P := P) (G := G) (w := w) (L := L) (v := v) (p := (loc, 0, 0)) (x := .er b) hL h ho
  case efn K => exact okC_rep (P := P) (G := G) (w := w) (L := L) (v := v) (p := (loc, 0, 0)) (x := .efn K) hL h ho
  case dp y => exact okC_rep (P := P) (G := G) (w := w) (L := L) (v := v) (p := (loc, 0, 0)) (x := .dp y) hL h ho
  case rsv b sz n => exact okC_rep (P := P) (G := G) (w := w) (L := L) (v := v) (p := (loc, 0, 0)) (x := .rsv b sz n) hL h ho
  case q y => exact okC_rep (P := P) (G := G) (w := w) (L := L) (v := v) (p := (loc, 0, 0)) (x := .q y) hL h ho
  case zs y => exact okC_rep (P := P) (G := G) (w := w) (L := L) (v := v) (p := (loc, 0, 0)) (x := .zs y) hL h ho
  case zp y => exact okC_rep (P := P) (G := G) (w := w) (L := L) (v := v) (p := (loc, 0, 0)) (x := .zp y) hL h ho
  case junk => exact okC_rep (P := P) (G := G) (w := w) (L := L) (v := v) (p := (loc, 0, 0)) (x := .junk) hL h ho
  case und => exact okC_rep (P := P) (G := G) (w := w) (L := L) (v := v) (p := (loc, 0, 0)) (x := .und) hL h ho

def HasT (st : St) (L : List BN) : List (Nat × PV) → Prop
  | [] => True
  | q :: l => (PLe (st.tm q.1) q.2 ∧ okT L q.2 = true) ∧ HasT st L l
def HasC (L : List BN) : List PV → List PV → Prop
  | [], [] => True
  | y :: ys, x :: xs => (CLe y x ∧ okC L x = true) ∧ HasC L ys xs
  | _, _ => False
def HasB (st : St) (L : List BN) : List (BN × List PV) → Prop
  | [] => True
  | q :: l => (∃ cells, st.bx q.1 = some cells ∧ HasC L cells q.2) ∧ HasB st L l
def Has (st : St) (ts : List (Nat × PV)) (bs : List (BN × List PV)) : Prop := HasT st (bs.map (·.1)) ts ∧ HasB st (bs.map (·.1)) bs
theorem HasT.get {st : St} {L : List BN} : ∀ {ts : List (Nat × PV)}, HasT st L ts → ∀ t, look ts t = .junk ∨ (PLe (st.tm t) (look ts t) ∧ okT L (look ts t) = true)
  | [], _, t => .inl rfl
  | (m, x) :: l, h, t => by
    rw [look_c]
    split
    · rename_i e; subst e; exact .inr h.1
    · exact HasT.get h.2 t
theorem HasC.get {L : List BN} : ∀ {ys xs : List PV}, HasC L ys xs → ys.length = xs.length ∧ ∀ (j : Nat) x, xs[j]? = some x → ∃ y, ys[j]? = some y ∧ CLe y x ∧ okC L x = true
  | [], [], _ => ⟨rfl, fun j x h => by simp at h⟩
  | y :: ys, x :: xs, h => by
    obtain ⟨h1, h2⟩ := HasC.get h.2
    refine ⟨by simp [h1], fun j z hz => ?_⟩
    cases j with
    | zero => simp at hz; subst hz; exact ⟨y, rfl, h.1⟩
    | succ j => simp at hz; simpa using h2 j z hz
theorem HasC.same {L : List BN} : ∀ {xs : List PV}, xs.all (okC L) = true → HasC L xs xs
  | [], _ => trivial
  | x :: xs, h => by
    simp only [List.all_cons, Bool.and_eq_true] at h
    exact ⟨⟨CLe.rfl, h.1⟩, HasC.same h.2⟩
theorem HasC.of {L : List BN} {ys xs : List PV} (h : ys = xs) (ho : xs.all (okC L) = true) : HasC L ys xs := by
  subst h; exact HasC.same ho
theorem HasB.get {st : St} {L : List BN} : ∀ {bs : List (BN × List PV)}, HasB st L bs → ∀ b cells, lookB bs b = some cells → ∃ ys, st.bx b = some ys ∧ HasC L ys cells
  | [], _, b, cells, h => by simp [lookB] at h
  | (m, x) :: l, h, b, cells, hb => by
    rw [lookB_c] at hb
    split at hb
    · rename_i e; subst e; cases hb; exact h.1
    · exact HasB.get h.2 b cells hb
theorem lookB_has : ∀ (bs : List (BN × List PV)) (b : BN), (hasB (bs.map (·.1)) b = true) ↔ (lookB bs b).isSome = true
  | [], b => by simp [hasB, lookB]
  | (m, x) :: l, b => by
    have ih := lookB_has l b
    simp only [hasB] at ih
    rw [lookB_c]
    simp only [hasB, List.map_cons, List.any_cons, Bool.or_eq_true, decide_eq_true_eq, ih]
    by_cases e : b = m
    · simp [e]
    · simp only [if_neg e]
      exact ⟨fun h => h.elim (fun h => absurd h.symm e) id, .inr⟩
theorem Weak.mk {P : Program} {st : St} {ts : List (Nat × PV)} {bs : List (BN × List PV)} (h : Has st ts bs) : Weak P st (mk ts bs) := fun F G a w hr => by
  have hlive : ∀ b, hasB (bs.map (·.1)) b = true → G.live b := fun b hb => by
    obtain ⟨cells, hc⟩ := Option.isSome_iff_exists.1 ((lookB_has bs b).1 hb)
    obtain ⟨ys, hy, -⟩ := h.2.get b cells hc
    exact (hr.hp.live b).2 (by rw [hy]; rfl)
  let G' : Gh := G.lim (bs.map (·.1))
  refine ⟨G', ⟨fun t => ?_, ⟨fun b cells hc => ?_, fun b => lookB_has bs b, fun c c' hl hl' => hr.hp.inj c c' (hlive c hl) (hlive c' hl'), hr.hp.imlt, hr.hp.ownlt, fun c hl => hr.hp.boxim c (hlive c hl), fun c hl => hr.hp.boxown c (hlive c hl)⟩,
    ⟨hr.sn.ext, hr.sn.own, fun c hl => hr.sn.box c (hlive c hl), hr.sn.βa, hr.sn.fz, hr.sn.fzm⟩, hr.nt, hr.defers, fun g hg => ⟨(hr.z g hg).1.less hlive, (hr.z g hg).2⟩, hr.tab⟩⟩
  · show RepT P _ w _ (look ts t) _
    rcases h.1.get t with e | ⟨e1, e2⟩
    · rw [e]; trivial
    · exact okT_rep hlive (e1.t P G w _ _ (hr.tm t)) e2
  · obtain ⟨ys, hy, hcs⟩ := h.2.get b cells hc
    obtain ⟨hl, hg⟩ := hcs.get
    obtain ⟨cs, e, h1, h2, h3, h4⟩ := hr.hp.bx b ys hy
    refine ⟨cs, e, h1, hl ▸ h2, fun j u hj hu => h3 j u (hl ▸ hj) hu, fun j x u hx hu => ?_⟩
    obtain ⟨y, hyj, hle, hok⟩ := hg j x hx
    exact okC_rep hlive (hle.c P G w _ _ (h4 j y u hyj hu)) hok

def Nxt {ι : Type} (P : Program) (T : ι → List (Nat × PV)) (B : ι → List (BN × List PV)) (J : ι → Prop) (μ : ι → Nat) (n : Nat) (I : Nat → St → Prop) : Prop :=
  ∀ i st, J i → μ i < n → Has st (T i) (B i) → ∃ m s', Weak P st s' ∧ m < n ∧ I m s'
theorem b_lp {ι : Type} {P : Program} {H : Nat → List Nat} {c : Code} {Q : Ex → St → Prop} {st : St} (T : ι → List (Nat × PV)) (B : ι → List (BN × List PV)) (J : ι → Prop) (μ : ι → Nat) (i : ι) (hs : Has st (T i) (B i)) (hj : J i)
    (hr : ∀ i, J i → ∀ I, Nxt P T B J μ (μ i) I → bwp P H c (loopK P I (μ i) Q) (mk (T i) (B i))) : bloop P (bwp P H c) Q st :=
  ⟨fun n s => ∃ i, n = μ i ∧ J i ∧ s = mk (T i) (B i), ⟨_, _, Weak.mk hs, i, rfl, hj, rfl⟩, fun n s ⟨i, hn, hj, hs⟩ => by
    subst hn; subst hs
    exact hr i hj _ fun i' st' hj' hlt hs' => ⟨_, _, Weak.mk hs', hlt, i', rfl, hj', rfl⟩⟩
theorem Nxt.go {ι : Type} {P : Program} {T : ι → List (Nat × PV)} {B : ι → List (BN × List PV)} {J : ι → Prop} {μ : ι → Nat} {n : Nat} {I : Nat → St → Prop} (h : Nxt P T B J μ n I) (i : ι) {st : St} (hj : J i) (hlt : μ i < n) (hs : Has st (T i) (B i)) :
    ∃ m s', Weak P st s' ∧ m < n ∧ I m s' := h i st hj hlt hs
theorem hs {st : St} {ts : List (Nat × PV)} {bs : List (BN × List PV)} (h : Has st ts bs := by
  repeat' first | exact trivial | exact PLe.rfl | exact CLe.rfl | rfl | exact PLe.own | exact PLe.nil | exact PLe.nilO | exact PLe.nn | exact PLe.dp | exact CLe.dp | exact CLe.own | exact CLe.nil | exact CLe.nilO | refine ⟨_, rfl, ?_⟩ | refine And.intro ?_ ?_ | exact HasC.of rfl (by simp only [*]) | exact HasC.of (by simp only [*]) (by simp only [*]) | (refine PLe.eq ?_; simp [tm_put, tm_mk, look_c, look_n, tm_strip1, tm_sbx, bT_d, bT_own]; done) | (refine CLe.eq ?_; simp; done)) : Has st ts bs := h
theorem hsT {L : List BN} {st : St} {ts : List (Nat × PV)} (h : HasT st L ts := by
  repeat' first | exact trivial | exact PLe.rfl | exact CLe.rfl | rfl | exact PLe.own | exact PLe.nil | exact PLe.nilO | exact PLe.nn | exact PLe.dp | exact CLe.dp | exact CLe.own | exact CLe.nil | exact CLe.nilO | refine ⟨_, rfl, ?_⟩ | refine And.intro ?_ ?_ | exact HasC.of rfl (by simp only [*]) | exact HasC.of (by simp only [*]) (by simp only [*]) | (refine PLe.eq ?_; simp [tm_put, tm_mk, look_c, look_n, tm_strip1, tm_sbx, bT_d, bT_own]; done) | (refine CLe.eq ?_; simp; done)) : HasT st L ts := h
theorem wk_mk {P : Program} {K : St → Prop} {s : St} (ts : List (Nat × PV)) (bs : List (BN × List PV)) (hs : Has s ts bs) (h : K (mk ts bs)) : wk P K s := ⟨_, Weak.mk hs, h⟩
theorem map_same {α : Type} {f : α → α} : ∀ {l : List α}, (∀ y ∈ l, f y = y) → l.map f = l
  | [], _ => rfl
  | a :: l, h => by rw [List.map_cons, h a (List.mem_cons_self ..), map_same fun y hy => h y (List.mem_cons_of_mem _ hy)]
theorem killC_ok {L : List BN} {b : BN} {x : PV} (h : okC L x = true) (hb : hasB L b = false) : x.killC b = x := by
  have hne : ∀ c, hasB L c = true → c ≠ b := fun c hc e => by rw [e, hb] at hc; cases hc
  cases x
  case ptr c o => simp only [PV.killC, if_neg (hne c h)]
  case rsl c e sz n => simp only [PV.killC, if_neg (hne c h)]
  case rsv c sz n => simp only [PV.killC, if_neg (hne c h)]
  case clo f caps =>
    simp only [PV.killC]
    rw [if_neg]
    intro ha
    obtain ⟨y, hy, hyb⟩ := List.any_eq_true.1 ha
    have := List.all_eq_true.1 h y hy
    cases y <;> simp at hyb
    exact hne _ this hyb
  all_goals rfl
theorem killV_ok {L : List BN} {b : BN} {x : PV} (h : okV L x = true) (hb : hasB L b = false) : x.killV b = x := by
  cases x
  case agg l =>
    simp only [PV.killV]
    congr 1
    exact map_same fun y hy => killC_ok (List.all_eq_true.1 h y hy) hb
  case ptr c o => exact killC_ok (L := L) (x := .ptr c o) h hb
  case rsl c e sz n => exact killC_ok (L := L) (x := .rsl c e sz n) h hb
  case rsv c sz n => exact killC_ok (L := L) (x := .rsv c sz n) h hb
  case clo f caps => exact killC_ok (L := L) (x := .clo f caps) h hb
  all_goals rfl
theorem kill_ok {L : List BN} {b : BN} {x : PV} (h : okT L x = true) (hb : hasB L b = false) : x.kill b = x := by
  cases x
  case tup l =>
    simp only [PV.kill]
    congr 1
    exact map_same fun y hy => killV_ok (List.all_eq_true.1 h y hy) hb
  case agg l => exact killV_ok (L := L) (x := .agg l) h hb
  case ptr c o => exact killV_ok (L := L) (x := .ptr c o) h hb
  case rsl c e sz n => exact killV_ok (L := L) (x := .rsl c e sz n) h hb
  case rsv c sz n => exact killV_ok (L := L) (x := .rsv c sz n) h hb
  case clo f caps => exact killV_ok (L := L) (x := .clo f caps) h hb
  all_goals rfl
theorem look_ok {L : List BN} {b : BN} : ∀ {ts : List (Nat × PV)}, ts.all (fun q => okT L q.2) = true → hasB L b = false → ∀ t, (look ts t).kill b = look ts t
  | [], _, _, _ => rfl
  | (m, x) :: l, h, hb, t => by
    simp only [List.all_cons, Bool.and_eq_true] at h
    rw [look_c]
    split
    · exact kill_ok h.1 hb
    · exact look_ok h.2 hb t
theorem lookB_ok {L : List BN} {b : BN} : ∀ {bs : List (BN × List PV)}, bs.all (fun q => q.2.all (okC L)) = true → hasB L b = false → ∀ c, (lookB bs c).map (fun cells => cells.map (PV.killC b)) = lookB bs c
  | [], _, _, _ => rfl
  | (m, x) :: l, h, hb, t => by
    simp only [List.all_cons, Bool.and_eq_true] at h
    rw [lookB_c]
    split
    · simp only [Option.map_some]
      rw [map_same fun y hy => killC_ok (List.all_eq_true.1 h.1 y hy) hb]
    · exact lookB_ok h.2 hb t
theorem wk_fz {P : Program} {K : St → Prop} {s : St} (t : Nat) (b : BN) (e sz n : Nat) (l : List PD) (ts : List (Nat × PV)) (bs : List (BN × List PV)) (hs : Has s ((t, .rsl b e sz n) :: ts) ((b, (flat l).map .d) :: bs)) (hl : l.length = n) (hu : ∀ x ∈ l, x.cells.length = sz)
    (h : K (mk ((t, .own e sz l) :: ts) bs)) (h1 : ts.all (fun q => okT (bs.map (·.1)) q.2) = true := by rfl) (h2 : bs.all (fun q => q.2.all (okC (bs.map (·.1)))) = true := by rfl) (h3 : hasB (bs.map (·.1)) b = false := by rfl) : wk P K s := by
  refine ⟨_, Weak.trans (Weak.mk hs) (Weak.freeze (t := t) (b := b) (e := e) (sz := sz) (n := n) (l := l) (by rw [tm_mk, look_c, if_pos rfl]) (by rw [bx_mk, lookB_c, if_pos rfl]) hl hu), ?_⟩
  have e1 : ((mk ((t, .rsl b e sz n) :: ts) ((b, (flat l).map .d) :: bs)).drop b).put t (.own e sz l) = mk ((t, .own e sz l) :: ts) bs := by
    unfold mk St.drop St.put
    simp only [St.mk.injEq]
    refine ⟨funext fun k => ?_, funext fun c => ?_⟩
    · by_cases hk : k = t
      · rw [if_pos hk, look_c, if_pos hk]
      · rw [if_neg hk, look_c, look_c, if_neg hk, if_neg hk, look_ok h1 h3]
    · split
      · rename_i hc
        subst hc
        cases hq : lookB bs c with
        | none => rfl
        | some q => have := (lookB_has bs c).2 (by rw [hq]; rfl); rw [h3] at this; cases this
      · rename_i hc
        rw [lookB_c, if_neg hc, lookB_ok h2 h3]
  rw [e1]; exact h
end Go.Bee


namespace Go.Bee.Ty
open Go Go.Bee Go.Proofs
set_option linter.unusedVariables false
theorem mixed : Tryz.prog.follows .mixedOrders = true := by kernel_rfl

def szF {α : Type} (f : α → Int → Int) : List α → Int → Int
  | [], x => x
  | a :: l, x => if f a x < 0 then -1 else szF f l (f a x)
def szL {α : Type} (f : α → Int → Int) (l : List α) (x : Int) : Int := if x - l.length < 0 then -1 else szF f l (x - l.length)
def Nice {α : Type} (f : α → Int → Int) : Prop := ∀ a x, 0 ≤ x → f a x = -1 ∨ (0 ≤ f a x ∧ f a x ≤ x)
theorem szL_len {α : Type} {f : α → Int → Int} (h : Nice f) (l : List α) (x : Int) (hx : 0 ≤ x) (hn : 0 ≤ szL f l x) : (l.length : Int) ≤ x := by
  unfold szL at hn
  split at hn <;> omega
theorem szF_step {α : Type} {f : α → Int → Int} {l : List α} {k : Nat} (hk : k < l.length) (x : Int) : szF f (l.drop k) x = if f l[k] x < 0 then -1 else szF f (l.drop (k + 1)) (f l[k] x) := by
  rw [List.drop_eq_getElem_cons hk]
  rfl
theorem bof {f : Nat} {fn : Func} {c : Code} {rs : List ResultVar} {args : List PV} {r : PV} (hf : Tryz.prog.funcs[f]? = some fn) (h : bwp Tryz.prog (fun _ => []) c (endK Tryz.prog rs r []) (St.init args [])) (hb : fn.body = some c := by exact rfl) (hrs : fn.results = rs.toArray := by exact rfl)
    (hn : (fn.name != "runtime.NumGoroutine") = true := by kernel_rfl) (hd : cOk Tryz.prog (fun _ => []) fn.ntmps c = true := by kernel_rfl) (ha : args.length ≤ fn.ntmps := by exact Nat.le_of_ble_eq_true rfl) : BRet Tryz.prog f [] args r [] :=
  BRet.of_body (fun _ => []) mixed hf hb hn hd hrs rfl ha h

theorem flat_length {sz : Nat} : ∀ {l : List PD}, (∀ x ∈ l, x.cells.length = sz) → (flat l).length = l.length * sz
  | [], _ => by simp [flat]
  | a :: l, h => by
    have := flat_length (sz := sz) (l := l) (fun x hx => h x (List.mem_cons_of_mem _ hx))
    simp only [flat, List.flatMap_cons, List.length_append, List.length_cons] at this ⊢
    rw [this, h a (by simp), Nat.add_mul]; omega
def filling (l : List PD) (zero : List PV) (n k : Nat) : List PV := (flat (l.take k)).map PV.d ++ (List.replicate (n - k) zero).flatten
theorem filling_0 (l : List PD) (zero : List PV) (n : Nat) : filling l zero n 0 = (List.replicate n zero).flatten := by simp [filling, flat]
theorem filling_n (l : List PD) (zero : List PV) : filling l zero l.length l.length = (flat l).map PV.d := by simp [filling]
theorem filling_len {l : List PD} {zero : List PV} {sz n k : Nat} (hz : zero.length = sz) (hc : ∀ x ∈ l, x.cells.length = sz) (hl : l.length = n) (hk : k ≤ n) : (filling l zero n k).length = n * sz := by
  have h1 := flat_length (sz := sz) (l := l.take k) (fun x hx => hc x (List.mem_of_mem_take hx))
  simp only [filling, List.length_append, List.length_map, h1, List.length_take, List.length_flatten, List.map_replicate, hz, List.sum_replicate_nat]
  rw [Nat.min_eq_left (by omega), ← Nat.add_mul]
  congr 1; omega
theorem filling_step {l : List PD} {zero : List PV} {sz n k : Nat} (hz : zero.length = sz) (hc : ∀ x ∈ l, x.cells.length = sz) (hl : l.length = n) (hk : k < l.length) :
    (filling l zero n k).take (k * sz) ++ (l[k].cells.map PV.d) ++ (filling l zero n k).drop (k * sz + sz) = filling l zero n (k + 1) := by
  have h1 := flat_length (sz := sz) (l := l.take k) (fun x hx => hc x (List.mem_of_mem_take hx))
  rw [List.length_take, Nat.min_eq_left (by omega)] at h1
  have e : n - k = (n - (k + 1)) + 1 := by omega
  have hlen : ((flat (l.take k)).map PV.d).length = k * sz := by rw [List.length_map]; exact h1
  unfold filling
  rw [List.take_left' hlen, e, List.replicate_succ, List.flatten_cons, ← List.append_assoc, List.drop_left' (by rw [List.length_append, hlen, hz]), List.take_succ_eq_append_getElem hk]
  have : flat (l.take k ++ [l[k]]) = flat (l.take k) ++ l[k].cells := by unfold flat; rw [List.flatMap_append]; simp [-List.take_append_getElem]
  rw [this, List.map_append]
theorem filling_bC {l : List PD} {zero : List PV} {n k : Nat} (hz : zero.map PV.bC = zero) : (filling l zero n k).map PV.bC = filling l zero n k := by
  unfold filling
  rw [List.map_append, List.map_map, List.map_flatten, List.map_replicate, hz]
  rfl
theorem filling_ok {l : List PD} {zero : List PV} (hz : ∀ L, zero.all (okC L) = true) (n k : Nat) (L : List BN) : (filling l zero n k).all (okC L) = true := by
  unfold filling
  rw [List.all_append, Bool.and_eq_true]
  refine ⟨by simp [okC], ?_⟩
  rw [List.all_eq_true]
  intro x hx
  obtain ⟨y, hy, hx⟩ := List.mem_flatten.1 hx
  rw [(List.mem_replicate.1 hy).2] at hx
  exact List.all_eq_true.1 (hz L) x hx
theorem made {P : Program} {st : St} {t : Nat} {b : BN} {e sz n : Nat} {l : List PD} {K : St → Prop} (ht : st.tm t = .rsl b e sz n) (hb : st.bx b = some ((flat l).map .d)) (hl : l.length = n) (hu : ∀ x ∈ l, x.cells.length = sz) (ho : ∀ c, c ≠ b → st.bx c = none)
    (k : ∀ s : St, s.tm t = .own e sz l → (∀ c, s.bx c = none) → K s) : wk P K st :=
  wk_of (Weak.freeze ht hb hl hu) (k _ (by simp [tm_put]) fun c => by
    rw [bx_put, bx_drop]
    split
    · rfl
    · rename_i hc; rw [ho c hc]; rfl)
theorem bofW {f : Nat} {fn : Func} {c : Code} {rs : List ResultVar} {args : List PV} {r : PV} (hf : Tryz.prog.funcs[f]? = some fn) (h : bwp Tryz.prog (fun _ => []) c (endW Tryz.prog rs r []) (St.init args [])) (hb : fn.body = some c := by exact rfl) (hrs : fn.results = rs.toArray := by exact rfl)
    (hn : (fn.name != "runtime.NumGoroutine") = true := by kernel_rfl) (hd : cOk Tryz.prog (fun _ => []) fn.ntmps c = true := by kernel_rfl) (ha : args.length ≤ fn.ntmps := by exact Nat.le_of_ble_eq_true rfl) : BRet Tryz.prog f [] args r [] :=
  BRet.of_bodyW (fun _ => []) mixed hf hb hn hd hrs rfl ha h

def StrT (P : Program) (t : Nat) : Prop := ∃ i, tyi P t = some i ∧ i.str = true
theorem StrT.sl {P : Program} {t : Nat} (h : StrT P t) (s : List UInt8) : (∀ k : Int, 0 ≤ k → k ≤ s.length → evSlice P t (.d (.str s)) none (some (.d (.int .i64 k))) = some (.d (.str (s.take k.toNat)))) ∧
    (∀ k : Int, 0 ≤ k → k ≤ s.length → evSlice P t (.d (.str s)) (some (.d (.int .i64 k))) none = some (.d (.str (s.drop k.toNat)))) ∧
    ∀ j k : Int, 0 ≤ j → j ≤ k → k ≤ s.length → evSlice P t (.d (.str s)) (some (.d (.int .i64 j))) (some (.d (.int .i64 k))) = some (.d (.str ((s.take k.toNat).drop j.toNat))) := by
  obtain ⟨i, h1, h2⟩ := h
  refine ⟨fun k h3 h4 => ?_, fun k h3 h4 => ?_, fun j k h3 h4 h5 => ?_⟩
  · simp [evSlice, h1, h2, sb, PV.int?, h3, h4]
  · simp [evSlice, h1, h2, sb, PV.int?, h3, h4]
  · have h6 : 0 ≤ k := by omega
    have h7 : j ≤ (k.toNat : Int) := by omega
    simp only [evSlice, h1, h2, sb, PV.int?, h3, h5, h6, h7, and_self, if_true, Option.bind_some, Option.map_some]
theorem StrT.facts {P : Program} {t : Nat} (h : StrT P t) :
    (∀ (s : List UInt8) (k : Int), 0 ≤ k → k ≤ s.length → evSlice P t (.d (.str s)) none (some (.d (.int .i64 k))) = some (.d (.str (s.take k.toNat)))) ∧
    (∀ (s : List UInt8) (k : Int), 0 ≤ k → k ≤ s.length → evSlice P t (.d (.str s)) (some (.d (.int .i64 k))) none = some (.d (.str (s.drop k.toNat)))) ∧
    ∀ (s : List UInt8) (j k : Int), 0 ≤ j → j ≤ k → k ≤ s.length → evSlice P t (.d (.str s)) (some (.d (.int .i64 j))) (some (.d (.int .i64 k))) = some (.d (.str ((s.take k.toNat).drop j.toNat))) :=
  ⟨fun s => (h.sl s).1, fun s => (h.sl s).2.1, fun s => (h.sl s).2.2⟩
def SlT (P : Program) (t e sz by_ : Nat) : Prop := ∃ i te, tyi P t = some i ∧ i.el = some e ∧ tyi P e = some te ∧ te.sz = sz ∧ te.by_ = by_ ∧ te.zero.length = te.sz ∧ 0 < te.sz
theorem SlT.app {P : Program} {t e sz by_ : Nat} (h : SlT P t e sz by_) (l m : List PD) (x : PV) (hx : x.more = some (some sz, m)) (hb : (l.length + m.length) * (by_ + 1) ≤ 140737488355328) : evAppend P t (.own e sz l) x = some (.own e sz (l ++ m)) := by
  obtain ⟨i, te, h1, h2, h3, rfl, rfl, h6, h7⟩ := h
  simp [evAppend, PV.grow, hx, h1, h2, h3, h6, h7, hb]
theorem SlT.appn {P : Program} {t e sz by_ : Nat} (h : SlT P t e sz by_) (l : List PD) (hb : l.length * (by_ + 1) ≤ 140737488355328) : evAppend P t (.own e sz l) .nilS = some (.own e sz l) := by
  obtain ⟨i, te, h1, h2, h3, rfl, rfl, h6, h7⟩ := h
  simp [evAppend, PV.grow, PV.more, h1, h2, h3, h6, h7, hb]
theorem SlT.build0 {P : Program} {t e sz by_ : Nat} (h : SlT P t e sz by_) : evBuildSlice P t 0 [] = some (.own e sz []) := by
  obtain ⟨i, te, h1, h2, h3, rfl, rfl, h6, h7⟩ := h
  simp [evBuildSlice, h1, h2, h3, h6, pdAll]
theorem SlT.build1 {P : Program} {t e sz by_ : Nat} (h : SlT P t e sz by_) (x : PV) (y : PD) (hx : x.pd = some y) (hy : y.cells.length = sz) (hs : sz ≤ 16777216) : evBuildSlice P t 1 [(0, x)] = some (.own e sz [y]) := by
  obtain ⟨i, te, h1, h2, h3, rfl, rfl, h6, h7⟩ := h
  simp [evBuildSlice, h1, h2, h3, h6, pdAll, hx, hy, hs]
theorem SlT.hi {P : Program} {t e sz by_ : Nat} (h : SlT P t e sz by_) (l : List PD) (x : PV) (hx : x.list = some (sz, l)) (hs : ∀ s, x ≠ .d (.str s)) (k : Nat) (hk : k ≤ l.length) : evSlice P t x none (some (.int k)) = some (.d (.sl sz (l.take k))) := by
  obtain ⟨i, te, h1, h2, h3, rfl, rfl, h6, h7⟩ := h
  have : evSlice P t x none (some (.int k)) = x.list.bind fun s => (tyi P t).bind fun i => i.el.bind fun e => (tyi P e).bind fun te => if te.sz = s.1 then (sb none (some (.int k)) s.2.length).map fun q => .d (.sl s.1 ((s.2.take q.2).drop q.1)) else none := by
    unfold evSlice
    split
    · simp [PV.list] at hx
    · rename_i s; exact absurd rfl (hs s)
    · rfl
  rw [this, hx]
  simp [h1, h2, h3, sb, PV.int?, hk]
theorem SlT.lo {P : Program} {t e sz by_ : Nat} (h : SlT P t e sz by_) (l : List PD) (x : PV) (hx : x.list = some (sz, l)) (hs : ∀ s, x ≠ .d (.str s)) (k : Nat) (hk : k ≤ l.length) : evSlice P t x (some (.int k)) none = some (.d (.sl sz (l.drop k))) := by
  obtain ⟨i, te, h1, h2, h3, rfl, rfl, h6, h7⟩ := h
  have : evSlice P t x (some (.int k)) none = x.list.bind fun s => (tyi P t).bind fun i => i.el.bind fun e => (tyi P e).bind fun te => if te.sz = s.1 then (sb (some (.int k)) none s.2.length).map fun q => .d (.sl s.1 ((s.2.take q.2).drop q.1)) else none := by
    unfold evSlice
    split
    · simp [PV.list] at hx
    · rename_i s; exact absurd rfl (hs s)
    · rfl
  rw [this, hx]
  simp [h1, h2, h3, sb, PV.int?, hk]
theorem SlT.full {P : Program} {t e sz by_ : Nat} (h : SlT P t e sz by_) (b : BN) (e' n : Nat) (k : Int) (hk : k = (n : Int)) : evSlice P t (.rsl b e' sz n) none (some (.d (.int .i64 k))) = some (.rsl b e' sz n) := by
  subst hk
  obtain ⟨i, te, h1, h2, h3, rfl, rfl, h6, h7⟩ := h
  simp [evSlice, evSliceR, h1, h2, h3, sb, PV.int?]
theorem SlT.facts {P : Program} {t e sz by_ : Nat} (h : SlT P t e sz by_) :
  (∀ l m : List PD, (l.length + m.length) * (by_ + 1) ≤ 140737488355328 → evAppend P t (.own e sz l) (.d (.sl sz m)) = some (.own e sz (l ++ m))) ∧
  (∀ l m : List PD, (l.length + m.length) * (by_ + 1) ≤ 140737488355328 → evAppend P t (.own e sz l) (.own e sz m) = some (.own e sz (l ++ m))) ∧
  (∀ l m : List PD, (l.length + m.length) * (by_ + 1) ≤ 140737488355328 → evAppend P t (.own e sz l) (.nn sz m) = some (.own e sz (l ++ m))) ∧
  (∀ l : List PD, l.length * (by_ + 1) ≤ 140737488355328 → evAppend P t (.own e sz l) .nilS = some (.own e sz l)) ∧
  evBuildSlice P t 0 [] = some (.own e sz []) ∧
  (∀ (l : List PD) (k : Nat), k ≤ l.length → evSlice P t (.d (.sl sz l)) none (some (.d (.int .i64 k))) = some (.d (.sl sz (l.take k)))) ∧
  (∀ (l : List PD) (k : Nat), k ≤ l.length → evSlice P t (.d (.sl sz l)) (some (.d (.int .i64 k))) none = some (.d (.sl sz (l.drop k)))) ∧
  (∀ (l : List PD) (k : Nat), k + 1 ≤ l.length → evSlice P t (.d (.sl sz l)) (some (.d (.int .i64 ((k : Int) + 1)))) none = some (.d (.sl sz (l.drop (k + 1))))) ∧
  (∀ (b : BN) (e' n : Nat) (k : Int), k = (n : Int) → evSlice P t (.rsl b e' sz n) none (some (.d (.int .i64 k))) = some (.rsl b e' sz n)) :=
  ⟨fun l m hb => h.app l m _ rfl hb, fun l m hb => h.app l m _ rfl hb, fun l m hb => h.app l m _ rfl hb, fun l hb => h.appn l hb, h.build0, fun l k hk => h.hi l _ rfl (fun s e => by cases e) k hk, fun l k hk => h.lo l _ rfl (fun s e => by cases e) k hk, fun l k hk => h.lo l _ rfl (fun s e => by cases e) (k + 1) hk, fun b e' n k hk => h.full b e' n k hk⟩
end Go.Bee.Ty


namespace Go.Bee
open Go.Sort Go.Shelf Go.Proofs
set_option linter.unusedVariables false

theorem own_block {G : Gh} {w : World} {p : Pos} {e sz : Nat} {l : List PD} {v : Value} (h : OwnAt G w p e sz l v) (hl : l ≠ []) :
    ∃ g o c, v = .slice (some ⟨g, o, none⟩) l.length c ∧ l.length ≤ c ∧ RepRun G.im w g o (flat l) ∧ G.own g = some p ∧ ∃ cs e', w.heap[g]? = some (.cells cs e' (0, 0)) := by
  obtain ⟨hd, hw⟩ := h
  rcases hd.sl_shape with ⟨h1, -⟩ | ⟨g, o, c, rfl, h2, h3, h4⟩ | ⟨h1, -⟩
  · exact absurd h1 hl
  rotate_left
  · exact absurd h1 hl
  refine ⟨g, o, c, rfl, h2, h4, ?_⟩
  rcases hw with ⟨h5, h6⟩ | ⟨vs, h5, h6, h7⟩
  · exact h6 hl g rfl
  · refine ⟨(h7 g rfl).1, ?_⟩
    rcases h5.2 with hn | ⟨g', cap, cur, hv, hb, hgg, rest⟩
    · simp at hn
    · simp only [Value.slice.injEq, Option.some.injEq, Addr.mk.injEq] at hv
      rw [hv.1.1]
      exact ⟨cur, e, hgg⟩

structure Redo (P : Program) (g : Nat) (f : List (List UInt8) → List (List UInt8)) : Prop where
  fn : isFn P g = true
  nil : f [] = []
  empty : ∀ (w : World) (b : Option Addr) (c : Nat), Calls P g #[.slice b 0 c] w fun e w' => e = .returned (.slice b 0 c) ∧ w'.heap = w.heap ∧ w'.os = w.os ∧ w'.tape = w.tape ∧ w'.output = w.output
  full : ∀ (w : World) (blk off c : Nat) (zs : List (List UInt8)), zs ≠ [] → Holds encStr w blk off zs.toArray → blk < w.heap.size → zs.length ≤ c → zs.length ≤ 140737488355328 →
    Calls P g #[.slice (some ⟨blk, off, none⟩) zs.length c] w fun e w' => ∃ c', e = .returned (.slice (some ⟨blk, off, none⟩) (f zs).length c') ∧ (f zs).length ≤ c' ∧ (∀ (i : Nat) s, (f zs)[i]? = some s → w'.cell? ⟨blk, off + i, none⟩ = some (encStr s)) ∧
      (∀ k, k < w.heap.size → k ≠ blk → w'.heap[k]? = w.heap[k]?) ∧ w.heap.size ≤ w'.heap.size ∧ w'.os = w.os ∧ w'.tape = w.tape ∧ w'.output = w.output ∧ (f zs).length ≤ zs.length ∧ ∀ s ∈ f zs, s ∈ zs

theorem flat_str (zs : List (List UInt8)) : flat (zs.map .str) = zs.map .str := by
  induction zs with
  | nil => rfl
  | cons a l ih => rw [List.map_cons]; unfold flat at ih ⊢; rw [List.flatMap_cons, ih]; rfl

theorem bxOf_nil' (b : BN) : bxOf [] b = none := by cases b <;> simp [bxOf]
def only (u : Nat) (x : PV) : St := ⟨fun t => if t = u then x else .junk, fun _ => none⟩

theorem redo_call {P : Program} {F : Fr} {G : Gh} {st : St} {a : Act} {w : World} (h : Rel P F G st a w) (hWr : ∀ g, ¬ F.Wr g) (hZ : ∀ g, ¬ F.Z g) (hS : ∀ g o, F.S0 g o → g < F.w0.heap.size) {g : Nat} {f : List (List UInt8) → List (List UInt8)} (hg : Redo P g f)
    {s v e : Nat} {zs : List (List UInt8)} (hs : st.tm s = .own e 1 (zs.map .str)) (hv : v < F.nt) {o : Oper} {ts : Array TypeId} (ho : o.op = .call ⟨.value (.func g), #[.tmp s], ts⟩) (hod : o.dst = some v)
    {K : Act → World → Prop} {Q : Exit → Act → World → Prop} (hK : ∀ a' w' G', Rel P F G' (only v (.d (.sl 1 ((f zs).map .str)))) a' w' → K a' w') : o.wp P a w K Q := by
  have hrs := h.tm s
  rw [hs] at hrs
  generalize hu : a.tmps.getD s undef = u at hrs
  have hown : OwnAt G w (.t s, 0, 0) e 1 (zs.map .str) u := hrs
  have hrunX : (execOp a.eval o).run P w = .ok (.enter g #[u]) w := by
    have := run_callFunc hg.fn #[u] w
    simp [execOp, ho, resolve, Deferred.ofValue, invoke, Act.eval, hu]
    simpa [Act.eval] using this
  -- what remains to be shown of the end
  have fin : ∀ (r : Value) (w' : World) (im' : Nat → Nat → Prop), RepD im' w' (.sl 1 ((f zs).map .str)) r → (∀ b o, F.S0 b o → im' b o) → (∀ b o, im' b o → F.S0 b o ∨ (F.w0.heap.size ≤ b ∧ b < w'.heap.size)) →
      w.heap.size ≤ w'.heap.size → (∀ k, k < F.w0.heap.size → w'.heap[k]? = w.heap[k]?) → w'.os = w.os → w'.tape = w.tape → w'.output = w.output → K (a.put o.dst r) w' := by
    intro r w' im' hr h1 h2 h3 h4 h5 h6 h7
    have hx := h.sn.ext
    let G' : Gh := { im := im', β := G.β, live := fun _ => False, own := fun _ => none, fz := fun g => g < F.w0.heap.size }
    refine hK _ w' G' ⟨fun t => ?_, ⟨fun b cells hc => (by cases hc), fun b => (by simp [only, G']), fun b b' hl => hl.elim, fun b o hb => ?_, fun b p hp => (by cases hp), fun b hl => hl.elim, fun b hl => hl.elim⟩,
      ⟨⟨h5.trans hx.os, h6.trans hx.tape, h7.trans hx.output, Nat.le_trans hx.size h3, fun b hb hn => (h4 b hb).trans (hx.old b hb hn), fun b o hb => ⟨h1 b o hb, ?_⟩, fun b o hb => ?_⟩, fun b p hp => (by cases hp), fun b hl => hl.elim, h.sn.βa, fun b hb => ⟨hb, hWr b⟩, fun b h1 _ => h1⟩, ?_, ?_, fun g hg => absurd hg (hZ g), h.tab.mono (fun g hg => h4 g (h.sn.fz g hg).1) (fun g hg _ => (h.sn.fz g hg).1)⟩
    · rw [hod]
      by_cases ht : t = v
      · subst ht
        have e1 : ((a.put (some t) r).tmps).getD t undef = r := by
          simp [Act.put, Array.getD_eq_getD_getElem?, h.nt, hv]
        rw [e1]
        show RepT P G' w' (.t t) (if t = t then _ else _) r
        rw [if_pos rfl]
        exact ⟨hr, rfl⟩
      · show RepT P G' w' (.t t) (if t = v then _ else .junk) _
        rw [if_neg ht]
        trivial
    · rcases h2 b o hb with h | h
      · exact Nat.lt_of_lt_of_le (hS b o h) (Nat.le_trans hx.size h3)
      · exact h.2
    · have hb' := hS b o hb
      have : w'.heap[b]? = F.w0.heap[b]? := (h4 b hb').trans (hx.old b hb' (hWr b))
      unfold World.cell?
      simp only [this]
    · rcases h2 b o hb with h | h
      · exact .inl h
      · exact .inr (.inl h.1)
    · rw [hod]; simp [Act.put, h.nt]
    · rw [hod]; exact h.defers
  unfold Oper.wp
  rw [hrunX]
  have hx := h.sn.ext
  by_cases hz : zs = []
  · subst hz
    have hsh : ∃ b c, u = .slice b 0 c ∧ (b = none → c = 0) := by
      rcases hown.1.sl_shape with ⟨-, h2⟩ | ⟨b, o, c, h2, -⟩ | ⟨-, a, c, h2⟩
      · exact ⟨none, 0, h2, fun _ => rfl⟩
      · exact ⟨_, c, h2, fun e => by cases e⟩
      · exact ⟨_, c, h2, fun e => by cases e⟩
    obtain ⟨b, c, rfl, hbc⟩ := hsh
    refine Calls.mono (hg.empty w b c) ?_
    rintro e' w' ⟨rfl, h1, h2, h3, h4⟩
    refine fin _ w' F.S0 ?_ (fun _ _ h => h) (fun _ _ h => .inl h) (by rw [h1]; exact Nat.le_refl _) (fun k _ => by rw [h1]) h2 h3 h4
    rw [hg.nil]
    rcases hown.1.sl_shape with ⟨-, h2⟩ | ⟨b', o', c', h2, h5, h6, h7⟩ | ⟨-, a', c', h2⟩
    · rw [h2]; exact .nil 1
    rotate_left
    · rw [h2]; exact .emp 1 a' c'
    · rw [h2]
      refine .sl 1 [] b' o' c' [] (by simp) (by simp) (by simp) (by simp [flat]) rfl (fun i v hv => by simp at hv) (fun i x v hx hv => by simp at hv)
  · obtain ⟨blk, off, c, rfl, h2, ⟨vs, k1, k2, k3, k4⟩, h4, cs, e', h5⟩ := own_block hown (by simpa using hz)
    rw [flat_str] at k1 k2 k4
    simp only [List.length_map] at h2 k1
    have hblk : blk < w.heap.size := h.hp.ownlt blk _ h4
    have hfresh : F.w0.heap.size ≤ blk := (h.sn.own blk _ h4).resolve_right (hWr blk)
    have hlen : zs.length ≤ 140737488355328 := by simpa using hown.1.len
    have hcell : ∀ (i : Nat) s, zs[i]? = some s → w.cell? ⟨blk, off + i, none⟩ = some (encStr s) ∧ s.length ≤ 140737488355328 := by
      intro i s hi
      have hlt : i < vs.length := by rw [k1]; exact (List.getElem?_eq_some_iff.1 hi).1
      obtain ⟨m1, m2⟩ := k3 i vs[i] (List.getElem?_eq_getElem hlt)
      have m3 := k4 i (.str s) vs[i] (by rw [List.getElem?_map, hi]; rfl) (List.getElem?_eq_getElem hlt)
      rw [m2]
      generalize vs[i] = y at m3
      cases m3 with
      | str _ hb => exact ⟨rfl, hb⟩
    have hH : Holds encStr w blk off zs.toArray := by
      intro j hj
      have hj' : j < zs.length := by simpa using hj
      have e1 : zs.toArray[j]! = zs[j] := by rw [getElem!_pos _ j (by simpa using hj')]; simp
      refine ⟨by rw [e1]; exact (hcell j zs[j] (List.getElem?_eq_getElem hj')).1, by simp [World.frozen?, h5]⟩
    have hc := hg.full w blk off c zs hz hH hblk h2 hlen
    simp only [List.length_map]
    refine Calls.mono hc ?_
    rintro e1 w' ⟨c', rfl, q1, q2, q3, q4, q5, q6, q7, q8, q9⟩
    refine fin _ w' (fun b o => F.S0 b o ∨ (b = blk ∧ off ≤ o ∧ o < off + (f zs).length)) ?_ (fun _ _ h => .inl h) (fun b o hb => hb.imp id (fun ⟨e, _⟩ => e ▸ ⟨hfresh, Nat.lt_of_lt_of_le hblk q4⟩)) q4 (fun k hk => q3 k (Nat.lt_of_lt_of_le hk hx.size) (by omega)) q5 q6 q7
    have e2 : (f zs).length = ((f zs).map PD.str).length := by simp
    rw [e2]
    refine .sl 1 ((f zs).map .str) blk off c' ((f zs).map encStr) (by simp; omega) (by simpa using q1) (fun x hx => by obtain ⟨s, -, rfl⟩ := List.mem_map.1 hx; rfl) (fun x hx => ?_) (by rw [flat_str]; simp) (fun i v hv => ?_) (fun i x v hx hv => ?_)
    · rw [flat_str] at hx; obtain ⟨s, -, rfl⟩ := List.mem_map.1 hx; rfl
    · rw [List.getElem?_map] at hv
      obtain ⟨s, hs', rfl⟩ := Option.map_eq_some_iff.1 hv
      have hlt := (List.getElem?_eq_some_iff.1 hs').1
      exact ⟨.inr ⟨rfl, by omega, by omega⟩, q2 i s hs'⟩
    · rw [flat_str, List.getElem?_map] at hx
      rw [List.getElem?_map] at hv
      obtain ⟨s, hs', rfl⟩ := Option.map_eq_some_iff.1 hv
      rw [hs'] at hx
      cases hx
      have hm := q9 s (List.mem_of_getElem? hs')
      obtain ⟨j, hj⟩ := List.getElem?_of_mem hm
      exact .str s (hcell j s hj).2

theorem body_calls {P : Program} {f : Nat} {fn : Func} {c : Code} (hf : P.funcs[f]? = some fn) (hb : fn.body = some c) {rs : List ResultVar} (hrs : fn.results = rs.toArray)
    {bi bo : List (List PV)} {args : List PV} {r : PV} (ha : args.length ≤ fn.ntmps) {Q : Ex → St → Prop} (hQn : ∀ s, Q .normal s → wk P (retK P rs r bo) s) (hQr : ∀ s, Q .ret s → wk P (retK P rs r bo) s) (hQe : ∀ i s, Q (.exit i) s → False)
    (G : Gh) (w : World) (vs : Array Value) (Wr : Nat → Prop) (hvs : vs.size = args.length) (hargs : ∀ (i : Nat) x u, args[i]? = some x → vs[i]? = some u → RepT P G w (.t i) x u) (hp : Hp P G w (bxOf bi))
    (hown : ∀ g p, G.own g = some p → Wr g) (hbox : ∀ b, G.live b → Wr (G.β b)) (hfz : ∀ g, G.fz g → g < w.heap.size ∧ ¬ Wr g) (hfm : ∀ g, g < w.heap.size → ¬ Wr g → G.fz g) (htb : TabOk P G.fz w)
    (hsem : ∀ F : Fr, F.nt = fn.ntmps → F.S0 = G.im → F.w0 = w → F.Wr = Wr → (∀ g, ¬ F.Z g) → ∀ a, Rel P F G (St.init args bi) a w → c.wp P (lift P F Q) a w) :
    Calls P f vs w fun e w' => ∃ v G', e = .returned v ∧ RepT P G' w' .res r v ∧ Hp P G' w' (bxOf bo) ∧ Ext G.im w G'.im w' Wr ∧ (∀ k, G'.β (.a k) = G.β (.a k)) ∧ (∀ g p, G'.own g = some p → w.heap.size ≤ g ∨ Wr g) := by
  have hrs' : fn.results.toList = rs := by rw [hrs]
  rw [← hrs'] at hQn hQr
  let F : Fr := ⟨fn.ntmps, G.im, w, Wr, fun k => G.β (.a k), fun _ => False⟩
  have hsz : (vs ++ Array.replicate (fn.ntmps - vs.size) undef).size = fn.ntmps := by simp; omega
  have hrel : Rel P F G (St.init args bi) { tmps := vs ++ Array.replicate (fn.ntmps - vs.size) undef, defers := [] } w := by
    refine ⟨fun t => ?_, hp, ⟨Ext.refl _ _ _, fun g p hg => .inr (hown g p hg), fun b hl => .inr (hbox b hl), fun k => rfl, hfz, hfm⟩, hsz, rfl, fun g hg => hg.elim, htb⟩
    by_cases ht : t < args.length
    · have h1 : args[t]? = some args[t] := List.getElem?_eq_getElem ht
      have h2 : vs[t]? = some vs[t] := Array.getElem?_eq_getElem (by omega)
      have h3 : (vs ++ Array.replicate (fn.ntmps - vs.size) undef).getD t undef = vs[t] := by
        rw [Array.getD_eq_getD_getElem?, Array.getElem?_append_left (by omega), h2]; rfl
      have h4 : (St.init args bi).tm t = args[t] := by simp [St.init, h1]
      show RepT P G w (.t t) ((St.init args bi).tm t) ((vs ++ Array.replicate (fn.ntmps - vs.size) undef).getD t undef)
      rw [h3, h4]
      exact hargs t _ _ h1 h2
    · have h4 : (St.init args bi).tm t = .und := by simp [St.init, List.getElem?_eq_none (Nat.le_of_not_lt ht)]
      show RepT P G w (.t t) ((St.init args bi).tm t) ((vs ++ Array.replicate (fn.ntmps - vs.size) undef).getD t undef)
      rw [h4]
      show (vs ++ Array.replicate (fn.ntmps - vs.size) undef).getD t undef = undef
      rw [Array.getD_eq_getD_getElem?, Array.getElem?_append_right (by omega)]
      by_cases h5 : t - vs.size < fn.ntmps - vs.size
      · simp [h5]
      · simp [h5]
  refine calls_of_wp hf hb ?_
  refine wp_mono (hsem F rfl rfl rfl rfl (fun _ h => h) _ hrel) fun e a' w' he => ?_
  have hend : ∀ G1 s, Rel P F G1 s a' w' → wk P (retK P fn.results.toList r bo) s → a'.defers = [] ∧ ∃ v, (results fn a'.tmps).run P w' = .ok v w' ∧
      ∃ v' G', Ending.returned v = .returned v' ∧ RepT P G' w' .res r v' ∧ Hp P G' w' (bxOf bo) ∧ Ext G.im w G'.im w' Wr ∧ (∀ k, G'.β (.a k) = G.β (.a k)) ∧ ∀ g p, G'.own g = some p → w.heap.size ≤ g ∨ Wr g := by
    rintro G0 s0 hR0 ⟨s, hw, hk⟩
    obtain ⟨G1, hR⟩ := hw F G0 a' w' hR0
    obtain ⟨v, G', h1, h2, h3, h4, h5, h6⟩ := ret_sound hR hk
    refine ⟨hR.defers, v, h1, v, G', rfl, h2, h3, by rw [h4]; exact hR.sn.ext, fun k => by rw [h5 k]; exact hR.sn.βa k, fun g p hg => ?_⟩
    obtain ⟨q, hq⟩ := h6 g p hg
    exact hR.sn.own g q hq
  cases e with
  | normal => obtain ⟨G1, s, hR, hk⟩ := he; exact hend G1 s hR (hQn s hk)
  | ret => obtain ⟨G1, s, hR, hk⟩ := he; exact hend G1 s hR (hQr s hk)
  | exit id => obtain ⟨G1, s, hR, hk⟩ := he; exact (hQe id s hk).elim
  | goto l => exact he.elim
  | panic c => exact he.elim
  | outgrown => exact he.elim

def plainArg : PV → Bool
  | .d _ => true
  | .agg l => l.all fun | .d _ => true | _ => false
  | _ => false
theorem BRet.pure {P : Program} {f : Nat} {args : List PV} {r : PV} (hf : isFn P f = true) (hpl : args.all plainArg = true)
    (h : ∀ (G : Gh) (w : World) (vs : Array Value), vs.size = args.length → (∀ (i : Nat) x u, args[i]? = some x → vs[i]? = some u → RepT P G w (.t i) x u) → Hp P G w (bxOf []) → (∀ g, G.own g = none) → (∀ b, ¬ G.live b) → (∀ g, G.fz g ↔ g < w.heap.size) → TabOk P G.fz w →
      Calls P f vs w fun e w' => ∃ v G', e = .returned v ∧ RepT P G' w' .res r v ∧ Hp P G' w' (bxOf []) ∧ Ext G.im w G'.im w' (fun _ => False) ∧ (∀ k, G'.β (.a k) = G.β (.a k)) ∧ (∀ g p, G'.own g = some p → w.heap.size ≤ g ∨ False)) : BRet P f [] args r [] := by
  refine ⟨hf, rfl, fun G w vs Wr hvs hargs hp hown hbox hfz hfm htb => ?_⟩
  let G0 : Gh := { im := G.im, β := G.β, live := fun _ => False, own := fun _ => none, fz := fun g => g < w.heap.size }
  refine Calls.mono (h G0 w vs hvs (fun i x u hx hu => ?_) ⟨fun b cells hc => (by simp [bxOf_nil'] at hc), fun b => (by simp [bxOf_nil', G0]), fun b b' hl => hl.elim, hp.imlt, fun g p hg => (by cases hg), fun b hl => hl.elim, fun b hl => hl.elim⟩ (fun _ => rfl) (fun _ hl => hl) (fun _ => Iff.rfl) (htb.mono (fun _ _ => rfl) (fun g _ h => h))) ?_
  · have hr := hargs i x u hx hu
    have hpx := List.all_eq_true.1 hpl x (List.mem_of_getElem? hx)
    cases x with
    | d y => exact hr
    | agg l =>
      obtain ⟨cs, h1, h2, h3, h4⟩ := hr
      refine ⟨cs, h1, h2, h3, fun j y u hy hu => ?_⟩
      have h5 := h4 j y u hy hu
      have h6 := List.all_eq_true.1 hpx y (List.mem_of_getElem? hy)
      cases y <;> first | exact h5 | simp at h6
    | _ => simp [plainArg] at hpx
  · rintro e w' ⟨v, G', h1, h2, h3, h4, h5, h6⟩
    refine ⟨v, G', h1, h2, h3, ⟨h4.os, h4.tape, h4.output, h4.size, fun b hb _ => h4.old b hb id, h4.keep, fun b o hb => ?_⟩, h5, fun g p hg => (h6 g p hg).imp id False.elim, fun g hg => ?_⟩
    rotate_left
    · have hsame := h4.old g hg.lt id
      refine ⟨.of_heap hsame, by rw [hsame]; exact hg.1, ?_, fun o ho => ?_⟩
      · cases hcase : G'.own g with
        | none => rfl
        | some p =>
          have := hg.lt
          rcases h6 g p hcase with h | h
          · omega
          · exact h.elim
      · have := hg.lt
        rcases h4.new g o ho with h | h | h
        · exact hg.2.2.2.1 o h
        · omega
        · exact h
    rcases h4.new b o hb with h | h | h
    · exact .inl h
    · exact .inr (.inl h)
    · exact h.elim

def plug : Nat → Code → Code → Code
  | n + 1, .seq a b, X => .seq a (plug n b X)
  | _, c, X => .seq c X
def cutN : Nat → Code → Code
  | 0, .seq a b => a
  | n + 1, .seq a b => .seq a (cutN n b)
  | _, c => c
theorem plug_one {P : Program} {H : Nat → List Nat} {F : Fr} (hm : P.follows .mixedOrders = true) {X : Code} {Q : Ex → St → Prop} {Q' : Exit → Act → World → Prop} (hn : ∀ G s a w, Rel P F G s a w → Q .normal s → X.wp P Q' a w)
    (hr : ∀ G s a w, Rel P F G s a w → Q .ret s → Q' .ret a w) (hx : ∀ i s, Q (.exit i) s → False) (c : Code) (G : Gh) (st : St) (a : Act) (w : World) (hd : cOk P H F.nt c = true) (h : bwp P H c Q st) (hR : Rel P F G st a w) : (Code.seq c X).wp P Q' a w := by
  refine wp_seq ?_
  refine wp_mono (bwp_sound hm c _ G st a w hd h hR) fun e a' w' he => ?_
  cases e with
  | normal => obtain ⟨G', s', h', hq⟩ := he; exact hn G' s' a' w' h' hq
  | exit id => obtain ⟨G', s', h', hq⟩ := he; exact (hx id s' hq).elim
  | ret => obtain ⟨G', s', h', hq⟩ := he; exact hr G' s' a' w' h' hq
  | goto l => exact he.elim
  | panic c => exact he.elim
  | outgrown => exact he.elim
theorem plug_sound {P : Program} {H : Nat → List Nat} {F : Fr} (hm : P.follows .mixedOrders = true) {X : Code} {Q : Ex → St → Prop} {Q' : Exit → Act → World → Prop} (hn : ∀ G s a w, Rel P F G s a w → Q .normal s → X.wp P Q' a w)
    (hr : ∀ G s a w, Rel P F G s a w → Q .ret s → Q' .ret a w) (hx : ∀ i s, Q (.exit i) s → False) : ∀ (n : Nat) (c : Code) (G : Gh) (st : St) (a : Act) (w : World), cOk P H F.nt c = true → bwp P H c Q st → Rel P F G st a w → (plug n c X).wp P Q' a w := by
  intro n
  induction n with
  | zero => exact fun c G st a w hd h hR => plug_one hm hn hr hx c G st a w hd h hR
  | succ n ih =>
    intro c G st a w hd h hR
    cases c with
    | seq x y =>
      simp only [cOk, Bool.and_eq_true] at hd
      refine wp_seq ?_
      refine wp_mono (bwp_sound hm x _ G st a w hd.1 h hR) fun e a' w' he => ?_
      cases e with
      | normal => obtain ⟨G', s', h', hq⟩ := he; exact ih y G' s' a' w' hd.2 hq h'
      | exit id => obtain ⟨G', s', h', hq⟩ := he; exact (hx id s' hq).elim
      | ret => obtain ⟨G', s', h', hq⟩ := he; exact hr G' s' a' w' h' hq
      | goto l => exact he.elim
      | panic c => exact he.elim
      | outgrown => exact he.elim
    | _ => exact plug_one hm hn hr hx _ G st a w hd h hR

def tailQ (s e : Nat) (zs : List (List UInt8)) : Ex → St → Prop
  | .normal => fun st => st.tm s = .own e 1 (zs.map .str)
  | _ => fun _ => False
theorem BRet.tail {P : Program} (H : Nat → List Nat) (hm : P.follows .mixedOrders = true) {f : Nat} {fn : Func} (n : Nat) {A c : Code} (hf : P.funcs[f]? = some fn) {id s u v r g : Nat} {ts : Array TypeId} {ty0 ty1 ty2 : TypeId} {p0 p1 p2 : String} {a0 a1 a2 : Array Edge}
    (hb : fn.body = some c) (hcut : cutN n c = A) (hplug : c = plug n A (.seq (.region id #[⟨some u, .move (.tmp s), ty0, p0, a0, none⟩, ⟨some v, .call ⟨.value (.func g), #[.tmp u], ts⟩, ty1, p1, a1, none⟩, ⟨some r, .assign (.tmp v), ty2, p2, a2, none⟩] false) .ret))
    (hn : (fn.name != "runtime.NumGoroutine") = true) (hd : cOk P H fn.ntmps A = true) (hrs : fn.results = #[.tmp r]) {args : List PV} (ha : args.length ≤ fn.ntmps) (hpl : args.all plainArg = true) (hu : u < fn.ntmps) (hv : v < fn.ntmps) (hr : r < fn.ntmps)
    {f' : List (List UInt8) → List (List UInt8)} (hg : Redo P g f') {e : Nat} {zs : List (List UInt8)} (hA : bwp P H A (tailQ s e zs) (St.init args [])) : BRet P f [] args (.d (.sl 1 ((f' zs).map .str))) [] := by
  refine BRet.pure (by simp [isFn, hf, hb, hn]) hpl fun G w vs hvs hargs hp hown hlive hfz htb => ?_
  refine body_calls hf hb (rs := [.tmp r]) hrs ha (Q := endW P [.tmp r] (.d (.sl 1 ((f' zs).map .str))) []) (fun s hs => hs) (fun s hs => hs) (fun i s hs => hs) G w vs (fun _ => False) hvs hargs hp (fun g p hg => by rw [hown g] at hg; cases hg) (fun b hl => (hlive b hl)) (fun g hg => ⟨(hfz g).1 hg, fun h => h⟩) (fun g h1 _ => (hfz g).2 h1) htb ?_
  intro F hF1 hF2 hF3 hF4 hF5 a hR
  rw [hplug]
  refine plug_sound (Q := tailQ s e zs) hm (fun G1 s1 a1 w1 h1 hq => ?_) (fun G1 s1 a1 w1 h1 hq => hq.elim) (fun i s1 hq => hq) n A G _ a w (by rw [hF1]; exact hd) hA hR
  refine wp_seq ?_
  refine wp_region ?_
  have hlow : ∀ g o, F.S0 g o → g < F.w0.heap.size := by rw [hF2, hF3]; exact hp.imlt
  have hWr : ∀ g, ¬ F.Wr g := by rw [hF4]; exact fun _ h => h
  show wpOps P _ _ [0, 1, 2] a1 w1
  rw [wpOps_cons]
  unfold wpOp
  simp only [List.getElem?_toArray, List.getElem?_cons_zero, Region.wanted, if_true]
  have hq' : s1.tm s = .own e 1 (zs.map .str) := hq
  refine .inl (ev1_sound h1 (fl := ⟨true, true, true⟩) (v := .own e 1 (zs.map .str)) (B' := s1.bx) (fun d' hd' => by cases hd'; rw [hF1]; exact hu) (by simp [ev1, mvd, St.ev, hq', vz]) ?_)
  rintro a2 w2 ⟨G2, h2⟩
  rw [wpOps_cons]
  unfold wpOp
  simp only [List.getElem?_toArray, List.getElem?_cons_succ, List.getElem?_cons_zero, Region.wanted, if_true]
  refine .inl (redo_call h2 hWr hF5 hlow hg (s := u) (v := v) (e := e) (zs := zs) (by simp [St.after, St.upd]) (by rw [hF1]; exact hv) rfl rfl ?_)
  intro a3 w3 G3 h3
  rw [wpOps_cons]
  unfold wpOp
  simp only [List.getElem?_toArray, List.getElem?_cons_succ, List.getElem?_cons_zero, Region.wanted, if_true]
  refine .inl (ev1_sound h3 (fl := ⟨true, true, true⟩) (v := .d (.sl 1 ((f' zs).map .str))) (B' := fun _ => none) (fun d' hd' => by cases hd'; rw [hF1]; exact hr) (by simp [ev1, mvd, St.ev, only, vz]) ?_)
  rintro a4 w4 ⟨G4, h4⟩
  refine wp_ret ⟨G4, _, h4, _, Weak.refl _, ?_⟩
  rw [ret_1]
  refine ⟨?_, ?_, ?_⟩ <;> simp [St.after, St.upd, PV.gives2, PV.gives1, PV.pass1, only]

end Go.Bee

