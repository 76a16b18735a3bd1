/-
A call's step. No condition.
-/
import Derived.Test.YtkgjplamdmakpaaGreatDoorBeeL
namespace Go.Bee
set_option linter.unusedVariables false

inductive Pass (P : Program) (B : Bx) (mv : Bool) (nm : List BN) : PV → PV → Prop
  | val (x : PV) (h : x.passable = true) : Pass P B mv nm x (mvd mv x)
  | ptr (b : BN) (o k : Nat) (h : nm[k]? = some b) : Pass P B mv nm (.ptr b o) (.ptr (.a k) o)
  | rsv (b : BN) (sz n k : Nat) (h : nm[k]? = some b) : Pass P B mv nm (.rsv b sz n) (.rsv (.a k) sz n)
  | fn (f : Nat) (caps : List PV) (K : List PD → Option PD) (h : CloOK P B f caps K) (hn : ∀ b ∈ capAll B caps, b ∉ nm) : Pass P B mv nm (.clo f caps) (.fn K)

def Bx.setAll (B : Bx) : List BN → List (List PV) → Bx
  | b :: nm, c :: bo => Bx.set (Bx.setAll B nm bo) b c
  | _, _ => B
theorem Bx.setAll_not {B : Bx} : ∀ {nm : List BN} {bo : List (List PV)} {b : BN}, b ∉ nm → B.setAll nm bo b = B b
  | [], _, b, h => rfl
  | c :: nm, [], b, h => rfl
  | c :: nm, x :: bo, b, h => by
    simp only [List.mem_cons, not_or] at h
    simp only [Bx.setAll, Bx.set, h.1, if_false]
    exact Bx.setAll_not h.2
theorem Bx.setAll_get {B : Bx} : ∀ {nm : List BN} {bo : List (List PV)} {b : BN} {k : Nat}, nm.Nodup → bo.length = nm.length → nm[k]? = some b → B.setAll nm bo b = bo[k]?
  | [], _, b, k, _, _, h => by simp at h
  | c :: nm, [], b, k, _, hl, h => by simp at hl
  | c :: nm, x :: bo, b, 0, hn, hl, h => by
    simp at h; subst h
    simp [Bx.setAll, Bx.set]
  | c :: nm, x :: bo, b, k + 1, hn, hl, h => by
    simp only [List.getElem?_cons_succ] at h ⊢
    have hne : b ≠ c := by
      rintro rfl
      exact (List.nodup_cons.1 hn).1 (List.mem_of_getElem? h)
    simp only [Bx.setAll, Bx.set, hne, if_false]
    exact Bx.setAll_get (List.nodup_cons.1 hn).2 (by simpa using hl) h

theorem RepC.pstepB {P : Program} {G G' : Gh} {w w' : World} {kp : Pos → Pos → Prop} (h : PStep G w G' w' kp) {p : Pos} (q : Pos) {x : PV} {v : Value} (hx1 : x.pass1 = true) (hz : FzUp P G w G' w')
    (hx : RepC P G w p x v) : RepC P G' w' q x.bC v := by
  cases x <;> simp only [PV.pass1, Bool.false_eq_true] at hx1 <;> simp only [RepC, RepAt, PV.bC] at hx ⊢
  case d x => exact ⟨hx.1.keep h.keep, hx.2⟩
  case nilS => exact hx
  case nn sz l => exact ⟨hx.1.keep h.keep, hx.2⟩
  case own e sz l => exact ⟨(OwnAt.data hx).keep h.keep, rfl⟩
  case eptr cs => obtain ⟨g, o, hv, hr⟩ := hx; exact ⟨g, o, hv, hr.keep h.keep⟩
  case fn K => obtain ⟨h1, h2, h3⟩ := hz; exact (hx.keep h.keep h2 h3).fz h1
  case efn K => obtain ⟨h1, h2, h3⟩ := hz; obtain ⟨g, o, u, a1, a2, a3, a4⟩ := hx; exact ⟨g, o, u, a1, (h.keep g o a2).1, (h.keep g o a2).2.trans a3, (a4.keep h.keep h2 h3).fz h1⟩
  case dp x => exact ⟨hx.1.keep ((Mine.im G w p).trans h.keep), hx.2⟩
  case und => exact hx
theorem RepT.pstepB {P : Program} {G G' : Gh} {w w' : World} {kp : Pos → Pos → Prop} (h : PStep G w G' w' kp) {loc : Loc} (loc' : Loc) {x : PV} {v : Value} (hx1 : x.passable = true) (hz : FzUp P G w G' w')
    (hx : RepT P G w loc x v) : RepT P G' w' loc' x.bT v := by
  cases x
  case agg l =>
    obtain ⟨cs, hv, hl, h1, hr⟩ := hx
    refine ⟨cs, hv, by simpa using hl, h1, fun j y u hy hu => ?_⟩
    rw [List.getElem?_map] at hy
    obtain ⟨z, hz', rfl⟩ := Option.map_eq_some_iff.1 hy
    exact (hr j z u hz' hu).pstepB h _ (List.all_eq_true.1 hx1 z (List.mem_of_getElem? hz')) hz
  case tup l => simp [PV.passable, PV.pass1] at hx1
  case own e sz l =>
    exact RepC.toT (RepC.pstepB (P := P) (v := v) h (loc', 0, 0) (x := .own e sz l) (p := (loc, 0, 0)) rfl hz hx) loc' rfl
  all_goals
    simp only [PV.passable] at hx1
    exact RepC.toT (RepC.pstepB (P := P) (v := v) h (loc', 0, 0) hx1 hz (hx.toC (by simp) (by simp))) loc' rfl
theorem cpv_bT (v : Value) : (cpv v).bT = cpv v := by
  unfold cpv cpc
  repeat' split
  all_goals rfl
theorem RepAt.bT {G : Gh} {w : World} {x : PV} {v : Value} (h : RepAt G w x v) : x.bT = x := by
  cases x <;> first | rfl | exact absurd h (by simp [RepAt])
theorem RepAt.toT {P : Program} {G : Gh} {w : World} {x : PV} {v : Value} (h : RepAt G w x v) (loc : Loc) : RepT P G w loc x v := by
  cases x <;> first | exact h | exact absurd h (by simp [RepAt])

def isValCall (o : Oper) (X : Operand) (xs : List Operand) : Prop := ∃ ts, o.op = .call { callee := .value X, args := xs.toArray, argTypes := ts }

structure CallStep (P : Program) (fl : AF) (o : Oper) (st : St) (v : PV) (B' : Bx) (X : Operand) (xs : List Operand) (f : Nat) (caps ys : List PV) (nm : List BN) (bi bo : List (List PV)) : Prop where
  call : isValCall o X xs
  clo : st.ev X = .clo f caps
  len : ys.length = xs.length + caps.length
  pass : ∀ (i : Nat) x y, (xs.map st.ev ++ caps)[i]? = some x → ys[i]? = some y → Pass P (vz fl st.bx) fl.mv nm x y
  nodup : fl.mv = true → (tmpsOf xs).Nodup
  names : nm.Nodup
  bl : bi.length = nm.length
  bin : ∀ (k : Nat) b, nm[k]? = some b → vz fl st.bx b = bi[k]?
  bip : ∀ cells : List PV, cells ∈ bi → cells.all PV.pass1 = true
  bop : ∀ cells : List PV, cells ∈ bo → cells.all PV.gives1 = true
  gives : v.gives = true
  ret : BRet P f bi ys v bo
  be : nm ≠ [] → fl.be = true
  out : B' = Bx.setAll (vz fl st.bx) nm bo

theorem nodup_inj {α : Type} {l : List α} (h : l.Nodup) {i j : Nat} {x : α} (hi : l[i]? = some x) (hj : l[j]? = some x) : i = j := by
  induction l generalizing i j with
  | nil => simp at hi
  | cons y l ih =>
    obtain ⟨h1, h2⟩ := List.nodup_cons.1 h
    cases i with
    | zero =>
      simp at hi
      cases j with
      | zero => rfl
      | succ j => simp at hj; subst hi; exact absurd (List.mem_of_getElem? hj) h1
    | succ i =>
      simp at hi
      cases j with
      | zero => simp at hj; subst hj; exact absurd (List.mem_of_getElem? hi) h1
      | succ j => simp at hj; rw [ih h2 hi hj]
theorem tmpsOf_get {xs : List Operand} (h : (tmpsOf xs).Nodup) {i j s : Nat} (hi : xs[i]? = some (.tmp s)) (hj : xs[j]? = some (.tmp s)) : i = j := by
  induction xs generalizing i j with
  | nil => simp at hi
  | cons x xs ih =>
    have hcons : ∀ t, x = .tmp t → tmpsOf (x :: xs) = t :: tmpsOf xs := by rintro t rfl; rfl
    cases i with
    | zero =>
      simp at hi
      cases j with
      | zero => rfl
      | succ j =>
        simp at hj
        rw [hcons s hi] at h
        exact absurd (mem_tmpsOf.2 (List.mem_of_getElem? hj)) (List.nodup_cons.1 h).1
    | succ i =>
      simp at hi
      cases j with
      | zero =>
        simp at hj
        rw [hcons s hj] at h
        exact absurd (mem_tmpsOf.2 (List.mem_of_getElem? hi)) (List.nodup_cons.1 h).1
      | succ j =>
        simp at hj
        have h' : (tmpsOf xs).Nodup := by
          cases x with
          | tmp t => rw [hcons t rfl] at h; exact (List.nodup_cons.1 h).2
          | const v => exact h
          | global g => exact h
          | func f => exact h
        rw [ih h' hi hj]

theorem callStep_sound {P : Program} {F : Fr} {G : Gh} {st : St} {a : Act} {w : World} (h : Rel P F G st a w) {fl : AF} {o : Oper} {v : PV} {B' : Bx} {X : Operand} {xs : List Operand} {f : Nat} {caps ys : List PV} {nm : List BN} {bi bo : List (List PV)}
    (hd : ∀ d', o.dst = some d' → d' < F.nt) (hc : CallStep P fl o st v B' X xs f caps ys nm bi bo) {K : Act → World → Prop} {Q : Exit → Act → World → Prop} (hK : ∀ a' w', (∃ G', Rel P F G' (st.after fl o v B') a' w') → K a' w') : o.wp P a w K Q := by
  have hbsub : ∀ b c, vz fl st.bx b = some c → st.bx b = some c := by
    intro b c hc; unfold vz at hc; split at hc
    · exact hc
    · cases hc
  obtain ⟨⟨tys, hop⟩, hclo, hlen, hpass, hnodup, hnames, hbl, hbi, hbip, hbop, hgives, hret, hbe, hout⟩ := hc
  have hBeq : fl.be = true → vz fl st.bx = st.bx := by intro h2; simp [vz, h2]
  generalize hBx : vz fl st.bx = B at *
  have hX := h.ev X
  rw [hclo] at hX
  obtain ⟨vs', hXv, hvs', hcapr⟩ := hX
  obtain ⟨hisfn, hbol, hret⟩ := hret
  -- the operands
  have hops : o.op.operands.toList = X :: xs := by simp [hop, Op.operands, Call.operands]
  -- which position becomes which
  let PM : Pos → Pos → Prop := fun p q => (∃ s i, p.1 = .t s ∧ fl.mv = true ∧ xs[i]? = some (.tmp s) ∧ q = (.t i, p.2)) ∨ (∃ b k, p.1 = .b b ∧ nm[k]? = some b ∧ q = (.b (.a k), p.2))
  have hPMf : ∀ p q q', PM p q → PM p q' → q = q' := by
    rintro p q q' (⟨s, i, h1, hmv, h2, rfl⟩ | ⟨b, k, h1, h2, rfl⟩) (⟨s', i', h1', hmv', h2', rfl⟩ | ⟨b', k', h1', h2', rfl⟩)
    · rw [h1] at h1'; cases h1'
      rw [tmpsOf_get (hnodup hmv) h2 h2']
    · rw [h1] at h1'; cases h1'
    · rw [h1] at h1'; cases h1'
    · rw [h1] at h1'; cases h1'
      rw [nodup_inj hnames h2 h2']
  have hnmlive : ∀ (k : Nat) b, nm[k]? = some b → G.live b ∧ ∃ cells, bi[k]? = some cells ∧ st.bx b = some cells := by
    intro k b hk
    have hkl : k < bi.length := by rw [hbl]; exact (List.getElem?_eq_some_iff.1 hk).1
    have h1 := hbi k b hk
    rw [List.getElem?_eq_getElem hkl] at h1
    have h2 := hbsub b _ h1
    exact ⟨(h.hp.live b).2 (by simp [h2]), _, List.getElem?_eq_getElem hkl, h2⟩
  let Wr : Nat → Prop := fun g => (∃ p q, G.own g = some p ∧ PM p q) ∨ ∃ (k : Nat) (b : BN), nm[k]? = some b ∧ g = G.β b
  let ownc : Nat → Option Pos := fun g => open Classical in if hg : ∃ q, ∃ p, G.own g = some p ∧ PM p q then some (Classical.choose hg) else none
  have hownc : ∀ g q, ownc g = some q ↔ ∃ p, G.own g = some p ∧ PM p q := by
    intro g q
    constructor
    · intro hq
      simp only [ownc] at hq
      split at hq
      · rename_i hg
        cases hq
        exact Classical.choose_spec hg
      · cases hq
    · rintro ⟨p, hp, hpq⟩
      have hg : ∃ q, ∃ p, G.own g = some p ∧ PM p q := ⟨q, p, hp, hpq⟩
      simp only [ownc, dif_pos hg]
      obtain ⟨p', hp', hpq'⟩ := Classical.choose_spec hg
      rw [hp] at hp'; cases hp'
      rw [hPMf p _ _ hpq' hpq]
  let Gc : Gh := { im := G.im, β := (fun c => match c with | .a k => (nm[k]?).elim 0 G.β | .t _ => 0), live := (fun c => match c with | .a k => k < nm.length | .t _ => False), own := ownc, fz := (fun g => g < w.heap.size ∧ ¬ Wr g) }
  have hβc : ∀ (k : Nat) b, nm[k]? = some b → Gc.β (.a k) = G.β b := by intro k b hk; simp [Gc, hk]
  have hps : PStep G w Gc w PM := ⟨Keep.refl _ _, fun g p q hg hpq => ⟨(hownc g q).2 ⟨p, hg, hpq⟩, rfl, fun _ h => h⟩⟩
  have hβlt : ∀ b, G.live b → G.β b < w.heap.size := fun b hl => by obtain ⟨c, _, hbx⟩ := h.hp.box hl; exact hbx.lt
  have hfz1 : ∀ g, G.fz g → g < w.heap.size ∧ ¬ Wr g := by
    intro g hg
    obtain ⟨h1, h2⟩ := h.sn.fz g hg
    have hs := h.sn.ext.size
    refine ⟨by omega, ?_⟩
    rintro (⟨p, q, hp, _⟩ | ⟨k, b, hk, rfl⟩)
    · rcases h.sn.own g p hp with h3 | h3
      · omega
      · exact h2 h3
    · rcases h.sn.box b (hnmlive k b hk).1 with h3 | h3
      · omega
      · exact h2 h3
  have hfz2 : ∀ b, G.live b → b ∉ nm → ¬ Wr (G.β b) := by
    intro b hl hb
    rintro (⟨p, q, hp, _⟩ | ⟨k, b', hk, he⟩)
    · rw [h.hp.boxown b hl] at hp; cases hp
    · have := h.hp.inj b b' hl (hnmlive k b' hk).1 he
      subst this
      exact hb (List.mem_of_getElem? hk)
  have hfz3 : ∀ o g, (o = none ∨ o = some qpos) → FreeO G w o g → ¬ Wr g := by
    rintro o g ho hf (⟨p, q, hp, hpq⟩ | ⟨k, b', hk, rfl⟩)
    · rw [hf.2.1] at hp
      rcases ho with rfl | rfl
      · cases hp
      · cases hp
        rcases hpq with ⟨s, i, h1, _⟩ | ⟨b, k, h1, _⟩ <;> cases h1
    · exact hf.2.2.1 b' (hnmlive k b' hk).1 rfl
  have hfu : FzUp P G w Gc w := ⟨hfz1, fun _ _ => rfl, Nat.le_refl _⟩
  -- the arguments
  have hargs : ∀ (i : Nat) y u, ys[i]? = some y → (xs.toArray.map a.eval ++ vs')[i]? = some u → RepT P Gc w (.t i) y u := by
    intro i y u hy hu
    have hil : i < xs.length + caps.length := by rw [← hlen]; exact (List.getElem?_eq_some_iff.1 hy).1
    by_cases hi : i < xs.length
    · have hx : (xs.map st.ev ++ caps)[i]? = some (st.ev xs[i]) := by
        rw [List.getElem?_append_left (by simpa using hi), List.getElem?_map, List.getElem?_eq_getElem hi]; rfl
      have hu' : u = a.eval xs[i] := by
        rw [Array.getElem?_append_left (by simpa using hi)] at hu
        simp [hi] at hu
        exact hu.symm
      subst hu'
      have hr := h.ev xs[i]
      have hpp := hpass i _ y hx hy
      generalize hxe : st.ev xs[i] = x at hr hpp
      cases hpp with
      | val _ hps1 =>
        cases hmv : fl.mv with
        | false => exact hr.pstepB hps _ hps1 hfu
        | true =>
          simp only [mvd, if_true]
          cases hXi : xs[i] with
          | tmp s =>
            rw [hXi] at hr
            have h1 := RepT.toV hr hps1
            have h2 := RepV.pstep hps (loc' := .t i) (i' := 0) (fun j => Or.inl ⟨s, i, rfl, hmv, by rw [← hXi]; exact List.getElem?_eq_getElem hi, rfl⟩) hps1 hfu h1
            exact h2.toT
          | const c =>
            rw [hXi] at hr hxe
            have : x.bT = x := by rw [← hxe]; exact cpv_bT c
            rw [← this]; exact hr.pstepB hps _ hps1 hfu
          | global g =>
            rw [hXi] at hr hxe
            have : x.bT = x := by rw [← hxe]; rfl
            rw [← this]; exact hr.pstepB hps _ hps1 hfu
          | func g =>
            rw [hXi] at hr hxe
            have : x.bT = x := by rw [← hxe]; rfl
            rw [← this]; exact hr.pstepB hps _ hps1 hfu
      | ptr b k' k hk =>
        obtain ⟨h1, h2⟩ := hr
        refine ⟨by rw [hβc k b hk]; exact h1, ?_⟩
        exact (List.getElem?_eq_some_iff.1 hk).1
      | rsv b sz n k hk =>
        obtain ⟨c, h1, h2, h3, h4⟩ := hr
        exact ⟨c, h1, by rw [hβc k b hk]; exact h2, (List.getElem?_eq_some_iff.1 hk).1, h4⟩
      | fn f' caps' K' hok hn =>
        have := CloOK.fn (p := (opLoc xs[i], 0, 0)) h.hp hbsub hr hok (fz := Gc.fz) (fun b hb hl => ⟨hβlt b hl, hfz2 b hl (hn b hb)⟩)
        exact this
    · have hic : i - xs.length < caps.length := by omega
      have hx : (xs.map st.ev ++ caps)[i]? = some caps[i - xs.length] := by
        rw [List.getElem?_append_right (by simp; omega)]
        simp [hic]
      have hu' : vs'[i - xs.length]? = some u := by
        rw [Array.getElem?_append_right (by simp; omega)] at hu
        simpa using hu
      have hr := hcapr _ _ u (List.getElem?_eq_getElem hic) hu'
      have hpp := hpass i _ y hx hy
      generalize caps[i - xs.length] = x at hr hpp
      cases hpp with
      | val _ hps1 =>
        have hb := hr.bT
        have hT : RepT P G w .res x u := hr.toT .res
        have h1 := hT.pstepB hps (.t i) hps1 hfu
        have hm : mvd fl.mv x = x.bT := by unfold mvd; split <;> simp [hb]
        rw [hm]; exact h1
      | ptr b k' k hk =>
        obtain ⟨h1, h2⟩ := hr
        exact ⟨by rw [hβc k b hk]; exact h1, (List.getElem?_eq_some_iff.1 hk).1⟩
      | rsv b sz n k hk => exact absurd hr (by simp [RepAt])
      | fn f' caps' K' hok hn => exact absurd hr (by simp [RepAt])
  have hpc : Hp P Gc w (bxOf bi) := by
    refine ⟨fun b cells hb => ?_, fun b => ?_, fun b b' hl hl' he => ?_, h.hp.imlt, fun g q hg => ?_, fun b hl o => ?_, fun b hl => ?_⟩
    · cases b with
      | t n => simp [bxOf] at hb
      | a k =>
        simp only [bxOf] at hb
        have hkl : k < nm.length := by rw [← hbl]; exact (List.getElem?_eq_some_iff.1 hb).1
        obtain ⟨hl, cells', hc1, hc2⟩ := hnmlive k nm[k] (List.getElem?_eq_getElem hkl)
        rw [hb] at hc1; cases hc1
        obtain ⟨cs, e, h1, h2, h3, h4⟩ := h.hp.bx _ cells hc2
        refine ⟨cs, e, by rw [hβc k _ (List.getElem?_eq_getElem hkl)]; exact h1, h2, h3, fun j x u hx hu => ?_⟩
        exact (h4 j x u hx hu).pstep hps (Or.inr ⟨nm[k], k, rfl, List.getElem?_eq_getElem hkl, rfl⟩) (List.all_eq_true.1 (hbip cells (List.mem_of_getElem? hb)) x (List.mem_of_getElem? hx)) (fun _ => hfu)
    · cases b with
      | t n => simp [bxOf, Gc]
      | a k => simp [bxOf, Gc, ← hbl]
    · cases b with
      | t n => exact hl.elim
      | a k =>
        cases b' with
        | t n => exact hl'.elim
        | a k' =>
          have hk : k < nm.length := hl
          have hk' : k' < nm.length := hl'
          rw [hβc k _ (List.getElem?_eq_getElem hk), hβc k' _ (List.getElem?_eq_getElem hk')] at he
          have := h.hp.inj _ _ (hnmlive k _ (List.getElem?_eq_getElem hk)).1 (hnmlive k' _ (List.getElem?_eq_getElem hk')).1 he
          rw [nodup_inj hnames (List.getElem?_eq_getElem hk) (by rw [this]; exact List.getElem?_eq_getElem hk')]
    · obtain ⟨p, hp, _⟩ := (hownc g q).1 hg
      exact h.hp.ownlt g p hp
    · cases b with
      | t n => exact hl.elim
      | a k =>
        have hk : k < nm.length := hl
        rw [hβc k _ (List.getElem?_eq_getElem hk)]
        exact h.hp.boxim _ (hnmlive k _ (List.getElem?_eq_getElem hk)).1 o
    · cases b with
      | t n => exact hl.elim
      | a k =>
        have hk : k < nm.length := hl
        rw [hβc k _ (List.getElem?_eq_getElem hk)]
        have hno := h.hp.boxown _ (hnmlive k _ (List.getElem?_eq_getElem hk)).1
        cases hcase : Gc.own (G.β nm[k]) with
        | none => rfl
        | some q =>
          obtain ⟨p, hp, _⟩ := (hownc _ q).1 hcase
          rw [hno] at hp; cases hp
  have hcalls := hret Gc w (xs.toArray.map a.eval ++ vs') Wr (by simp [hlen, hvs']) hargs hpc (fun g q hg => by obtain ⟨p, hp, hpq⟩ := (hownc g q).1 hg; exact .inl ⟨p, q, hp, hpq⟩)
    (fun b hl => by
      cases b with
      | t n => exact hl.elim
      | a k =>
        have hk : k < nm.length := hl
        rw [hβc k _ (List.getElem?_eq_getElem hk)]
        exact .inr ⟨k, nm[k], List.getElem?_eq_getElem hk, rfl⟩) (fun g hg => hg) (fun g h1 h2 => ⟨h1, h2⟩)
  have hrunX : (execOp a.eval o).run P w = .ok (.enter f (xs.toArray.map a.eval ++ vs')) w := by
    have := run_callFunc hisfn (xs.toArray.map a.eval ++ vs') w
    simp [execOp, hop, resolve, Deferred.ofValue, hXv, invoke]
    simpa using this
  unfold Oper.wp
  rw [hrunX]
  refine Calls.mono hcalls fun e w' hR => ?_
  obtain ⟨rv, G', rfl, hrv, hpG, hext, hβ', hown', -⟩ := hR
  -- the caller goes on
  let G2 : Gh := { im := G'.im, β := G.β, live := G.live, own := (fun g => match G'.own g with
      | some (.res, q) => o.dst.map fun d => (Loc.t d, q)
      | some (.b (.a k), q) => (nm[k]?).map fun b => (Loc.b b, q)
      | some _ => none
      | none => open Classical in if Wr g then none else G.own g), fz := G.fz }
  have hWrlt : ∀ g, Wr g → g < w.heap.size := by
    rintro g (⟨p, q, hp, _⟩ | ⟨k, b, hk, rfl⟩)
    · exact h.hp.ownlt g p hp
    · exact hβlt b (hnmlive k b hk).1
  have hsame : ∀ g, g < w.heap.size → ¬ Wr g → w'.heap[g]? = w.heap[g]? ∧ G2.own g = G.own g ∧ ∀ o, G'.im g o → G.im g o := by
    intro g hlt hnw
    refine ⟨hext.old g hlt hnw, ?_, fun o ho => ?_⟩
    · cases hg : G'.own g with
      | none => simp [G2, hg, hnw]
      | some p =>
        rcases hown' g p hg with h1 | h1
        · omega
        · exact absurd h1 hnw
    · rcases hext.new g o ho with h1 | h1 | h1
      · exact h1
      · omega
      · exact absurd h1 hnw
  have hg : GStep G w G2 w' (fun p q => p = q ∧ ¬ ∃ q', PM p q') := by
    refine ⟨hext.keep, fun b hl => ⟨hl, rfl⟩, rfl, fun g hg => hext.old g (hfz1 g hg).1 (hfz1 g hg).2, hext.size, fun g p q hgp hpq => ?_, fun o g ho hf => ?_⟩
    rotate_left
    · obtain ⟨h1, h2, h3⟩ := hsame g hf.lt (hfz3 o g ho hf)
      exact ⟨⟨by rw [h1]; exact hf.1, by rw [h2]; exact hf.2.1, hf.2.2.1, fun o ho => hf.2.2.2.1 o (h3 o ho), hf.2.2.2.2⟩, .heap h1⟩
    obtain ⟨rfl, hnp⟩ := hpq
    have hnw : ¬ Wr g := by
      rintro (⟨p', q', hp', hpq'⟩ | ⟨k, b, hk, rfl⟩)
      · rw [hgp] at hp'; cases hp'; exact hnp ⟨q', hpq'⟩
      · rw [h.hp.boxown b (hnmlive k b hk).1] at hgp; cases hgp
    obtain ⟨h1, h2, h3⟩ := hsame g (h.hp.ownlt g p hgp) hnw
    exact ⟨by rw [h2]; exact hgp, h1, h3⟩
  have hps2 : ∀ d, o.dst = some d → PStep G' w' G2 w' (fun p q => p.1 = .res ∧ q = (.t d, p.2)) := by
    intro d hdd
    refine ⟨Keep.refl _ _, fun g p q hgp hpq => ⟨?_, rfl, fun _ h => h⟩⟩
    obtain ⟨h1, rfl⟩ := hpq
    obtain ⟨pl, pr⟩ := p
    simp only at h1; subst h1
    simp [G2, hgp, hdd]
  have hps3 : PStep G' w' G2 w' (fun p q => ∃ (k : Nat) (b : BN), nm[k]? = some b ∧ p.1 = .b (.a k) ∧ q = (.b b, p.2)) := by
    refine ⟨Keep.refl _ _, fun g p q hgp hpq => ⟨?_, rfl, fun _ h => h⟩⟩
    obtain ⟨k, b, hk, h1, rfl⟩ := hpq
    obtain ⟨pl, pr⟩ := p
    simp only at h1; subst h1
    simp [G2, hgp, hk]
  have hβnot : ∀ b, G.live b → b ∉ nm → ¬ Wr (G.β b) := hfz2
  have hnewbx : ∀ b cells, (if fl.be = true then B' else st.bx) b = some cells → BoxAt P G2 w' b cells := by
    intro b cells hb
    have hb' : Bx.setAll st.bx nm bo b = some cells := by
      by_cases hbe' : fl.be = true
      · rw [if_pos hbe', hout, hBeq hbe'] at hb; exact hb
      · rw [if_neg hbe'] at hb
        have hnil : nm = [] := Classical.byContradiction fun hne => hbe' (hbe hne)
        rw [hnil]; exact hb
    by_cases hbn : b ∈ nm
    · obtain ⟨k, hk, hkb⟩ := List.mem_iff_getElem.1 hbn
      have hk? : nm[k]? = some b := by rw [List.getElem?_eq_getElem hk, hkb]
      rw [Bx.setAll_get hnames (by omega) hk?] at hb'
      obtain ⟨cs, e, h1, h2, h3, h4⟩ := hpG.bx (.a k) cells hb'
      refine ⟨cs, e, ?_, h2, h3, fun j x u hx hu => ?_⟩
      · rw [hβ' k, hβc k b hk?] at h1; exact h1
      · have hgv := List.all_eq_true.1 (hbop cells (List.mem_of_getElem? hb')) x (List.mem_of_getElem? hx)
        have g1 : x.pass1 = true ∧ ¬ ∃ K, x = .fn K ∨ x = .efn K := by
          cases x <;> simp [PV.gives1, PV.pass1] at hgv ⊢
        exact (h4 j x u hx hu).pstep hps3 ⟨k, b, hk?, rfl, rfl⟩ g1.1 (fun e => absurd e g1.2)
    · rw [Bx.setAll_not hbn] at hb'
      have hl := (h.hp.live b).2 (by simp [hb'])
      obtain ⟨h1, -, -⟩ := hsame (G.β b) (hβlt b hl) (hβnot b hl hbn)
      refine (h.hp.bx b cells hb').step hg hl (fun j => ⟨rfl, ?_⟩) h1
      rintro ⟨q', (⟨s, i, h2, _⟩ | ⟨b', k, h2, h3, _⟩)⟩
      · cases h2
      · cases h2; exact hbn (List.mem_of_getElem? h3)
  have hlive2 : ∀ b, G.live b ↔ ((if fl.be = true then B' else st.bx) b).isSome = true := by
    intro b
    have hb' : (if fl.be = true then B' else st.bx) b = Bx.setAll st.bx nm bo b := by
      by_cases hbe' : fl.be = true
      · rw [if_pos hbe', hout, hBeq hbe']
      · rw [if_neg hbe']
        have hnil : nm = [] := Classical.byContradiction fun hne => hbe' (hbe hne)
        rw [hnil]; rfl
    rw [hb']
    by_cases hbn : b ∈ nm
    · obtain ⟨k, hk, hkb⟩ := List.mem_iff_getElem.1 hbn
      have hk? : nm[k]? = some b := by rw [List.getElem?_eq_getElem hk, hkb]
      rw [Bx.setAll_get hnames (by omega) hk?, List.getElem?_eq_getElem (by omega)]
      simp [(hnmlive k b hk?).1]
    · rw [Bx.setAll_not hbn]; exact h.hp.live b
  refine hK _ _ ⟨G2, ?_⟩
  unfold St.after
  refine h.next hg (fun t ht htd i j => ⟨rfl, ?_⟩) (fun d' hdd => hrv.pstepG (hps2 d' hdd) (fun i j => ⟨rfl, rfl⟩) hgives) hd ?_ ?_
  · rintro ⟨q', (⟨s, i', h2, hmv, h3, _⟩ | ⟨b', k, h2, h3, _⟩)⟩
    · cases h2
      apply ht
      simp only [stripsOf, hmv, if_true, hops]
      exact mem_tmpsOf.2 (List.mem_cons_of_mem _ (List.mem_of_getElem? h3))
    · cases h2
  · refine ⟨hnewbx, hlive2, h.hp.inj, hpG.imlt, fun g p hgp => ?_, fun b hl k => ?_, fun b hl => ?_⟩
    · cases hgo : G'.own g with
      | some q => exact hpG.ownlt g q hgo
      | none =>
        simp only [G2, hgo] at hgp
        split at hgp
        · cases hgp
        · exact Nat.lt_of_lt_of_le (h.hp.ownlt g p hgp) hext.size
    · by_cases hbn : b ∈ nm
      · obtain ⟨q, hq, hqb⟩ := List.mem_iff_getElem.1 hbn
        have hk? : nm[q]? = some b := by rw [List.getElem?_eq_getElem hq, hqb]
        have hlq : G'.live (.a q) := (hpG.live _).2 (by simp [bxOf]; omega)
        have := hpG.boxim (.a q) hlq k
        rw [hβ' q, hβc q b hk?] at this
        exact this
      · intro him
        obtain ⟨-, -, h3⟩ := hsame (G.β b) (hβlt b hl) (hβnot b hl hbn)
        exact h.hp.boxim b hl k (h3 k him)
    · by_cases hbn : b ∈ nm
      · obtain ⟨q, hq, hqb⟩ := List.mem_iff_getElem.1 hbn
        have hk? : nm[q]? = some b := by rw [List.getElem?_eq_getElem hq, hqb]
        have hlq : G'.live (.a q) := (hpG.live _).2 (by simp [bxOf]; omega)
        have hno := hpG.boxown (.a q) hlq
        rw [hβ' q, hβc q b hk?] at hno
        have hw : Wr (G.β b) := .inr ⟨q, b, hk?, rfl⟩
        simp [G2, hno, hw]
      · obtain ⟨-, h2, -⟩ := hsame (G.β b) (hβlt b hl) (hβnot b hl hbn)
        rw [h2]; exact h.hp.boxown b hl
  · have hwWr : ∀ b, Wr b → F.w0.heap.size ≤ b ∨ F.Wr b := by
      rintro g (⟨p, q, hp, _⟩ | ⟨k, b, hk, rfl⟩)
      · exact h.sn.own g p hp
      · exact h.sn.box b (hnmlive k b hk).1
    refine ⟨h.sn.ext.trans hext hwWr, fun g p hgp => ?_, h.sn.box, h.sn.βa, h.sn.fz, h.sn.fzm⟩
    have hs := h.sn.ext.size
    cases hgo : G'.own g with
    | some q =>
      rcases hown' g q hgo with h1 | h1
      · left; omega
      · exact hwWr g h1
    | none =>
      simp only [G2, hgo] at hgp
      split at hgp
      · cases hgp
      · exact h.sn.own g p hgp

end Go.Bee
