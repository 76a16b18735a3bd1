/-
The logic's operations, all that call no function: what each comes to, and that the machine comes to the same. No condition.
-/
import Derived.Test.YtkgjplamdmakpaaGreatDoorBeeI
namespace Go.Bee
set_option linter.unusedVariables false

def stripAt (cells : List PV) (o n : Nat) : List PV := cells.take o ++ ((cells.drop o).take n).map PV.bC ++ cells.drop (o + n)
/-- Data that is no slice. -/
def zplain : PV → Bool
  | .d (.bool _) => true
  | .d (.int _ _) => true
  | .d (.str _) => true
  | _ => false
def zfit : List PV → List PD → Bool
  | [], _ => true
  | y :: ys, c :: cs => zplain y && !c.isSl && zfit ys cs
  | _ :: _, [] => false
theorem zfit_get : ∀ {ys : List PV} {cs : List PD}, zfit ys cs = true → ys.length ≤ cs.length ∧ ∀ j, j < ys.length → (∃ y, ys[j]? = some y ∧ zplain y = true) ∧ ∀ x, cs[j]? = some x → x.isSl = false
  | [], cs, _ => ⟨Nat.zero_le _, fun j hj => by simp at hj⟩
  | y :: ys, [], h => by simp [zfit] at h
  | y :: ys, c :: cs, h => by
    simp only [zfit, Bool.and_eq_true, Bool.not_eq_true'] at h
    obtain ⟨h1, h2⟩ := zfit_get h.2
    refine ⟨by simpa using h1, fun j hj => ?_⟩
    cases j with
    | zero => exact ⟨⟨y, rfl, h.1.1⟩, fun x hx => by simp at hx; subst hx; exact h.1.2⟩
    | succ j => simpa using h2 j (by simpa using hj)
theorem zplain_rep {P : Program} {G : Gh} {w : World} {p : Pos} {x : PV} {v : Value} (h : RepC P G w p x v) (hx : zplain x = true) : isSlV v = false := by
  cases x <;> simp only [zplain, Bool.false_eq_true] at hx
  rename_i y
  cases y <;> simp only [zplain, Bool.false_eq_true] at hx <;> (obtain ⟨h1, -⟩ := h; cases h1; rfl)
def zv (x : PD) : PV := if x.isSl = true then .zs x else .one
def evZLoad (P : Program) (t : TypeId) (cs : List PD) : Option PV :=
  (tyi P t).bind fun i => if i.agg then none else cs.head?.map zv
theorem evZLoad_ok {P : Program} {G : Gh} {w : World} {t : TypeId} {cs : List PD} {r : PV} {u : Value} {l1 : Loc} (loc : Loc) (hx : RepT P G w l1 (.zp cs) u) (h : evZLoad P t cs = some r) :
    ∃ rv, (Instr.loadAt t u).run P w = .ok rv w ∧ RepT P G w loc r rv := by
  obtain ⟨g, o, rfl, vs, hl, hs, hv, hr⟩ := hx
  unfold evZLoad at h
  simp only [Option.bind_eq_some_iff] at h
  obtain ⟨i, hi, h⟩ := h
  split at h
  · cases h
  · rename_i hag
    simp only [Option.map_eq_some_iff] at h
    obtain ⟨x, hx, rfl⟩ := h
    have hx0 : cs[0]? = some x := by rw [← List.head?_eq_getElem?]; exact hx
    have hlt : 0 < vs.length := by rw [hl]; exact (List.getElem?_eq_some_iff.1 hx0).1
    have hv0 : vs[0]? = some vs[0] := List.getElem?_eq_getElem hlt
    have hzd := hr 0 x _ hx0 hv0
    have hc := (hv 0 _ hv0).2
    rw [Nat.add_zero] at hc
    refine ⟨vs[0], by simp [Instr.loadAt, Instr.sureAddr, loadVar, tyi_agg hi, hag, hc], ?_⟩
    unfold zv
    split
    · exact ⟨hzd, hs x (List.mem_of_getElem? hx0)⟩
    · exact hzd.oneCell
def evLoad (P : Program) (fl : AF) (t : TypeId) (x : PV) (B : Bx) : Option (PV × Bx) :=
  match x with
  | .ptr b off => (B b).bind fun cells => (tyi P t).bind fun i => (bxRead cells off i.sz i.agg).bind fun r =>
      if fl.mv = true then (if fl.be = true then some (r, B.set b (stripAt cells off (if i.agg then i.sz else 1))) else none) else some (r.bV, B)
  | .eptr cs => (evELoad P t cs).map fun r => (r, B)
  | .efn K => ((tyi P t).bind fun i => if i.agg = true then none else some (PV.fn K)).map fun r => (r, B)
  | .zp cs => (evZLoad P t cs).map fun r => (r, B)
  | _ => none
def evStore (P : Program) (fl : AF) (t : TypeId) (x y : PV) (B : Bx) : Option Bx :=
  match x with
  | .ptr b off => (B b).bind fun cells => (tyi P t).bind fun i => (pvCells (mvd fl.mv y)).bind fun new =>
      if fl.be = true ∧ new.length = i.sz ∧ off + new.length ≤ cells.length then some (B.set b (cells.take off ++ new ++ cells.drop (off + new.length))) else none
  | .zp cs => (tyi P t).bind fun i => (pvCells y.bT).bind fun new =>
      if fl.be = true ∧ new.length = i.sz ∧ 0 < new.length ∧ zfit new cs = true then some B else none
  | _ => none
def PV.isAt : PV → Bool
  | .d _ => true
  | .nilS => true
  | .und => true
  | .nn _ _ => true
  | .ptr _ _ => true
  | .eptr _ => true
  | _ => false
def evMinMax (mx : Bool) : PV → PV → Option PV
  | .d (.int k a), .d (.int k' b) => if k = k' then some (.d (.int k (if mx then max a b else min a b))) else none
  | _, _ => none
def evMake (P : Program) (fl : AF) (t : TypeId) (d : Nat) (x y : PV) (B : Bx) : Option (PV × Bx) :=
  match x, y with
  | .d (.int _ n), .d (.int _ m) => (tyi P t).bind fun i => i.el.bind fun e => (tyi P e).bind fun te =>
      if fl.be = true ∧ B (.t d) = none ∧ n = m ∧ 0 ≤ n ∧ n ≤ 140737488355328 ∧ (te.by_ : Int) * n ≤ 281474976710656 ∧ te.zero.length = te.sz ∧ 0 < te.sz ∧ te.zero.all (fun x => !x.isJunk) = true then
        some (.rsl (.t d) e te.sz n.toNat, B.set (.t d) (List.replicate n.toNat te.zero).flatten) else none
  | _, _ => none
def ev1 (P : Program) (fl : AF) (o : Oper) (ρ : Operand → PV) (B : Bx) : Option (PV × Bx) :=
  match o.op with
  | .move x => some (mvd fl.mv (ρ x), B)
  | .assign x => some (mvd fl.mv (ρ x), B)
  | .pick c x y => match ρ c with
    | .d (.bool b) => some (pick2 b (ρ x).bT (ρ y).bT, B)
    | _ => none
  | .alloc t => o.dst.bind fun d => (tyi P t).bind fun i =>
      if fl.be = true ∧ B (.t d) = none ∧ i.zero ≠ [] ∧ i.zero.all (fun x => !x.isJunk) = true then some (.ptr (.t d) 0, B.set (.t d) i.zero) else none
  | .box t x => o.dst.bind fun d => (pvCells (mvd fl.mv (ρ x))).bind fun cells =>
      if fl.be = true ∧ B (.t d) = none then some (.ptr (.t d) 0, B.set (.t d) cells) else none
  | .build t parts => (evBuild P t (parts.toList.map fun p => (p.1, ρ p.2))).map fun r => (r, B)
  | .buildSlice t len parts => if o.dst.isSome then (evBuildSlice P t len (parts.toList.map fun p => (p.1, ρ p.2))).map fun r => (r, B) else none
  | .load t x => evLoad P fl t (ρ x) B
  | .store t x y => if o.dst = none then (evStore P fl t (ρ x) (ρ y) B).map fun B' => (.junk, B') else none
  | .nilCheck x => match ρ x with
    | .ptr b off => some (.ptr b off, B)
    | .eptr cs => some (.eptr cs, B)
    | _ => none
  | .binOp op t x y _ => (evBin P op t (ρ x) (ρ y)).map fun r => (r, B)
  | .unOp op _ x => (evUn op (ρ x)).map fun r => (r, B)
  | .convert s t x => if (tyi P s).isSome then (evConv2 P s t (ρ x)).map fun r => (r, B) else none
  | .makeFunc fn first caps => match fn with
    | .func f => if first.toList = [] ∧ caps.toList.all (fun c => ((ρ c).bC).isAt) = true then some (.clo f (caps.toList.map fun c => (ρ c).bC), B) else none
    | _ => none
  | .slice t x lo hi mx => if mx.isNone then (evSlice P t (ρ x) (lo.map ρ) (hi.map ρ)).map fun r => (r, B) else none
  | .fieldAddr t x f => (evFldAddr P t f (ρ x)).map fun r => (r, B)
  | .field t x f => (evFld P t f (ρ x)).map fun r => (r, B)
  | .indexAddr t x i => (evIA P t (ρ x) (ρ i)).map fun r => (r, B)
  | .makeSlice t lo hi => o.dst.bind fun d => evMake P fl t d (ρ lo) (ρ hi) B
  | .index t x i => (evIdx P t (ρ x) (ρ i)).map fun r => (r, B)
  | .extract x i => match ρ x with
    | .tup l => (l[i]?).map fun r => (mvd fl.mv r, B)
    | _ => none
  | .call c => match c.callee, c.args.toList, c.argTypes.toList with
    | .builtin .len, [x], [t] => (evLen P t (ρ x)).map fun r => (r, B)
    | .builtin .append, [s, x], [t, t'] => if t = t' ∧ fl.mv = true ∧ o.dst.isSome = true then (evAppend P t (ρ s) (ρ x)).map fun r => (r, B) else none
    | .builtin .max, [x, y], [_, _] => (evMinMax true (ρ x) (ρ y)).map fun r => (r, B)
    | .builtin .min, [x, y], [_, _] => (evMinMax false (ρ x) (ρ y)).map fun r => (r, B)
    | _, _, _ => none
  | _ => none

def vz (fl : AF) (B : Bx) : Bx := if fl.bt = true ∨ fl.be = true then B else fun _ => none
def stripsOf (fl : AF) (o : Oper) : List Nat := if fl.mv = true then tmpsOf o.op.operands.toList else []
def St.after (st : St) (fl : AF) (o : Oper) (v : PV) (B' : Bx) : St := st.upd (stripsOf fl o) o.dst v (if fl.be = true then B' else st.bx)

theorem Rel.put1 {P : Program} {F : Fr} {G : Gh} {st : St} {a : Act} {w : World} (h : Rel P F G st a w) (ts : List Nat) {d : Option Nat} {x : PV} {v : Value} (hd : ∀ d', d = some d' → d' < F.nt)
    (hx : ∀ loc, RepT P G w loc x v) : Rel P F G (st.upd ts d x st.bx) (a.put d v) w :=
  h.next (GStep.refl G w) (fun t _ _ i j => rfl) (fun d' e => hx _) hd h.hp h.sn

theorem wp_value {P : Program} {o : Oper} {a : Act} {w w' : World} {v : Value} {K : Act → World → Prop} {Q : Exit → Act → World → Prop} (hrun : (execOp a.eval o).run P w = .ok (.value v) w') (hk : K (a.put o.dst v) w') : o.wp P a w K Q := by
  unfold Oper.wp; rw [hrun]; exact hk
theorem wp_skip' {P : Program} {o : Oper} {a : Act} {w w' : World} {K : Act → World → Prop} {Q : Exit → Act → World → Prop} (hrun : (execOp a.eval o).run P w = .ok .skip w') (hk : K (a.put o.dst undef) w') : o.wp P a w K Q := by
  unfold Oper.wp; rw [hrun]; exact hk

theorem RepV.toT {P : Program} {G : Gh} {w : World} {loc : Loc} {x : PV} {v : Value} (h : RepV P G w loc 0 x v) : RepT P G w loc x v := by
  cases x <;> first | exact h | (simp only [RepV, RepC] at h)
theorem RepT.ofV {P : Program} {G : Gh} {w : World} {loc : Loc} {x : PV} {v : Value} (h : RepT P G w loc x v) (hx : ∀ l, x ≠ .tup l) : RepV P G w loc 0 x v := by
  cases x <;> first | exact h | exact absurd rfl (hx _)
/-- What is nobody's own is so at every place. -/
theorem RepT.any {P : Program} {G : Gh} {w : World} {loc : Loc} {x : PV} {v : Value} (h : RepT P G w loc x.bT v) (loc' : Loc) : RepT P G w loc' x.bT v := by
  have h1 := h.bT loc'
  have h2 : x.bT.bT = x.bT := by
    have hC : ∀ y : PV, y.bC.bC = y.bC := by intro y; cases y <;> rfl
    have hV : ∀ y : PV, y.bV.bV = y.bV := by
      intro y
      cases y <;> first | rfl | exact hC _ | skip
      simp only [PV.bV, List.map_map]
      congr 1
      apply List.map_congr_left
      intro y _; exact hC y
    cases x
    case agg l => exact hV (.agg l)
    case tup l =>
      simp only [PV.bT, List.map_map]
      congr 1
      apply List.map_congr_left
      intro y _; exact hV y
    all_goals rfl
  rwa [h2] at h1

def noTup (v : PV) : Bool := match v with | .tup _ => false | _ => true

/-- A value out of one slot or constant: moved, or a copy. -/
theorem Rel.mvd {P : Program} {F : Fr} {G : Gh} {st : St} {a : Act} {w : World} (h : Rel P F G st a w) (mv : Bool) {ts : List Nat} (X : Operand) (hts : mv = true → ∀ t, X = .tmp t → t ∈ ts) {d : Option Nat} (hd : ∀ d', d = some d' → d' < F.nt) :
    ∃ G', Rel P F G' (st.upd ts d (mvd mv (st.ev X)) st.bx) (a.put d (a.eval X)) w := by
  cases d with
  | none =>
    refine ⟨G, ?_⟩
    have := h.next (GStep.refl G w) (ts := ts) (d := none) (x := Bee.mvd mv (st.ev X)) (v := a.eval X) (bx := st.bx) (fun t _ _ i j => rfl) (fun d' e => by cases e) hd h.hp h.sn
    exact this
  | some d =>
    cases mv with
    | false =>
      refine ⟨G, h.put1 ts hd fun loc => ?_⟩
      exact ((h.ev X).bT loc)
    | true =>
      have hloc : ∀ t, opLoc X = .t t → t ∈ ts := by
        intro t ht
        cases X <;> simp [opLoc] at ht
        subst ht; exact hts rfl _ rfl
      exact h.moveTs (hd d rfl) hloc (by intro b; cases X <;> simp [opLoc]) (by cases X <;> simp [opLoc]) (h.ev X)

theorem evMinMax_ok {P : Program} {G : Gh} {w : World} {mx : Bool} {x y r : PV} {u v : Value} {l1 l2 : Loc} {t1 t2 ty : TypeId} (hx : RepT P G w l1 x u) (hy : RepT P G w l2 y v) (h : evMinMax mx x y = some r) :
    ∃ rv, ((if mx then Builtin.max_ else Builtin.min_) #[t1, t2] ty #[u, v]).run P w = .ok rv w ∧ ∀ loc, RepT P G w loc r rv := by
  unfold evMinMax at h
  split at h
  · obtain ⟨hx, -⟩ := hx; obtain ⟨hy, -⟩ := hy
    cases hx; cases hy
    rename_i k a k' b
    split at h
    · rename_i hk; subst hk
      cases h
      cases mx
      · refine ⟨_, ?_, fun loc => ⟨.int _ _, rfl⟩⟩
        simp only [Bool.false_eq_true, if_false]
        have h : (if b < a then b else a) = min a b := by split <;> omega
        simp [Builtin.min_, Builtin.min2, h]
      · refine ⟨_, ?_, fun loc => ⟨.int _ _, rfl⟩⟩
        simp only [if_true]
        have h : (if a < b then b else a) = max a b := by split <;> omega
        simp [Builtin.max_, Builtin.max2, h]
    · cases h
  · cases h

theorem evLoad_ok {P : Program} {F : Fr} {G : Gh} {st : St} {a : Act} {w : World} (h : Rel P F G st a w) {fl : AF} {ts : List Nat} {d : Option Nat} (hd : ∀ d', d = some d' → d' < F.nt) {t : TypeId} {X : Operand} {r : PV} {B : Bx} {B' : Bx} (hB : ∀ b c, B b = some c → st.bx b = some c)
    (hBe : fl.be = true → B = st.bx) (he : evLoad P fl t (st.ev X) B = some (r, B')) :
    ∃ rv G', (Instr.loadAt t (a.eval X)).run P w = .ok rv w ∧ Rel P F G' (st.upd ts d r (if fl.be = true then B' else st.bx)) (a.put d rv) w := by
  unfold evLoad at he
  have hX := h.ev X
  split at he
  · rename_i b off hev
    rw [hev] at hX
    obtain ⟨hp, hl⟩ := hX
    simp only [Option.bind_eq_some_iff] at he
    obtain ⟨cells, hc, i, hi, x, hx, he⟩ := he
    have hc' := hB b cells hc
    have hbox := h.hp.bx b cells hc'
    obtain ⟨rv, hrun, hrep⟩ := run_loadBox hbox hi hx
    rw [hp]
    split at he
    · rename_i hmv
      split at he
      · rename_i hbe
        cases he
        have hBB := hBe hbe
        subst hBB
        simp only [hbe, if_true]
        generalize hn : (if i.agg then i.sz else 1) = n
        -- tokens go from the variable's cells to the slot
        cases d with
        | none =>
          refine ⟨rv, G, hrun, ?_⟩
          refine h.next (GStep.refl G w) (fun t _ _ i j => rfl) (fun d' e => by cases e) hd ?_ h.sn
          refine ⟨fun c bc hbc => ?_, fun c => ?_, h.hp.inj, h.hp.imlt, h.hp.ownlt, h.hp.boxim, h.hp.boxown⟩
          · by_cases hcb : c = b
            · subst hcb
              simp only [Bx.set, if_true, Option.some.injEq] at hbc
              subst hbc
              obtain ⟨cs, e, h1, h2, h3, h4⟩ := hbox
              refine ⟨cs, e, h1, ?_, fun j u hj hu => h3 j u (by simp [stripAt] at hj; omega) hu, fun j y u hy hu => ?_⟩
              · simp only [stripAt, List.length_append, List.length_take, List.length_map, List.length_drop, h2]; omega
              · have hj : ∃ y0, cells[j]? = some y0 ∧ (y = y0 ∨ y = y0.bC) := by
                  have hjl : j < cells.length := by have := (List.getElem?_eq_some_iff.1 hy).1; simp [stripAt] at this; omega
                  refine ⟨cells[j], List.getElem?_eq_getElem hjl, ?_⟩
                  unfold stripAt at hy
                  by_cases hj1 : j < off
                  · rw [List.append_assoc, List.getElem?_append_left (by simp; omega), List.getElem?_take_of_lt hj1, List.getElem?_eq_getElem hjl] at hy
                    cases hy; exact .inl rfl
                  · by_cases hj2 : j < off + n
                    · rw [List.append_assoc, List.getElem?_append_right (by simp; omega), List.getElem?_append_left (by simp; omega), List.getElem?_map, List.getElem?_take_of_lt (by simp; omega), List.getElem?_drop] at hy
                      have e1 : off + (j - (cells.take off).length) = j := by simp; omega
                      rw [e1, List.getElem?_eq_getElem hjl] at hy
                      cases hy; exact .inr rfl
                    · rw [List.getElem?_append_right (by simp; omega), List.getElem?_drop] at hy
                      have e1 : off + n + (j - (cells.take off ++ ((cells.drop off).take n).map PV.bC).length) = j := by simp; omega
                      rw [e1, List.getElem?_eq_getElem hjl] at hy
                      cases hy; exact .inl rfl
                obtain ⟨y0, hy0, rfl | rfl⟩ := hj
                · exact h4 j _ u hy0 hu
                · exact (h4 j y0 u hy0 hu).bC _
            · simp only [Bx.set, hcb, if_false] at hbc
              exact h.hp.bx c bc hbc
          · simp only [Bx.set]
            by_cases hcb : c = b
            · simp [hcb, hl]
            · simp [hcb, h.hp.live c]
        | some d =>
          let f : Pos → Pos := fun p => if p.1 = .b b ∧ off ≤ p.2.2 ∧ p.2.2 < off + n then (.t d, 0, p.2.2 - off) else p
          have hfq : f qpos = qpos := by simp [f, qpos]
          have hg := GStep.relabel G w f hfq
          refine ⟨rv, G.relabel f, hrun, h.next hg (fun t ht _ i j => by simp [f]) (fun d' e => ?_) hd ?_ (h.sn.relabel f)⟩
          · cases e
            have key : ∀ (j : Nat) y u, j < n → RepC P G w (.b b, 0, off + j) y u → RepC P (G.relabel f) w (.t d, 0, j) y u := by
              intro j y u hj hr
              refine hr.step hg ?_
              have : off ≤ off + j ∧ off + j < off + n := by omega
              simp [f, this]
            cases r
            case agg l =>
              obtain ⟨hag, cs, rfl, hsz, h1, hr⟩ := hrep
              have hxl : l.length = i.sz := by
                unfold bxRead at hx
                simp only [hag, if_true] at hx
                split at hx
                · cases hx; simp; omega
                · cases hx
              refine ⟨cs, rfl, hsz, h1, fun j y u hy hu => key j y u ?_ (hr j y u hy hu)⟩
              have := (List.getElem?_eq_some_iff.1 hy).1
              rw [← hn, hag]; simp only [if_true]; omega
            all_goals
              obtain ⟨hag, hr, -⟩ := hrep
              have h0 : 0 < n := by rw [← hn, hag]; simp
              have := key 0 _ _ h0 hr
              first | exact this.toT _ rfl | (simp only [RepC] at hr)
          · refine ⟨fun c bc hbc => ?_, fun c => ?_, h.hp.inj, h.hp.imlt, fun g p hgp => ?_, h.hp.boxim, fun c hlc => ?_⟩
            · by_cases hcb : c = b
              · subst hcb
                simp only [Bx.set, if_true, Option.some.injEq] at hbc
                subst hbc
                obtain ⟨cs, e, h1, h2, h3, h4⟩ := hbox
                refine ⟨cs, e, h1, ?_, fun j u hj hu => h3 j u (by simp [stripAt] at hj; omega) hu, fun j y u hy hu => ?_⟩
                · simp only [stripAt, List.length_append, List.length_take, List.length_map, List.length_drop, h2]; omega
                · have hjl : j < cells.length := by have := (List.getElem?_eq_some_iff.1 hy).1; simp [stripAt] at this; omega
                  have h4' := h4 j cells[j] u (List.getElem?_eq_getElem hjl) hu
                  unfold stripAt at hy
                  by_cases hj1 : j < off
                  · rw [List.append_assoc, List.getElem?_append_left (by simp; omega), List.getElem?_take_of_lt hj1, List.getElem?_eq_getElem hjl] at hy
                    cases hy
                    exact h4'.step hg (by have : ¬ off ≤ j := by omega
                                          simp [f, this])
                  · by_cases hj2 : j < off + n
                    · rw [List.append_assoc, List.getElem?_append_right (by simp; omega), List.getElem?_append_left (by simp; omega), List.getElem?_map, List.getElem?_take_of_lt (by simp; omega), List.getElem?_drop] at hy
                      have e1 : off + (j - (cells.take off).length) = j := by simp; omega
                      rw [e1, List.getElem?_eq_getElem hjl] at hy
                      cases hy
                      exact h4'.stepB hg _
                    · rw [List.getElem?_append_right (by simp; omega), List.getElem?_drop] at hy
                      have e1 : off + n + (j - (cells.take off ++ ((cells.drop off).take n).map PV.bC).length) = j := by simp; omega
                      rw [e1, List.getElem?_eq_getElem hjl] at hy
                      cases hy
                      exact h4'.step hg (by have : ¬ j < off + n := by omega
                                            simp [f, this])
              · simp only [Bx.set, hcb, if_false] at hbc
                refine (h.hp.bx c bc hbc).step hg ((h.hp.live c).2 (by simp [hbc])) (fun j => ?_) rfl
                simp [f, hcb]
            · simp only [Bx.set, Gh.relabel]
              by_cases hcb : c = b
              · simp [hcb, hl]
              · simp [hcb, h.hp.live c]
            · simp only [Gh.relabel, Option.map_eq_some_iff] at hgp
              obtain ⟨q, hq, _⟩ := hgp
              exact h.hp.ownlt g q hq
            · simp only [Gh.relabel, Option.map_eq_none_iff]; exact h.hp.boxown c hlc
      · cases he
    · cases he
      refine ⟨rv, G, hrun, ?_⟩
      have hbx : (if fl.be = true then B else st.bx) = st.bx := by split <;> first | rfl | (rename_i hbe; exact hBe hbe)
      rw [hbx]
      refine h.put1 ts hd fun loc => ?_
      cases x
      case agg l =>
        obtain ⟨hag, cs, rfl, hsz, h1, hr⟩ := hrep
        refine ⟨cs, rfl, by simpa using hsz, h1, fun j y u hy hu => ?_⟩
        rw [List.getElem?_map] at hy
        obtain ⟨z, hz, rfl⟩ := Option.map_eq_some_iff.1 hy
        exact (hr j z u hz hu).bC _
      all_goals
        obtain ⟨hag, hr, -⟩ := hrep
        first | exact (hr.bC (loc, 0, 0)).toT loc rfl | (simp only [RepC] at hr)
  · rename_i cs hev
    rw [hev] at hX
    simp only [Option.map_eq_some_iff, Prod.mk.injEq] at he
    obtain ⟨r', hr', rfl, rfl⟩ := he
    have hbx : (if fl.be = true then B else st.bx) = st.bx := by split <;> first | rfl | (rename_i hbe; exact hBe hbe)
    obtain ⟨rv, hrun, -⟩ := evELoad_ok .res hX hr'
    refine ⟨rv, G, hrun, ?_⟩
    rw [hbx]
    refine h.put1 ts hd fun loc => ?_
    obtain ⟨rv', hrun', hrep⟩ := evELoad_ok loc hX hr'
    rw [hrun] at hrun'; cases hrun'
    exact hrep
  · rename_i K hev
    rw [hev] at hX
    simp only [Option.map_eq_some_iff, Prod.mk.injEq, Option.bind_eq_some_iff] at he
    obtain ⟨r', ⟨i, hi, he⟩, rfl, rfl⟩ := he
    split at he
    · cases he
    · rename_i hag
      cases he
      simp only [Bool.not_eq_true] at hag
      have hbx : (if fl.be = true then B else st.bx) = st.bx := by split <;> first | rfl | (rename_i hbe; exact hBe hbe)
      obtain ⟨g, o, u, hv, him, hc, hf⟩ := hX
      refine ⟨u, G, ?_, ?_⟩
      · rw [hv]; simp [Instr.loadAt, Instr.sureAddr, loadVar, tyi_agg hi, hag, hc]
      rw [hbx]
      exact h.put1 ts hd fun loc => hf
  · rename_i cs hev
    rw [hev] at hX
    simp only [Option.map_eq_some_iff, Prod.mk.injEq] at he
    obtain ⟨r', hr', rfl, rfl⟩ := he
    have hbx : (if fl.be = true then B else st.bx) = st.bx := by split <;> first | rfl | (rename_i hbe; exact hBe hbe)
    obtain ⟨rv, hrun, -⟩ := evZLoad_ok .res hX hr'
    refine ⟨rv, G, hrun, ?_⟩
    rw [hbx]
    refine h.put1 ts hd fun loc => ?_
    obtain ⟨rv', hrun', hrep⟩ := evZLoad_ok loc hX hr'
    rw [hrun] at hrun'; cases hrun'
    exact hrep
  · cases he

end Go.Bee
