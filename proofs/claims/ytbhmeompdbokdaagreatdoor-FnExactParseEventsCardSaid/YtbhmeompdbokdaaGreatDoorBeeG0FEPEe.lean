/-
The logic and the walks, part 5. No condition.
-/
import Derived.Test.YtbhmeompdbokdaaGreatDoorBeeG0FEPEd
import Derived.Test.YtbhmeompdbokdaaGreatDoorProg
import Derived.KernelRfl
namespace Go.Bee
set_option linter.unusedVariables false

def consumesT (o : Oper) (t : Nat) : Bool :=
  match o.op with
  | .assign (.tmp u) => u == t
  | .store _ _ (.tmp u) => u == t
  | .box _ (.tmp u) => u == t
  | .extract (.tmp u) _ => u == t
  | .call c => match c.callee, c.args.toList with
    | .builtin .append, .tmp u :: _ => u == t
    | _, _ => false
  | _ => false
def mvOf (dr : Bool) (hs : List Nat) (i : Nat) (o : Oper) (rest : List Oper) : Bool :=
  match o.op with
  | .assign _ => true
  | .box _ _ => true
  | .store _ _ _ => true
  | .extract _ _ => !dr
  | .call c => (match c.callee with
    | .builtin .append => true
    | _ => hs.contains i)
  | .move _ => (match o.dst with | some t => rest.any (fun q => consumesT q t) || hs.contains i | none => false)
  | .load _ _ => (match o.dst with | some t => rest.any (fun q => consumesT q t) || hs.contains i | none => false)
  | _ => false
def flagMv (dr : Bool) (l : List Oper) (hs : List Nat) (i : Nat) : Bool :=
  match l.drop i with
  | o :: rest => mvOf dr hs i o rest
  | [] => false
def isElem (l : List Oper) : Nat → Operand → Bool
  | n + 1, .tmp t => l.any fun q => q.dst == some t && (match q.op with
    | .indexAddr _ _ _ => true
    | .fieldAddr _ x _ => isElem l n x
    | _ => false)
  | _, _ => false
def flagBe (P : Program) (l : List Oper) (hs : List Nat) (i : Nat) : Bool :=
  match l[i]? with
  | some o => (match o.op with
    | .alloc _ => true
    | .box _ _ => true
    | .store _ _ _ => true
    | .makeSlice _ _ _ => true
    | .load _ x => flagMv false l hs i && !isElem l l.length x
    | .call c => (match c.callee with
      | .value _ => c.argTypes.any fun t => match tyi P t with | some i => i.ptr | none => true
      | _ => false)
    | _ => false)
  | none => false
def flagBt (P : Program) (l : List Oper) (i : Nat) : Bool :=
  match l[i]? with
  | some o => (match o.op with
    | .alloc _ => true
    | .box _ _ => true
    | .store _ _ _ => true
    | .makeSlice _ _ _ => true
    | .load _ x => !isElem l l.length x
    | .call c => (match c.callee with
      | .value _ => c.argTypes.any fun t => match tyi P t with | some i => i.ref | none => true
      | _ => false)
    | _ => false)
  | none => false
def flagsOf (P : Program) (l : List Oper) (hs : List Nat) (draw : Bool) (i : Nat) : AF := { mv := flagMv draw l hs i, bt := !draw || flagBt P l i, be := !draw || flagBe P l hs i }

def baseN (l : List Oper) : Nat → Nat → Nat
  | n + 1, t => match l.find? fun q => q.dst == some t with
    | some q => (match q.op with
      | .fieldAddr _ (.tmp u) _ => baseN l n u
      | .move (.tmp u) => baseN l n u
      | .nilCheck (.tmp u) => baseN l n u
      | _ => t)
    | none => t
  | 0, t => t
def baseB (l : List Oper) : Operand → List BN
  | .tmp t => [.t (baseN l l.length t), .a (baseN l l.length t)]
  | _ => []
def inL (P : Program) (dr : Bool) (l : List Oper) (o : Oper) : Option (List BN) :=
  match o.op with
  | .load _ x => if dr = true then some (baseB l x) else none
  | .store _ x _ => if dr = true then some (baseB l x) else none
  | .alloc _ => (match o.dst with | some d => if dr = true then some [.t d] else none | none => none)
  | .box _ _ => (match o.dst with | some d => if dr = true then some [.t d] else none | none => none)
  | .call c => (match c.callee with
    | .value _ => if (dr && c.argTypes.any fun t => match tyi P t with | some i => i.ptr | none => true) = true then some (c.args.toList.flatMap (baseB l)) else none
    | _ => none)
  | _ => none
def innsOf (P : Program) (dr : Bool) (l : List Oper) (i : Nat) : Option (List BN) := match l[i]? with
  | some o => inL P dr l o
  | none => none
def Loc1 (P : Program) (l : List BN) (fl : AF) (o : Oper) (st : St) (v : PV) (B' : Bx) : Prop :=
  (∀ B2 : Bx, (∀ b, l.contains b = true → B2 b = st.bx b) → ∃ B2', OS1 P fl o (st.at B2) v B2' ∧ (fl.be = true → B2' = joinB l B' B2)) ∧ (fl.be = true → ∀ b, l.contains b = false → B' b = st.bx b)
def okB (l : List BN) : PV → Prop
  | .ptr b _ => l.contains b = true
  | _ => True
def locP (l : List BN) (o : Oper) (st : St) : Prop :=
  match o.op with
  | .load _ x => okB l (st.ev x)
  | .store _ x _ => okB l (st.ev x)
  | .alloc _ => (match o.dst with | some d => l.contains (.t d) = true | none => False)
  | .box _ _ => (match o.dst with | some d => l.contains (.t d) = true | none => False)
  | _ => False
def bcallL (P : Program) (l : List BN) (fl : AF) (o : Oper) (K : St → Prop) (st : St) : Prop := ∃ v B', OS1 P fl o st v B' ∧ Loc1 P l fl o st v B' ∧ K (st.after fl o v B')
def bcall (P : Program) (fl : AF) (o : Oper) (K : St → Prop) (st : St) : Prop := ∃ v B', OS1 P fl o st v B' ∧ K (st.after fl o v B')
def bop (P : Program) (fl : AF) (o : Oper) (K : St → Prop) (st : St) : Prop :=
  match o.op with
  | .call c => match c.callee with
    | .value _ => bcall P fl o K st
    | _ => match ev1 P fl o st.ev (vz fl st.bx) with
      | some q => K (st.after fl o q.1 q.2)
      | none => False
  | _ => match ev1 P fl o st.ev (vz fl st.bx) with
    | some q => K (st.after fl o q.1 q.2)
    | none => False
theorem bop_os1 {P : Program} {fl : AF} {o : Oper} {K : St → Prop} {st : St} (h : bop P fl o K st) : ∃ v B', OS1 P fl o st v B' ∧ K (st.after fl o v B') := by
  have key : (match ev1 P fl o st.ev (vz fl st.bx) with | some q => K (st.after fl o q.1 q.2) | none => False) → ∃ v B', OS1 P fl o st v B' ∧ K (st.after fl o v B') := by
    intro h
    cases he : ev1 P fl o st.ev (vz fl st.bx) with
    | none => rw [he] at h; exact h.elim
    | some q => rw [he] at h; exact ⟨q.1, q.2, .ev _ _ he, h⟩
  unfold bop at h
  split at h
  · split at h
    · exact h
    · exact key h
  · exact key h
def bcallD (P : Program) (inn : Option (List BN)) (fl : AF) (o : Oper) (K : St → Prop) (st : St) : Prop :=
  match inn with
  | none => bcall P fl o K st
  | some l => bcallL P l fl o K st
def bopx (P : Program) (inn : Option (List BN)) (fl : AF) (o : Oper) (K : St → Prop) (st : St) : Prop :=
  match inn with
  | none => bop P fl o K st
  | some l => match o.op with
    | .call _ => bcallL P l fl o K st
    | _ => locP l o st ∧ bop P fl o K st
theorem ev_at (st : St) (B : Bx) : (st.at B).ev = st.ev := by
  funext x; cases x <;> rfl
theorem loc_one {P : Program} {l : List BN} {fl : AF} {o : Oper} {st : St} {b : BN} (hb : l.contains b = true) (F : Option (List PV) → Option (PV × Option (List PV)))
    (hF : ∀ B : Bx, ev1 P fl o st.ev B = (F (B b)).map fun q => (q.1, match q.2 with | none => B | some c => B.set b c)) {v : PV} {B' : Bx} (he : ev1 P fl o st.ev (vz fl st.bx) = some (v, B')) : Loc1 P l fl o st v B' := by
  rw [hF] at he
  simp only [Option.map_eq_some_iff, Prod.mk.injEq] at he
  obtain ⟨⟨v', c⟩, hq, rfl, rfl⟩ := he
  refine ⟨fun B2 hB => ?_, fun hbe b2 hb2 => ?_⟩
  · have e1 : vz fl B2 b = vz fl st.bx b := by
      unfold vz
      split
      · exact hB b hb
      · rfl
    refine ⟨_, .ev _ _ (by rw [ev_at, hF]; show (F (vz fl B2 b)).map _ = _; rw [e1, hq]; rfl), fun hbe => ?_⟩
    have h1 : ∀ B : Bx, vz fl B = B := fun B => by simp [vz, hbe]
    funext b2
    show (match c with | none => vz fl B2 | some c => (vz fl B2).set b c) b2 = _
    rw [h1, h1]
    unfold joinB
    cases c with
    | none =>
      by_cases hl : l.contains b2 = true
      · rw [if_pos hl]; exact hB b2 hl
      · rw [if_neg hl]
    | some c =>
      simp only [Bx.set]
      by_cases hl : l.contains b2 = true
      · rw [if_pos hl]
        by_cases hbb : b2 = b
        · rw [if_pos hbb, if_pos hbb]
        · rw [if_neg hbb, if_neg hbb]; exact hB b2 hl
      · rw [if_neg hl]
        have : ¬ b2 = b := fun e => hl (e ▸ hb)
        rw [if_neg this]
  · have h1 : ∀ B : Bx, vz fl B = B := fun B => by simp [vz, hbe]
    rw [h1]
    cases c with
    | none => rfl
    | some c =>
      have : ¬ b2 = b := fun e => by rw [e, hb] at hb2; cases hb2
      simp only [Bx.set, if_neg this]
theorem loc_no {P : Program} {l : List BN} {fl : AF} {o : Oper} {st : St} (F : Option PV) (hF : ∀ B : Bx, ev1 P fl o st.ev B = F.map fun q => (q, B)) {v : PV} {B' : Bx} (he : ev1 P fl o st.ev (vz fl st.bx) = some (v, B')) : Loc1 P l fl o st v B' := by
  rw [hF] at he
  simp only [Option.map_eq_some_iff, Prod.mk.injEq] at he
  obtain ⟨v', hq, rfl, rfl⟩ := he
  refine ⟨fun B2 hB => ⟨vz fl B2, .ev _ _ (by rw [ev_at, hF]; show F.map _ = _; rw [hq]; rfl), fun hbe => ?_⟩, fun hbe b2 hb2 => by simp [vz, hbe]⟩
  have h1 : ∀ B : Bx, vz fl B = B := fun B => by simp [vz, hbe]
  rw [h1, h1]
  funext b2
  unfold joinB
  by_cases hl : l.contains b2 = true
  · rw [if_pos hl]; exact hB b2 hl
  · rw [if_neg hl]
theorem locP_ok {P : Program} {l : List BN} {fl : AF} {o : Oper} {st : St} (h : locP l o st) {v : PV} {B' : Bx} (he : ev1 P fl o st.ev (vz fl st.bx) = some (v, B')) : Loc1 P l fl o st v B' := by
  obtain ⟨dst, op, ty, pos, af, g⟩ := o
  unfold locP at h
  cases op <;> simp only at h
  case load t x =>
    cases hx : st.ev x
    case ptr b off =>
      rw [hx] at h
      refine loc_one (b := b) h (fun c => c.bind fun cells => (tyi P t).bind fun i => (bxRead cells off i.sz i.agg).bind fun r =>
        if fl.mv = true then (if fl.be = true then some (r, some (stripAt cells off (if i.agg then i.sz else 1))) else none) else some (r.bV, none)) (fun B => ?_) he
      simp only [ev1, evLoad, hx]
      cases B b with
      | none => rfl
      | some cells =>
        simp only [Option.bind_some]
        cases tyi P t with
        | none => rfl
        | some i =>
          simp only [Option.bind_some]
          cases bxRead cells off i.sz i.agg with
          | none => rfl
          | some r =>
            simp only [Option.bind_some]
            split
            · split <;> rfl
            · rfl
    case eptr cs => exact loc_no (evELoad P t cs) (fun B => by simp only [ev1, evLoad, hx]) he
    case efn K => exact loc_no ((tyi P t).bind fun i => if i.agg = true then none else some (PV.fn K)) (fun B => by simp only [ev1, evLoad, hx]) he
    case zp cs => exact loc_no (evZLoad P t cs) (fun B => by simp only [ev1, evLoad, hx]) he
    all_goals exact loc_no none (fun B => by simp only [ev1, evLoad, hx]; rfl) he
  case store t x y =>
    cases hx : st.ev x
    case ptr b off =>
      rw [hx] at h
      refine loc_one (b := b) h (fun c => if dst = none then (c.bind fun cells => (tyi P t).bind fun i => (pvCells (mvd fl.mv (st.ev y))).bind fun new =>
        if fl.be = true ∧ new.length = i.sz ∧ off + new.length ≤ cells.length then some (PV.junk, some (cells.take off ++ new ++ cells.drop (off + new.length))) else none) else none) (fun B => ?_) he
      simp only [ev1, evStore, hx]
      split
      · cases B b with
        | none => rfl
        | some cells =>
          simp only [Option.bind_some]
          cases tyi P t with
          | none => rfl
          | some i =>
            simp only [Option.bind_some]
            cases pvCells (mvd fl.mv (st.ev y)) with
            | none => rfl
            | some new =>
              simp only [Option.bind_some]
              split <;> rfl
      · rfl
    case zp cs =>
      refine loc_no (if dst = none then ((tyi P t).bind fun i => (pvCells (st.ev y).bT).bind fun new => if fl.be = true ∧ new.length = i.sz ∧ 0 < new.length ∧ zfit new cs = true then some PV.junk else none) else none) (fun B => ?_) he
      simp only [ev1, evStore, hx]
      split
      · cases tyi P t with
        | none => rfl
        | some i =>
          simp only [Option.bind_some]
          cases pvCells (st.ev y).bT with
          | none => rfl
          | some new =>
            simp only [Option.bind_some]
            split <;> rfl
      · rfl
    all_goals exact loc_no none (fun B => by simp only [ev1, evStore, hx]; split <;> rfl) he
  case alloc t =>
    cases dst with
    | none => exact h.elim
    | some d =>
      refine loc_one (b := .t d) h (fun c => (tyi P t).bind fun i => if fl.be = true ∧ c = none ∧ i.zero ≠ [] ∧ i.zero.all (fun x => !x.isJunk) = true then some (.ptr (.t d) 0, some i.zero) else none) (fun B => ?_) he
      simp only [ev1, Option.bind_some]
      cases tyi P t with
      | none => rfl
      | some i =>
        simp only [Option.bind_some]
        split <;> rfl
  case box t x =>
    cases dst with
    | none => exact h.elim
    | some d =>
      refine loc_one (b := .t d) h (fun c => (pvCells (mvd fl.mv (st.ev x))).bind fun cells => if fl.be = true ∧ c = none then some (.ptr (.t d) 0, some cells) else none) (fun B => ?_) he
      simp only [ev1, Option.bind_some]
      cases pvCells (mvd fl.mv (st.ev x)) with
      | none => rfl
      | some i =>
        simp only [Option.bind_some]
        split <;> rfl
theorem bopx_os1 {P : Program} {inn : Option (List BN)} {fl : AF} {o : Oper} {K : St → Prop} {st : St} (h : bopx P inn fl o K st) : ∃ v B', OS1 P fl o st v B' ∧ (∀ l, inn = some l → Loc1 P l fl o st v B') ∧ K (st.after fl o v B') := by
  cases inn with
  | none =>
    obtain ⟨v, B', h1, h2⟩ := bop_os1 h
    exact ⟨v, B', h1, fun l e => (by cases e), h2⟩
  | some l =>
    have key : (∀ c, o.op ≠ .call c) → locP l o st → bop P fl o K st → ∃ v B', OS1 P fl o st v B' ∧ (∀ l', some l = some l' → Loc1 P l' fl o st v B') ∧ K (st.after fl o v B') := by
      intro hn hl hb
      have hb2 : match ev1 P fl o st.ev (vz fl st.bx) with | some q => K (st.after fl o q.1 q.2) | none => False := by
        unfold bop at hb
        split at hb
        · rename_i c hc; exact absurd hc (hn c)
        · exact hb
      cases he : ev1 P fl o st.ev (vz fl st.bx) with
      | none => rw [he] at hb2; exact hb2.elim
      | some q => rw [he] at hb2; exact ⟨q.1, q.2, .ev _ _ he, fun l' e => by cases e; exact locP_ok hl he, hb2⟩
    unfold bopx at h
    split at h
    · rename_i e; cases e
    · rename_i l2 e
      cases e
      split at h
      · obtain ⟨v, B', h1, h2, h3⟩ := h
        exact ⟨v, B', h1, fun l' e => (by cases e; exact h2), h3⟩
      · rename_i hn
        exact key (fun c hc => hn c hc) h.1 h.2
theorem osx_run {P : Program} {ops : Array Oper} {inn : Option (List BN)} {fl : AF} {o : Oper} {st : St} {v : PV} {B' : Bx} (hg : gd ops o st = some true) (h : OS1 P fl o st v B') (hl : ∀ l, inn = some l → Loc1 P l fl o st v B') : OSx P ops fl inn o st (st.after fl o v B') := by
  cases inn with
  | none => exact .all rfl (.run v B' hg h)
  | some l =>
    obtain ⟨h1, h2⟩ := hl l rfl
    refine .loc l rfl (fun B2 hB => ?_) fun b hb => ?_
    · obtain ⟨B2', h3, h4⟩ := h1 B2 hB
      have h5 : OS P ops fl o (st.at B2) ((st.at B2).after fl o v B2') := .run v B2' hg h3
      have e : (st.at B2).after fl o v B2' = ⟨(st.after fl o v B').tm, joinB l (st.after fl o v B').bx B2⟩ := by
        unfold St.after St.upd St.at
        simp only [St.mk.injEq, true_and]
        by_cases hbe : fl.be = true
        · simp only [hbe, if_true]; exact h4 hbe
        · simp only [hbe, Bool.false_eq_true, if_false]
          funext b
          unfold joinB
          by_cases hbl : l.contains b = true
          · rw [if_pos hbl]; exact hB b hbl
          · rw [if_neg hbl]
      rw [e] at h5; exact h5
    · show (if fl.be = true then B' else st.bx) b = st.bx b
      by_cases hbe : fl.be = true
      · rw [if_pos hbe]; exact h2 hbe b hb
      · rw [if_neg hbe]
theorem osx_skip {P : Program} {ops : Array Oper} {inn : Option (List BN)} {fl : AF} {o : Oper} {st : St} (hg : gd ops o st = some false) : OSx P ops fl inn o st (st.upd [] o.dst .und st.bx) := by
  cases inn with
  | none => exact .all rfl (.skip hg)
  | some l =>
    refine .loc l rfl (fun B2 hB => ?_) fun b hb => rfl
    have h5 : OS P ops fl o (st.at B2) ((st.at B2).upd [] o.dst .und (st.at B2).bx) := .skip hg
    have e : (st.at B2).upd [] o.dst .und (st.at B2).bx = ⟨(st.upd [] o.dst .und st.bx).tm, joinB l (st.upd [] o.dst .und st.bx).bx B2⟩ := by
      unfold St.upd St.at
      simp only [St.mk.injEq, true_and]
      funext b
      unfold joinB
      by_cases hbl : l.contains b = true
      · rw [if_pos hbl]; exact hB b hbl
      · rw [if_neg hbl]
    rw [e] at h5; exact h5
def bgd (x : Option PV) (want : Bool) (A B : Prop) : Prop :=
  match x with
  | some (.d (.bool b)) => (b = want → A) ∧ (b = !want → B)
  | some .und => B
  | _ => False
def bops (P : Program) (L : List Oper) (fls : Nat → AF) (inns : Nat → Option (List BN)) : List Oper → Nat → (St → Prop) → St → Prop
  | [], _, Q, st => Q st
  | o :: l, i, Q, st => match o.guard with
    | none => bopx P (inns i) (fls i) o (bops P L fls inns l (i + 1) Q) st
    | some g => bgd (((L[g.1]?).bind (·.dst)).map st.tm) g.2 (bopx P (inns i) (fls i) o (bops P L fls inns l (i + 1) Q) st) (bops P L fls inns l (i + 1) Q (st.upd [] o.dst .und st.bx))
theorem bops_runs {P : Program} {L : List Oper} {fls : Nat → AF} {inns : Nat → Option (List BN)} {Q : St → Prop} : ∀ (l : List Oper) (i : Nat) (st : St), (∀ (k : Nat), l[k]? = L[i + k]?) → bops P L fls inns l i Q st → ∃ sF, Runs P L.toArray fls inns (List.range' i l.length) st sF ∧ Q sF
  | [], i, st, _, h => ⟨st, .nil st, h⟩
  | o :: l, i, st, hl, h => by
    have ho : L.toArray[i]? = some o := by have := hl 0; simp at this; simpa using this.symm
    have hl' : ∀ (k : Nat), l[k]? = L[i + 1 + k]? := by
      intro k
      have := hl (k + 1)
      rw [List.getElem?_cons_succ] at this
      rw [this]; congr 1; omega
    simp only [List.length_cons, List.range'_succ]
    have goRun : gd L.toArray o st = some true → bopx P (inns i) (fls i) o (bops P L fls inns l (i + 1) Q) st → ∃ sF, Runs P L.toArray fls inns (i :: List.range' (i + 1) l.length) st sF ∧ Q sF := by
      intro hg hb
      obtain ⟨v, B', hs, hl2, hk⟩ := bopx_os1 hb
      obtain ⟨sF, hr, hq⟩ := bops_runs l (i + 1) _ hl' hk
      exact ⟨sF, .cons i _ o _ _ _ ho (osx_run hg hs hl2) hr, hq⟩
    have goSkip : gd L.toArray o st = some false → bops P L fls inns l (i + 1) Q (st.upd [] o.dst .und st.bx) → ∃ sF, Runs P L.toArray fls inns (i :: List.range' (i + 1) l.length) st sF ∧ Q sF := by
      intro hg hb
      obtain ⟨sF, hr, hq⟩ := bops_runs l (i + 1) _ hl' hb
      exact ⟨sF, .cons i _ o _ _ _ ho (osx_skip hg) hr, hq⟩
    unfold bops at h
    split at h
    · rename_i hn
      exact goRun (by simp [gd, hn]) h
    · rename_i g hn
      obtain ⟨j, want⟩ := g
      have hget : (L.toArray[j]?).bind (·.dst) = (L[j]?).bind (·.dst) := by simp
      simp only at h
      cases hd : (L[j]?).bind (·.dst) with
      | none => rw [hd] at h; simp [bgd] at h
      | some t =>
        rw [hd] at h
        simp only [Option.map_some] at h
        unfold bgd at h
        split at h
        · rename_i b hb
          simp only [Option.some.injEq] at hb
          by_cases hbw : b = want
          · exact goRun (by simp [gd, hn, hd, hb, hbw]) (h.1 hbw)
          · exact goSkip (by simp [gd, hn, hd, hb, hbw]) (h.2 (by cases b <;> cases want <;> simp_all))
        · rename_i hb
          simp only [Option.some.injEq] at hb
          exact goSkip (by simp [gd, hn, hd, hb]) h
        · exact h.elim

inductive Ex where
  | normal
  | exit (id : Nat)
  | ret
def seqK (K : St → Prop) (Q : Ex → St → Prop) : Ex → St → Prop
  | .normal => K
  | .exit i => Q (.exit i)
  | .ret => Q .ret
def blkK (id : Nat) (Q : Ex → St → Prop) : Ex → St → Prop
  | .normal => Q .normal
  | .exit i => if i = id then Q .normal else Q (.exit i)
  | .ret => Q .ret
def bcond (x : PV) (A B : Prop) : Prop :=
  match x with
  | .d (.bool b) => (b = true → A) ∧ (b = false → B)
  | _ => False
def Weak (P : Program) (s s' : St) : Prop := ∀ F G a w, Rel P F G s a w → ∃ G', Rel P F G' s' a w
def wk (P : Program) (K : St → Prop) (s : St) : Prop := ∃ s', Weak P s s' ∧ K s'
def loopK (P : Program) (I : Nat → St → Prop) (n : Nat) (Q : Ex → St → Prop) : Ex → St → Prop
  | .normal => fun s => ∃ m s', Weak P s s' ∧ m < n ∧ I m s'
  | .exit i => wk P (Q (.exit i))
  | .ret => Q .ret
def bloop (P : Program) (body : (Ex → St → Prop) → St → Prop) (Q : Ex → St → Prop) (st : St) : Prop :=
  ∃ I : Nat → St → Prop, (∃ n s, Weak P st s ∧ I n s) ∧ ∀ n s, I n s → body (loopK P I n Q) s
def breg (P : Program) (hs : List Nat) (ops : Array Oper) (draw : Bool) (Q : St → Prop) (st : St) : Prop := bops P ops.toList (flagsOf P ops.toList hs draw) (innsOf P draw ops.toList) ops.toList 0 Q st
def mreg (P : Program) (hs : List Nat) (ops : Array Oper) (draw : Bool) (Q : St → Prop) (st : St) : Prop := if hs.contains 1000000 = true then wk P (breg P hs ops draw Q) st else breg P hs ops draw Q st
def bwp (P : Program) (H : Nat → List Nat) : Code → (Ex → St → Prop) → St → Prop
  | .skip, Q => Q .normal
  | .region id ops draw, Q => mreg P (H id) ops draw (Q .normal)
  | .seq a b, Q => bwp P H a (seqK (bwp P H b Q) Q)
  | .cond c t e, Q => fun st => bcond (st.ev c) (bwp P H t Q st) (bwp P H e Q st)
  | .block id b, Q => bwp P H b (blkK id Q)
  | .loop b, Q => bloop P (bwp P H b) Q
  | .exit id, Q => Q (.exit id)
  | .ret, Q => Q .ret
  | _, _ => fun _ => False

def cOk (P : Program) (H : Nat → List Nat) (nt : Nat) : Code → Bool
  | .region id ops draw => (ops.all fun o => match o.dst with | some d => decide (d < nt) | none => true) && (!draw || regOk ops (flagsOf P ops.toList (H id) true) (innsOf P true ops.toList))
  | .seq a b => cOk P H nt a && cOk P H nt b
  | .cond _ a b => cOk P H nt a && cOk P H nt b
  | .block _ b => cOk P H nt b
  | .loop b => cOk P H nt b
  | _ => true

def lift (P : Program) (F : Fr) (Q : Ex → St → Prop) : Exit → Act → World → Prop
  | .normal, a, w => ∃ G s, Rel P F G s a w ∧ Q .normal s
  | .exit id, a, w => ∃ G s, Rel P F G s a w ∧ Q (.exit id) s
  | .ret, a, w => ∃ G s, Rel P F G s a w ∧ Q .ret s
  | _, _, _ => False

theorem bwp_sound {P : Program} {H : Nat → List Nat} {F : Fr} (hm : P.follows .mixedOrders = true) : ∀ (c : Code) (Q : Ex → St → Prop) (G : Gh) (st : St) (a : Act) (w : World), cOk P H F.nt c = true → bwp P H c Q st → Rel P F G st a w → c.wp P (lift P F Q) a w
  | .skip, Q, G, st, a, w, hd, h, hr => wp_skip ⟨G, st, hr, h⟩
  | .exit id, Q, G, st, a, w, hd, h, hr => wp_exit ⟨G, st, hr, h⟩
  | .ret, Q, G, st, a, w, hd, h, hr => wp_ret ⟨G, st, hr, h⟩
  | .region id ops draw, Q, G, st, a, w, hd, h, hr => by
    have hmr : mreg P (H id) ops draw (Q .normal) st := h
    have hmk : ∃ G st, breg P (H id) ops draw (Q .normal) st ∧ Rel P F G st a w := by
      unfold mreg at hmr
      split at hmr
      · obtain ⟨s', hw, hb⟩ := hmr
        obtain ⟨G', hr'⟩ := hw F G a w hr
        exact ⟨G', s', hb, hr'⟩
      · exact ⟨G, st, hmr, hr⟩
    clear h hmr hr
    obtain ⟨G, st, h, hr⟩ := hmk
    have hb : bops P ops.toList (flagsOf P ops.toList (H id) draw) (innsOf P draw ops.toList) ops.toList 0 (Q .normal) st := h
    simp only [cOk, Bool.and_eq_true] at hd
    have hdst : ∀ (i : Nat) o, ops[i]? = some o → ∀ d', o.dst = some d' → d' < F.nt := by
      intro i o ho d' hd'
      have hd1 := hd.1
      simp only [Array.all_eq_true_iff_forall_mem] at hd1
      have := hd1 o (Array.mem_of_getElem? ho)
      rw [hd'] at this
      simpa using this
    obtain ⟨sF, hruns, hq⟩ := bops_runs (L := ops.toList) ops.toList 0 st (fun k => by simp) hb
    rw [Array.toArray_toList] at hruns
    have hrange : List.range' 0 ops.toList.length = List.range ops.size := by rw [List.range_eq_range']; simp
    rw [hrange] at hruns
    cases draw with
    | false => exact wp_region (runs_sound hdst hruns hr (fun a' w' ⟨G', h'⟩ => ⟨G', sF, h', hq⟩))
    | true =>
      refine wp_region_any hm ?_
      have hrem : remaining ops (Array.replicate ops.size false) = List.range ops.size := by
        unfold remaining
        apply List.filter_eq_self.2
        intro i hi
        have := List.mem_range.1 hi
        simp [this]
      exact any_sound hdst (by simpa using hd.2) (fun a' w' ⟨G', h'⟩ => ⟨G', sF, h', hq⟩) ops.size _ st G a _ (by simp) (fun i o h => by simp [Array.getElem?_replicate] at h) hr.drew (by rw [hrem]; exact hruns) (by rw [hrem]; simp)
  | .seq x y, Q, G, st, a, w, hd, h, hr => by
    simp only [cOk, Bool.and_eq_true] at hd
    refine wp_seq ?_
    refine wp_mono (bwp_sound hm x _ G st a w hd.1 h hr) fun e a' w' he => ?_
    cases e with
    | normal => obtain ⟨G', s', h', hq⟩ := he; exact bwp_sound hm y Q G' s' a' w' hd.2 hq h'
    | exit id => exact he
    | ret => exact he
    | goto l => exact he
    | panic c => exact he
    | outgrown => exact he
  | .cond c t e, Q, G, st, a, w, hd, h, hr => by
    simp only [cOk, Bool.and_eq_true] at hd
    simp only [bwp, bcond] at h
    split at h
    · rename_i b hb
      have hc := hr.ev c
      rw [hb] at hc
      obtain ⟨hc, -⟩ := hc
      have hcv : a.eval c = .bool b := by generalize a.eval c = u at hc; cases hc; rfl
      refine wp_cond_split hcv (fun hbt => ?_) (fun hbf => ?_)
      · exact bwp_sound hm t Q G st a w hd.1 (h.1 hbt) hr
      · exact bwp_sound hm e Q G st a w hd.2 (h.2 hbf) hr
    · exact h.elim
  | .block id b, Q, G, st, a, w, hd, h, hr => by
    simp only [cOk] at hd
    refine wp_block ?_
    refine wp_mono (bwp_sound hm b _ G st a w hd h hr) fun e a' w' he => ?_
    cases e with
    | normal => exact he
    | exit i =>
      obtain ⟨G', s', h', hq⟩ := he
      simp only [blkK] at hq
      simp only [Exit.inBlock]
      split
      · rename_i hi; rw [if_pos hi] at hq; exact ⟨G', s', h', hq⟩
      · rename_i hi; rw [if_neg hi] at hq; exact ⟨G', s', h', hq⟩
    | ret => exact he
    | goto l => exact he
    | panic c => exact he
    | outgrown => exact he
  | .loop b, Q, G, st, a, w, hd, h, hr => by
    simp only [cOk] at hd
    obtain ⟨I, ⟨n0, s0, hw0, hI0⟩, hround⟩ := h
    obtain ⟨G0, hr0⟩ := hw0 F G a w hr
    let R : Nat → Act → World → Prop := fun n a w => ∃ G s, Rel P F G s a w ∧ I n s
    have hμ : ∀ a w, (∃ n, R n a w) → ∃ μ, R μ a w ∧ ∀ m, R m a w → μ ≤ m := by
      intro a w ⟨n, hn⟩
      induction n using Nat.strongRecOn with
      | _ n ih =>
        by_cases hex : ∃ m, m < n ∧ R m a w
        · obtain ⟨m, hmn, hRm⟩ := hex
          exact ih m hmn hRm
        · refine ⟨n, hn, fun m hRm => ?_⟩
          apply Classical.byContradiction; intro hc
          exact hex ⟨m, by omega, hRm⟩
    let μ : Act → World → Nat := fun a w => open Classical in if hx : ∃ n, R n a w then Classical.choose (hμ a w hx) else 0
    have hμs : ∀ a w (hx : ∃ n, R n a w), R (μ a w) a w ∧ ∀ m, R m a w → μ a w ≤ m := by
      intro a w hx
      have := Classical.choose_spec (hμ a w hx)
      simp only [μ, dif_pos hx]
      exact this
    refine wp_loop (fun a w => ∃ n, R n a w) μ ⟨n0, G0, s0, hr0, hI0⟩ fun a1 w1 hx => ?_
    obtain ⟨⟨G1, s1, hr1, hI1⟩, -⟩ := hμs a1 w1 hx
    refine wp_mono (bwp_sound hm b _ G1 s1 a1 w1 hd (hround _ s1 hI1) hr1) fun e a' w' he => ?_
    cases e with
    | normal =>
      obtain ⟨G', s', h', m, s2, hw, hlt, hI2⟩ := he
      obtain ⟨G2, hr2⟩ := hw F G' a' w' h'
      have hRm : R m a' w' := ⟨G2, s2, hr2, hI2⟩
      have hle := (hμs a' w' ⟨m, hRm⟩).2 m hRm
      exact ⟨⟨m, hRm⟩, by omega⟩
    | exit id =>
      obtain ⟨G', s', h', s2, hw, hq⟩ := he
      obtain ⟨G2, hr2⟩ := hw F G' a' w' h'
      exact ⟨G2, s2, hr2, hq⟩
    | ret => exact he
    | goto l => exact he
    | panic c => exact he
    | outgrown => exact he
  | .rangeFunc _ _ _ _, Q, G, st, a, w, hd, h, hr => h.elim
  | .scope _, Q, G, st, a, w, hd, h, hr => h.elim
  | .label _, Q, G, st, a, w, hd, h, hr => h.elim
  | .goto _, Q, G, st, a, w, hd, h, hr => h.elim
  | .refuse _, Q, G, st, a, w, hd, h, hr => h.elim

end Go.Bee


namespace Go.Bee
set_option linter.unusedVariables false

def resOf (st : St) : ResultVar → Option (Loc × PV)
  | .tmp t => some (.t t, st.tm t)
  | .cell a _ => match st.tm a with
    | .ptr (.t n) 0 => (st.bx (.t n)).map fun cells => (.b (.t n), .agg cells)
    | _ => none
def resAll (st : St) : List ResultVar → Option (List (Loc × PV))
  | [] => some []
  | r :: rs => (resOf st r).bind fun x => (resAll st rs).map fun xs => x :: xs
def resPV : List PV → PV
  | [x] => x
  | xs => .tup xs
def cellsFit (P : Program) (st : St) : List ResultVar → Bool
  | [] => true
  | .tmp _ :: rs => cellsFit P st rs
  | .cell a t :: rs => (match st.tm a with
    | .ptr (.t n) 0 => (match st.bx (.t n), tyi P t with | some cells, some i => i.agg && cells.length == i.sz | _, _ => false)
    | _ => false) && cellsFit P st rs
def retK (P : Program) (rs : List ResultVar) (r : PV) (bo : List (List PV)) (st : St) : Prop :=
  ∃ xs, resAll st rs = some xs ∧ cellsFit P st rs = true ∧ (xs.map (·.1)).Nodup ∧ (xs.map (·.2)).all PV.gives2 = true ∧ resPV (xs.map (·.2)) = r ∧ (∀ k, st.bx (.a k) = bo[k]?) ∧ ∀ cells : List PV, cells ∈ bo → cells.all PV.gives1 = true
def endK (P : Program) (rs : List ResultVar) (r : PV) (bo : List (List PV)) : Ex → St → Prop
  | .normal => retK P rs r bo
  | .ret => retK P rs r bo
  | .exit _ => fun _ => False
def St.init (args : List PV) (bi : List (List PV)) : St := ⟨fun t => args.getD t .und, bxOf bi⟩

theorem resAll_get {st : St} : ∀ {rs : List ResultVar} {xs : List (Loc × PV)}, resAll st rs = some xs → xs.length = rs.length ∧ ∀ (i : Nat) r x, rs[i]? = some r → xs[i]? = some x → resOf st r = some x
  | [], xs, h => by simp [resAll] at h; subst h; simp
  | r :: rs, xs, h => by
    simp only [resAll, Option.bind_eq_some_iff, Option.map_eq_some_iff] at h
    obtain ⟨y, hy, zs, hz, rfl⟩ := h
    obtain ⟨h1, h2⟩ := resAll_get hz
    refine ⟨by simp [h1], fun i a b ha hb => ?_⟩
    cases i with
    | zero => simp at ha hb; subst ha; subst hb; exact hy
    | succ i => simp at ha hb; exact h2 i a b ha hb
theorem cellsFit_get {P : Program} {st : St} : ∀ {rs : List ResultVar}, cellsFit P st rs = true → ∀ (i : Nat) a t, rs[i]? = some (.cell a t) → ∃ n cells ti, st.tm a = .ptr (.t n) 0 ∧ st.bx (.t n) = some cells ∧ tyi P t = some ti ∧ ti.agg = true ∧ cells.length = ti.sz
  | [], h, i, a, t, hi => by simp at hi
  | .tmp u :: rs, h, i, a, t, hi => by
    cases i with
    | zero => simp at hi
    | succ i => simp at hi; exact cellsFit_get (rs := rs) h i a t hi
  | .cell b u :: rs, h, i, a, t, hi => by
    simp only [cellsFit, Bool.and_eq_true] at h
    cases i with
    | zero =>
      simp at hi
      obtain ⟨rfl, rfl⟩ := hi
      have h1 := h.1
      split at h1
      · rename_i n hn
        split at h1
        · rename_i cells ti hc hti
          simp only [Bool.and_eq_true, beq_iff_eq] at h1
          exact ⟨n, cells, ti, hn, hc, hti, h1.1, h1.2⟩
        · cases h1
      · cases h1
    | succ i => simp at hi; exact cellsFit_get (rs := rs) h.2 i a t hi

def resSem (tmps : Array Value) : ResultVar → Sem Value
  | .tmp t => pure (tmps.getD t undef)
  | .cell a t => do loadVar t (← asAddr (tmps.getD a undef))
theorem resSem_cell {P : Program} {w : World} {tmps : Array Value} {a : Nat} {t : TypeId} {g : Addr} {v : Value} (hp : tmps.getD a undef = .pointer (some g)) (h : (loadVar t g).run P w = .ok v w) : (resSem tmps (.cell a t)).run P w = .ok v w := by
  simp only [resSem, Sem.run_bind, hp, asAddr, Sem.run_pure, Result.andThen_ok, h]
theorem results_eq (fn : Func) (tmps : Array Value) : results fn tmps = (do let vs ← fn.results.mapM (resSem tmps); pure (if h : vs.size = 1 then vs[0] else .tuple vs)) := by
  unfold results
  have : (fun x : ResultVar => (match x with | .tmp t => pure (tmps.getD t undef) | .cell a t => do loadVar t (← asAddr (tmps.getD a undef)) : Sem Value)) = resSem tmps := by
    funext x; cases x <;> rfl
  rw [← this]
  rfl
theorem ret_sound {P : Program} {F : Fr} {G : Gh} {st : St} {a : Act} {w : World} (h : Rel P F G st a w) {fn : Func} {r : PV} {bo : List (List PV)} (hr : retK P fn.results.toList r bo st) :
    ∃ v G', (results fn a.tmps).run P w = .ok v w ∧ RepT P G' w .res r v ∧ Hp P G' w (bxOf bo) ∧ G'.im = G.im ∧ (∀ k, G'.β (.a k) = G.β (.a k)) ∧ (∀ g p, G'.own g = some p → ∃ q, G.own g = some q) := by
  obtain ⟨xs, hxs, hfit, hnd, hgv, rfl, hbo, hbg⟩ := hr
  obtain ⟨hl, hget⟩ := resAll_get hxs
  -- the values
  have hval : ∀ rs : List ResultVar, ∀ xs : List (Loc × PV), resAll st rs = some xs → cellsFit P st rs = true → ∃ vs : List Value, (rs.mapM (resSem a.tmps)).run P w = .ok vs w ∧ vs.length = xs.length ∧
      ∀ (i : Nat) x v, xs[i]? = some x → vs[i]? = some v → (∃ t, x.1 = .t t ∧ RepT P G w (.t t) x.2 v) ∨ (∃ n cells, x.1 = .b (.t n) ∧ x.2 = .agg cells ∧ ∃ cs : Array Value, v = .agg cs ∧ cs.size = cells.length ∧ (∀ u ∈ cs, u.oneCell' = true) ∧ ∀ (j : Nat) y u, cells[j]? = some y → cs[j]? = some u → RepC P G w (.b (.t n), 0, j) y u) := by
    intro rs
    induction rs with
    | nil => intro xs hx _; simp [resAll] at hx; subst hx; exact ⟨[], by simp, rfl, by simp⟩
    | cons rv rs ih =>
      intro xs hx hf
      simp only [resAll, Option.bind_eq_some_iff, Option.map_eq_some_iff] at hx
      obtain ⟨y, hy, zs, hz, rfl⟩ := hx
      cases rv with
      | tmp t =>
        obtain ⟨vs, h1, h2, h3⟩ := ih zs hz hf
        simp only [resOf, Option.some.injEq] at hy
        subst hy
        refine ⟨a.tmps.getD t undef :: vs, by simp only [List.mapM_cons, Sem.run_bind, resSem, Sem.run_pure, Result.andThen_ok, h1], by simp [h2], fun i x v hi hv => ?_⟩
        cases i with
        | zero => simp at hi hv; subst hi; subst hv; left; refine ⟨t, rfl, ?_⟩; have := h.tm t; simpa using this
        | succ i => simp at hi hv; exact h3 i x v hi hv
      | cell a' t =>
        have hf' := hf
        simp only [cellsFit, Bool.and_eq_true] at hf'
        obtain ⟨vs, h1, h2, h3⟩ := ih zs hz hf'.2
        obtain ⟨n, cells, ti, e1, e2, e3, e4, e5⟩ := cellsFit_get hf 0 a' t rfl
        simp only [resOf, e1, e2, Option.map_some, Option.some.injEq] at hy
        subst hy
        have hp := h.tm a'
        rw [e1] at hp
        obtain ⟨hp, hlv⟩ := hp
        have hbox := h.hp.bx _ cells e2
        obtain ⟨rv, hrun, hrep⟩ := run_loadBox hbox e3 (o := 0) (r := .agg cells) (by simp [bxRead, e4, ← e5])
        obtain ⟨-, cs, rfl, hsz, hone, hcr⟩ := hrep
        have hrun' : (loadVar t ⟨G.β (.t n), 0, none⟩).run P w = .ok (.agg cs) w := by simpa [Instr.loadAt, Instr.sureAddr] using hrun
        refine ⟨.agg cs :: vs, by simp only [List.mapM_cons, Sem.run_bind, resSem_cell hp hrun', Sem.run_pure, Result.andThen_ok, h1], by simp [h2], fun i x v hi hv => ?_⟩
        cases i with
        | zero =>
          simp at hi hv; subst hi; subst hv
          right
          refine ⟨n, cells, rfl, rfl, cs, rfl, hsz, hone, fun j y u hy hu => ?_⟩
          have := hcr j y u hy hu
          rwa [Nat.zero_add] at this
        | succ i => simp at hi hv; exact h3 i x v hi hv
  obtain ⟨vs, hrun, hvl, hrep⟩ := hval fn.results.toList xs hxs hfit
  -- whose own becomes the results'
  let f : Pos → Pos := fun p => open Classical in if hx : ∃ i : Nat, p.2.1 = 0 ∧ ∃ x, xs[i]? = some x ∧ x.1 = p.1 then (.res, Classical.choose hx, p.2.2) else p
  have hf : ∀ (i : Nat) x j, xs[i]? = some x → f (x.1, 0, j) = (.res, i, j) := by
    intro i x j hx
    have hex : ∃ i : Nat, (x.1, 0, j).2.1 = 0 ∧ ∃ y, xs[i]? = some y ∧ y.1 = ((x.1, 0, j) : Pos).1 := ⟨i, rfl, x, hx, rfl⟩
    have hspec := Classical.choose_spec hex
    obtain ⟨-, y, hy, hyx⟩ := hspec
    have : Classical.choose hex = i := by
      apply nodup_inj hnd (x := x.1)
      · rw [List.getElem?_map, hy]; simp at hyx; simp [hyx]
      · rw [List.getElem?_map, hx]; rfl
    have h1 : f (x.1, 0, j) = (.res, Classical.choose hex, j) := dif_pos hex
    rw [h1, this]
  have hfb : ∀ k j, f (.b (.a k), 0, j) = (.b (.a k), 0, j) := by
    intro k j
    have : ¬ ∃ i : Nat, ((.b (.a k), 0, j) : Pos).2.1 = 0 ∧ ∃ x, xs[i]? = some x ∧ x.1 = ((.b (.a k), 0, j) : Pos).1 := by
      rintro ⟨i, -, x, hx, he⟩
      have hv : i < vs.length := by rw [hvl]; exact (List.getElem?_eq_some_iff.1 hx).1
      rcases hrep i x vs[i] hx (List.getElem?_eq_getElem hv) with ⟨t, h1, _⟩ | ⟨n, cells, h1, _⟩
      · rw [h1] at he; simp at he
      · rw [h1] at he; simp at he
    simp only [f, dif_neg this]
  let G' : Gh := { im := G.im, β := G.β, live := (fun b => match b with | .a k => k < bo.length | .t _ => False), own := (fun g => (G.own g).map f), fz := G.fz }
  have hps : PStep G w G' w (fun p q => q = f p) := ⟨Keep.refl _ _, fun g p q hg e => ⟨by simp [G', hg, e], rfl, fun _ h => h⟩⟩
  have hlive : ∀ k, k < bo.length → G.live (.a k) := by
    intro k hk
    refine (h.hp.live _).2 ?_
    rw [hbo k, List.getElem?_eq_getElem hk]; rfl
  have hparts : ∀ (i : Nat) x v, xs[i]? = some x → vs[i]? = some v → RepV P G' w .res i x.2 v := by
    intro i x v hx hv
    have hgx : x.2.gives2 = true := by
      have := List.all_eq_true.1 hgv x.2 (List.mem_map.2 ⟨x, List.mem_of_getElem? hx, rfl⟩)
      exact this
    rcases hrep i x v hx hv with ⟨t, h1, h2⟩ | ⟨n, cells, h1, h2, cs, rfl, hsz, hone, hcr⟩
    · have h3 : RepV P G w (.t t) 0 x.2 v := h2.ofV (by intro l e; rw [e] at hgx; simp [PV.gives2, PV.gives1, PV.pass1] at hgx)
      exact h3.pstepG hps (fun j => by rw [← h1]; exact (hf i x j hx).symm) hgx
    · rw [h2] at hgx ⊢
      refine ⟨cs, rfl, hsz, hone, fun j y u hy hu => ?_⟩
      have hgy := List.all_eq_true.1 hgx y (List.mem_of_getElem? hy)
      have g1 : y.pass1 = true ∧ ¬ ∃ K, y = .fn K ∨ y = .efn K := by
        cases y <;> simp [PV.gives1, PV.pass1] at hgy ⊢
      exact (hcr j y u hy hu).pstep hps (by rw [← h1]; exact (hf i x j hx).symm) g1.1 (fun e => absurd e g1.2)
  have hres : ∃ v, (results fn a.tmps).run P w = .ok v w ∧ RepT P G' w .res (resPV (xs.map (·.2))) v := by
    have hrunA : (fn.results.mapM (resSem a.tmps)).run P w = .ok vs.toArray w := by
      rw [Array.mapM_eq_mapM_toList]
      simp only [Sem.run_map, hrun]
      rfl
    refine ⟨if hv : vs.toArray.size = 1 then vs.toArray[0] else .tuple vs.toArray, ?_, ?_⟩
    · rw [results_eq]
      simp only [Sem.run_bind, hrunA, Result.andThen_ok, Sem.run_pure]
    · by_cases h1 : vs.toArray.size = 1
      · rw [dif_pos h1]
        have hv1 : vs.length = 1 := by simpa using h1
        have hx1 : xs.length = 1 := by omega
        match xs, vs, hx1, hv1, hparts with
        | [x], [v], _, _, hparts => exact (hparts 0 x v rfl rfl).toT
      · rw [dif_neg h1]
        have hne : xs.length ≠ 1 := by intro e; apply h1; simp; omega
        have : resPV (xs.map (·.2)) = .tup (xs.map (·.2)) := by
          match xs, hne with
          | [], _ => rfl
          | [x], hne => simp at hne
          | x :: y :: zs, _ => rfl
        rw [this]
        refine ⟨vs.toArray, rfl, by simp [hvl], fun i y u hy hu => ?_⟩
        rw [List.getElem?_map] at hy
        obtain ⟨x, hx, rfl⟩ := Option.map_eq_some_iff.1 hy
        exact hparts i x u hx (by simpa using hu)
  obtain ⟨v, hv1, hv2⟩ := hres
  refine ⟨v, G', hv1, hv2, ⟨fun b cells hb => ?_, fun b => ?_, fun b b' hl hl' he => ?_, h.hp.imlt, fun g p hg => ?_, fun b hl o => ?_, fun b hl => ?_⟩, rfl, fun _ => rfl, fun g p hg => ?_⟩
  · cases b with
    | t n => simp [bxOf] at hb
    | a k =>
      simp only [bxOf] at hb
      have hst : st.bx (.a k) = some cells := by rw [hbo k]; exact hb
      obtain ⟨cs, e, h1, h2, h3, h4⟩ := h.hp.bx _ cells hst
      refine ⟨cs, e, h1, h2, h3, fun j y u hy hu => ?_⟩
      have hgy := List.all_eq_true.1 (hbg cells (List.mem_of_getElem? hb)) y (List.mem_of_getElem? hy)
      have g1 : y.pass1 = true ∧ ¬ ∃ K, y = .fn K ∨ y = .efn K := by
        cases y <;> simp [PV.gives1, PV.pass1] at hgy ⊢
      exact (h4 j y u hy hu).pstep hps (hfb k j).symm g1.1 (fun e => absurd e g1.2)
  · cases b with
    | t n => simp [bxOf, G']
    | a k => simp [bxOf, G']
  · cases b with
    | t n => exact hl.elim
    | a k =>
      cases b' with
      | t n => exact hl'.elim
      | a k' => exact h.hp.inj _ _ (hlive k hl) (hlive k' hl') he
  · simp only [G', Option.map_eq_some_iff] at hg
    obtain ⟨q, hq, _⟩ := hg
    exact h.hp.ownlt g q hq
  · cases b with
    | t n => exact hl.elim
    | a k => exact h.hp.boxim _ (hlive k hl) o
  · cases b with
    | t n => exact hl.elim
    | a k => simp [G', h.hp.boxown _ (hlive k hl)]
  · simp only [G', Option.map_eq_some_iff] at hg
    obtain ⟨q, hq, _⟩ := hg
    exact ⟨q, hq⟩

theorem BRet.of_bodyG {P : Program} (H : Nat → List Nat) (hm : P.follows .mixedOrders = true) {f : Nat} {fn : Func} {c : Code} (hf : P.funcs[f]? = some fn) (hb : fn.body = some c) (hn : (fn.name != "runtime.NumGoroutine") = true) (hd : cOk P H fn.ntmps c = true) {rs : List ResultVar} (hrs : fn.results = rs.toArray)
    {bi bo : List (List PV)} {args : List PV} {r : PV} (hl : bo.length = bi.length) (ha : args.length ≤ fn.ntmps) {Q : Ex → St → Prop} (hQn : ∀ s, Q .normal s → wk P (retK P rs r bo) s) (hQr : ∀ s, Q .ret s → wk P (retK P rs r bo) s) (hQe : ∀ i s, Q (.exit i) s → False) (h : bwp P H c Q (St.init args bi)) : BRet P f bi args r bo := by
  have hrs' : fn.results.toList = rs := by rw [hrs]
  rw [← hrs'] at hQn hQr
  refine ⟨by simp [isFn, hf, hb, hn], hl, fun G w vs Wr hvs hargs hp hown hbox hfz hfm htb => ?_⟩
  let F : Fr := ⟨fn.ntmps, G.im, w, Wr, fun k => G.β (.a k), FreeB G w⟩
  have hsz : (vs ++ Array.replicate (fn.ntmps - vs.size) undef).size = fn.ntmps := by simp; omega
  have hrel : Rel P F G (St.init args bi) { tmps := vs ++ Array.replicate (fn.ntmps - vs.size) undef, defers := [] } w := by
    refine ⟨fun t => ?_, hp, ⟨Ext.refl _ _ _, fun g p hg => .inr (hown g p hg), fun b hl => .inr (hbox b hl), fun k => rfl, hfz, hfm⟩, hsz, rfl, fun g hg => ⟨hg, .refl w g⟩, htb⟩
    by_cases ht : t < args.length
    · have h1 : args[t]? = some args[t] := List.getElem?_eq_getElem ht
      have h2 : vs[t]? = some vs[t] := Array.getElem?_eq_getElem (by omega)
      have h3 : (vs ++ Array.replicate (fn.ntmps - vs.size) undef).getD t undef = vs[t] := by
        rw [Array.getD_eq_getD_getElem?, Array.getElem?_append_left (by omega), h2]; rfl
      have h4 : (St.init args bi).tm t = args[t] := by simp [St.init, h1]
      show RepT P G w (.t t) ((St.init args bi).tm t) ((vs ++ Array.replicate (fn.ntmps - vs.size) undef).getD t undef)
      rw [h3, h4]
      exact hargs t _ _ h1 h2
    · have h4 : (St.init args bi).tm t = .und := by simp [St.init, List.getElem?_eq_none (Nat.le_of_not_lt ht)]
      show RepT P G w (.t t) ((St.init args bi).tm t) ((vs ++ Array.replicate (fn.ntmps - vs.size) undef).getD t undef)
      rw [h4]
      show (vs ++ Array.replicate (fn.ntmps - vs.size) undef).getD t undef = undef
      rw [Array.getD_eq_getD_getElem?, Array.getElem?_append_right (by omega)]
      by_cases h5 : t - vs.size < fn.ntmps - vs.size
      · simp [h5]
      · simp [h5]
  refine calls_of_wp hf hb ?_
  refine wp_mono (bwp_sound (F := F) hm c _ G _ _ w hd h hrel) fun e a' w' he => ?_
  have hend : ∀ G1 s, Rel P F G1 s a' w' → wk P (retK P fn.results.toList r bo) s → a'.defers = [] ∧ ∃ v, (results fn a'.tmps).run P w' = .ok v w' ∧
      ∃ v' G', Ending.returned v = .returned v' ∧ RepT P G' w' .res r v' ∧ Hp P G' w' (bxOf bo) ∧ Ext G.im w G'.im w' Wr ∧ (∀ k, G'.β (.a k) = G.β (.a k)) ∧ (∀ g p, G'.own g = some p → w.heap.size ≤ g ∨ Wr g) ∧
      ∀ g, FreeB G w g → KindSame w w' g ∧ (∃ cs e, w'.heap[g]? = some (.cells cs e (0, 0))) ∧ G'.own g = none ∧ ∀ o, ¬ G'.im g o := by
    rintro G0 s0 hR0 ⟨s, hw, hk⟩
    obtain ⟨G1, hR⟩ := hw F G0 a' w' hR0
    obtain ⟨v, G', h1, h2, h3, h4, h5, h6⟩ := ret_sound hR hk
    refine ⟨hR.defers, v, h1, v, G', rfl, h2, h3, by rw [h4]; exact hR.sn.ext, fun k => by rw [h5 k]; exact hR.sn.βa k, fun g p hg => ?_, fun g hg => ?_⟩
    rotate_left
    · obtain ⟨hz1, hz2⟩ := hR.z g hg
      refine ⟨hz2, hz1.1, ?_, by rw [h4]; exact hz1.2.2.2.1⟩
      cases ho : G'.own g with
      | none => rfl
      | some p =>
        obtain ⟨q, hq⟩ := h6 g p ho
        rw [hz1.2.1] at hq; cases hq
    obtain ⟨q, hq⟩ := h6 g p hg
    exact hR.sn.own g q hq
  cases e with
  | normal => obtain ⟨G1, s, hR, hk⟩ := he; exact hend G1 s hR (hQn s hk)
  | ret => obtain ⟨G1, s, hR, hk⟩ := he; exact hend G1 s hR (hQr s hk)
  | exit id => obtain ⟨G1, s, hR, hk⟩ := he; exact (hQe id s hk).elim
  | goto l => exact he.elim
  | panic c => exact he.elim
  | outgrown => exact he.elim
theorem BRet.of_body {P : Program} (H : Nat → List Nat) (hm : P.follows .mixedOrders = true) {f : Nat} {fn : Func} {c : Code} (hf : P.funcs[f]? = some fn) (hb : fn.body = some c) (hn : (fn.name != "runtime.NumGoroutine") = true) (hd : cOk P H fn.ntmps c = true) {rs : List ResultVar} (hrs : fn.results = rs.toArray)
    {bi bo : List (List PV)} {args : List PV} {r : PV} (hl : bo.length = bi.length) (ha : args.length ≤ fn.ntmps) (h : bwp P H c (endK P rs r bo) (St.init args bi)) : BRet P f bi args r bo :=
  BRet.of_bodyG H hm hf hb hn hd hrs hl ha (fun s hs => ⟨s, fun F G a w hr => ⟨G, hr⟩, hs⟩) (fun s hs => ⟨s, fun F G a w hr => ⟨G, hr⟩, hs⟩) (fun i s hs => hs) h
def endW (P : Program) (rs : List ResultVar) (r : PV) (bo : List (List PV)) : Ex → St → Prop
  | .normal => wk P (retK P rs r bo)
  | .ret => wk P (retK P rs r bo)
  | .exit _ => fun _ => False
theorem BRet.of_bodyW {P : Program} (H : Nat → List Nat) (hm : P.follows .mixedOrders = true) {f : Nat} {fn : Func} {c : Code} (hf : P.funcs[f]? = some fn) (hb : fn.body = some c) (hn : (fn.name != "runtime.NumGoroutine") = true) (hd : cOk P H fn.ntmps c = true) {rs : List ResultVar} (hrs : fn.results = rs.toArray)
    {bi bo : List (List PV)} {args : List PV} {r : PV} (hl : bo.length = bi.length) (ha : args.length ≤ fn.ntmps) (h : bwp P H c (endW P rs r bo) (St.init args bi)) : BRet P f bi args r bo :=
  BRet.of_bodyG H hm hf hb hn hd hrs hl ha (fun s hs => hs) (fun s hs => hs) (fun i s hs => hs) h

end Go.Bee


namespace Go.Bee.Ty
open Go Go.Bee Go.Proofs
theorem ty0 : tyi Tryz.prog 0 = some ⟨1, 0, false, none, false, false, true, false, none, [], [.junk]⟩ := by kernel_rfl
theorem ty1 : tyi Tryz.prog 1 = some ⟨1, 8, false, none, false, false, true, false, none, [], [.one]⟩ := by kernel_rfl
theorem ty2 : tyi Tryz.prog 2 = some ⟨1, 8, false, none, false, false, false, false, some .i64, [], [.d (.int .i64 0)]⟩ := by kernel_rfl
theorem ty3 : tyi Tryz.prog 3 = some ⟨1, 8, false, none, false, false, false, false, some .i64, [], [.d (.int .i64 0)]⟩ := by kernel_rfl
theorem ty4 : tyi Tryz.prog 4 = some ⟨1, 1, false, none, false, true, false, false, none, [], [.d (.bool false)]⟩ := by kernel_rfl
theorem ty5 : tyi Tryz.prog 5 = some ⟨1, 1, false, none, false, false, false, false, some .u8, [], [.d (.int .u8 0)]⟩ := by kernel_rfl
theorem ty6 : tyi Tryz.prog 6 = some ⟨1, 1, false, none, false, false, false, false, some .u8, [], [.d (.int .u8 0)]⟩ := by kernel_rfl
theorem ty7 : tyi Tryz.prog 7 = some ⟨4, 24, true, none, false, false, false, false, none, [some (0, 1, false), some (1, 1, false), some (2, 1, false), some (3, 1, false)], [.d (.int .i64 0), .d (.int .i64 0), .d (.bool false), .d (.int .u8 0)]⟩ := by kernel_rfl
theorem ty8 : tyi Tryz.prog 8 = some ⟨4, 24, true, none, false, false, false, false, none, [some (0, 1, false), some (1, 1, false), some (2, 1, false), some (3, 1, false)], [.d (.int .i64 0), .d (.int .i64 0), .d (.bool false), .d (.int .u8 0)]⟩ := by kernel_rfl
theorem ty9 : tyi Tryz.prog 9 = some ⟨1, 16, false, none, true, false, false, false, none, [], [.d (.str [])]⟩ := by kernel_rfl
theorem ty10 : tyi Tryz.prog 10 = some ⟨1, 16, false, none, true, false, false, false, none, [], [.d (.str [])]⟩ := by kernel_rfl
theorem ty11 : tyi Tryz.prog 11 = some ⟨1, 16, false, none, true, false, false, false, none, [], [.d (.str [])]⟩ := by kernel_rfl
theorem ty12 : tyi Tryz.prog 12 = some ⟨1, 8, false, none, false, false, false, false, some .u64, [], [.d (.int .u64 0)]⟩ := by kernel_rfl
theorem ty13 : tyi Tryz.prog 13 = some ⟨2, 24, true, none, false, false, false, false, none, [some (0, 1, false), some (1, 1, false)], [.d (.str []), .d (.int .u64 0)]⟩ := by kernel_rfl
theorem ty14 : tyi Tryz.prog 14 = some ⟨2, 24, true, none, false, false, false, false, none, [some (0, 1, false), some (1, 1, false)], [.d (.str []), .d (.int .u64 0)]⟩ := by kernel_rfl
theorem ty15 : tyi Tryz.prog 15 = some ⟨1, 8, false, none, false, false, true, true, none, [], [.one]⟩ := by kernel_rfl
theorem ty16 : tyi Tryz.prog 16 = some ⟨1, 8, false, none, false, false, true, true, none, [], [.one]⟩ := by kernel_rfl
theorem ty17 : tyi Tryz.prog 17 = some ⟨1, 8, false, none, false, false, true, true, none, [], [.one]⟩ := by kernel_rfl
theorem ty18 : tyi Tryz.prog 18 = some ⟨1, 8, true, none, false, false, false, false, none, [some (0, 1, false)], [.one]⟩ := by kernel_rfl
theorem ty19 : tyi Tryz.prog 19 = some ⟨1, 8, true, none, false, false, false, false, none, [some (0, 1, false)], [.one]⟩ := by kernel_rfl
theorem ty20 : tyi Tryz.prog 20 = some ⟨1, 16, false, none, false, false, true, false, none, [], [.one]⟩ := by kernel_rfl
theorem ty21 : tyi Tryz.prog 21 = some ⟨1, 4, false, none, false, false, false, false, some .i32, [], [.d (.int .i32 0)]⟩ := by kernel_rfl
theorem ty22 : tyi Tryz.prog 22 = some ⟨1, 24, false, some 9, false, false, false, false, none, [], [.nilS]⟩ := by kernel_rfl
theorem ty23 : tyi Tryz.prog 23 = some ⟨1, 8, false, none, false, false, true, false, none, [], [.one]⟩ := by kernel_rfl
theorem ty24 : tyi Tryz.prog 24 = some ⟨4, 40, true, none, false, false, false, false, none, [some (0, 1, false), some (1, 1, false), some (2, 1, false), some (3, 1, false)], [.d (.int .i64 0), .d (.int .i64 0), .d (.str []), .d (.int .i64 0)]⟩ := by kernel_rfl
theorem ty25 : tyi Tryz.prog 25 = some ⟨4, 40, true, none, false, false, false, false, none, [some (0, 1, false), some (1, 1, false), some (2, 1, false), some (3, 1, false)], [.d (.int .i64 0), .d (.int .i64 0), .d (.str []), .d (.int .i64 0)]⟩ := by kernel_rfl
theorem ty26 : tyi Tryz.prog 26 = some ⟨1, 0, false, none, false, false, true, false, none, [], [.junk]⟩ := by kernel_rfl
theorem ty27 : tyi Tryz.prog 27 = some ⟨1, 8, false, none, false, false, true, false, none, [], [.one]⟩ := by kernel_rfl
theorem ty28 : tyi Tryz.prog 28 = some ⟨1, 8, false, none, false, false, true, false, none, [], [.one]⟩ := by kernel_rfl
theorem ty29 : tyi Tryz.prog 29 = some ⟨1, 8, false, none, false, false, true, false, none, [], [.one]⟩ := by kernel_rfl
theorem ty30 : tyi Tryz.prog 30 = some ⟨1, 8, false, none, false, false, true, false, none, [], [.one]⟩ := by kernel_rfl
theorem ty31 : tyi Tryz.prog 31 = some ⟨1, 8, false, none, false, false, true, false, none, [], [.one]⟩ := by kernel_rfl
theorem ty32 : tyi Tryz.prog 32 = some ⟨1, 24, false, some 25, false, false, false, false, none, [], [.nilS]⟩ := by kernel_rfl
theorem ty33 : tyi Tryz.prog 33 = some ⟨1, 0, false, none, false, false, true, false, none, [], [.junk]⟩ := by kernel_rfl
theorem ty34 : tyi Tryz.prog 34 = some ⟨1, 8, false, none, false, false, true, false, none, [], [.one]⟩ := by kernel_rfl
theorem ty35 : tyi Tryz.prog 35 = some ⟨1, 8, false, none, false, false, true, false, none, [], [.one]⟩ := by kernel_rfl
theorem ty36 : tyi Tryz.prog 36 = some ⟨1, 8, false, none, false, false, true, false, none, [], [.one]⟩ := by kernel_rfl
theorem ty37 : tyi Tryz.prog 37 = some ⟨1, 24, false, some 5, false, false, false, false, none, [], [.nilS]⟩ := by kernel_rfl
theorem ty38 : tyi Tryz.prog 38 = some ⟨1, 8, false, none, false, false, true, false, none, [], [.one]⟩ := by kernel_rfl
theorem ty39 : tyi Tryz.prog 39 = some ⟨1, 0, false, none, false, false, true, false, none, [], [.junk]⟩ := by kernel_rfl
theorem ty40 : tyi Tryz.prog 40 = some ⟨1, 8, false, none, false, false, true, false, none, [], [.one]⟩ := by kernel_rfl
theorem ty41 : tyi Tryz.prog 41 = some ⟨1, 0, false, none, false, false, true, false, none, [], [.junk]⟩ := by kernel_rfl
theorem ty42 : tyi Tryz.prog 42 = some ⟨1, 8, false, none, false, false, true, false, none, [], [.one]⟩ := by kernel_rfl
theorem ty43 : tyi Tryz.prog 43 = some ⟨1, 0, false, none, false, false, true, false, none, [], [.junk]⟩ := by kernel_rfl
theorem ty44 : tyi Tryz.prog 44 = some ⟨1, 8, false, none, false, false, true, false, none, [], [.one]⟩ := by kernel_rfl
theorem ty45 : tyi Tryz.prog 45 = some ⟨1, 8, false, none, false, false, true, false, none, [], [.one]⟩ := by kernel_rfl
theorem ty46 : tyi Tryz.prog 46 = some ⟨1, 24, false, some 48, false, false, false, false, none, [], [.nilS]⟩ := by kernel_rfl
theorem ty47 : tyi Tryz.prog 47 = some ⟨4, 56, true, none, false, false, false, false, none, [some (0, 1, false), some (1, 1, false), some (2, 1, false), some (3, 1, false)], [.d (.int .i64 0), .d (.str []), .d (.int .i64 0), .nilS]⟩ := by kernel_rfl
theorem ty48 : tyi Tryz.prog 48 = some ⟨4, 56, true, none, false, false, false, false, none, [some (0, 1, false), some (1, 1, false), some (2, 1, false), some (3, 1, false)], [.d (.int .i64 0), .d (.str []), .d (.int .i64 0), .nilS]⟩ := by kernel_rfl
theorem ty49 : tyi Tryz.prog 49 = some ⟨1, 0, false, none, false, false, true, false, none, [], [.junk]⟩ := by kernel_rfl
theorem ty50 : tyi Tryz.prog 50 = some ⟨1, 8, false, none, false, false, true, false, none, [], [.one]⟩ := by kernel_rfl
theorem ty51 : tyi Tryz.prog 51 = some ⟨1, 8, false, none, false, false, true, false, none, [], [.one]⟩ := by kernel_rfl
theorem ty52 : tyi Tryz.prog 52 = some ⟨1, 8, false, none, false, false, true, false, none, [], [.one]⟩ := by kernel_rfl
theorem ty53 : tyi Tryz.prog 53 = some ⟨1, 8, false, none, false, false, true, false, none, [], [.one]⟩ := by kernel_rfl
theorem ty54 : tyi Tryz.prog 54 = some ⟨1, 8, false, none, false, false, true, false, none, [], [.one]⟩ := by kernel_rfl
theorem ty55 : tyi Tryz.prog 55 = some ⟨1, 8, false, none, false, false, true, true, none, [], [.one]⟩ := by kernel_rfl
theorem ty56 : tyi Tryz.prog 56 = some ⟨1, 8, false, none, false, false, true, false, none, [], [.one]⟩ := by kernel_rfl
theorem ty57 : tyi Tryz.prog 57 = some ⟨2, 32, true, none, false, false, false, false, none, [some (0, 1, false), some (1, 1, false)], [.nilS, .d (.bool false)]⟩ := by kernel_rfl
theorem ty58 : tyi Tryz.prog 58 = some ⟨2, 32, true, none, false, false, false, false, none, [some (0, 1, false), some (1, 1, false)], [.nilS, .d (.bool false)]⟩ := by kernel_rfl
theorem ty59 : tyi Tryz.prog 59 = some ⟨1, 0, false, none, false, false, true, false, none, [], [.junk]⟩ := by kernel_rfl
theorem ty60 : tyi Tryz.prog 60 = some ⟨1, 8, false, none, false, false, true, false, none, [], [.one]⟩ := by kernel_rfl
theorem ty61 : tyi Tryz.prog 61 = some ⟨1, 8, false, none, false, false, true, false, none, [], [.one]⟩ := by kernel_rfl
theorem ty62 : tyi Tryz.prog 62 = some ⟨1, 8, false, none, false, false, true, false, none, [], [.one]⟩ := by kernel_rfl
theorem ty63 : tyi Tryz.prog 63 = some ⟨1, 8, false, none, false, false, true, false, none, [], [.one]⟩ := by kernel_rfl
theorem ty64 : tyi Tryz.prog 64 = some ⟨1, 8, false, none, false, false, true, false, none, [], [.one]⟩ := by kernel_rfl
theorem ty65 : tyi Tryz.prog 65 = some ⟨1, 8, false, none, false, false, true, false, none, [], [.one]⟩ := by kernel_rfl
theorem ty66 : tyi Tryz.prog 66 = some ⟨1, 8, false, none, false, false, true, false, none, [], [.one]⟩ := by kernel_rfl
theorem ty67 : tyi Tryz.prog 67 = some ⟨1, 8, false, none, false, false, true, true, none, [], [.one]⟩ := by kernel_rfl
theorem ty68 : tyi Tryz.prog 68 = some ⟨3, 32, true, none, false, false, false, false, none, [some (0, 1, false), some (1, 1, false), some (2, 1, false)], [.d (.str []), .d (.int .i64 0), .d (.bool false)]⟩ := by kernel_rfl
theorem ty69 : tyi Tryz.prog 69 = some ⟨3, 32, true, none, false, false, false, false, none, [some (0, 1, false), some (1, 1, false), some (2, 1, false)], [.d (.str []), .d (.int .i64 0), .d (.bool false)]⟩ := by kernel_rfl
theorem ty70 : tyi Tryz.prog 70 = some ⟨1, 8, false, none, false, false, true, false, none, [], [.one]⟩ := by kernel_rfl
theorem ty71 : tyi Tryz.prog 71 = some ⟨1, 8, false, none, false, false, true, true, none, [], [.one]⟩ := by kernel_rfl
theorem ty72 : tyi Tryz.prog 72 = some ⟨3, 32, true, none, false, false, false, false, none, [some (0, 1, false), some (1, 1, false), some (2, 1, false)], [.d (.str []), .d (.int .i64 0), .d (.bool false)]⟩ := by kernel_rfl
theorem ty73 : tyi Tryz.prog 73 = some ⟨3, 32, true, none, false, false, false, false, none, [some (0, 1, false), some (1, 1, false), some (2, 1, false)], [.d (.str []), .d (.int .i64 0), .d (.bool false)]⟩ := by kernel_rfl
theorem ty74 : tyi Tryz.prog 74 = some ⟨1, 8, false, none, false, false, true, false, none, [], [.one]⟩ := by kernel_rfl
theorem ty75 : tyi Tryz.prog 75 = some ⟨1, 8, false, none, false, false, true, false, none, [], [.one]⟩ := by kernel_rfl
theorem ty76 : tyi Tryz.prog 76 = some ⟨1, 8, false, none, false, false, true, false, none, [], [.one]⟩ := by kernel_rfl
theorem ty77 : tyi Tryz.prog 77 = some ⟨1, 8, false, none, false, false, true, false, none, [], [.one]⟩ := by kernel_rfl
theorem ty78 : tyi Tryz.prog 78 = some ⟨1, 0, false, none, false, false, true, false, none, [], [.junk]⟩ := by kernel_rfl
theorem ty79 : tyi Tryz.prog 79 = some ⟨1, 8, false, none, false, false, true, false, none, [], [.one]⟩ := by kernel_rfl
theorem ty80 : tyi Tryz.prog 80 = some ⟨1, 8, false, none, false, false, true, false, none, [], [.one]⟩ := by kernel_rfl
theorem ty81 : tyi Tryz.prog 81 = some ⟨1, 8, false, none, false, false, true, true, none, [], [.one]⟩ := by kernel_rfl
theorem ty82 : tyi Tryz.prog 82 = some ⟨1, 8, false, none, false, false, false, false, some .u64, [], [.d (.int .u64 0)]⟩ := by kernel_rfl
theorem ty83 : tyi Tryz.prog 83 = some ⟨3, 40, true, none, false, false, false, false, none, [some (0, 1, false), some (1, 1, false), some (2, 1, false)], [.nilS, .d (.int .i64 0), .d (.int .u64 0)]⟩ := by kernel_rfl
theorem ty84 : tyi Tryz.prog 84 = some ⟨3, 40, true, none, false, false, false, false, none, [some (0, 1, false), some (1, 1, false), some (2, 1, false)], [.nilS, .d (.int .i64 0), .d (.int .u64 0)]⟩ := by kernel_rfl
theorem ty85 : tyi Tryz.prog 85 = some ⟨1, 8, false, none, false, false, true, false, none, [], [.one]⟩ := by kernel_rfl
theorem ty86 : tyi Tryz.prog 86 = some ⟨1, 8, false, none, false, false, true, false, none, [], [.one]⟩ := by kernel_rfl
theorem ty87 : tyi Tryz.prog 87 = some ⟨1, 8, false, none, false, false, true, false, none, [], [.one]⟩ := by kernel_rfl
theorem ty88 : tyi Tryz.prog 88 = some ⟨1, 24, false, some 3, false, false, false, false, none, [], [.nilS]⟩ := by kernel_rfl
theorem ty89 : tyi Tryz.prog 89 = some ⟨1, 8, false, none, false, false, true, false, none, [], [.one]⟩ := by kernel_rfl
theorem ty90 : tyi Tryz.prog 90 = some ⟨1, 8, false, none, false, false, true, false, none, [], [.one]⟩ := by kernel_rfl
theorem ty91 : tyi Tryz.prog 91 = some ⟨1, 8, false, none, false, false, true, true, none, [], [.one]⟩ := by kernel_rfl
theorem ty92 : tyi Tryz.prog 92 = some ⟨2, 32, true, none, false, false, false, false, none, [some (0, 1, false), some (1, 1, false)], [.one, .nilS]⟩ := by kernel_rfl
theorem ty93 : tyi Tryz.prog 93 = some ⟨2, 32, true, none, false, false, false, false, none, [some (0, 1, false), some (1, 1, false)], [.one, .nilS]⟩ := by kernel_rfl
theorem ty94 : tyi Tryz.prog 94 = some ⟨1, 16, false, none, false, false, true, false, none, [], [.one]⟩ := by kernel_rfl
theorem ty95 : tyi Tryz.prog 95 = some ⟨1, 16, false, none, false, false, true, false, none, [], [.one]⟩ := by kernel_rfl
theorem ty96 : tyi Tryz.prog 96 = some ⟨1, 0, false, none, false, false, true, false, none, [], [.junk]⟩ := by kernel_rfl
theorem ty97 : tyi Tryz.prog 97 = some ⟨1, 8, false, none, false, false, true, false, none, [], [.one]⟩ := by kernel_rfl
theorem ty98 : tyi Tryz.prog 98 = some ⟨1, 8, false, none, false, false, true, false, none, [], [.one]⟩ := by kernel_rfl
theorem ty99 : tyi Tryz.prog 99 = some ⟨1, 8, false, none, false, false, true, false, none, [], [.one]⟩ := by kernel_rfl
theorem ty100 : tyi Tryz.prog 100 = some ⟨1, 8, false, none, false, false, true, false, none, [], [.one]⟩ := by kernel_rfl
theorem ty101 : tyi Tryz.prog 101 = some ⟨1, 8, false, none, false, false, true, false, none, [], [.one]⟩ := by kernel_rfl
theorem ty102 : tyi Tryz.prog 102 = some ⟨1, 8, false, none, false, false, true, false, none, [], [.one]⟩ := by kernel_rfl
theorem ty103 : tyi Tryz.prog 103 = some ⟨1, 8, false, none, false, false, true, false, none, [], [.one]⟩ := by kernel_rfl
theorem ty104 : tyi Tryz.prog 104 = some ⟨1, 8, false, none, false, false, true, false, none, [], [.one]⟩ := by kernel_rfl
theorem ty105 : tyi Tryz.prog 105 = some ⟨1, 24, false, some 202, false, false, false, false, none, [], [.nilS]⟩ := by kernel_rfl
theorem ty106 : tyi Tryz.prog 106 = some ⟨2, 48, true, none, false, false, false, false, none, [some (0, 1, false), some (1, 1, false)], [.nilS, .nilS]⟩ := by kernel_rfl
theorem ty107 : tyi Tryz.prog 107 = some ⟨2, 48, true, none, false, false, false, false, none, [some (0, 1, false), some (1, 1, false)], [.nilS, .nilS]⟩ := by kernel_rfl
theorem ty108 : tyi Tryz.prog 108 = some ⟨1, 8, false, none, false, false, true, false, none, [], [.one]⟩ := by kernel_rfl
theorem ty109 : tyi Tryz.prog 109 = some ⟨1, 8, false, none, false, false, true, false, none, [], [.one]⟩ := by kernel_rfl
theorem ty110 : tyi Tryz.prog 110 = some ⟨3, 24, true, none, false, false, false, false, none, [some (0, 1, false), some (1, 1, false), some (2, 1, false)], [.d (.int .i64 0), .d (.int .i64 0), .d (.int .i64 0)]⟩ := by kernel_rfl
theorem ty111 : tyi Tryz.prog 111 = some ⟨3, 24, true, none, false, false, false, false, none, [some (0, 1, false), some (1, 1, false), some (2, 1, false)], [.d (.int .i64 0), .d (.int .i64 0), .d (.int .i64 0)]⟩ := by kernel_rfl
theorem ty112 : tyi Tryz.prog 112 = some ⟨1, 8, false, none, false, false, true, false, none, [], [.one]⟩ := by kernel_rfl
theorem ty113 : tyi Tryz.prog 113 = some ⟨1, 8, false, none, false, false, true, false, none, [], [.one]⟩ := by kernel_rfl
theorem ty114 : tyi Tryz.prog 114 = some ⟨1, 8, false, none, false, false, true, false, none, [], [.one]⟩ := by kernel_rfl
theorem ty115 : tyi Tryz.prog 115 = some ⟨1, 8, false, none, false, false, true, false, none, [], [.one]⟩ := by kernel_rfl
theorem ty116 : tyi Tryz.prog 116 = some ⟨1, 8, false, none, false, false, true, false, none, [], [.one]⟩ := by kernel_rfl
theorem ty117 : tyi Tryz.prog 117 = some ⟨1, 8, false, none, false, false, true, false, none, [], [.one]⟩ := by kernel_rfl
theorem ty118 : tyi Tryz.prog 118 = some ⟨1, 8, false, none, false, false, true, false, none, [], [.one]⟩ := by kernel_rfl
theorem ty119 : tyi Tryz.prog 119 = some ⟨1, 8, false, none, false, false, true, false, none, [], [.one]⟩ := by kernel_rfl
theorem ty120 : tyi Tryz.prog 120 = some ⟨1, 8, false, none, false, false, true, false, none, [], [.one]⟩ := by kernel_rfl
theorem ty121 : tyi Tryz.prog 121 = some ⟨1, 8, false, none, false, false, true, false, none, [], [.one]⟩ := by kernel_rfl
theorem ty122 : tyi Tryz.prog 122 = some ⟨1, 8, false, none, false, false, true, false, none, [], [.one]⟩ := by kernel_rfl
theorem ty123 : tyi Tryz.prog 123 = some ⟨1, 8, false, none, false, false, true, false, none, [], [.one]⟩ := by kernel_rfl
theorem ty124 : tyi Tryz.prog 124 = some ⟨1, 8, false, none, false, false, true, false, none, [], [.one]⟩ := by kernel_rfl
theorem ty125 : tyi Tryz.prog 125 = some ⟨1, 8, false, none, false, false, true, false, none, [], [.one]⟩ := by kernel_rfl
theorem ty126 : tyi Tryz.prog 126 = some ⟨1, 8, false, none, false, false, true, true, none, [], [.one]⟩ := by kernel_rfl
theorem ty127 : tyi Tryz.prog 127 = some ⟨1, 8, false, none, false, false, true, false, none, [], [.one]⟩ := by kernel_rfl
theorem ty128 : tyi Tryz.prog 128 = some ⟨1, 8, false, none, false, false, true, false, none, [], [.one]⟩ := by kernel_rfl
theorem ty129 : tyi Tryz.prog 129 = some ⟨1, 8, false, none, false, false, true, false, none, [], [.one]⟩ := by kernel_rfl
theorem ty130 : tyi Tryz.prog 130 = some ⟨1, 8, false, none, false, false, true, false, none, [], [.one]⟩ := by kernel_rfl
theorem ty131 : tyi Tryz.prog 131 = some ⟨1, 8, false, none, false, false, true, false, none, [], [.one]⟩ := by kernel_rfl
theorem ty132 : tyi Tryz.prog 132 = some ⟨1, 8, false, none, false, false, true, false, none, [], [.one]⟩ := by kernel_rfl
theorem ty133 : tyi Tryz.prog 133 = some ⟨1, 8, false, none, false, false, true, false, none, [], [.one]⟩ := by kernel_rfl
theorem ty134 : tyi Tryz.prog 134 = some ⟨1, 0, false, none, false, false, true, false, none, [], [.junk]⟩ := by kernel_rfl
theorem ty135 : tyi Tryz.prog 135 = some ⟨1, 8, false, none, false, false, true, false, none, [], [.one]⟩ := by kernel_rfl
theorem ty136 : tyi Tryz.prog 136 = some ⟨1, 8, false, none, false, false, true, false, none, [], [.one]⟩ := by kernel_rfl
theorem ty139 : tyi Tryz.prog 139 = some ⟨1, 0, false, none, false, false, true, false, none, [], [.junk]⟩ := by kernel_rfl
theorem ty140 : tyi Tryz.prog 140 = some ⟨1, 8, false, none, false, false, true, false, none, [], [.one]⟩ := by kernel_rfl
theorem ty141 : tyi Tryz.prog 141 = some ⟨1, 8, false, none, false, false, true, false, none, [], [.one]⟩ := by kernel_rfl
theorem ty142 : tyi Tryz.prog 142 = some ⟨1, 8, false, none, false, false, true, false, none, [], [.one]⟩ := by kernel_rfl
theorem ty143 : tyi Tryz.prog 143 = some ⟨1, 8, false, none, false, false, true, false, none, [], [.one]⟩ := by kernel_rfl
theorem ty144 : tyi Tryz.prog 144 = some ⟨1, 8, false, none, false, false, true, false, none, [], [.one]⟩ := by kernel_rfl
theorem ty145 : tyi Tryz.prog 145 = some ⟨1, 8, false, none, false, false, false, false, some .u64, [], [.d (.int .u64 0)]⟩ := by kernel_rfl
theorem ty146 : tyi Tryz.prog 146 = some ⟨1, 8, false, none, false, false, true, false, none, [], [.one]⟩ := by kernel_rfl
theorem ty147 : tyi Tryz.prog 147 = some ⟨1, 8, false, none, false, false, true, false, none, [], [.one]⟩ := by kernel_rfl
theorem ty148 : tyi Tryz.prog 148 = some ⟨1, 8, false, none, false, false, true, false, none, [], [.one]⟩ := by kernel_rfl
theorem ty149 : tyi Tryz.prog 149 = some ⟨1, 8, false, none, false, false, true, false, none, [], [.one]⟩ := by kernel_rfl
theorem ty150 : tyi Tryz.prog 150 = some ⟨1, 8, false, none, false, false, false, false, some .i64, [], [.d (.int .i64 0)]⟩ := by kernel_rfl
theorem ty151 : tyi Tryz.prog 151 = some ⟨1, 0, false, none, false, false, true, false, none, [], [.junk]⟩ := by kernel_rfl
theorem ty152 : tyi Tryz.prog 152 = some ⟨1, 8, false, none, false, false, true, false, none, [], [.one]⟩ := by kernel_rfl
theorem ty153 : tyi Tryz.prog 153 = some ⟨1, 8, false, none, false, false, true, true, none, [], [.one]⟩ := by kernel_rfl
theorem ty154 : tyi Tryz.prog 154 = some ⟨1, 8, false, none, false, false, true, false, none, [], [.one]⟩ := by kernel_rfl
theorem ty155 : tyi Tryz.prog 155 = some ⟨1, 8, false, none, false, false, true, false, none, [], [.one]⟩ := by kernel_rfl
theorem ty156 : tyi Tryz.prog 156 = some ⟨1, 8, false, none, false, false, true, false, none, [], [.one]⟩ := by kernel_rfl
theorem ty157 : tyi Tryz.prog 157 = some ⟨1, 8, false, none, false, false, true, true, none, [], [.one]⟩ := by kernel_rfl
theorem ty158 : tyi Tryz.prog 158 = some ⟨1, 8, false, none, false, false, true, false, none, [], [.one]⟩ := by kernel_rfl
theorem ty159 : tyi Tryz.prog 159 = some ⟨1, 0, false, none, false, false, true, false, none, [], [.junk]⟩ := by kernel_rfl
theorem ty160 : tyi Tryz.prog 160 = some ⟨1, 8, false, none, false, false, true, false, none, [], [.one]⟩ := by kernel_rfl
theorem ty161 : tyi Tryz.prog 161 = some ⟨3, 48, true, none, false, false, false, false, none, [some (0, 1, false), some (1, 1, false), some (2, 1, false)], [.d (.str []), .d (.str []), .one]⟩ := by kernel_rfl
theorem ty162 : tyi Tryz.prog 162 = some ⟨3, 48, true, none, false, false, false, false, none, [some (0, 1, false), some (1, 1, false), some (2, 1, false)], [.d (.str []), .d (.str []), .one]⟩ := by kernel_rfl
theorem ty163 : tyi Tryz.prog 163 = some ⟨1, 8, false, none, false, false, true, false, none, [], [.one]⟩ := by kernel_rfl
theorem ty164 : tyi Tryz.prog 164 = some ⟨1, 8, false, none, false, false, true, false, none, [], [.one]⟩ := by kernel_rfl
theorem ty166 : tyi Tryz.prog 166 = some ⟨2, 2, true, none, false, false, false, false, none, [some (0, 1, false), some (1, 1, false)], [.d (.int .u8 0), .d (.int .u8 0)]⟩ := by kernel_rfl
theorem ty167 : tyi Tryz.prog 167 = some ⟨2, 2, true, none, false, false, false, false, none, [some (0, 1, false), some (1, 1, false)], [.d (.int .u8 0), .d (.int .u8 0)]⟩ := by kernel_rfl
theorem ty168 : tyi Tryz.prog 168 = some ⟨32, 32, true, none, false, false, true, false, none, [], [.d (.int .u8 0), .d (.int .u8 0), .d (.int .u8 0), .d (.int .u8 0), .d (.int .u8 0), .d (.int .u8 0), .d (.int .u8 0), .d (.int .u8 0), .d (.int .u8 0), .d (.int .u8 0), .d (.int .u8 0), .d (.int .u8 0), .d (.int .u8 0), .d (.int .u8 0), .d (.int .u8 0), .d (.int .u8 0), .d (.int .u8 0), .d (.int .u8 0), .d (.int .u8 0), .d (.int .u8 0), .d (.int .u8 0), .d (.int .u8 0), .d (.int .u8 0), .d (.int .u8 0), .d (.int .u8 0), .d (.int .u8 0), .d (.int .u8 0), .d (.int .u8 0), .d (.int .u8 0), .d (.int .u8 0), .d (.int .u8 0), .d (.int .u8 0)]⟩ := by kernel_rfl
theorem ty169 : tyi Tryz.prog 169 = some ⟨1, 8, false, none, false, false, true, false, none, [], [.one]⟩ := by kernel_rfl
theorem ty170 : tyi Tryz.prog 170 = some ⟨1, 4, false, none, false, false, false, false, some .u32, [], [.d (.int .u32 0)]⟩ := by kernel_rfl
theorem ty171 : tyi Tryz.prog 171 = some ⟨1, 0, false, none, false, false, true, false, none, [], [.junk]⟩ := by kernel_rfl
theorem ty172 : tyi Tryz.prog 172 = some ⟨1, 8, false, none, false, false, true, false, none, [], [.one]⟩ := by kernel_rfl
theorem ty173 : tyi Tryz.prog 173 = some ⟨1, 8, false, none, false, false, true, false, none, [], [.one]⟩ := by kernel_rfl
theorem ty174 : tyi Tryz.prog 174 = some ⟨1, 8, false, none, false, false, true, true, none, [], [.one]⟩ := by kernel_rfl
theorem ty175 : tyi Tryz.prog 175 = some ⟨1, 16, true, none, false, false, false, false, none, [some (0, 1, false)], [.d (.str [])]⟩ := by kernel_rfl
theorem ty176 : tyi Tryz.prog 176 = some ⟨1, 16, true, none, false, false, false, false, none, [some (0, 1, false)], [.d (.str [])]⟩ := by kernel_rfl
theorem ty177 : tyi Tryz.prog 177 = some ⟨24, 24, true, none, false, false, true, false, none, [], [.d (.int .u8 0), .d (.int .u8 0), .d (.int .u8 0), .d (.int .u8 0), .d (.int .u8 0), .d (.int .u8 0), .d (.int .u8 0), .d (.int .u8 0), .d (.int .u8 0), .d (.int .u8 0), .d (.int .u8 0), .d (.int .u8 0), .d (.int .u8 0), .d (.int .u8 0), .d (.int .u8 0), .d (.int .u8 0), .d (.int .u8 0), .d (.int .u8 0), .d (.int .u8 0), .d (.int .u8 0), .d (.int .u8 0), .d (.int .u8 0), .d (.int .u8 0), .d (.int .u8 0)]⟩ := by kernel_rfl
theorem ty178 : tyi Tryz.prog 178 = some ⟨1, 8, false, none, false, false, true, false, none, [], [.one]⟩ := by kernel_rfl
theorem ty179 : tyi Tryz.prog 179 = some ⟨1, 8, false, none, false, false, true, false, none, [], [.one]⟩ := by kernel_rfl
theorem ty180 : tyi Tryz.prog 180 = some ⟨1, 0, false, none, false, false, true, false, none, [], [.junk]⟩ := by kernel_rfl
theorem ty181 : tyi Tryz.prog 181 = some ⟨1, 8, false, none, false, false, true, false, none, [], [.one]⟩ := by kernel_rfl
theorem ty182 : tyi Tryz.prog 182 = some ⟨1, 8, false, none, false, false, true, false, none, [], [.one]⟩ := by kernel_rfl
theorem ty183 : tyi Tryz.prog 183 = some ⟨20, 160, true, none, false, false, true, false, none, [], [.d (.int .u64 0), .d (.int .u64 0), .d (.int .u64 0), .d (.int .u64 0), .d (.int .u64 0), .d (.int .u64 0), .d (.int .u64 0), .d (.int .u64 0), .d (.int .u64 0), .d (.int .u64 0), .d (.int .u64 0), .d (.int .u64 0), .d (.int .u64 0), .d (.int .u64 0), .d (.int .u64 0), .d (.int .u64 0), .d (.int .u64 0), .d (.int .u64 0), .d (.int .u64 0), .d (.int .u64 0)]⟩ := by kernel_rfl
theorem ty185 : tyi Tryz.prog 185 = some ⟨1, 8, false, none, false, false, true, false, none, [], [.one]⟩ := by kernel_rfl
theorem ty186 : tyi Tryz.prog 186 = some ⟨1, 8, false, none, false, false, true, false, none, [], [.one]⟩ := by kernel_rfl
theorem ty187 : tyi Tryz.prog 187 = some ⟨32, 32, true, none, false, false, true, false, none, [], [.d (.int .u8 0), .d (.int .u8 0), .d (.int .u8 0), .d (.int .u8 0), .d (.int .u8 0), .d (.int .u8 0), .d (.int .u8 0), .d (.int .u8 0), .d (.int .u8 0), .d (.int .u8 0), .d (.int .u8 0), .d (.int .u8 0), .d (.int .u8 0), .d (.int .u8 0), .d (.int .u8 0), .d (.int .u8 0), .d (.int .u8 0), .d (.int .u8 0), .d (.int .u8 0), .d (.int .u8 0), .d (.int .u8 0), .d (.int .u8 0), .d (.int .u8 0), .d (.int .u8 0), .d (.int .u8 0), .d (.int .u8 0), .d (.int .u8 0), .d (.int .u8 0), .d (.int .u8 0), .d (.int .u8 0), .d (.int .u8 0), .d (.int .u8 0)]⟩ := by kernel_rfl
theorem ty189 : tyi Tryz.prog 189 = some ⟨4, 40, true, none, false, false, false, false, none, [some (0, 1, false), some (1, 1, false), some (2, 1, false), some (3, 1, false)], [.one, .one, .one, .d (.str [])]⟩ := by kernel_rfl
theorem ty190 : tyi Tryz.prog 190 = some ⟨4, 40, true, none, false, false, false, false, none, [some (0, 1, false), some (1, 1, false), some (2, 1, false), some (3, 1, false)], [.one, .one, .one, .d (.str [])]⟩ := by kernel_rfl
theorem ty191 : tyi Tryz.prog 191 = some ⟨0, 0, true, none, false, false, true, false, none, [], []⟩ := by kernel_rfl
theorem ty192 : tyi Tryz.prog 192 = some ⟨0, 0, true, none, false, false, false, false, none, [some (0, 0, true)], []⟩ := by kernel_rfl
theorem ty193 : tyi Tryz.prog 193 = some ⟨0, 0, true, none, false, false, false, false, none, [some (0, 0, true)], []⟩ := by kernel_rfl
theorem ty194 : tyi Tryz.prog 194 = some ⟨1, 1, false, none, false, false, false, false, some .u8, [], [.d (.int .u8 0)]⟩ := by kernel_rfl
theorem ty195 : tyi Tryz.prog 195 = some ⟨1, 1, false, none, false, false, false, false, some .u8, [], [.d (.int .u8 0)]⟩ := by kernel_rfl
theorem ty196 : tyi Tryz.prog 196 = some ⟨1, 8, false, none, false, false, true, false, none, [], [.one]⟩ := by kernel_rfl
theorem ty197 : tyi Tryz.prog 197 = some ⟨1, 4, false, none, false, false, false, false, some .i32, [], [.d (.int .i32 0)]⟩ := by kernel_rfl
theorem ty198 : tyi Tryz.prog 198 = some ⟨1, 4, false, none, false, false, false, false, some .i32, [], [.d (.int .i32 0)]⟩ := by kernel_rfl
theorem ty199 : tyi Tryz.prog 199 = some ⟨11, 48, true, none, false, false, false, false, none, [some (0, 1, false), some (1, 1, false), some (2, 1, false), some (3, 1, false), some (4, 1, false), some (5, 1, false), some (6, 1, false), some (7, 1, false), some (8, 1, false), some (9, 1, false), some (10, 1, false)], [.d (.int .u64 0), .d (.int .u64 0), .d (.int .u32 0), .d (.int .u8 0), .d (.int .u8 0), .d (.int .u8 0), .d (.int .u8 0), .one, .one, .d (.int .i32 0), .d (.int .i32 0)]⟩ := by kernel_rfl
theorem ty200 : tyi Tryz.prog 200 = some ⟨11, 48, true, none, false, false, false, false, none, [some (0, 1, false), some (1, 1, false), some (2, 1, false), some (3, 1, false), some (4, 1, false), some (5, 1, false), some (6, 1, false), some (7, 1, false), some (8, 1, false), some (9, 1, false), some (10, 1, false)], [.d (.int .u64 0), .d (.int .u64 0), .d (.int .u32 0), .d (.int .u8 0), .d (.int .u8 0), .d (.int .u8 0), .d (.int .u8 0), .one, .one, .d (.int .i32 0), .d (.int .i32 0)]⟩ := by kernel_rfl
theorem ty201 : tyi Tryz.prog 201 = some ⟨12, 144, true, none, false, false, false, false, none, [some (0, 1, false), some (1, 1, false), some (2, 1, false), some (3, 1, false), some (4, 1, false), some (5, 1, false), some (6, 4, true), some (10, 1, false), some (11, 1, false)], [.d (.str []), .d (.int .i64 0), .d (.int .i64 0), .d (.str []), .d (.int .i64 0), .d (.int .i64 0), .d (.int .i64 0), .d (.str []), .d (.int .i64 0), .nilS, .d (.int .i64 0), .d (.str [])]⟩ := by kernel_rfl
theorem ty202 : tyi Tryz.prog 202 = some ⟨12, 144, true, none, false, false, false, false, none, [some (0, 1, false), some (1, 1, false), some (2, 1, false), some (3, 1, false), some (4, 1, false), some (5, 1, false), some (6, 4, true), some (10, 1, false), some (11, 1, false)], [.d (.str []), .d (.int .i64 0), .d (.int .i64 0), .d (.str []), .d (.int .i64 0), .d (.int .i64 0), .d (.int .i64 0), .d (.str []), .d (.int .i64 0), .nilS, .d (.int .i64 0), .d (.str [])]⟩ := by kernel_rfl
theorem tys : (tyi Tryz.prog 0 = some ⟨1, 0, false, none, false, false, true, false, none, [], [.junk]⟩) ∧ (tyi Tryz.prog 1 = some ⟨1, 8, false, none, false, false, true, false, none, [], [.one]⟩) ∧ (tyi Tryz.prog 2 = some ⟨1, 8, false, none, false, false, false, false, some .i64, [], [.d (.int .i64 0)]⟩) ∧ (tyi Tryz.prog 3 = some ⟨1, 8, false, none, false, false, false, false, some .i64, [], [.d (.int .i64 0)]⟩) ∧ (tyi Tryz.prog 4 = some ⟨1, 1, false, none, false, true, false, false, none, [], [.d (.bool false)]⟩) ∧ (tyi Tryz.prog 5 = some ⟨1, 1, false, none, false, false, false, false, some .u8, [], [.d (.int .u8 0)]⟩) ∧ (tyi Tryz.prog 6 = some ⟨1, 1, false, none, false, false, false, false, some .u8, [], [.d (.int .u8 0)]⟩) ∧ (tyi Tryz.prog 7 = some ⟨4, 24, true, none, false, false, false, false, none, [some (0, 1, false), some (1, 1, false), some (2, 1, false), some (3, 1, false)], [.d (.int .i64 0), .d (.int .i64 0), .d (.bool false), .d (.int .u8 0)]⟩) ∧ (tyi Tryz.prog 8 = some ⟨4, 24, true, none, false, false, false, false, none, [some (0, 1, false), some (1, 1, false), some (2, 1, false), some (3, 1, false)], [.d (.int .i64 0), .d (.int .i64 0), .d (.bool false), .d (.int .u8 0)]⟩) ∧ (tyi Tryz.prog 9 = some ⟨1, 16, false, none, true, false, false, false, none, [], [.d (.str [])]⟩) ∧ (tyi Tryz.prog 10 = some ⟨1, 16, false, none, true, false, false, false, none, [], [.d (.str [])]⟩) ∧ (tyi Tryz.prog 11 = some ⟨1, 16, false, none, true, false, false, false, none, [], [.d (.str [])]⟩) ∧ (tyi Tryz.prog 12 = some ⟨1, 8, false, none, false, false, false, false, some .u64, [], [.d (.int .u64 0)]⟩) ∧ (tyi Tryz.prog 13 = some ⟨2, 24, true, none, false, false, false, false, none, [some (0, 1, false), some (1, 1, false)], [.d (.str []), .d (.int .u64 0)]⟩) ∧ (tyi Tryz.prog 14 = some ⟨2, 24, true, none, false, false, false, false, none, [some (0, 1, false), some (1, 1, false)], [.d (.str []), .d (.int .u64 0)]⟩) ∧ (tyi Tryz.prog 15 = some ⟨1, 8, false, none, false, false, true, true, none, [], [.one]⟩) ∧ (tyi Tryz.prog 16 = some ⟨1, 8, false, none, false, false, true, true, none, [], [.one]⟩) ∧ (tyi Tryz.prog 17 = some ⟨1, 8, false, none, false, false, true, true, none, [], [.one]⟩) ∧ (tyi Tryz.prog 18 = some ⟨1, 8, true, none, false, false, false, false, none, [some (0, 1, false)], [.one]⟩) ∧ (tyi Tryz.prog 19 = some ⟨1, 8, true, none, false, false, false, false, none, [some (0, 1, false)], [.one]⟩) ∧ (tyi Tryz.prog 20 = some ⟨1, 16, false, none, false, false, true, false, none, [], [.one]⟩) ∧ (tyi Tryz.prog 21 = some ⟨1, 4, false, none, false, false, false, false, some .i32, [], [.d (.int .i32 0)]⟩) ∧ (tyi Tryz.prog 22 = some ⟨1, 24, false, some 9, false, false, false, false, none, [], [.nilS]⟩) ∧ (tyi Tryz.prog 23 = some ⟨1, 8, false, none, false, false, true, false, none, [], [.one]⟩) ∧ (tyi Tryz.prog 24 = some ⟨4, 40, true, none, false, false, false, false, none, [some (0, 1, false), some (1, 1, false), some (2, 1, false), some (3, 1, false)], [.d (.int .i64 0), .d (.int .i64 0), .d (.str []), .d (.int .i64 0)]⟩) ∧ (tyi Tryz.prog 25 = some ⟨4, 40, true, none, false, false, false, false, none, [some (0, 1, false), some (1, 1, false), some (2, 1, false), some (3, 1, false)], [.d (.int .i64 0), .d (.int .i64 0), .d (.str []), .d (.int .i64 0)]⟩) ∧ (tyi Tryz.prog 26 = some ⟨1, 0, false, none, false, false, true, false, none, [], [.junk]⟩) ∧ (tyi Tryz.prog 27 = some ⟨1, 8, false, none, false, false, true, false, none, [], [.one]⟩) ∧ (tyi Tryz.prog 28 = some ⟨1, 8, false, none, false, false, true, false, none, [], [.one]⟩) ∧ (tyi Tryz.prog 29 = some ⟨1, 8, false, none, false, false, true, false, none, [], [.one]⟩) ∧ (tyi Tryz.prog 30 = some ⟨1, 8, false, none, false, false, true, false, none, [], [.one]⟩) ∧ (tyi Tryz.prog 31 = some ⟨1, 8, false, none, false, false, true, false, none, [], [.one]⟩) ∧ (tyi Tryz.prog 32 = some ⟨1, 24, false, some 25, false, false, false, false, none, [], [.nilS]⟩) ∧ (tyi Tryz.prog 33 = some ⟨1, 0, false, none, false, false, true, false, none, [], [.junk]⟩) ∧ (tyi Tryz.prog 34 = some ⟨1, 8, false, none, false, false, true, false, none, [], [.one]⟩) ∧ (tyi Tryz.prog 35 = some ⟨1, 8, false, none, false, false, true, false, none, [], [.one]⟩) ∧ (tyi Tryz.prog 36 = some ⟨1, 8, false, none, false, false, true, false, none, [], [.one]⟩) ∧ (tyi Tryz.prog 37 = some ⟨1, 24, false, some 5, false, false, false, false, none, [], [.nilS]⟩) ∧ (tyi Tryz.prog 38 = some ⟨1, 8, false, none, false, false, true, false, none, [], [.one]⟩) ∧ (tyi Tryz.prog 39 = some ⟨1, 0, false, none, false, false, true, false, none, [], [.junk]⟩) ∧ (tyi Tryz.prog 40 = some ⟨1, 8, false, none, false, false, true, false, none, [], [.one]⟩) ∧ (tyi Tryz.prog 41 = some ⟨1, 0, false, none, false, false, true, false, none, [], [.junk]⟩) ∧ (tyi Tryz.prog 42 = some ⟨1, 8, false, none, false, false, true, false, none, [], [.one]⟩) ∧ (tyi Tryz.prog 43 = some ⟨1, 0, false, none, false, false, true, false, none, [], [.junk]⟩) ∧ (tyi Tryz.prog 44 = some ⟨1, 8, false, none, false, false, true, false, none, [], [.one]⟩) ∧ (tyi Tryz.prog 45 = some ⟨1, 8, false, none, false, false, true, false, none, [], [.one]⟩) ∧ (tyi Tryz.prog 46 = some ⟨1, 24, false, some 48, false, false, false, false, none, [], [.nilS]⟩) ∧ (tyi Tryz.prog 47 = some ⟨4, 56, true, none, false, false, false, false, none, [some (0, 1, false), some (1, 1, false), some (2, 1, false), some (3, 1, false)], [.d (.int .i64 0), .d (.str []), .d (.int .i64 0), .nilS]⟩) ∧ (tyi Tryz.prog 48 = some ⟨4, 56, true, none, false, false, false, false, none, [some (0, 1, false), some (1, 1, false), some (2, 1, false), some (3, 1, false)], [.d (.int .i64 0), .d (.str []), .d (.int .i64 0), .nilS]⟩) ∧ (tyi Tryz.prog 49 = some ⟨1, 0, false, none, false, false, true, false, none, [], [.junk]⟩) ∧ (tyi Tryz.prog 50 = some ⟨1, 8, false, none, false, false, true, false, none, [], [.one]⟩) ∧ (tyi Tryz.prog 51 = some ⟨1, 8, false, none, false, false, true, false, none, [], [.one]⟩) ∧ (tyi Tryz.prog 52 = some ⟨1, 8, false, none, false, false, true, false, none, [], [.one]⟩) ∧ (tyi Tryz.prog 53 = some ⟨1, 8, false, none, false, false, true, false, none, [], [.one]⟩) ∧ (tyi Tryz.prog 54 = some ⟨1, 8, false, none, false, false, true, false, none, [], [.one]⟩) ∧ (tyi Tryz.prog 55 = some ⟨1, 8, false, none, false, false, true, true, none, [], [.one]⟩) ∧ (tyi Tryz.prog 56 = some ⟨1, 8, false, none, false, false, true, false, none, [], [.one]⟩) ∧ (tyi Tryz.prog 57 = some ⟨2, 32, true, none, false, false, false, false, none, [some (0, 1, false), some (1, 1, false)], [.nilS, .d (.bool false)]⟩) ∧ (tyi Tryz.prog 58 = some ⟨2, 32, true, none, false, false, false, false, none, [some (0, 1, false), some (1, 1, false)], [.nilS, .d (.bool false)]⟩) ∧ (tyi Tryz.prog 59 = some ⟨1, 0, false, none, false, false, true, false, none, [], [.junk]⟩) ∧ (tyi Tryz.prog 60 = some ⟨1, 8, false, none, false, false, true, false, none, [], [.one]⟩) ∧ (tyi Tryz.prog 61 = some ⟨1, 8, false, none, false, false, true, false, none, [], [.one]⟩) ∧ (tyi Tryz.prog 62 = some ⟨1, 8, false, none, false, false, true, false, none, [], [.one]⟩) ∧ (tyi Tryz.prog 63 = some ⟨1, 8, false, none, false, false, true, false, none, [], [.one]⟩) ∧ (tyi Tryz.prog 64 = some ⟨1, 8, false, none, false, false, true, false, none, [], [.one]⟩) ∧ (tyi Tryz.prog 65 = some ⟨1, 8, false, none, false, false, true, false, none, [], [.one]⟩) ∧ (tyi Tryz.prog 66 = some ⟨1, 8, false, none, false, false, true, false, none, [], [.one]⟩) ∧ (tyi Tryz.prog 67 = some ⟨1, 8, false, none, false, false, true, true, none, [], [.one]⟩) ∧ (tyi Tryz.prog 68 = some ⟨3, 32, true, none, false, false, false, false, none, [some (0, 1, false), some (1, 1, false), some (2, 1, false)], [.d (.str []), .d (.int .i64 0), .d (.bool false)]⟩) ∧ (tyi Tryz.prog 69 = some ⟨3, 32, true, none, false, false, false, false, none, [some (0, 1, false), some (1, 1, false), some (2, 1, false)], [.d (.str []), .d (.int .i64 0), .d (.bool false)]⟩) ∧ (tyi Tryz.prog 70 = some ⟨1, 8, false, none, false, false, true, false, none, [], [.one]⟩) ∧ (tyi Tryz.prog 71 = some ⟨1, 8, false, none, false, false, true, true, none, [], [.one]⟩) ∧ (tyi Tryz.prog 72 = some ⟨3, 32, true, none, false, false, false, false, none, [some (0, 1, false), some (1, 1, false), some (2, 1, false)], [.d (.str []), .d (.int .i64 0), .d (.bool false)]⟩) ∧ (tyi Tryz.prog 73 = some ⟨3, 32, true, none, false, false, false, false, none, [some (0, 1, false), some (1, 1, false), some (2, 1, false)], [.d (.str []), .d (.int .i64 0), .d (.bool false)]⟩) ∧ (tyi Tryz.prog 74 = some ⟨1, 8, false, none, false, false, true, false, none, [], [.one]⟩) ∧ (tyi Tryz.prog 75 = some ⟨1, 8, false, none, false, false, true, false, none, [], [.one]⟩) ∧ (tyi Tryz.prog 76 = some ⟨1, 8, false, none, false, false, true, false, none, [], [.one]⟩) ∧ (tyi Tryz.prog 77 = some ⟨1, 8, false, none, false, false, true, false, none, [], [.one]⟩) ∧ (tyi Tryz.prog 78 = some ⟨1, 0, false, none, false, false, true, false, none, [], [.junk]⟩) ∧ (tyi Tryz.prog 79 = some ⟨1, 8, false, none, false, false, true, false, none, [], [.one]⟩) ∧ (tyi Tryz.prog 80 = some ⟨1, 8, false, none, false, false, true, false, none, [], [.one]⟩) ∧ (tyi Tryz.prog 81 = some ⟨1, 8, false, none, false, false, true, true, none, [], [.one]⟩) ∧ (tyi Tryz.prog 82 = some ⟨1, 8, false, none, false, false, false, false, some .u64, [], [.d (.int .u64 0)]⟩) ∧ (tyi Tryz.prog 83 = some ⟨3, 40, true, none, false, false, false, false, none, [some (0, 1, false), some (1, 1, false), some (2, 1, false)], [.nilS, .d (.int .i64 0), .d (.int .u64 0)]⟩) ∧ (tyi Tryz.prog 84 = some ⟨3, 40, true, none, false, false, false, false, none, [some (0, 1, false), some (1, 1, false), some (2, 1, false)], [.nilS, .d (.int .i64 0), .d (.int .u64 0)]⟩) ∧ (tyi Tryz.prog 85 = some ⟨1, 8, false, none, false, false, true, false, none, [], [.one]⟩) ∧ (tyi Tryz.prog 86 = some ⟨1, 8, false, none, false, false, true, false, none, [], [.one]⟩) ∧ (tyi Tryz.prog 87 = some ⟨1, 8, false, none, false, false, true, false, none, [], [.one]⟩) ∧ (tyi Tryz.prog 88 = some ⟨1, 24, false, some 3, false, false, false, false, none, [], [.nilS]⟩) ∧ (tyi Tryz.prog 89 = some ⟨1, 8, false, none, false, false, true, false, none, [], [.one]⟩) ∧ (tyi Tryz.prog 90 = some ⟨1, 8, false, none, false, false, true, false, none, [], [.one]⟩) ∧ (tyi Tryz.prog 91 = some ⟨1, 8, false, none, false, false, true, true, none, [], [.one]⟩) ∧ (tyi Tryz.prog 92 = some ⟨2, 32, true, none, false, false, false, false, none, [some (0, 1, false), some (1, 1, false)], [.one, .nilS]⟩) ∧ (tyi Tryz.prog 93 = some ⟨2, 32, true, none, false, false, false, false, none, [some (0, 1, false), some (1, 1, false)], [.one, .nilS]⟩) ∧ (tyi Tryz.prog 94 = some ⟨1, 16, false, none, false, false, true, false, none, [], [.one]⟩) ∧ (tyi Tryz.prog 95 = some ⟨1, 16, false, none, false, false, true, false, none, [], [.one]⟩) ∧ (tyi Tryz.prog 96 = some ⟨1, 0, false, none, false, false, true, false, none, [], [.junk]⟩) ∧ (tyi Tryz.prog 97 = some ⟨1, 8, false, none, false, false, true, false, none, [], [.one]⟩) ∧ (tyi Tryz.prog 98 = some ⟨1, 8, false, none, false, false, true, false, none, [], [.one]⟩) ∧ (tyi Tryz.prog 99 = some ⟨1, 8, false, none, false, false, true, false, none, [], [.one]⟩) ∧ (tyi Tryz.prog 100 = some ⟨1, 8, false, none, false, false, true, false, none, [], [.one]⟩) ∧ (tyi Tryz.prog 101 = some ⟨1, 8, false, none, false, false, true, false, none, [], [.one]⟩) ∧ (tyi Tryz.prog 102 = some ⟨1, 8, false, none, false, false, true, false, none, [], [.one]⟩) ∧ (tyi Tryz.prog 103 = some ⟨1, 8, false, none, false, false, true, false, none, [], [.one]⟩) ∧ (tyi Tryz.prog 104 = some ⟨1, 8, false, none, false, false, true, false, none, [], [.one]⟩) ∧ (tyi Tryz.prog 105 = some ⟨1, 24, false, some 202, false, false, false, false, none, [], [.nilS]⟩) ∧ (tyi Tryz.prog 106 = some ⟨2, 48, true, none, false, false, false, false, none, [some (0, 1, false), some (1, 1, false)], [.nilS, .nilS]⟩) ∧ (tyi Tryz.prog 107 = some ⟨2, 48, true, none, false, false, false, false, none, [some (0, 1, false), some (1, 1, false)], [.nilS, .nilS]⟩) ∧ (tyi Tryz.prog 108 = some ⟨1, 8, false, none, false, false, true, false, none, [], [.one]⟩) ∧ (tyi Tryz.prog 109 = some ⟨1, 8, false, none, false, false, true, false, none, [], [.one]⟩) ∧ (tyi Tryz.prog 110 = some ⟨3, 24, true, none, false, false, false, false, none, [some (0, 1, false), some (1, 1, false), some (2, 1, false)], [.d (.int .i64 0), .d (.int .i64 0), .d (.int .i64 0)]⟩) ∧ (tyi Tryz.prog 111 = some ⟨3, 24, true, none, false, false, false, false, none, [some (0, 1, false), some (1, 1, false), some (2, 1, false)], [.d (.int .i64 0), .d (.int .i64 0), .d (.int .i64 0)]⟩) ∧ (tyi Tryz.prog 112 = some ⟨1, 8, false, none, false, false, true, false, none, [], [.one]⟩) ∧ (tyi Tryz.prog 113 = some ⟨1, 8, false, none, false, false, true, false, none, [], [.one]⟩) ∧ (tyi Tryz.prog 114 = some ⟨1, 8, false, none, false, false, true, false, none, [], [.one]⟩) ∧ (tyi Tryz.prog 115 = some ⟨1, 8, false, none, false, false, true, false, none, [], [.one]⟩) ∧ (tyi Tryz.prog 116 = some ⟨1, 8, false, none, false, false, true, false, none, [], [.one]⟩) ∧ (tyi Tryz.prog 117 = some ⟨1, 8, false, none, false, false, true, false, none, [], [.one]⟩) ∧ (tyi Tryz.prog 118 = some ⟨1, 8, false, none, false, false, true, false, none, [], [.one]⟩) ∧ (tyi Tryz.prog 119 = some ⟨1, 8, false, none, false, false, true, false, none, [], [.one]⟩) ∧ (tyi Tryz.prog 120 = some ⟨1, 8, false, none, false, false, true, false, none, [], [.one]⟩) ∧ (tyi Tryz.prog 121 = some ⟨1, 8, false, none, false, false, true, false, none, [], [.one]⟩) ∧ (tyi Tryz.prog 122 = some ⟨1, 8, false, none, false, false, true, false, none, [], [.one]⟩) ∧ (tyi Tryz.prog 123 = some ⟨1, 8, false, none, false, false, true, false, none, [], [.one]⟩) ∧ (tyi Tryz.prog 124 = some ⟨1, 8, false, none, false, false, true, false, none, [], [.one]⟩) ∧ (tyi Tryz.prog 125 = some ⟨1, 8, false, none, false, false, true, false, none, [], [.one]⟩) ∧ (tyi Tryz.prog 126 = some ⟨1, 8, false, none, false, false, true, true, none, [], [.one]⟩) ∧ (tyi Tryz.prog 127 = some ⟨1, 8, false, none, false, false, true, false, none, [], [.one]⟩) ∧ (tyi Tryz.prog 128 = some ⟨1, 8, false, none, false, false, true, false, none, [], [.one]⟩) ∧ (tyi Tryz.prog 129 = some ⟨1, 8, false, none, false, false, true, false, none, [], [.one]⟩) ∧ (tyi Tryz.prog 130 = some ⟨1, 8, false, none, false, false, true, false, none, [], [.one]⟩) ∧ (tyi Tryz.prog 131 = some ⟨1, 8, false, none, false, false, true, false, none, [], [.one]⟩) ∧ (tyi Tryz.prog 132 = some ⟨1, 8, false, none, false, false, true, false, none, [], [.one]⟩) ∧ (tyi Tryz.prog 133 = some ⟨1, 8, false, none, false, false, true, false, none, [], [.one]⟩) ∧ (tyi Tryz.prog 134 = some ⟨1, 0, false, none, false, false, true, false, none, [], [.junk]⟩) ∧ (tyi Tryz.prog 135 = some ⟨1, 8, false, none, false, false, true, false, none, [], [.one]⟩) ∧ (tyi Tryz.prog 136 = some ⟨1, 8, false, none, false, false, true, false, none, [], [.one]⟩) ∧ (tyi Tryz.prog 139 = some ⟨1, 0, false, none, false, false, true, false, none, [], [.junk]⟩) ∧ (tyi Tryz.prog 140 = some ⟨1, 8, false, none, false, false, true, false, none, [], [.one]⟩) ∧ (tyi Tryz.prog 141 = some ⟨1, 8, false, none, false, false, true, false, none, [], [.one]⟩) ∧ (tyi Tryz.prog 142 = some ⟨1, 8, false, none, false, false, true, false, none, [], [.one]⟩) ∧ (tyi Tryz.prog 143 = some ⟨1, 8, false, none, false, false, true, false, none, [], [.one]⟩) ∧ (tyi Tryz.prog 144 = some ⟨1, 8, false, none, false, false, true, false, none, [], [.one]⟩) ∧ (tyi Tryz.prog 145 = some ⟨1, 8, false, none, false, false, false, false, some .u64, [], [.d (.int .u64 0)]⟩) ∧ (tyi Tryz.prog 146 = some ⟨1, 8, false, none, false, false, true, false, none, [], [.one]⟩) ∧ (tyi Tryz.prog 147 = some ⟨1, 8, false, none, false, false, true, false, none, [], [.one]⟩) ∧ (tyi Tryz.prog 148 = some ⟨1, 8, false, none, false, false, true, false, none, [], [.one]⟩) ∧ (tyi Tryz.prog 149 = some ⟨1, 8, false, none, false, false, true, false, none, [], [.one]⟩) ∧ (tyi Tryz.prog 150 = some ⟨1, 8, false, none, false, false, false, false, some .i64, [], [.d (.int .i64 0)]⟩) ∧ (tyi Tryz.prog 151 = some ⟨1, 0, false, none, false, false, true, false, none, [], [.junk]⟩) ∧ (tyi Tryz.prog 152 = some ⟨1, 8, false, none, false, false, true, false, none, [], [.one]⟩) ∧ (tyi Tryz.prog 153 = some ⟨1, 8, false, none, false, false, true, true, none, [], [.one]⟩) ∧ (tyi Tryz.prog 154 = some ⟨1, 8, false, none, false, false, true, false, none, [], [.one]⟩) ∧ (tyi Tryz.prog 155 = some ⟨1, 8, false, none, false, false, true, false, none, [], [.one]⟩) ∧ (tyi Tryz.prog 156 = some ⟨1, 8, false, none, false, false, true, false, none, [], [.one]⟩) ∧ (tyi Tryz.prog 157 = some ⟨1, 8, false, none, false, false, true, true, none, [], [.one]⟩) ∧ (tyi Tryz.prog 158 = some ⟨1, 8, false, none, false, false, true, false, none, [], [.one]⟩) ∧ (tyi Tryz.prog 159 = some ⟨1, 0, false, none, false, false, true, false, none, [], [.junk]⟩) ∧ (tyi Tryz.prog 160 = some ⟨1, 8, false, none, false, false, true, false, none, [], [.one]⟩) ∧ (tyi Tryz.prog 161 = some ⟨3, 48, true, none, false, false, false, false, none, [some (0, 1, false), some (1, 1, false), some (2, 1, false)], [.d (.str []), .d (.str []), .one]⟩) ∧ (tyi Tryz.prog 162 = some ⟨3, 48, true, none, false, false, false, false, none, [some (0, 1, false), some (1, 1, false), some (2, 1, false)], [.d (.str []), .d (.str []), .one]⟩) ∧ (tyi Tryz.prog 163 = some ⟨1, 8, false, none, false, false, true, false, none, [], [.one]⟩) ∧ (tyi Tryz.prog 164 = some ⟨1, 8, false, none, false, false, true, false, none, [], [.one]⟩) ∧ (tyi Tryz.prog 166 = some ⟨2, 2, true, none, false, false, false, false, none, [some (0, 1, false), some (1, 1, false)], [.d (.int .u8 0), .d (.int .u8 0)]⟩) ∧ (tyi Tryz.prog 167 = some ⟨2, 2, true, none, false, false, false, false, none, [some (0, 1, false), some (1, 1, false)], [.d (.int .u8 0), .d (.int .u8 0)]⟩) ∧ (tyi Tryz.prog 168 = some ⟨32, 32, true, none, false, false, true, false, none, [], [.d (.int .u8 0), .d (.int .u8 0), .d (.int .u8 0), .d (.int .u8 0), .d (.int .u8 0), .d (.int .u8 0), .d (.int .u8 0), .d (.int .u8 0), .d (.int .u8 0), .d (.int .u8 0), .d (.int .u8 0), .d (.int .u8 0), .d (.int .u8 0), .d (.int .u8 0), .d (.int .u8 0), .d (.int .u8 0), .d (.int .u8 0), .d (.int .u8 0), .d (.int .u8 0), .d (.int .u8 0), .d (.int .u8 0), .d (.int .u8 0), .d (.int .u8 0), .d (.int .u8 0), .d (.int .u8 0), .d (.int .u8 0), .d (.int .u8 0), .d (.int .u8 0), .d (.int .u8 0), .d (.int .u8 0), .d (.int .u8 0), .d (.int .u8 0)]⟩) ∧ (tyi Tryz.prog 169 = some ⟨1, 8, false, none, false, false, true, false, none, [], [.one]⟩) ∧ (tyi Tryz.prog 170 = some ⟨1, 4, false, none, false, false, false, false, some .u32, [], [.d (.int .u32 0)]⟩) ∧ (tyi Tryz.prog 171 = some ⟨1, 0, false, none, false, false, true, false, none, [], [.junk]⟩) ∧ (tyi Tryz.prog 172 = some ⟨1, 8, false, none, false, false, true, false, none, [], [.one]⟩) ∧ (tyi Tryz.prog 173 = some ⟨1, 8, false, none, false, false, true, false, none, [], [.one]⟩) ∧ (tyi Tryz.prog 174 = some ⟨1, 8, false, none, false, false, true, true, none, [], [.one]⟩) ∧ (tyi Tryz.prog 175 = some ⟨1, 16, true, none, false, false, false, false, none, [some (0, 1, false)], [.d (.str [])]⟩) ∧ (tyi Tryz.prog 176 = some ⟨1, 16, true, none, false, false, false, false, none, [some (0, 1, false)], [.d (.str [])]⟩) ∧ (tyi Tryz.prog 177 = some ⟨24, 24, true, none, false, false, true, false, none, [], [.d (.int .u8 0), .d (.int .u8 0), .d (.int .u8 0), .d (.int .u8 0), .d (.int .u8 0), .d (.int .u8 0), .d (.int .u8 0), .d (.int .u8 0), .d (.int .u8 0), .d (.int .u8 0), .d (.int .u8 0), .d (.int .u8 0), .d (.int .u8 0), .d (.int .u8 0), .d (.int .u8 0), .d (.int .u8 0), .d (.int .u8 0), .d (.int .u8 0), .d (.int .u8 0), .d (.int .u8 0), .d (.int .u8 0), .d (.int .u8 0), .d (.int .u8 0), .d (.int .u8 0)]⟩) ∧ (tyi Tryz.prog 178 = some ⟨1, 8, false, none, false, false, true, false, none, [], [.one]⟩) ∧ (tyi Tryz.prog 179 = some ⟨1, 8, false, none, false, false, true, false, none, [], [.one]⟩) ∧ (tyi Tryz.prog 180 = some ⟨1, 0, false, none, false, false, true, false, none, [], [.junk]⟩) ∧ (tyi Tryz.prog 181 = some ⟨1, 8, false, none, false, false, true, false, none, [], [.one]⟩) ∧ (tyi Tryz.prog 182 = some ⟨1, 8, false, none, false, false, true, false, none, [], [.one]⟩) ∧ (tyi Tryz.prog 183 = some ⟨20, 160, true, none, false, false, true, false, none, [], [.d (.int .u64 0), .d (.int .u64 0), .d (.int .u64 0), .d (.int .u64 0), .d (.int .u64 0), .d (.int .u64 0), .d (.int .u64 0), .d (.int .u64 0), .d (.int .u64 0), .d (.int .u64 0), .d (.int .u64 0), .d (.int .u64 0), .d (.int .u64 0), .d (.int .u64 0), .d (.int .u64 0), .d (.int .u64 0), .d (.int .u64 0), .d (.int .u64 0), .d (.int .u64 0), .d (.int .u64 0)]⟩) ∧ (tyi Tryz.prog 185 = some ⟨1, 8, false, none, false, false, true, false, none, [], [.one]⟩) ∧ (tyi Tryz.prog 186 = some ⟨1, 8, false, none, false, false, true, false, none, [], [.one]⟩) ∧ (tyi Tryz.prog 187 = some ⟨32, 32, true, none, false, false, true, false, none, [], [.d (.int .u8 0), .d (.int .u8 0), .d (.int .u8 0), .d (.int .u8 0), .d (.int .u8 0), .d (.int .u8 0), .d (.int .u8 0), .d (.int .u8 0), .d (.int .u8 0), .d (.int .u8 0), .d (.int .u8 0), .d (.int .u8 0), .d (.int .u8 0), .d (.int .u8 0), .d (.int .u8 0), .d (.int .u8 0), .d (.int .u8 0), .d (.int .u8 0), .d (.int .u8 0), .d (.int .u8 0), .d (.int .u8 0), .d (.int .u8 0), .d (.int .u8 0), .d (.int .u8 0), .d (.int .u8 0), .d (.int .u8 0), .d (.int .u8 0), .d (.int .u8 0), .d (.int .u8 0), .d (.int .u8 0), .d (.int .u8 0), .d (.int .u8 0)]⟩) ∧ (tyi Tryz.prog 189 = some ⟨4, 40, true, none, false, false, false, false, none, [some (0, 1, false), some (1, 1, false), some (2, 1, false), some (3, 1, false)], [.one, .one, .one, .d (.str [])]⟩) ∧ (tyi Tryz.prog 190 = some ⟨4, 40, true, none, false, false, false, false, none, [some (0, 1, false), some (1, 1, false), some (2, 1, false), some (3, 1, false)], [.one, .one, .one, .d (.str [])]⟩) ∧ (tyi Tryz.prog 191 = some ⟨0, 0, true, none, false, false, true, false, none, [], []⟩) ∧ (tyi Tryz.prog 192 = some ⟨0, 0, true, none, false, false, false, false, none, [some (0, 0, true)], []⟩) ∧ (tyi Tryz.prog 193 = some ⟨0, 0, true, none, false, false, false, false, none, [some (0, 0, true)], []⟩) ∧ (tyi Tryz.prog 194 = some ⟨1, 1, false, none, false, false, false, false, some .u8, [], [.d (.int .u8 0)]⟩) ∧ (tyi Tryz.prog 195 = some ⟨1, 1, false, none, false, false, false, false, some .u8, [], [.d (.int .u8 0)]⟩) ∧ (tyi Tryz.prog 196 = some ⟨1, 8, false, none, false, false, true, false, none, [], [.one]⟩) ∧ (tyi Tryz.prog 197 = some ⟨1, 4, false, none, false, false, false, false, some .i32, [], [.d (.int .i32 0)]⟩) ∧ (tyi Tryz.prog 198 = some ⟨1, 4, false, none, false, false, false, false, some .i32, [], [.d (.int .i32 0)]⟩) ∧ (tyi Tryz.prog 199 = some ⟨11, 48, true, none, false, false, false, false, none, [some (0, 1, false), some (1, 1, false), some (2, 1, false), some (3, 1, false), some (4, 1, false), some (5, 1, false), some (6, 1, false), some (7, 1, false), some (8, 1, false), some (9, 1, false), some (10, 1, false)], [.d (.int .u64 0), .d (.int .u64 0), .d (.int .u32 0), .d (.int .u8 0), .d (.int .u8 0), .d (.int .u8 0), .d (.int .u8 0), .one, .one, .d (.int .i32 0), .d (.int .i32 0)]⟩) ∧ (tyi Tryz.prog 200 = some ⟨11, 48, true, none, false, false, false, false, none, [some (0, 1, false), some (1, 1, false), some (2, 1, false), some (3, 1, false), some (4, 1, false), some (5, 1, false), some (6, 1, false), some (7, 1, false), some (8, 1, false), some (9, 1, false), some (10, 1, false)], [.d (.int .u64 0), .d (.int .u64 0), .d (.int .u32 0), .d (.int .u8 0), .d (.int .u8 0), .d (.int .u8 0), .d (.int .u8 0), .one, .one, .d (.int .i32 0), .d (.int .i32 0)]⟩) ∧ (tyi Tryz.prog 201 = some ⟨12, 144, true, none, false, false, false, false, none, [some (0, 1, false), some (1, 1, false), some (2, 1, false), some (3, 1, false), some (4, 1, false), some (5, 1, false), some (6, 4, true), some (10, 1, false), some (11, 1, false)], [.d (.str []), .d (.int .i64 0), .d (.int .i64 0), .d (.str []), .d (.int .i64 0), .d (.int .i64 0), .d (.int .i64 0), .d (.str []), .d (.int .i64 0), .nilS, .d (.int .i64 0), .d (.str [])]⟩) ∧ (tyi Tryz.prog 202 = some ⟨12, 144, true, none, false, false, false, false, none, [some (0, 1, false), some (1, 1, false), some (2, 1, false), some (3, 1, false), some (4, 1, false), some (5, 1, false), some (6, 4, true), some (10, 1, false), some (11, 1, false)], [.d (.str []), .d (.int .i64 0), .d (.int .i64 0), .d (.str []), .d (.int .i64 0), .d (.int .i64 0), .d (.int .i64 0), .d (.str []), .d (.int .i64 0), .nilS, .d (.int .i64 0), .d (.str [])]⟩) :=
  ⟨ty0, ty1, ty2, ty3, ty4, ty5, ty6, ty7, ty8, ty9, ty10, ty11, ty12, ty13, ty14, ty15, ty16, ty17, ty18, ty19, ty20, ty21, ty22, ty23, ty24, ty25, ty26, ty27, ty28, ty29, ty30, ty31, ty32, ty33, ty34, ty35, ty36, ty37, ty38, ty39, ty40, ty41, ty42, ty43, ty44, ty45, ty46, ty47, ty48, ty49, ty50, ty51, ty52, ty53, ty54, ty55, ty56, ty57, ty58, ty59, ty60, ty61, ty62, ty63, ty64, ty65, ty66, ty67, ty68, ty69, ty70, ty71, ty72, ty73, ty74, ty75, ty76, ty77, ty78, ty79, ty80, ty81, ty82, ty83, ty84, ty85, ty86, ty87, ty88, ty89, ty90, ty91, ty92, ty93, ty94, ty95, ty96, ty97, ty98, ty99, ty100, ty101, ty102, ty103, ty104, ty105, ty106, ty107, ty108, ty109, ty110, ty111, ty112, ty113, ty114, ty115, ty116, ty117, ty118, ty119, ty120, ty121, ty122, ty123, ty124, ty125, ty126, ty127, ty128, ty129, ty130, ty131, ty132, ty133, ty134, ty135, ty136, ty139, ty140, ty141, ty142, ty143, ty144, ty145, ty146, ty147, ty148, ty149, ty150, ty151, ty152, ty153, ty154, ty155, ty156, ty157, ty158, ty159, ty160, ty161, ty162, ty163, ty164, ty166, ty167, ty168, ty169, ty170, ty171, ty172, ty173, ty174, ty175, ty176, ty177, ty178, ty179, ty180, ty181, ty182, ty183, ty185, ty186, ty187, ty189, ty190, ty191, ty192, ty193, ty194, ty195, ty196, ty197, ty198, ty199, ty200, ty201, ty202⟩
end Go.Bee.Ty

