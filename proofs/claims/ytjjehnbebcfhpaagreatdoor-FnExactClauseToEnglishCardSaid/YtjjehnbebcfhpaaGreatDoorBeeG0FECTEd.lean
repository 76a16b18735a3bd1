/-
The logic and the walks, part 4. No condition.
-/
import Derived.Test.YtjjehnbebcfhpaaGreatDoorBeeG0FECTEc
/-
The logic, in the form in which it is reckoned. No condition.
-/
namespace Go.Bee
set_option linter.unusedVariables false

def St.put (st : St) (d : Nat) (v : PV) : St := ⟨fun t => if t = d then v else st.tm t, st.bx⟩
def St.strip (st : St) (ts : List Nat) : St := ⟨fun t => if t ∈ ts then (st.tm t).bT else st.tm t, st.bx⟩
def St.sbx (st : St) (b : BN) (cells : List PV) : St := ⟨st.tm, Bx.set st.bx b cells⟩
def St.mvs (st : St) (mv : Bool) (xs : List Operand) : St := if mv = true then st.strip (tmpsOf xs) else st
theorem tm_put (st : St) (d : Nat) (v : PV) (t : Nat) : (st.put d v).tm t = if t = d then v else st.tm t := rfl
theorem bx_put (st : St) (d : Nat) (v : PV) : (st.put d v).bx = st.bx := rfl
theorem tm_strip (st : St) (ts : List Nat) (t : Nat) : (st.strip ts).tm t = if t ∈ ts then (st.tm t).bT else st.tm t := rfl
theorem bx_strip (st : St) (ts : List Nat) : (st.strip ts).bx = st.bx := rfl
theorem tm_sbx (st : St) (b : BN) (c : List PV) (t : Nat) : (st.sbx b c).tm t = st.tm t := rfl
theorem bx_sbx (st : St) (b : BN) (c : List PV) (b' : BN) : (st.sbx b c).bx b' = if b' = b then some c else st.bx b' := rfl
theorem tm_init (args : List PV) (bi : List (List PV)) (t : Nat) : (St.init args bi).tm t = args.getD t .und := rfl
theorem bx_init (args : List PV) (bi : List (List PV)) (b : BN) : (St.init args bi).bx b = bxOf bi b := rfl
/-! A state that is told in full. -/
def look : List (Nat × PV) → Nat → PV
  | [], _ => .junk
  | (m, x) :: l, n => if n = m then x else look l n
def lookB : List (BN × List PV) → BN → Option (List PV)
  | [], _ => none
  | (m, x) :: l, n => if n = m then some x else lookB l n
def mk (ts : List (Nat × PV)) (bs : List (BN × List PV)) : St := ⟨look ts, lookB bs⟩
theorem tm_mk (ts : List (Nat × PV)) (bs : List (BN × List PV)) (n : Nat) : (mk ts bs).tm n = look ts n := rfl
theorem bx_mk (ts : List (Nat × PV)) (bs : List (BN × List PV)) (b : BN) : (mk ts bs).bx b = lookB bs b := rfl
theorem look_n (n : Nat) : look [] n = .junk := rfl
theorem look_c (m n : Nat) (x : PV) (l : List (Nat × PV)) : look ((m, x) :: l) n = if n = m then x else look l n := rfl
theorem lookB_n (n : BN) : lookB [] n = none := rfl
theorem lookB_c (m n : BN) (x : List PV) (l : List (BN × List PV)) : lookB ((m, x) :: l) n = if n = m then some x else lookB l n := rfl
theorem mvs_true (st : St) (xs : List Operand) : st.mvs true xs = st.strip (tmpsOf xs) := rfl
theorem mvs_false (st : St) (xs : List Operand) : st.mvs false xs = st := rfl

def flg (P : Program) (L : List Oper) (hs : List Nat) (draw : Bool) (i : Nat) (o : Oper) (rest : List Oper) : AF := { mv := mvOf draw hs i o rest, bt := !draw || flagBt P L i, be := !draw || flagBe P L hs i }
def brun (P : Program) (L : List Oper) (hs : List Nat) (draw : Bool) : List Oper → Nat → (St → Prop) → St → Prop
  | [], _, Q, st => Q st
  | o :: l, i, Q, st => match o.guard with
    | none => bopx P (inL P draw L o) (flg P L hs draw i o l) o (brun P L hs draw l (i + 1) Q) st
    | some g => bgd (((L[g.1]?).bind (·.dst)).map st.tm) g.2 (bopx P (inL P draw L o) (flg P L hs draw i o l) o (brun P L hs draw l (i + 1) Q) st) (brun P L hs draw l (i + 1) Q (st.upd [] o.dst .und st.bx))
def brun1 (P : Program) (L : List Oper) (hs : List Nat) (draw : Bool) (o : Oper) (l : List Oper) (i : Nat) (Q : St → Prop) (st : St) : Prop :=
  bopx P (inL P draw L o) (flg P L hs draw i o l) o (brun P L hs draw l (i + 1) Q) st
theorem bop_mono {P : Program} {fl : AF} {o : Oper} {K K' : St → Prop} {s : St} (hk : ∀ s, K s → K' s) (hb : bop P fl o K s) : bop P fl o K' s := by
  have key : (match ev1 P fl o s.ev (vz fl s.bx) with | some q => K (s.after fl o q.1 q.2) | none => False) → (match ev1 P fl o s.ev (vz fl s.bx) with | some q => K' (s.after fl o q.1 q.2) | none => False) := by
    cases ev1 P fl o s.ev (vz fl s.bx) with
    | none => exact id
    | some q => exact hk _
  unfold bop at hb ⊢
  cases hop : o.op <;> simp only [hop] at hb ⊢ <;> first | exact key hb | skip
  rename_i c
  cases hc : c.callee <;> simp only [hc] at hb ⊢ <;> first | exact key hb | skip
  obtain ⟨v, B', h1, h2⟩ := hb
  exact ⟨v, B', h1, hk _ h2⟩
theorem bopx_mono {P : Program} {inn : Option (List BN)} {fl : AF} {o : Oper} {K K' : St → Prop} {s : St} (hk : ∀ s, K s → K' s) (hb : bopx P inn fl o K s) : bopx P inn fl o K' s := by
  cases inn with
  | none => exact bop_mono hk hb
  | some l =>
    unfold bopx at hb ⊢
    simp only at hb ⊢
    cases hop : o.op <;> simp only [hop] at hb ⊢ <;> first | exact ⟨hb.1, bop_mono hk hb.2⟩ | skip
    obtain ⟨v, B', h1, h2, h3⟩ := hb
    exact ⟨v, B', h1, h2, hk _ h3⟩
theorem bopx_n {P : Program} {inn : Option (List BN)} {fl : AF} {o : Oper} {K : St → Prop} {s : St} (h : inn = none) : bopx P inn fl o K s = bop P fl o K s := by
  subst h; rfl

/-! The steps. -/
section steps
variable {P : Program} {L : List Oper} {hs : List Nat} {dr : Bool} {l : List Oper} {i : Nat} {Q : St → Prop} {st : St} {d : Nat} {ty : TypeId} {pos : String} {af : Array Edge} {g : Option (Nat × Bool)}

def optK (r : Option PV) (k : PV → Prop) : Prop := match r with
  | some v => k v
  | none => False
theorem optK_some (v : PV) (k : PV → Prop) : optK (some v) k = k v := rfl
theorem brun_nil : brun P L hs dr [] i Q st = Q st := rfl
theorem brun_nog {dd : Option Nat} {op : Op} : brun P L hs dr (⟨dd, op, ty, pos, af, none⟩ :: l) i Q st = brun1 P L hs dr ⟨dd, op, ty, pos, af, none⟩ l i Q st := rfl
theorem brun_grd {op : Op} {j : Nat} {w : Bool} : brun P L hs dr (⟨some d, op, ty, pos, af, some (j, w)⟩ :: l) i Q st =
    bgd (((L[j]?).bind (·.dst)).map st.tm) w (brun1 P L hs dr ⟨some d, op, ty, pos, af, some (j, w)⟩ l i Q st) (brun P L hs dr l (i + 1) Q (st.put d .und)) := by
  simp only [brun, brun1, St.upd, St.put]
  simp
/-- If b is w. -/
def bimp (b w : Bool) (A : Prop) : Prop := b = w → A
theorem bimp_tt (A : Prop) : bimp true true A = A := by simp [bimp]
theorem bimp_ff (A : Prop) : bimp false false A = A := by simp [bimp]
theorem bimp_tf (A : Prop) : bimp true false A = True := by simp [bimp]
theorem bimp_ft (A : Prop) : bimp false true A = True := by simp [bimp]
theorem bimp_dt (p A : Prop) [Decidable p] : bimp (decide p) true A = (p → A) := by simp [bimp]
theorem bimp_df (p A : Prop) [Decidable p] : bimp (decide p) false A = (¬ p → A) := by simp [bimp]
theorem bimp_nt (b : Bool) (A : Prop) : bimp (!b) true A = bimp b false A := by simp [bimp]
theorem bimp_nf (b : Bool) (A : Prop) : bimp (!b) false A = bimp b true A := by simp [bimp]
theorem bimp_true (b w : Bool) : bimp b w True = True := by simp [bimp]
@[congr] theorem bimp_congr {b b' w : Bool} {A : Prop} (h : b = b') : bimp b w A = bimp b' w A := by rw [h]
theorem bgd_b (b w : Bool) (A B : Prop) : bgd (some (.d (.bool b))) w A B = (bimp b w A ∧ bimp b (!w) B) := rfl
theorem bgd_bt (b : Bool) (A B : Prop) : bgd (some (.d (.bool b))) true A B = (bimp b true A ∧ bimp b false B) := rfl
theorem bgd_bf (b : Bool) (A B : Prop) : bgd (some (.d (.bool b))) false A B = (bimp b false A ∧ bimp b true B) := rfl
theorem bgd_u (w : Bool) (A B : Prop) : bgd (some .und) w A B = B := rfl

theorem after_pure {fl : AF} {o : Oper} {v : PV} (hd : o.dst = some d) : st.after fl o v (vz fl st.bx) = (st.mvs fl.mv o.op.operands.toList).put d v := by
  unfold St.after St.upd St.mvs stripsOf
  have hb : (if fl.be = true then vz fl st.bx else st.bx) = st.bx := by split <;> first | (rename_i h; simp [vz, h]) | rfl
  rw [hb, hd]
  by_cases hm : fl.mv = true
  · simp only [hm, if_true, St.put, St.strip, Option.some.injEq]
  · simp only [hm, St.put, Option.some.injEq]
    simp
theorem flg_mv {o : Oper} : (flg P L hs dr i o l).mv = mvOf dr hs i o l := rfl
theorem bop_ev {fl : AF} {o : Oper} {K : St → Prop} (hc : ∀ c, o.op = .call c → ∀ X, c.callee ≠ .value X) : bop P fl o K st = (match ev1 P fl o st.ev (vz fl st.bx) with | some q => K (st.after fl o q.1 q.2) | none => False) := by
  unfold bop
  split
  · rename_i c hop
    split
    · rename_i X hX; exact absurd hX (hc c hop X)
    · rfl
  · rfl
theorem ev_map {r : Option PV} {fl : AF} {o : Oper} {K : St → Prop} (hd : o.dst = some d) : (match r.map fun v => (v, vz fl st.bx) with | some q => K (st.after fl o q.1 q.2) | none => False) = optK r fun v => K ((st.mvs fl.mv o.op.operands.toList).put d v) := by
  cases r with
  | none => rfl
  | some v => simp only [Option.map_some, optK]; rw [after_pure hd]

theorem r_move {x : Operand} : brun1 P L hs dr ⟨some d, .move x, ty, pos, af, g⟩ l i Q st =
    brun P L hs dr l (i + 1) Q ((st.mvs (l.any (fun q => consumesT q d) || hs.contains i) [x]).put d (mvd (l.any (fun q => consumesT q d) || hs.contains i) (st.ev x))) := by
  unfold brun1
  rw [bopx_n (by rfl), bop_ev (by intro c h; cases h)]
  exact congrArg _ (after_pure rfl)
theorem r_assign {x : Operand} : brun1 P L hs dr ⟨some d, .assign x, ty, pos, af, g⟩ l i Q st = brun P L hs dr l (i + 1) Q ((st.strip (tmpsOf [x])).put d (st.ev x)) := by
  unfold brun1
  rw [bopx_n (by rfl), bop_ev (by intro c h; cases h)]
  exact congrArg _ (after_pure rfl)
theorem r_bin {op : BinOp} {t yt : TypeId} {x y : Operand} : brun1 P L hs dr ⟨some d, .binOp op t x y yt, ty, pos, af, g⟩ l i Q st = optK (evBin P op t (st.ev x) (st.ev y)) fun v => brun P L hs dr l (i + 1) Q (st.put d v) := by
  unfold brun1
  rw [bopx_n (by rfl), bop_ev (by intro c h; cases h)]
  exact ev_map rfl
theorem r_un {op : UnOp} {t : TypeId} {x : Operand} : brun1 P L hs dr ⟨some d, .unOp op t x, ty, pos, af, g⟩ l i Q st = optK (evUn op (st.ev x)) fun v => brun P L hs dr l (i + 1) Q (st.put d v) := by
  unfold brun1
  rw [bopx_n (by rfl), bop_ev (by intro c h; cases h)]
  exact ev_map rfl
theorem r_conv {s t : TypeId} {x : Operand} : brun1 P L hs dr ⟨some d, .convert s t x, ty, pos, af, g⟩ l i Q st = optK (if (tyi P s).isSome then evConv2 P s t (st.ev x) else none) fun v => brun P L hs dr l (i + 1) Q (st.put d v) := by
  unfold brun1
  rw [bopx_n (by rfl), bop_ev (by intro c h; cases h)]
  have : ev1 P (flg P L hs dr i ⟨some d, .convert s t x, ty, pos, af, g⟩ l) ⟨some d, .convert s t x, ty, pos, af, g⟩ st.ev (vz (flg P L hs dr i ⟨some d, .convert s t x, ty, pos, af, g⟩ l) st.bx) =
      (if (tyi P s).isSome then evConv2 P s t (st.ev x) else none).map fun v => (v, vz (flg P L hs dr i ⟨some d, .convert s t x, ty, pos, af, g⟩ l) st.bx) := by
    simp only [ev1]; split <;> rfl
  rw [this]
  exact ev_map rfl
theorem r_fa {t : TypeId} {x : Operand} {f : Nat} : brun1 P L hs dr ⟨some d, .fieldAddr t x f, ty, pos, af, g⟩ l i Q st = optK (evFldAddr P t f (st.ev x)) fun v => brun P L hs dr l (i + 1) Q (st.put d v) := by
  unfold brun1
  rw [bopx_n (by rfl), bop_ev (by intro c h; cases h)]
  exact ev_map rfl
theorem r_fld {t : TypeId} {x : Operand} {f : Nat} : brun1 P L hs dr ⟨some d, .field t x f, ty, pos, af, g⟩ l i Q st = optK (evFld P t f (st.ev x)) fun v => brun P L hs dr l (i + 1) Q (st.put d v) := by
  unfold brun1
  rw [bopx_n (by rfl), bop_ev (by intro c h; cases h)]
  exact ev_map rfl
theorem r_ia {t : TypeId} {x y : Operand} : brun1 P L hs dr ⟨some d, .indexAddr t x y, ty, pos, af, g⟩ l i Q st = optK (evIA P t (st.ev x) (st.ev y)) fun v => brun P L hs dr l (i + 1) Q (st.put d v) := by
  unfold brun1
  rw [bopx_n (by rfl), bop_ev (by intro c h; cases h)]
  exact ev_map rfl
theorem r_idx {t : TypeId} {x y : Operand} : brun1 P L hs dr ⟨some d, .index t x y, ty, pos, af, g⟩ l i Q st = optK (evIdx P t (st.ev x) (st.ev y)) fun v => brun P L hs dr l (i + 1) Q (st.put d v) := by
  unfold brun1
  rw [bopx_n (by rfl), bop_ev (by intro c h; cases h)]
  exact ev_map rfl
theorem r_build {t : TypeId} {parts : Array (Nat × Operand)} : brun1 P L hs dr ⟨some d, .build t parts, ty, pos, af, g⟩ l i Q st = optK (evBuild P t (parts.toList.map fun p => (p.1, st.ev p.2))) fun v => brun P L hs dr l (i + 1) Q (st.put d v) := by
  unfold brun1
  rw [bopx_n (by rfl), bop_ev (by intro c h; cases h)]
  exact ev_map rfl
theorem r_bsl {t : TypeId} {n : Nat} {parts : Array (Nat × Operand)} : brun1 P L hs dr ⟨some d, .buildSlice t n parts, ty, pos, af, g⟩ l i Q st = optK (evBuildSlice P t n (parts.toList.map fun p => (p.1, st.ev p.2))) fun v => brun P L hs dr l (i + 1) Q (st.put d v) := by
  unfold brun1
  rw [bopx_n (by rfl), bop_ev (by intro c h; cases h)]
  exact ev_map rfl
theorem r_slice {t : TypeId} {x : Operand} {lo hi : Option Operand} : brun1 P L hs dr ⟨some d, .slice t x lo hi none, ty, pos, af, g⟩ l i Q st = optK (evSlice P t (st.ev x) (lo.map st.ev) (hi.map st.ev)) fun v => brun P L hs dr l (i + 1) Q (st.put d v) := by
  unfold brun1
  rw [bopx_n (by rfl), bop_ev (by intro c h; cases h)]
  exact ev_map rfl
def evPick : PV → PV → PV → Option PV
  | .d (.bool b), x, y => some (pick2 b x.bT y.bT)
  | _, _, _ => none
theorem r_pick {c x y : Operand} : brun1 P L hs dr ⟨some d, .pick c x y, ty, pos, af, g⟩ l i Q st = optK (evPick (st.ev c) (st.ev x) (st.ev y)) fun v => brun P L hs dr l (i + 1) Q (st.put d v) := by
  unfold brun1
  rw [bopx_n (by rfl), bop_ev (by intro c h; cases h)]
  generalize hfl : flg P L hs dr i ⟨some d, .pick c x y, ty, pos, af, g⟩ l = fl
  have hmv : fl.mv = false := by rw [← hfl]; rfl
  have : ev1 P fl ⟨some d, .pick c x y, ty, pos, af, g⟩ st.ev (vz fl st.bx) = (evPick (st.ev c) (st.ev x) (st.ev y)).map fun v => (v, vz fl st.bx) := by
    simp only [ev1, evPick]
    cases st.ev c <;> try rfl
    rename_i y; cases y <;> rfl
  rw [this, ev_map rfl, hmv]
  rfl
def evNil : PV → Option PV
  | .ptr b o => some (.ptr b o)
  | .eptr cs => some (.eptr cs)
  | _ => none
theorem r_nil {x : Operand} : brun1 P L hs dr ⟨some d, .nilCheck x, ty, pos, af, g⟩ l i Q st = optK (evNil (st.ev x)) fun v => brun P L hs dr l (i + 1) Q (st.put d v) := by
  unfold brun1
  rw [bopx_n (by rfl), bop_ev (by intro c h; cases h)]
  generalize hfl : flg P L hs dr i ⟨some d, .nilCheck x, ty, pos, af, g⟩ l = fl
  have hmv : fl.mv = false := by rw [← hfl]; rfl
  have : ev1 P fl ⟨some d, .nilCheck x, ty, pos, af, g⟩ st.ev (vz fl st.bx) = (evNil (st.ev x)).map fun v => (v, vz fl st.bx) := by
    simp only [ev1, evNil]
    cases st.ev x <;> rfl
  rw [this, ev_map rfl, hmv]
  rfl
theorem r_fn {f : Nat} {caps : Array Operand} : brun1 P L hs dr ⟨some d, .makeFunc (.func f) #[] caps, ty, pos, af, g⟩ l i Q st =
    optK (if caps.toList.all (fun c => ((st.ev c).bC).isAt) = true then some (.clo f (caps.toList.map fun c => (st.ev c).bC)) else none) fun v => brun P L hs dr l (i + 1) Q (st.put d v) := by
  unfold brun1
  rw [bopx_n (by rfl), bop_ev (by intro c h; cases h)]
  generalize hfl : flg P L hs dr i ⟨some d, .makeFunc (.func f) #[] caps, ty, pos, af, g⟩ l = fl
  have hmv : fl.mv = false := by rw [← hfl]; rfl
  have : ev1 P fl ⟨some d, .makeFunc (.func f) #[] caps, ty, pos, af, g⟩ st.ev (vz fl st.bx) = (if caps.toList.all (fun c => ((st.ev c).bC).isAt) = true then some (PV.clo f (caps.toList.map fun c => (st.ev c).bC)) else none).map fun v => (v, vz fl st.bx) := by
    simp only [ev1, true_and]
    split <;> rfl
  rw [this, ev_map rfl, hmv]
  rfl
def evExt (n : Nat) : PV → Option PV
  | .tup l => l[n]?
  | _ => none
theorem r_ext {x : Operand} {n : Nat} : brun1 P L hs false ⟨some d, .extract x n, ty, pos, af, g⟩ l i Q st = optK (evExt n (st.ev x)) fun v => brun P L hs false l (i + 1) Q ((st.strip (tmpsOf [x])).put d v) := by
  unfold brun1
  rw [bopx_n (by rfl), bop_ev (by intro c h; cases h)]
  generalize hfl : flg P L hs false i ⟨some d, .extract x n, ty, pos, af, g⟩ l = fl
  have hmv : fl.mv = true := by rw [← hfl]; rfl
  have : ev1 P fl ⟨some d, .extract x n, ty, pos, af, g⟩ st.ev (vz fl st.bx) = (evExt n (st.ev x)).map fun v => (v, vz fl st.bx) := by
    simp only [ev1, evExt, hmv, mvd, if_true]
    cases st.ev x <;> rfl
  rw [this, ev_map rfl, hmv]
  rfl
theorem r_extD {x : Operand} {n : Nat} : brun1 P L hs true ⟨some d, .extract x n, ty, pos, af, g⟩ l i Q st = optK ((evExt n (st.ev x)).map PV.bT) fun v => brun P L hs true l (i + 1) Q (st.put d v) := by
  unfold brun1
  rw [bopx_n (by rfl), bop_ev (by intro c h; cases h)]
  generalize hfl : flg P L hs true i ⟨some d, .extract x n, ty, pos, af, g⟩ l = fl
  have hmv : fl.mv = false := by rw [← hfl]; rfl
  have : ev1 P fl ⟨some d, .extract x n, ty, pos, af, g⟩ st.ev (vz fl st.bx) = ((evExt n (st.ev x)).map PV.bT).map fun v => (v, vz fl st.bx) := by
    simp only [ev1, evExt, hmv, mvd]
    cases st.ev x <;> simp [Option.map_map]
    rfl
  rw [this, ev_map rfl, hmv]
  rfl
theorem r_len {t : TypeId} {x : Operand} : brun1 P L hs dr ⟨some d, .call ⟨.builtin .len, #[x], #[t]⟩, ty, pos, af, g⟩ l i Q st = optK (evLen P t (st.ev x)) fun v => brun P L hs dr l (i + 1) Q ((st.mvs (hs.contains i) [x]).put d v) := by
  unfold brun1
  rw [bopx_n (by rfl), bop_ev (by intro c h X; cases h; simp)]
  exact ev_map rfl
theorem r_max {t t' : TypeId} {x y : Operand} : brun1 P L hs dr ⟨some d, .call ⟨.builtin .max, #[x, y], #[t, t']⟩, ty, pos, af, g⟩ l i Q st = optK (evMinMax true (st.ev x) (st.ev y)) fun v => brun P L hs dr l (i + 1) Q ((st.mvs (hs.contains i) [x, y]).put d v) := by
  unfold brun1
  rw [bopx_n (by rfl), bop_ev (by intro c h X; cases h; simp)]
  exact ev_map rfl
theorem r_min {t t' : TypeId} {x y : Operand} : brun1 P L hs dr ⟨some d, .call ⟨.builtin .min, #[x, y], #[t, t']⟩, ty, pos, af, g⟩ l i Q st = optK (evMinMax false (st.ev x) (st.ev y)) fun v => brun P L hs dr l (i + 1) Q ((st.mvs (hs.contains i) [x, y]).put d v) := by
  unfold brun1
  rw [bopx_n (by rfl), bop_ev (by intro c h X; cases h; simp)]
  exact ev_map rfl
theorem r_app {t : TypeId} {x y : Operand} : brun1 P L hs dr ⟨some d, .call ⟨.builtin .append, #[x, y], #[t, t]⟩, ty, pos, af, g⟩ l i Q st = optK (evAppend P t (st.ev x) (st.ev y)) fun v => brun P L hs dr l (i + 1) Q ((st.strip (tmpsOf [x, y])).put d v) := by
  unfold brun1
  rw [bopx_n (by rfl), bop_ev (by intro c h X; cases h; simp)]
  generalize hfl : flg P L hs dr i ⟨some d, .call ⟨.builtin .append, #[x, y], #[t, t]⟩, ty, pos, af, g⟩ l = fl
  have hmv : fl.mv = true := by rw [← hfl]; rfl
  have : ev1 P fl ⟨some d, .call ⟨.builtin .append, #[x, y], #[t, t]⟩, ty, pos, af, g⟩ st.ev (vz fl st.bx) = (evAppend P t (st.ev x) (st.ev y)).map fun v => (v, vz fl st.bx) := by
    simp [ev1, hmv]
  rw [this, ev_map rfl, hmv]
  rfl
theorem r_callF {X : Operand} {xs : Array Operand} {ts : Array TypeId} {dd : Option Nat} : brun1 P L hs false ⟨dd, .call ⟨.value X, xs, ts⟩, ty, pos, af, g⟩ l i Q st =
    bcallD P none (flg P L hs false i ⟨dd, .call ⟨.value X, xs, ts⟩, ty, pos, af, g⟩ l) ⟨dd, .call ⟨.value X, xs, ts⟩, ty, pos, af, g⟩ (brun P L hs false l (i + 1) Q) st := rfl
theorem r_callD {X : Operand} {xs : Array Operand} {ts : Array TypeId} {dd : Option Nat} : brun1 P L hs true ⟨dd, .call ⟨.value X, xs, ts⟩, ty, pos, af, g⟩ l i Q st =
    bcallD P (inL P true L ⟨dd, .call ⟨.value X, xs, ts⟩, ty, pos, af, g⟩) (flg P L hs true i ⟨dd, .call ⟨.value X, xs, ts⟩, ty, pos, af, g⟩ l) ⟨dd, .call ⟨.value X, xs, ts⟩, ty, pos, af, g⟩ (brun P L hs true l (i + 1) Q) st := by
  unfold brun1 bopx bcallD
  cases inL P true L ⟨dd, .call ⟨.value X, xs, ts⟩, ty, pos, af, g⟩ <;> rfl

/-! Variables in memory. -/
theorem vz_t {fl : AF} (h : fl.be = true) : vz fl st.bx = st.bx := by simp [vz, h]
def allocK (P : Program) (t : TypeId) (be : Bool) (old : Option (List PV)) (k : List PV → Prop) : Prop :=
  match tyi P t with
  | some i => be = true ∧ old = none ∧ i.zero ≠ [] ∧ i.zero.all (fun x => !x.isJunk) = true ∧ k i.zero
  | none => False
theorem bx_alloc {t : TypeId} {fl : AF} {K : St → Prop} : bopx P (inL P dr L ⟨some d, .alloc t, ty, pos, af, g⟩) fl ⟨some d, .alloc t, ty, pos, af, g⟩ K st = bop P fl ⟨some d, .alloc t, ty, pos, af, g⟩ K st := by
  cases dr <;> simp [inL, bopx, locP]
theorem bx_box {t : TypeId} {x : Operand} {fl : AF} {K : St → Prop} : bopx P (inL P dr L ⟨some d, .box t x, ty, pos, af, g⟩) fl ⟨some d, .box t x, ty, pos, af, g⟩ K st = bop P fl ⟨some d, .box t x, ty, pos, af, g⟩ K st := by
  cases dr <;> simp [inL, bopx, locP]
def okD (dr : Bool) (c : Prop) : Prop := dr = true → c
theorem bx_load {t : TypeId} {x : Operand} {fl : AF} {K : St → Prop} : bopx P (inL P dr L ⟨some d, .load t x, ty, pos, af, g⟩) fl ⟨some d, .load t x, ty, pos, af, g⟩ K st = (okD dr (okB (baseB L x) (st.ev x)) ∧ bop P fl ⟨some d, .load t x, ty, pos, af, g⟩ K st) := by
  cases dr <;> simp [inL, bopx, locP, okD]
theorem bx_store {t : TypeId} {x y : Operand} {fl : AF} {K : St → Prop} : bopx P (inL P dr L ⟨none, .store t x y, ty, pos, af, g⟩) fl ⟨none, .store t x y, ty, pos, af, g⟩ K st = (okD dr (okB (baseB L x) (st.ev x)) ∧ bop P fl ⟨none, .store t x y, ty, pos, af, g⟩ K st) := by
  cases dr <;> simp [inL, bopx, locP, okD]
theorem r_alloc {t : TypeId} : brun1 P L hs dr ⟨some d, .alloc t, ty, pos, af, g⟩ l i Q st = allocK P t (!dr || flagBe P L hs i) (st.bx (.t d)) fun c => brun P L hs dr l (i + 1) Q ((st.sbx (.t d) c).put d (.ptr (.t d) 0)) := by
  unfold brun1
  rw [bx_alloc, bop_ev (by intro c h; cases h)]
  generalize hfl : flg P L hs dr i ⟨some d, .alloc t, ty, pos, af, g⟩ l = fl
  have hbe : fl.be = (!dr || flagBe P L hs i) := by rw [← hfl]; rfl
  have hmv : fl.mv = false := by rw [← hfl]; rfl
  rw [← hbe]
  simp only [ev1, Option.bind_some, allocK]
  cases hti : tyi P t with
  | none => simp
  | some ti =>
    simp only [Option.bind_some]
    by_cases hb : fl.be = true
    · rw [vz_t hb]
      by_cases hc : st.bx (.t d) = none ∧ ti.zero ≠ [] ∧ ti.zero.all (fun x => !x.isJunk) = true
      · rw [if_pos ⟨hb, hc⟩]
        simp only [hb, hc, true_and, ne_eq, not_false_eq_true]
        congr 1
        unfold St.after St.upd St.put St.sbx stripsOf
        simp [hb, hmv]
      · rw [if_neg (fun h => hc h.2)]
        simp only [hb, true_and]
        rw [eq_comm, eq_iff_iff, iff_false]
        rintro ⟨a, b, c, _⟩
        exact hc ⟨a, b, c⟩
    · rw [if_neg (fun h => hb h.1)]
      simp [hb]
def boxK (be : Bool) (old : Option (List PV)) (x : PV) (k : List PV → Prop) : Prop :=
  match pvCells x with
  | some c => be = true ∧ old = none ∧ k c
  | none => False
theorem r_box {t : TypeId} {x : Operand} : brun1 P L hs dr ⟨some d, .box t x, ty, pos, af, g⟩ l i Q st = boxK (!dr || flagBe P L hs i) (st.bx (.t d)) (st.ev x) fun c => brun P L hs dr l (i + 1) Q (((st.strip (tmpsOf [x])).sbx (.t d) c).put d (.ptr (.t d) 0)) := by
  unfold brun1
  rw [bx_box, bop_ev (by intro c h; cases h)]
  generalize hfl : flg P L hs dr i ⟨some d, .box t x, ty, pos, af, g⟩ l = fl
  have hbe : fl.be = (!dr || flagBe P L hs i) := by rw [← hfl]; rfl
  have hmv : fl.mv = true := by rw [← hfl]; rfl
  rw [← hbe]
  simp only [ev1, Option.bind_some, boxK, mvd, hmv, if_true]
  cases hti : pvCells (st.ev x) with
  | none => simp
  | some c =>
    simp only [Option.bind_some]
    by_cases hb : fl.be = true
    · rw [vz_t hb]
      by_cases hc : st.bx (.t d) = none
      · rw [if_pos ⟨hb, hc⟩]
        simp only [hb, hc, true_and]
        congr 1
        unfold St.after St.upd St.put St.sbx St.strip stripsOf
        simp [hb, hmv, Op.operands]
      · rw [if_neg (fun h => hc h.2)]
        simp [hc]
    · rw [if_neg (fun h => hb h.1)]
      simp [hb]
def loadK (P : Program) (t : TypeId) (mv bt be : Bool) (x : PV) (B : Bx) (k : PV → Option (BN × List PV) → Prop) : Prop :=
  match x with
  | .ptr b off => match B b, tyi P t with
    | some cells, some i => match bxRead cells off i.sz i.agg with
      | some r => if mv = true then be = true ∧ k r (some (b, stripAt cells off (if i.agg then i.sz else 1))) else (bt = true ∨ be = true) ∧ k r.bV none
      | none => False
    | _, _ => False
  | .eptr cs => optK (evELoad P t cs) fun r => k r none
  | .efn K => optK ((tyi P t).bind fun i => if i.agg = true then none else some (.fn K)) fun r => k r none
  | .zp cs => optK (evZLoad P t cs) fun r => k r none
  | _ => False
def St.sbo (st : St) : Option (BN × List PV) → St
  | some q => st.sbx q.1 q.2
  | none => st
theorem sbo_none (st : St) : st.sbo none = st := rfl
theorem sbo_some (st : St) (b : BN) (c : List PV) : st.sbo (some (b, c)) = st.sbx b c := rfl
theorem r_load {t : TypeId} {x : Operand} : brun1 P L hs dr ⟨some d, .load t x, ty, pos, af, g⟩ l i Q st =
    (okD dr (okB (baseB L x) (st.ev x)) ∧ loadK P t (l.any (fun q => consumesT q d) || hs.contains i) (!dr || flagBt P L i) (!dr || flagBe P L hs i) (st.ev x) st.bx fun v q => brun P L hs dr l (i + 1) Q (((st.mvs (l.any (fun q => consumesT q d) || hs.contains i) [x]).sbo q).put d v)) := by
  unfold brun1
  rw [bx_load]
  refine congrArg _ ?_
  rw [bop_ev (by intro c h; cases h)]
  generalize hfl : flg P L hs dr i ⟨some d, .load t x, ty, pos, af, g⟩ l = fl
  have hbe : fl.be = (!dr || flagBe P L hs i) := by rw [← hfl]; rfl
  have hbt : fl.bt = (!dr || flagBt P L i) := by rw [← hfl]; rfl
  have hmv : fl.mv = (l.any (fun q => consumesT q d) || hs.contains i) := by rw [← hfl]; rfl
  rw [← hbe, ← hbt, ← hmv]
  have hst : stripsOf fl ⟨some d, .load t x, ty, pos, af, g⟩ = if fl.mv = true then tmpsOf [x] else [] := by simp [stripsOf, Op.operands]
  simp only [ev1, evLoad, loadK]
  cases hev : st.ev x with
  | ptr b off =>
    simp only
    by_cases hv : fl.bt = true ∨ fl.be = true
    · have hvz : vz fl st.bx = st.bx := by simp [vz, hv]
      rw [hvz]
      cases hB : st.bx b with
      | none => simp
      | some cells =>
        cases hti : tyi P t with
        | none => simp
        | some ti =>
          simp only [Option.bind_some]
          cases hr : bxRead cells off ti.sz ti.agg with
          | none => simp
          | some r =>
            simp only [Option.bind_some]
            by_cases hm : fl.mv = true
            · simp only [hm, if_true]
              by_cases hb : fl.be = true
              · simp only [hb, if_true, true_and]
                congr 1
                unfold St.after St.upd St.put St.sbo St.sbx St.mvs St.strip
                rw [hst]
                simp [hb, hm]
              · simp [hb]
            · have hm' : fl.mv = false := by simpa using hm
              simp only [hm', Bool.false_eq_true, if_false, hv, true_and]
              rw [← hvz, after_pure (d := d) rfl]
              simp [St.sbo, St.mvs, hm']
    · have hvz : vz fl st.bx = fun _ => none := by simp [vz, hv]
      have hb : ¬ fl.be = true := fun h => hv (.inr h)
      rw [hvz]
      simp only [Option.bind_none]
      cases hB : st.bx b with
      | none => simp
      | some cells =>
        cases hti : tyi P t with
        | none => simp
        | some ti =>
          cases hr : bxRead cells off ti.sz ti.agg with
          | none => simp [hr]
          | some r =>
            have hbt' : ¬ fl.bt = true := fun h => hv (.inl h)
            simp [hr, hb, hbt']
  | eptr cs =>
    simp only
    rw [ev_map (by rfl)]
    simp [St.sbo, Op.operands]
  | efn K =>
    simp only
    rw [ev_map (by rfl)]
    simp [St.sbo, Op.operands]
  | zp cs =>
    simp only
    rw [ev_map (by rfl)]
    simp [St.sbo, Op.operands]
  | _ => rfl
def makeK (P : Program) (t : TypeId) (d : Nat) (be : Bool) (x y : PV) (old : Option (List PV)) (k : PV → List PV → Prop) : Prop :=
  match x, y with
  | .d (.int _ n), .d (.int _ m) => match tyi P t with
    | some i => match i.el with
      | some e => match tyi P e with
        | some te => be = true ∧ old = none ∧ n = m ∧ 0 ≤ n ∧ n ≤ 140737488355328 ∧ (te.by_ : Int) * n ≤ 281474976710656 ∧ te.zero.length = te.sz ∧ 0 < te.sz ∧ te.zero.all (fun x => !x.isJunk) = true ∧ k (.rsl (.t d) e te.sz n.toNat) (List.replicate n.toNat te.zero).flatten
        | none => False
      | none => False
    | none => False
  | _, _ => False
theorem r_make {t : TypeId} {x y : Operand} : brun1 P L hs dr ⟨some d, .makeSlice t x y, ty, pos, af, g⟩ l i Q st = makeK P t d (!dr || flagBe P L hs i) (st.ev x) (st.ev y) (st.bx (.t d)) fun v c => brun P L hs dr l (i + 1) Q ((st.sbx (.t d) c).put d v) := by
  unfold brun1
  rw [bopx_n (by rfl), bop_ev (by intro c h; cases h)]
  generalize hfl : flg P L hs dr i ⟨some d, .makeSlice t x y, ty, pos, af, g⟩ l = fl
  have hbe : fl.be = (!dr || flagBe P L hs i) := by rw [← hfl]; rfl
  have hmv : fl.mv = false := by rw [← hfl]; rfl
  rw [← hbe]
  simp only [ev1, Option.bind_some]
  generalize st.ev x = X
  generalize st.ev y = Y
  cases X <;> try rfl
  rename_i X
  cases X <;> try rfl
  rename_i k n
  cases Y <;> try rfl
  rename_i Y
  cases Y <;> try rfl
  rename_i k' m
  simp only [evMake, makeK]
  cases tyi P t with
  | none => rfl
  | some ti =>
    simp only [Option.bind_some]
    cases ti.el with
    | none => rfl
    | some e =>
      simp only [Option.bind_some]
      cases tyi P e with
      | none => rfl
      | some te =>
        simp only [Option.bind_some]
        by_cases hb : fl.be = true
        · rw [vz_t hb]
          by_cases hc : st.bx (.t d) = none ∧ n = m ∧ 0 ≤ n ∧ n ≤ 140737488355328 ∧ (te.by_ : Int) * n ≤ 281474976710656 ∧ te.zero.length = te.sz ∧ 0 < te.sz ∧ te.zero.all (fun x => !x.isJunk) = true
          · rw [if_pos ⟨hb, hc⟩]
            have e1 : st.after fl ⟨some d, .makeSlice t x y, ty, pos, af, g⟩ (.rsl (.t d) e te.sz n.toNat) (Bx.set st.bx (.t d) (List.replicate n.toNat te.zero).flatten) = (st.sbx (.t d) (List.replicate n.toNat te.zero).flatten).put d (.rsl (.t d) e te.sz n.toNat) := by
              unfold St.after St.upd St.put St.sbx stripsOf
              simp [hb, hmv]
            simp only [e1]
            rw [eq_iff_iff]
            obtain ⟨c1, c2, c3, c4, c5, c6, c7, c8⟩ := hc
            exact ⟨fun h => ⟨hb, c1, c2, c3, c4, c5, c6, c7, c8, h⟩, fun h => h.2.2.2.2.2.2.2.2.2⟩
          · rw [if_neg (fun h => hc h.2)]
            rw [eq_comm, eq_iff_iff, iff_false]
            rintro ⟨_, c1, c2, c3, c4, c5, c6, c7, c8, _⟩
            exact hc ⟨c1, c2, c3, c4, c5, c6, c7, c8⟩
        · rw [if_neg (fun h => hb h.1)]
          rw [eq_comm, eq_iff_iff, iff_false]
          rintro ⟨c, _⟩
          exact hb c
def storeK (P : Program) (t : TypeId) (be : Bool) (x y : PV) (B : Bx) (k : BN → List PV → Prop) (kz : Prop) : Prop :=
  match x with
  | .ptr b off => match B b, tyi P t, pvCells y with
    | some cells, some i, some new => be = true ∧ new.length = i.sz ∧ off + new.length ≤ cells.length ∧ k b (cells.take off ++ new ++ cells.drop (off + new.length))
    | _, _, _ => False
  | .zp cs => match tyi P t, pvCells y.bT with
    | some i, some new => be = true ∧ new.length = i.sz ∧ 0 < new.length ∧ zfit new cs = true ∧ kz
    | _, _ => False
  | _ => False
theorem r_store {t : TypeId} {x y : Operand} : brun1 P L hs dr ⟨none, .store t x y, ty, pos, af, g⟩ l i Q st =
    (okD dr (okB (baseB L x) (st.ev x)) ∧ storeK P t (!dr || flagBe P L hs i) (st.ev x) (st.ev y) st.bx (fun b c => brun P L hs dr l (i + 1) Q ((st.strip (tmpsOf [x, y])).sbx b c)) (brun P L hs dr l (i + 1) Q (st.strip (tmpsOf [x, y])))) := by
  unfold brun1
  rw [bx_store]
  refine congrArg _ ?_
  rw [bop_ev (by intro c h; cases h)]
  generalize hfl : flg P L hs dr i ⟨none, .store t x y, ty, pos, af, g⟩ l = fl
  have hbe : fl.be = (!dr || flagBe P L hs i) := by rw [← hfl]; rfl
  have hmv : fl.mv = true := by rw [← hfl]; rfl
  rw [← hbe]
  simp only [ev1, evStore, storeK, if_true, mvd, hmv]
  cases hev : st.ev x with
  | ptr b off =>
    simp only
    by_cases hb : fl.be = true
    · rw [vz_t hb]
      cases hB : st.bx b with
      | none => simp
      | some cells =>
        cases hti : tyi P t with
        | none => simp
        | some ti =>
          cases hy : pvCells (st.ev y) with
          | none => simp
          | some new =>
            simp only [Option.bind_some, hb, true_and]
            by_cases hc : new.length = ti.sz ∧ off + new.length ≤ cells.length
            · rw [if_pos hc]
              simp only [Option.map_some]
              have e : ∀ C, st.after fl ⟨none, .store t x y, ty, pos, af, g⟩ .junk (Bx.set st.bx b C) = (st.strip (tmpsOf [x, y])).sbx b C := by
                intro C
                unfold St.after St.upd St.sbx St.strip stripsOf
                simp [hb, hmv, Op.operands]
              rw [e, eq_iff_iff]
              exact ⟨fun h => ⟨hc.1, hc.2, h⟩, fun h => h.2.2⟩
            · rw [if_neg hc]
              simp only [Option.map_none]
              rw [eq_comm, eq_iff_iff, iff_false]
              rintro ⟨a, b, _⟩
              exact hc ⟨a, b⟩
    · cases hB : st.bx b <;> cases hti : tyi P t <;> cases hy : pvCells (st.ev y) <;> simp [hb] <;> (cases hz : vz fl st.bx b <;> simp)
  | zp cs =>
    simp only
    cases hti : tyi P t with
    | none => simp
    | some ti =>
      cases hy : pvCells (st.ev y).bT with
      | none => simp
      | some new =>
        simp only [Option.bind_some]
        by_cases hc : fl.be = true ∧ new.length = ti.sz ∧ 0 < new.length ∧ zfit new cs = true
        · rw [if_pos hc]
          simp only [Option.map_some]
          have e : st.after fl ⟨none, .store t x y, ty, pos, af, g⟩ .junk (vz fl st.bx) = st.strip (tmpsOf [x, y]) := by
            rw [vz_t hc.1]
            unfold St.after St.upd St.strip stripsOf
            simp [hc.1, hmv, Op.operands]
          rw [e, eq_iff_iff]
          exact ⟨fun h => ⟨hc.1, hc.2.1, hc.2.2.1, hc.2.2.2, h⟩, fun h => h.2.2.2.2⟩
        · rw [if_neg hc]
          simp only [Option.map_none]
          rw [eq_comm, eq_iff_iff, iff_false]
          rintro ⟨a, b, c, d, _⟩
          exact hc ⟨a, b, c, d⟩
  | _ => rfl
end steps

end Go.Bee
namespace Go.Bee
section
variable {P : Program} {H : Nat → List Nat} {Q : Ex → St → Prop} {st : St}
theorem w_skip : bwp P H .skip Q st = Q .normal st := rfl
theorem w_exit {id : Nat} : bwp P H (.exit id) Q st = Q (.exit id) st := rfl
theorem w_ret : bwp P H .ret Q st = Q .ret st := rfl
theorem w_seq {a b : Code} : bwp P H (.seq a b) Q st = bwp P H a (seqK (bwp P H b Q) Q) st := rfl
theorem w_cond {c : Operand} {a b : Code} : bwp P H (.cond c a b) Q st = bcond (st.ev c) (bwp P H a Q st) (bwp P H b Q st) := rfl
theorem w_block {id : Nat} {c : Code} : bwp P H (.block id c) Q st = bwp P H c (blkK id Q) st := rfl
theorem w_loop {c : Code} : bwp P H (.loop c) Q st = bloop P (bwp P H c) Q st := rfl
theorem brun_eq {P : Program} {L : List Oper} {hs : List Nat} {draw : Bool} {Q : St → Prop} : ∀ (l : List Oper) (i : Nat) (st : St), L.drop i = l → bops P L (flagsOf P L hs draw) (innsOf P draw L) l i Q st = brun P L hs draw l i Q st
  | [], i, st, _ => rfl
  | o :: l, i, st, hl => by
    have hfl : flg P L hs draw i o l = flagsOf P L hs draw i := by simp [flg, flagsOf, flagMv, hl]
    have hLi : L[i]? = some o := by
      have := congrArg (fun m => m[0]?) hl
      simpa using this
    have hin : inL P draw L o = innsOf P draw L i := by simp [innsOf, hLi]
    have hl' : L.drop (i + 1) = l := by rw [← List.drop_drop, hl]; rfl
    have ih := fun s => brun_eq (P := P) (hs := hs) (draw := draw) (Q := Q) l (i + 1) s hl'
    unfold bops brun
    rw [hfl, hin, funext ih]
    cases o.guard <;> rfl
theorem w_reg {id : Nat} {L : List Oper} {dr : Bool} : bwp P (fun _ => []) (.region id L.toArray dr) Q st = brun P L [] dr L 0 (Q .normal) st := by
  show mreg P [] L.toArray dr (Q .normal) st = _
  unfold mreg
  rw [if_neg (by simp)]
  exact brun_eq L 0 st rfl
/-- These regions are marked. -/
def Hm (ms : List Nat) : Nat → List Nat := fun id => if ms.contains id = true then [1000000] else []
def kreg (P : Program) (L : List Oper) (dr : Bool) (K : St → Prop) (st : St) : Prop := brun P L [1000000] dr L 0 K st
def regM (b : Bool) (P : Program) (L : List Oper) (dr : Bool) (K : St → Prop) (st : St) : Prop := match b with
  | true => wk P (kreg P L dr K) st
  | false => brun P L [] dr L 0 K st
theorem kreg_eq {L : List Oper} {dr : Bool} {K : St → Prop} : kreg P L dr K st = brun P L [1000000] dr L 0 K st := rfl
theorem regM_t {L : List Oper} {dr : Bool} {K : St → Prop} : regM true P L dr K st = wk P (kreg P L dr K) st := rfl
theorem regM_f {L : List Oper} {dr : Bool} {K : St → Prop} : regM false P L dr K st = brun P L [] dr L 0 K st := rfl
@[congr] theorem regM_congr {b b' : Bool} {L : List Oper} {dr : Bool} {K : St → Prop} (h : b = b') : regM b P L dr K st = regM b' P L dr K st := by rw [h]
theorem w_regM {ms : List Nat} {id : Nat} {L : List Oper} {dr : Bool} : bwp P (Hm ms) (.region id L.toArray dr) Q st = regM (ms.contains id) P L dr (Q .normal) st := by
  show mreg P (Hm ms id) L.toArray dr (Q .normal) st = _
  unfold mreg Hm
  by_cases h : ms.contains id = true
  · rw [if_pos h, if_pos (by simp), h]
    refine congrArg (fun K => wk P K st) (funext fun s => ?_)
    exact brun_eq L 0 s rfl
  · rw [if_neg h, if_neg (by simp), Bool.eq_false_iff.2 h]
    exact brun_eq L 0 st rfl
/-- Operations hs of region r take what they are given. -/
def Hh (r : Nat) (hs : List Nat) : Nat → List Nat := fun id => if [r].contains id = true then hs else []
def regH (b m : Bool) (hs : List Nat) (P : Program) (L : List Oper) (dr : Bool) (K : St → Prop) (st : St) : Prop := match b, m with
  | true, true => wk P (fun s => brun P L hs dr L 0 K s) st
  | true, false => brun P L hs dr L 0 K st
  | false, _ => brun P L [] dr L 0 K st
theorem regH_t {hs : List Nat} {L : List Oper} {dr : Bool} {K : St → Prop} : regH true false hs P L dr K st = brun P L hs dr L 0 K st := rfl
theorem regH_f {m : Bool} {hs : List Nat} {L : List Oper} {dr : Bool} {K : St → Prop} : regH false m hs P L dr K st = brun P L [] dr L 0 K st := by cases m <;> rfl
@[congr] theorem regH_congr {b b' m m' : Bool} {hs : List Nat} {L : List Oper} {dr : Bool} {K : St → Prop} (h : b = b') (h2 : m = m') : regH b m hs P L dr K st = regH b' m' hs P L dr K st := by rw [h, h2]
theorem w_regH {r : Nat} {hs : List Nat} {id : Nat} {L : List Oper} {dr : Bool} : bwp P (Hh r hs) (.region id L.toArray dr) Q st = regH ([r].contains id) (hs.contains 1000000) hs P L dr (Q .normal) st := by
  show mreg P (Hh r hs id) L.toArray dr (Q .normal) st = _
  unfold mreg Hh
  by_cases h : [r].contains id = true
  · rw [if_pos h, h]
    by_cases h2 : hs.contains 1000000 = true
    · rw [if_pos h2, h2]
      refine congrArg (fun K => wk P K st) (funext fun s => ?_)
      exact brun_eq L 0 s rfl
    · rw [if_neg h2, Bool.eq_false_iff.2 h2]
      exact brun_eq L 0 st rfl
  · rw [if_neg h, if_neg (by simp), Bool.eq_false_iff.2 h, regH_f]
    exact brun_eq L 0 st rfl
theorem seqK_n {K : St → Prop} : seqK K Q .normal = K := rfl
theorem seqK_e {K : St → Prop} {i : Nat} : seqK K Q (.exit i) = Q (.exit i) := rfl
theorem seqK_r {K : St → Prop} : seqK K Q .ret = Q .ret := rfl
theorem blkK_n {i : Nat} : blkK i Q .normal = Q .normal := rfl
theorem blkK_r {i : Nat} : blkK i Q .ret = Q .ret := rfl
theorem blkK_e {i j : Nat} : blkK i Q (.exit j) = if j = i then Q .normal else Q (.exit j) := rfl
theorem bcond_b (b : Bool) (A B : Prop) : bcond (.d (.bool b)) A B = (bimp b true A ∧ bimp b false B) := rfl
theorem bcond_u (b : Bool) (A B : Prop) : bcond (.d (.bool b)) A B = ((b = true → A) ∧ (b = false → B)) := rfl
theorem loopK_n {I : Nat → St → Prop} {n : Nat} : loopK P I n Q .normal st = ∃ m s', Weak P st s' ∧ m < n ∧ I m s' := rfl
theorem loopK_e {I : Nat → St → Prop} {n i : Nat} : loopK P I n Q (.exit i) = wk P (Q (.exit i)) := rfl
theorem loopK_r {I : Nat → St → Prop} {n : Nat} : loopK P I n Q .ret = Q .ret := rfl
theorem endW_n {rs : List ResultVar} {r : PV} {bo : List (List PV)} : endW P rs r bo .normal st = wk P (retK P rs r bo) st := rfl
theorem endW_r {rs : List ResultVar} {r : PV} {bo : List (List PV)} : endW P rs r bo .ret st = wk P (retK P rs r bo) st := rfl
theorem endK_n {rs : List ResultVar} {r : PV} {bo : List (List PV)} : endK P rs r bo .normal st = retK P rs r bo st := rfl
theorem endK_r {rs : List ResultVar} {r : PV} {bo : List (List PV)} : endK P rs r bo .ret st = retK P rs r bo st := rfl
end

def St.strip1 (st : St) (s : Nat) : St := ⟨fun t => if t = s then (st.tm t).bT else st.tm t, st.bx⟩
theorem tm_strip1 (st : St) (s t : Nat) : (st.strip1 s).tm t = if t = s then (st.tm t).bT else st.tm t := rfl
theorem bx_strip1 (st : St) (s : Nat) : (st.strip1 s).bx = st.bx := rfl
theorem strip_nil (st : St) : st.strip [] = st := by simp [St.strip]
theorem strip_one (st : St) (s : Nat) : st.strip [s] = st.strip1 s := by simp [St.strip, St.strip1]
theorem strip_two (st : St) (s t : Nat) : st.strip [s, t] = (st.strip1 s).strip1 t := by
  have hT : ∀ x : PV, x.bT.bT = x.bT := by
    have hC : ∀ y : PV, y.bC.bC = y.bC := by intro y; cases y <;> rfl
    have hV : ∀ y : PV, y.bV.bV = y.bV := by
      intro y
      cases y <;> first | rfl | exact hC _ | skip
      simp only [PV.bV, List.map_map]
      congr 1
      apply List.map_congr_left
      intro y _; exact hC y
    intro x
    cases x
    case agg l => exact hV (.agg l)
    case tup l =>
      simp only [PV.bT, List.map_map]
      congr 1
      apply List.map_congr_left
      intro y _; exact hV y
    all_goals rfl
  unfold St.strip St.strip1
  congr 1
  funext u
  by_cases h1 : u = s <;> by_cases h2 : u = t
  · subst h1; subst h2; simp [hT]
  · subst h1; simp [h2]
  · subst h2; simp [h1]
  · simp [h1, h2]
theorem tmps_nil : tmpsOf [] = [] := rfl
theorem tmps_t (t : Nat) (xs : List Operand) : tmpsOf (.tmp t :: xs) = t :: tmpsOf xs := rfl
theorem tmps_c (v : Value) (xs : List Operand) : tmpsOf (.const v :: xs) = tmpsOf xs := rfl
theorem tmps_f (f : Nat) (xs : List Operand) : tmpsOf (.func f :: xs) = tmpsOf xs := rfl
theorem bT_d (x : PD) : PV.bT (.d x) = .d x := rfl
theorem bT_own (e sz : Nat) (l : List PD) : PV.bT (.own e sz l) = .d (.sl sz l) := rfl
theorem bT_nil : PV.bT .nilS = .nilS := rfl
theorem bT_nn (sz : Nat) (l : List PD) : PV.bT (.nn sz l) = .nn sz l := rfl
theorem bT_ptr (b : BN) (o : Nat) : PV.bT (.ptr b o) = .ptr b o := rfl
theorem bT_eptr (cs : List PD) : PV.bT (.eptr cs) = .eptr cs := rfl
theorem evConv2_i {P : Program} {s t : TypeId} {k : IntKind} {n : Int} : evConv2 P s t (.d (.int k n)) = evConv P t (.d (.int k n)) := rfl
theorem evConv2_s {P : Program} {s t : TypeId} {l : List UInt8} : evConv2 P s t (.d (.str l)) = evConv P t (.d (.str l)) := rfl
theorem bT_rsv (b : BN) (sz n : Nat) : PV.bT (.rsv b sz n) = .rsv b sz n := rfl
theorem bT_q (x : PD) : PV.bT (.q x) = .q x := rfl
theorem bT_zs (x : PD) : PV.bT (.zs x) = .zs x := rfl
theorem bT_zp (x : List PD) : PV.bT (.zp x) = .zp x := rfl
theorem bT_rsl (b : BN) (e sz n : Nat) : PV.bT (.rsl b e sz n) = .rsl b e sz n := rfl
theorem bT_clo (f : Nat) (c : List PV) : PV.bT (.clo f c) = .clo f c := rfl
theorem bT_one : PV.bT .one = .one := rfl
theorem bT_efn (K : List PD → Option PD) : PV.bT (.efn K) = .efn K := rfl
theorem bT_dp (x : PD) : PV.bT (.dp x) = .d x := rfl
theorem bT_fn (K : List PD → Option PD) : PV.bT (.fn K) = .fn K := rfl
theorem bT_junk : PV.bT .junk = .junk := rfl
theorem bT_und : PV.bT .und = .und := rfl
theorem bT_agg (l : List PV) : PV.bT (.agg l) = .agg (l.map PV.bC) := rfl
theorem bT_tup (l : List PV) : PV.bT (.tup l) = .tup (l.map PV.bV) := rfl
theorem ev_t (st : St) (t : Nat) : st.ev (.tmp t) = st.tm t := rfl
theorem ev_f (st : St) (f : Nat) : st.ev (.func f) = .clo f [] := rfl
theorem ev_int (st : St) (k : IntKind) (n : Int) : st.ev (.const (.int k n)) = .d (.int k n) := rfl
theorem ev_bool (st : St) (b : Bool) : st.ev (.const (.bool b)) = .d (.bool b) := rfl
theorem ev_nil (st : St) : st.ev (.const (.slice none 0 0)) = .nilS := rfl
theorem ev_str (st : St) (l : List UInt8) (h : l.length ≤ 140737488355328) : st.ev (.const (.string ⟨l.toArray⟩)) = .d (.str l) := by
  show (if _ then _ else _) = _
  rw [if_pos (by simpa using h)]
theorem mvd_t (x : PV) : mvd true x = x := rfl
theorem mvd_f (x : PV) : mvd false x = x.bT := rfl
theorem getD_0 (x : PV) (l : List PV) (y : PV) : (x :: l).getD 0 y = x := rfl
theorem getD_s (x : PV) (l : List PV) (n : Nat) (y : PV) : (x :: l).getD (n + 1) y = l.getD n y := by simp
theorem getD_n (n : Nat) (y : PV) : ([] : List PV).getD n y = y := by simp
theorem mvs_nil (st : St) (b : Bool) : st.mvs b [] = st := by cases b <;> simp [mvs_true, mvs_false, tmps_nil, strip_nil]
theorem mvs_c (st : St) (b : Bool) (v : Value) : st.mvs b [.const v] = st := by cases b <;> simp [mvs_true, mvs_false, tmps_nil, tmps_c, strip_nil]
theorem mvs_t1 (st : St) (s : Nat) : st.mvs true [.tmp s] = st.strip1 s := by simp [mvs_true, tmps_t, tmps_nil, strip_one]
theorem cons_a (d : Option Nat) (u ty : Nat) (p : String) (af : Array Edge) (g : Option (Nat × Bool)) (t : Nat) : consumesT ⟨d, .assign (.tmp u), ty, p, af, g⟩ t = (u == t) := rfl

theorem ret_1 {P : Program} {t : Nat} {r : PV} {st : St} : retK P [.tmp t] r [] st = ((st.tm t).gives2 = true ∧ st.tm t = r ∧ ∀ k, st.bx (.a k) = none) := by
  rw [eq_iff_iff]
  constructor
  · rintro ⟨xs, hx, -, -, hg, hr, hb, -⟩
    simp [resAll, resOf] at hx
    subst hx
    simp [resPV] at hg hr
    exact ⟨hg, hr, fun k => by simpa using hb k⟩
  · rintro ⟨hg, hr, hb⟩
    exact ⟨_, rfl, rfl, by simp, by simpa using hg, by simpa [resPV] using hr, fun k => by simpa using hb k, by simp⟩
theorem ret_2 {P : Program} {t u : Nat} {r : PV} {st : St} : retK P [.tmp t, .tmp u] r [] st = (t ≠ u ∧ (st.tm t).gives2 = true ∧ (st.tm u).gives2 = true ∧ .tup [st.tm t, st.tm u] = r ∧ ∀ k, st.bx (.a k) = none) := by
  rw [eq_iff_iff]
  constructor
  · rintro ⟨xs, hx, -, hn, hg, hr, hb, -⟩
    simp [resAll, resOf] at hx
    subst hx
    simp [resPV] at hg hr hn
    exact ⟨hn, hg.1, hg.2, hr, fun k => by simpa using hb k⟩
  · rintro ⟨hn, hg, hg2, hr, hb⟩
    exact ⟨_, rfl, rfl, by simpa using hn, by simpa using ⟨hg, hg2⟩, by simpa [resPV] using hr, fun k => by simpa using hb k, by simp⟩
theorem ret_3 {P : Program} {t u q : Nat} {r : PV} {st : St} : retK P [.tmp t, .tmp u, .tmp q] r [] st = (t ≠ u ∧ t ≠ q ∧ u ≠ q ∧ (st.tm t).gives2 = true ∧ (st.tm u).gives2 = true ∧ (st.tm q).gives2 = true ∧ .tup [st.tm t, st.tm u, st.tm q] = r ∧ ∀ k, st.bx (.a k) = none) := by
  rw [eq_iff_iff]
  constructor
  · rintro ⟨xs, hx, -, hn, hg, hr, hb, -⟩
    simp [resAll, resOf] at hx
    subst hx
    simp [resPV] at hg hr hn
    exact ⟨hn.1.1, hn.1.2, hn.2, hg.1, hg.2.1, hg.2.2, hr, fun k => by simpa using hb k⟩
  · rintro ⟨hn, hn2, hn3, hg, hg2, hg3, hr, hb⟩
    exact ⟨_, rfl, rfl, by simp [hn, hn2, hn3], by simp [hg, hg2, hg3], by simpa [resPV] using hr, fun k => by simpa using hb k, by simp⟩
def cellK (P : Program) (t : TypeId) (x : PV) (B : Bx) (k : List PV → Prop) : Prop := match x with
  | .ptr (.t n) 0 => match B (.t n), tyi P t with
    | some cells, some i => i.agg = true ∧ cells.length = i.sz ∧ k cells
    | _, _ => False
  | _ => False
theorem ret_c1 {P : Program} {a : Nat} {t : TypeId} {r : PV} {st : St} : retK P [.cell a t] r [] st = cellK P t (st.tm a) st.bx fun cells => cells.all PV.gives1 = true ∧ .agg cells = r ∧ ∀ k, st.bx (.a k) = none := by
  rw [eq_iff_iff]
  constructor
  · rintro ⟨xs, hx, hf, -, hg, hr, hb, -⟩
    simp only [resAll, resOf, cellsFit] at hx hf
    unfold cellK
    split at hx
    · rename_i n hn
      rw [hn] at hf
      simp only at hf
      cases hB : st.bx (.t n) with
      | none => simp [hB] at hx
      | some cells =>
        simp only [hB] at hf
        cases hti : tyi P t with
        | none => simp [hti] at hf
        | some i =>
          simp [hB, hti] at hx hf
          subst hx
          simp [hn, hB]
          simp [resPV] at hg hr
          exact ⟨hf.1, hf.2, by simpa [PV.gives2] using hg, hr, fun k => by simpa using hb k⟩
    · simp at hx
  · intro h
    unfold cellK at h
    split at h
    · rename_i n hn
      split at h
      · rename_i cells i hB hti
        obtain ⟨h1, h2, h3, h4, h5⟩ := h
        exact ⟨[(.b (.t n), .agg cells)], by simp [resAll, resOf, hn, hB], by simp [cellsFit, hn, hB, hti, h1, h2], by simp, by simpa [PV.gives2] using h3, by simpa [resPV] using h4, fun k => by simpa using h5 k, by simp⟩
      · exact h.elim
    · exact h.elim
theorem ret_0 {P : Program} {r : PV} {st : St} : retK P [] r [] st = (.tup [] = r ∧ ∀ k, st.bx (.a k) = none) := by
  rw [eq_iff_iff]
  constructor
  · rintro ⟨xs, hx, -, hn, hg, hr, hb, -⟩
    simp [resAll] at hx
    subst hx
    exact ⟨hr, fun k => by simpa using hb k⟩
  · rintro ⟨hr, hb⟩
    exact ⟨_, rfl, rfl, by simp, by simp, hr, fun k => by simpa using hb k, by simp⟩
theorem bxOf_nil (b : BN) : bxOf [] b = none := by cases b <;> simp [bxOf]
theorem g2_d (x : PD) : PV.gives2 (.d x) = true := rfl
theorem g2_own (e sz : Nat) (l : List PD) : PV.gives2 (.own e sz l) = true := rfl
theorem g2_nil : PV.gives2 .nilS = true := rfl
theorem g2_nn (sz : Nat) (l : List PD) : PV.gives2 (.nn sz l) = true := rfl
theorem g2_agg (l : List PV) : PV.gives2 (.agg l) = l.all PV.gives1 := rfl
theorem g1_d (x : PD) : PV.gives1 (.d x) = true := rfl
theorem g1_own (e sz : Nat) (l : List PD) : PV.gives1 (.own e sz l) = true := rfl
theorem g1_nil : PV.gives1 .nilS = true := rfl
theorem g1_nn (sz : Nat) (l : List PD) : PV.gives1 (.nn sz l) = true := rfl
theorem wrap_in (x : Int) (h1 : -9223372036854775808 ≤ x) (h2 : x ≤ 9223372036854775807) : IntKind.i64.wrap x = x := IntWalk.i64_in x ⟨h1, h2⟩

/-! What is looked at: the state, not what comes after. -/
section
variable {P : Program} {H : Nat → List Nat} {st st' : St}
@[congr] theorem bwp_congr {c : Code} {Q : Ex → St → Prop} (h : st = st') : bwp P H c Q st = bwp P H c Q st' := by rw [h]
@[congr] theorem brun_congr {L : List Oper} {hs : List Nat} {dr : Bool} {l : List Oper} {i : Nat} {Q : St → Prop} (h : st = st') : brun P L hs dr l i Q st = brun P L hs dr l i Q st' := by rw [h]
@[congr] theorem brun1_congr {L : List Oper} {hs : List Nat} {dr : Bool} {o : Oper} {l : List Oper} {i : Nat} {Q : St → Prop} (h : st = st') : brun1 P L hs dr o l i Q st = brun1 P L hs dr o l i Q st' := by rw [h]
@[congr] theorem bcallD_congr {inn : Option (List BN)} {fl : AF} {o : Oper} {K : St → Prop} (h : st = st') : bcallD P inn fl o K st = bcallD P inn fl o K st' := by rw [h]
@[congr] theorem bloop_congr {F : (Ex → St → Prop) → St → Prop} {Q : Ex → St → Prop} (h : st = st') : bloop P F Q st = bloop P F Q st' := by rw [h]
@[congr] theorem wk_congr {K : St → Prop} (h : st = st') : wk P K st = wk P K st' := by rw [h]
@[congr] theorem seqK_congr {K : St → Prop} {Q : Ex → St → Prop} {e : Ex} (h : st = st') : seqK K Q e st = seqK K Q e st' := by rw [h]
@[congr] theorem blkK_congr {i : Nat} {Q : Ex → St → Prop} {e : Ex} (h : st = st') : blkK i Q e st = blkK i Q e st' := by rw [h]
@[congr] theorem loopK_congr {I : Nat → St → Prop} {n : Nat} {Q : Ex → St → Prop} {e : Ex} (h : st = st') : loopK P I n Q e st = loopK P I n Q e st' := by rw [h]
@[congr] theorem endW_congr {rs : List ResultVar} {r : PV} {bo : List (List PV)} {e : Ex} (h : st = st') : endW P rs r bo e st = endW P rs r bo e st' := by rw [h]
@[congr] theorem endK_congr {rs : List ResultVar} {r : PV} {bo : List (List PV)} {e : Ex} (h : st = st') : endK P rs r bo e st = endK P rs r bo e st' := by rw [h]
@[congr] theorem retK_congr {rs : List ResultVar} {r : PV} {bo : List (List PV)} (h : st = st') : retK P rs r bo st = retK P rs r bo st' := by rw [h]
@[congr] theorem optK_congr {r r' : Option PV} {k : PV → Prop} (h : r = r') : optK r k = optK r' k := by rw [h]
@[congr] theorem bcond_congr {c c' : PV} {A B : Prop} (h : c = c') : bcond c A B = bcond c' A B := by rw [h]
@[congr] theorem bgd_congr {c c' : Option PV} {w : Bool} {A B : Prop} (h : c = c') : bgd c w A B = bgd c' w A B := by rw [h]
def allocK2 (i : Option TI) (be : Bool) (old : Option (List PV)) (k : List PV → Prop) : Prop := match i with
  | some i => be = true ∧ old = none ∧ i.zero ≠ [] ∧ i.zero.all (fun x => !x.isJunk) = true ∧ k i.zero
  | none => False
theorem allocK_1 {t : TypeId} {be : Bool} {old : Option (List PV)} {k : List PV → Prop} : allocK P t be old k = allocK2 (tyi P t) be old k := rfl
theorem allocK_2 {i : TI} {be : Bool} {old : Option (List PV)} {k : List PV → Prop} : allocK2 (some i) be old k = (be = true ∧ old = none ∧ i.zero ≠ [] ∧ i.zero.all (fun x => !x.isJunk) = true ∧ k i.zero) := rfl
@[congr] theorem allocK_congr {t : TypeId} {be : Bool} {old : Option (List PV)} {k : List PV → Prop} : allocK P t be old k = allocK P t be old k := rfl
@[congr] theorem allocK2_congr {i i' : Option TI} {be : Bool} {old : Option (List PV)} {k : List PV → Prop} (h2 : i = i') : allocK2 i be old k = allocK2 i' be old k := by rw [h2]
def boxK2 (c : Option (List PV)) (be : Bool) (old : Option (List PV)) (k : List PV → Prop) : Prop := match c with
  | some c => be = true ∧ old = none ∧ k c
  | none => False
theorem boxK_1 {be : Bool} {old : Option (List PV)} {x : PV} {k : List PV → Prop} : boxK be old x k = boxK2 (pvCells x) be old k := rfl
theorem boxK_2 {c : List PV} {be : Bool} {old : Option (List PV)} {k : List PV → Prop} : boxK2 (some c) be old k = (be = true ∧ old = none ∧ k c) := rfl
@[congr] theorem boxK_congr {be : Bool} {old : Option (List PV)} {x x' : PV} {k : List PV → Prop} (h3 : x = x') : boxK be old x k = boxK be old x' k := by rw [h3]
@[congr] theorem boxK2_congr {be : Bool} {old : Option (List PV)} {c c' : Option (List PV)} {k : List PV → Prop} (h3 : c = c') : boxK2 c be old k = boxK2 c' be old k := by rw [h3]
def loadK3 (mv bt be : Bool) (r : Option PV) (c : List PV) (b : BN) (k : PV → Option (BN × List PV) → Prop) : Prop := match r with
  | some r => if mv = true then be = true ∧ k r (some (b, c)) else (bt = true ∨ be = true) ∧ k r.bV none
  | none => False
def loadK2 (mv bt be : Bool) (cells : Option (List PV)) (i : Option TI) (b : BN) (off : Nat) (k : PV → Option (BN × List PV) → Prop) : Prop := match cells, i with
  | some cells, some i => loadK3 mv bt be (bxRead cells off i.sz i.agg) (stripAt cells off (if i.agg then i.sz else 1)) b k
  | _, _ => False
theorem loadK_1 {t : TypeId} {mv bt be : Bool} {b : BN} {off : Nat} {B : Bx} {k : PV → Option (BN × List PV) → Prop} : loadK P t mv bt be (.ptr b off) B k = loadK2 mv bt be (B b) (tyi P t) b off k := rfl
theorem loadK_e {t : TypeId} {mv bt be : Bool} {cs : List PD} {B : Bx} {k : PV → Option (BN × List PV) → Prop} : loadK P t mv bt be (.eptr cs) B k = optK (evELoad P t cs) fun r => k r none := rfl
theorem loadK_2 {mv bt be : Bool} {cells : List PV} {i : TI} {b : BN} {off : Nat} {k : PV → Option (BN × List PV) → Prop} : loadK2 mv bt be (some cells) (some i) b off k = loadK3 mv bt be (bxRead cells off i.sz i.agg) (stripAt cells off (if i.agg then i.sz else 1)) b k := rfl
theorem loadK_3t {bt be : Bool} {r : PV} {c : List PV} {b : BN} {k : PV → Option (BN × List PV) → Prop} : loadK3 true bt be (some r) c b k = (be = true ∧ k r (some (b, c))) := rfl
theorem loadK_3ok {bt be : Bool} {r : PV} {c : List PV} {b : BN} {k : PV → Option (BN × List PV) → Prop} (h : bt = true ∨ be = true) : loadK3 false bt be (some r) c b k = k r.bV none := by
  show ((bt = true ∨ be = true) ∧ k r.bV none) = _
  simp [h]
theorem loadK_3f {bt be : Bool} {r : PV} {c : List PV} {b : BN} {k : PV → Option (BN × List PV) → Prop} : loadK3 false bt be (some r) c b k = ((bt = true ∨ be = true) ∧ k r.bV none) := rfl
@[congr] theorem loadK_congr {t : TypeId} {mv bt be : Bool} {x x' : PV} {B : Bx} {k : PV → Option (BN × List PV) → Prop} (h3 : x = x') : loadK P t mv bt be x B k = loadK P t mv bt be x' B k := by rw [h3]
@[congr] theorem loadK2_congr {mv bt be : Bool} {cells cells' : Option (List PV)} {i i' : Option TI} {b : BN} {off : Nat} {k : PV → Option (BN × List PV) → Prop} (h1 : cells = cells') (h2 : i = i') : loadK2 mv bt be cells i b off k = loadK2 mv bt be cells' i' b off k := by rw [h1, h2]
@[congr] theorem loadK3_congr {mv mv' bt be : Bool} {r r' : Option PV} {c c' : List PV} {b : BN} {k : PV → Option (BN × List PV) → Prop} (h1 : mv = mv') (h2 : r = r') (h3 : c = c') : loadK3 mv bt be r c b k = loadK3 mv' bt be r' c' b k := by rw [h1, h2, h3]
def storeK2 (be : Bool) (cells : Option (List PV)) (i : Option TI) (new : Option (List PV)) (off : Nat) (k : List PV → Prop) : Prop := match cells, i, new with
  | some cells, some i, some new => be = true ∧ new.length = i.sz ∧ off + new.length ≤ cells.length ∧ k (cells.take off ++ new ++ cells.drop (off + new.length))
  | _, _, _ => False
theorem storeK_1 {t : TypeId} {be : Bool} {b : BN} {off : Nat} {y : PV} {B : Bx} {k : BN → List PV → Prop} {kz : Prop} : storeK P t be (.ptr b off) y B k kz = storeK2 be (B b) (tyi P t) (pvCells y) off (k b) := rfl
theorem storeK_2 {be : Bool} {cells new : List PV} {i : TI} {off : Nat} {k : List PV → Prop} : storeK2 be (some cells) (some i) (some new) off k = (be = true ∧ new.length = i.sz ∧ off + new.length ≤ cells.length ∧ k (cells.take off ++ new ++ cells.drop (off + new.length))) := rfl
def storeZ (be : Bool) (i : Option TI) (new : Option (List PV)) (cs : List PD) (kz : Prop) : Prop := match i, new with
  | some i, some new => be = true ∧ new.length = i.sz ∧ 0 < new.length ∧ zfit new cs = true ∧ kz
  | _, _ => False
theorem storeK_z {t : TypeId} {be : Bool} {cs : List PD} {y : PV} {B : Bx} {k : BN → List PV → Prop} {kz : Prop} : storeK P t be (.zp cs) y B k kz = storeZ be (tyi P t) (pvCells y.bT) cs kz := rfl
theorem storeZ_2 {be : Bool} {new : List PV} {i : TI} {cs : List PD} {kz : Prop} : storeZ be (some i) (some new) cs kz = (be = true ∧ new.length = i.sz ∧ 0 < new.length ∧ zfit new cs = true ∧ kz) := rfl
@[congr] theorem storeZ_congr {be : Bool} {i i' : Option TI} {new new' : Option (List PV)} {cs : List PD} {kz : Prop} (h2 : i = i') (h3 : new = new') : storeZ be i new cs kz = storeZ be i' new' cs kz := by rw [h2, h3]
@[congr] theorem storeK_congr {t : TypeId} {be : Bool} {x x' y y' : PV} {B : Bx} {k : BN → List PV → Prop} {kz : Prop} (h2 : x = x') (h3 : y = y') : storeK P t be x y B k kz = storeK P t be x' y' B k kz := by rw [h2, h3]
@[congr] theorem storeK2_congr {be : Bool} {cells cells' : Option (List PV)} {i i' : Option TI} {new new' : Option (List PV)} {off : Nat} {k : List PV → Prop} (h1 : cells = cells') (h2 : i = i') (h3 : new = new') : storeK2 be cells i new off k = storeK2 be cells' i' new' off k := by rw [h1, h2, h3]
def makeTI (P : Program) (t : TypeId) : Option (TypeId × TI) := (tyi P t).bind fun i => i.el.bind fun e => (tyi P e).map fun te => (e, te)
def makeK2 (d : Nat) (be : Bool) (n m : Int) (old : Option (List PV)) (q : Option (TypeId × TI)) (k : PV → List PV → Prop) : Prop := match q with
  | some (e, te) => be = true ∧ old = none ∧ n = m ∧ 0 ≤ n ∧ n ≤ 140737488355328 ∧ (te.by_ : Int) * n ≤ 281474976710656 ∧ te.zero.length = te.sz ∧ 0 < te.sz ∧ te.zero.all (fun x => !x.isJunk) = true ∧ k (.rsl (.t d) e te.sz n.toNat) (List.replicate n.toNat te.zero).flatten
  | none => False
theorem makeK_1 {t : TypeId} {d : Nat} {be : Bool} {k1 k2 : IntKind} {n m : Int} {old : Option (List PV)} {k : PV → List PV → Prop} : makeK P t d be (.d (.int k1 n)) (.d (.int k2 m)) old k = makeK2 d be n m old (makeTI P t) k := by
  unfold makeK makeK2 makeTI
  cases tyi P t with
  | none => rfl
  | some i =>
    simp only [Option.bind_some]
    cases i.el with
    | none => rfl
    | some e =>
      simp only [Option.bind_some]
      cases tyi P e <;> rfl
theorem makeK_2 {d : Nat} {be : Bool} {n m : Int} {old : Option (List PV)} {e : TypeId} {te : TI} {k : PV → List PV → Prop} : makeK2 d be n m old (some (e, te)) k = (be = true ∧ old = none ∧ n = m ∧ 0 ≤ n ∧ n ≤ 140737488355328 ∧ (te.by_ : Int) * n ≤ 281474976710656 ∧ te.zero.length = te.sz ∧ 0 < te.sz ∧ te.zero.all (fun x => !x.isJunk) = true ∧ k (.rsl (.t d) e te.sz n.toNat) (List.replicate n.toNat te.zero).flatten) := rfl
@[congr] theorem makeK_congr {t : TypeId} {d : Nat} {be : Bool} {x x' y y' : PV} {old : Option (List PV)} {k : PV → List PV → Prop} (h2 : x = x') (h3 : y = y') : makeK P t d be x y old k = makeK P t d be x' y' old k := by rw [h2, h3]
@[congr] theorem makeK2_congr {d : Nat} {be : Bool} {n m : Int} {old : Option (List PV)} {q q' : Option (TypeId × TI)} {k : PV → List PV → Prop} (h : q = q') : makeK2 d be n m old q k = makeK2 d be n m old q' k := by rw [h]
def cellK2 (cells : Option (List PV)) (i : Option TI) (k : List PV → Prop) : Prop := match cells, i with
  | some cells, some i => i.agg = true ∧ cells.length = i.sz ∧ k cells
  | _, _ => False
theorem cellK_1 {t : TypeId} {n : Nat} {B : Bx} {k : List PV → Prop} : cellK P t (.ptr (.t n) 0) B k = cellK2 (B (.t n)) (tyi P t) k := rfl
theorem cellK_2 {cells : List PV} {i : TI} {k : List PV → Prop} : cellK2 (some cells) (some i) k = (i.agg = true ∧ cells.length = i.sz ∧ k cells) := rfl
@[congr] theorem cellK_congr {t : TypeId} {x x' : PV} {B : Bx} {k : List PV → Prop} (h : x = x') : cellK P t x B k = cellK P t x' B k := by rw [h]
@[congr] theorem cellK2_congr {cells cells' : Option (List PV)} {i i' : Option TI} {k : List PV → Prop} (h1 : cells = cells') (h2 : i = i') : cellK2 cells i k = cellK2 cells' i' k := by rw [h1, h2]
end

/-! What is known of a text beforehand. -/
def mvF (l : List Oper) (hs : List Nat) (d i : Nat) : Bool := l.any (fun q => consumesT q d) || hs.contains i
def drF (dr x : Bool) : Bool := !dr || x
def gdst (L : List Oper) (j : Nat) (st : St) : Option PV := ((L[j]?).bind (·.dst)).map st.tm
@[congr] theorem mvF_congr {l : List Oper} {hs : List Nat} {d i : Nat} : mvF l hs d i = mvF l hs d i := rfl
@[congr] theorem drF_congr {dr x : Bool} : drF dr x = drF dr x := rfl
@[congr] theorem gdst_congr {L : List Oper} {j : Nat} {st st' : St} (h : st = st') : gdst L j st = gdst L j st' := by rw [h]
@[congr] theorem flagBt_congr {P : Program} {l : List Oper} {i : Nat} : flagBt P l i = flagBt P l i := rfl
@[congr] theorem flagBe_congr {P : Program} {l : List Oper} {hs : List Nat} {i : Nat} : flagBe P l hs i = flagBe P l hs i := rfl
theorem drF_f (x : Bool) : drF false x = true := rfl
theorem drF_t (x : Bool) : drF true x = x := by cases x <;> rfl
theorem gdst_0 {d : Nat} {op : Op} {ty : TypeId} {pos : String} {af : Array Edge} {g : Option (Nat × Bool)} {L : List Oper} {st : St} : gdst (⟨some d, op, ty, pos, af, g⟩ :: L) 0 st = some (st.tm d) := rfl
theorem gdst_s {o : Oper} {L : List Oper} {j : Nat} {st : St} : gdst (o :: L) (j + 1) st = gdst L j st := rfl
theorem mvF_nil {hs : List Nat} {d i : Nat} : mvF [] hs d i = hs.contains i := by simp [mvF]
section
variable {dd : Option Nat} {ty : TypeId} {pos : String} {af : Array Edge} {g : Option (Nat × Bool)} {l : List Oper} {hs : List Nat} {d i : Nat}
theorem mvF_0 {x : Operand} : mvF (⟨dd, .move x, ty, pos, af, g⟩ :: l) hs d i = mvF l hs d i := by simp [mvF, consumesT]
theorem mvF_1 {op : BinOp} {t yt : TypeId} {x y : Operand} : mvF (⟨dd, .binOp op t x y yt, ty, pos, af, g⟩ :: l) hs d i = mvF l hs d i := by simp [mvF, consumesT]
theorem mvF_2 {op : UnOp} {t : TypeId} {x : Operand} : mvF (⟨dd, .unOp op t x, ty, pos, af, g⟩ :: l) hs d i = mvF l hs d i := by simp [mvF, consumesT]
theorem mvF_3 {s t : TypeId} {x : Operand} : mvF (⟨dd, .convert s t x, ty, pos, af, g⟩ :: l) hs d i = mvF l hs d i := by simp [mvF, consumesT]
theorem mvF_4 {t : TypeId} {x : Operand} {f : Nat} : mvF (⟨dd, .fieldAddr t x f, ty, pos, af, g⟩ :: l) hs d i = mvF l hs d i := by simp [mvF, consumesT]
theorem mvF_5 {t : TypeId} {x : Operand} {f : Nat} : mvF (⟨dd, .field t x f, ty, pos, af, g⟩ :: l) hs d i = mvF l hs d i := by simp [mvF, consumesT]
theorem mvF_6 {t : TypeId} {x y : Operand} : mvF (⟨dd, .indexAddr t x y, ty, pos, af, g⟩ :: l) hs d i = mvF l hs d i := by simp [mvF, consumesT]
theorem mvF_7 {t : TypeId} {x y : Operand} : mvF (⟨dd, .index t x y, ty, pos, af, g⟩ :: l) hs d i = mvF l hs d i := by simp [mvF, consumesT]
theorem mvF_8 {t : TypeId} {parts : Array (Nat × Operand)} : mvF (⟨dd, .build t parts, ty, pos, af, g⟩ :: l) hs d i = mvF l hs d i := by simp [mvF, consumesT]
theorem mvF_9 {t : TypeId} {n : Nat} {parts : Array (Nat × Operand)} : mvF (⟨dd, .buildSlice t n parts, ty, pos, af, g⟩ :: l) hs d i = mvF l hs d i := by simp [mvF, consumesT]
theorem mvF_10 {t : TypeId} {x : Operand} {lo hi mx : Option Operand} : mvF (⟨dd, .slice t x lo hi mx, ty, pos, af, g⟩ :: l) hs d i = mvF l hs d i := by simp [mvF, consumesT]
theorem mvF_11 {c x y : Operand} : mvF (⟨dd, .pick c x y, ty, pos, af, g⟩ :: l) hs d i = mvF l hs d i := by simp [mvF, consumesT]
theorem mvF_12 {x : Operand} : mvF (⟨dd, .nilCheck x, ty, pos, af, g⟩ :: l) hs d i = mvF l hs d i := by simp [mvF, consumesT]
theorem mvF_13 {t : TypeId} : mvF (⟨dd, .alloc t, ty, pos, af, g⟩ :: l) hs d i = mvF l hs d i := by simp [mvF, consumesT]
theorem mvF_14 {t : TypeId} {x : Operand} : mvF (⟨dd, .load t x, ty, pos, af, g⟩ :: l) hs d i = mvF l hs d i := by simp [mvF, consumesT]
theorem mvF_15 {t : TypeId} {x y : Operand} : mvF (⟨dd, .makeSlice t x y, ty, pos, af, g⟩ :: l) hs d i = mvF l hs d i := by simp [mvF, consumesT]
theorem mvF_16 {v : Value} : mvF (⟨dd, .assign (.const v), ty, pos, af, g⟩ :: l) hs d i = mvF l hs d i := by simp [mvF, consumesT]
theorem mvF_17 {t : TypeId} {x : Operand} {v : Value} : mvF (⟨dd, .store t x (.const v), ty, pos, af, g⟩ :: l) hs d i = mvF l hs d i := by simp [mvF, consumesT]
theorem mvF_18 {t : TypeId} {v : Value} : mvF (⟨dd, .box t (.const v), ty, pos, af, g⟩ :: l) hs d i = mvF l hs d i := by simp [mvF, consumesT]
theorem mvF_19 {X : Operand} {xs : Array Operand} {ts : Array TypeId} : mvF (⟨dd, .call ⟨.value X, xs, ts⟩, ty, pos, af, g⟩ :: l) hs d i = mvF l hs d i := by simp [mvF, consumesT]
theorem mvF_20 {xs : Array Operand} {ts : Array TypeId} : mvF (⟨dd, .call ⟨.builtin .len, xs, ts⟩, ty, pos, af, g⟩ :: l) hs d i = mvF l hs d i := by simp [mvF, consumesT]
theorem mvF_21 {xs : Array Operand} {ts : Array TypeId} : mvF (⟨dd, .call ⟨.builtin .max, xs, ts⟩, ty, pos, af, g⟩ :: l) hs d i = mvF l hs d i := by simp [mvF, consumesT]
theorem mvF_22 {xs : Array Operand} {ts : Array TypeId} : mvF (⟨dd, .call ⟨.builtin .min, xs, ts⟩, ty, pos, af, g⟩ :: l) hs d i = mvF l hs d i := by simp [mvF, consumesT]
theorem mvF_23 {v : Value} {y : Operand} {ts : Array TypeId} : mvF (⟨dd, .call ⟨.builtin .append, #[.const v, y], ts⟩, ty, pos, af, g⟩ :: l) hs d i = mvF l hs d i := by simp [mvF, consumesT]
theorem mvF_c0 {u : Nat}  : mvF (⟨dd, .assign (.tmp u), ty, pos, af, g⟩ :: l) hs d i = (u == d || mvF l hs d i) := by simp [mvF, consumesT, Bool.or_assoc]
theorem mvF_c1 {u : Nat} {t : TypeId} {x : Operand} : mvF (⟨dd, .store t x (.tmp u), ty, pos, af, g⟩ :: l) hs d i = (u == d || mvF l hs d i) := by simp [mvF, consumesT, Bool.or_assoc]
theorem mvF_c2 {u : Nat} {t : TypeId} : mvF (⟨dd, .box t (.tmp u), ty, pos, af, g⟩ :: l) hs d i = (u == d || mvF l hs d i) := by simp [mvF, consumesT, Bool.or_assoc]
theorem mvF_c3 {u : Nat} {k : Nat} : mvF (⟨dd, .extract (.tmp u) k, ty, pos, af, g⟩ :: l) hs d i = (u == d || mvF l hs d i) := by simp [mvF, consumesT, Bool.or_assoc]
theorem mvF_c4 {u : Nat} {y : Operand} {ts : Array TypeId} : mvF (⟨dd, .call ⟨.builtin .append, #[.tmp u, y], ts⟩, ty, pos, af, g⟩ :: l) hs d i = (u == d || mvF l hs d i) := by simp [mvF, consumesT, Bool.or_assoc]
theorem mvF_fn {f : Fn} {ts : Array Operand} {caps : Array Operand} : mvF (⟨dd, .makeFunc f ts caps, ty, pos, af, g⟩ :: l) hs d i = mvF l hs d i := by simp [mvF, consumesT]
end
section
variable {P : Program} {L : List Oper} {hs : List Nat} {dr : Bool} {l : List Oper} {i : Nat} {Q : St → Prop} {st : St} {d : Nat} {ty : TypeId} {pos : String} {af : Array Edge} {g : Option (Nat × Bool)}
theorem r_move' {x : Operand} : brun1 P L hs dr ⟨some d, .move x, ty, pos, af, g⟩ l i Q st =
    brun P L hs dr l (i + 1) Q ((st.mvs (mvF l hs d i) [x]).put d (mvd (mvF l hs d i) (st.ev x))) := r_move
theorem r_load' {t : TypeId} {x : Operand} : brun1 P L hs dr ⟨some d, .load t x, ty, pos, af, g⟩ l i Q st =
    (okD dr (okB (baseB L x) (st.ev x)) ∧ loadK P t (mvF l hs d i) (drF dr (flagBt P L i)) (drF dr (flagBe P L hs i)) (st.ev x) st.bx fun v q => brun P L hs dr l (i + 1) Q (((st.mvs (mvF l hs d i) [x]).sbo q).put d v)) := r_load
theorem r_alloc' {t : TypeId} : brun1 P L hs dr ⟨some d, .alloc t, ty, pos, af, g⟩ l i Q st = allocK P t (drF dr (flagBe P L hs i)) (st.bx (.t d)) fun c => brun P L hs dr l (i + 1) Q ((st.sbx (.t d) c).put d (.ptr (.t d) 0)) := r_alloc
theorem r_box' {t : TypeId} {x : Operand} : brun1 P L hs dr ⟨some d, .box t x, ty, pos, af, g⟩ l i Q st = boxK (drF dr (flagBe P L hs i)) (st.bx (.t d)) (st.ev x) fun c => brun P L hs dr l (i + 1) Q (((st.strip (tmpsOf [x])).sbx (.t d) c).put d (.ptr (.t d) 0)) := r_box
theorem r_make' {t : TypeId} {x y : Operand} : brun1 P L hs dr ⟨some d, .makeSlice t x y, ty, pos, af, g⟩ l i Q st = makeK P t d (drF dr (flagBe P L hs i)) (st.ev x) (st.ev y) (st.bx (.t d)) fun v c => brun P L hs dr l (i + 1) Q ((st.sbx (.t d) c).put d v) := r_make
theorem r_store' {t : TypeId} {x y : Operand} : brun1 P L hs dr ⟨none, .store t x y, ty, pos, af, g⟩ l i Q st =
    (okD dr (okB (baseB L x) (st.ev x)) ∧ storeK P t (drF dr (flagBe P L hs i)) (st.ev x) (st.ev y) st.bx (fun b c => brun P L hs dr l (i + 1) Q ((st.strip (tmpsOf [x, y])).sbx b c)) (brun P L hs dr l (i + 1) Q (st.strip (tmpsOf [x, y])))) := r_store
theorem brun_grd' {op : Op} {j : Nat} {w : Bool} : brun P L hs dr (⟨some d, op, ty, pos, af, some (j, w)⟩ :: l) i Q st =
    bgd (gdst L j st) w (brun1 P L hs dr ⟨some d, op, ty, pos, af, some (j, w)⟩ l i Q st) (brun P L hs dr l (i + 1) Q (st.put d .und)) := brun_grd
end

/-! What comes after, by name, so that it is not looked into before its time. -/
def kput (P : Program) (L : List Oper) (hs : List Nat) (dr : Bool) (l : List Oper) (i : Nat) (Q : St → Prop) (st : St) (d : Nat) (v : PV) : Prop := brun P L hs dr l (i + 1) Q (st.put d v)
def kbox (P : Program) (L : List Oper) (hs : List Nat) (dr : Bool) (l : List Oper) (i : Nat) (Q : St → Prop) (st : St) (d : Nat) (c : List PV) : Prop := brun P L hs dr l (i + 1) Q ((st.sbx (.t d) c).put d (.ptr (.t d) 0))
def kload (P : Program) (L : List Oper) (hs : List Nat) (dr : Bool) (l : List Oper) (i : Nat) (Q : St → Prop) (st : St) (d : Nat) (v : PV) (q : Option (BN × List PV)) : Prop := brun P L hs dr l (i + 1) Q ((st.sbo q).put d v)
def kE (k : PV → Option (BN × List PV) → Prop) (r : PV) : Prop := k r none
def kstz (P : Program) (L : List Oper) (hs : List Nat) (dr : Bool) (l : List Oper) (i : Nat) (Q : St → Prop) (st : St) : Prop := brun P L hs dr l (i + 1) Q st
def ksto (P : Program) (L : List Oper) (hs : List Nat) (dr : Bool) (l : List Oper) (i : Nat) (Q : St → Prop) (st : St) (b : BN) (c : List PV) : Prop := brun P L hs dr l (i + 1) Q (st.sbx b c)
def kmk (P : Program) (L : List Oper) (hs : List Nat) (dr : Bool) (l : List Oper) (i : Nat) (Q : St → Prop) (st : St) (d : Nat) (v : PV) (c : List PV) : Prop := brun P L hs dr l (i + 1) Q ((st.sbx (.t d) c).put d v)
def tRun1 (P : Program) (L : List Oper) (hs : List Nat) (dr : Bool) (o : Oper) (l : List Oper) (i : Nat) (Q : St → Prop) (st : St) (_ : Unit) : Prop := brun1 P L hs dr o l i Q st
def tRun (P : Program) (L : List Oper) (hs : List Nat) (dr : Bool) (l : List Oper) (i : Nat) (Q : St → Prop) (st : St) (_ : Unit) : Prop := brun P L hs dr l i Q st
def tW (P : Program) (H : Nat → List Nat) (c : Code) (Q : Ex → St → Prop) (st : St) (_ : Unit) : Prop := bwp P H c Q st
/-- If b is w. -/
def bimpT (b w : Bool) (A : Unit → Prop) : Prop := b = w → A ()
def bgdT (c : Option PV) (w : Bool) (A B : Unit → Prop) : Prop := bgd c w (A ()) (B ())
def bcondT (c : PV) (A B : Unit → Prop) : Prop := bcond c (A ()) (B ())
section
variable {P : Program} {L : List Oper} {hs : List Nat} {dr : Bool} {l : List Oper} {i : Nat} {Q : St → Prop} {st : St} {d : Nat} {o : Oper} {A B : Unit → Prop}
theorem kput_eq {v : PV} : kput P L hs dr l i Q st d v = brun P L hs dr l (i + 1) Q (st.put d v) := rfl
theorem kbox_eq {c : List PV} : kbox P L hs dr l i Q st d c = brun P L hs dr l (i + 1) Q ((st.sbx (.t d) c).put d (.ptr (.t d) 0)) := rfl
theorem kload_eq {v : PV} {q : Option (BN × List PV)} : kload P L hs dr l i Q st d v q = brun P L hs dr l (i + 1) Q ((st.sbo q).put d v) := rfl
theorem kE_eq {k : PV → Option (BN × List PV) → Prop} {r : PV} : kE k r = k r none := rfl
theorem kstz_eq : kstz P L hs dr l i Q st = brun P L hs dr l (i + 1) Q st := rfl
theorem ksto_eq {b : BN} {c : List PV} : ksto P L hs dr l i Q st b c = brun P L hs dr l (i + 1) Q (st.sbx b c) := rfl
theorem kmk_eq {v : PV} {c : List PV} : kmk P L hs dr l i Q st d v c = brun P L hs dr l (i + 1) Q ((st.sbx (.t d) c).put d v) := rfl
theorem tRun1_eq {u : Unit} : tRun1 P L hs dr o l i Q st u = brun1 P L hs dr o l i Q st := rfl
theorem tRun_eq {u : Unit} : tRun P L hs dr l i Q st u = brun P L hs dr l i Q st := rfl
theorem tW_eq {H : Nat → List Nat} {c : Code} {Q : Ex → St → Prop} {u : Unit} : tW P H c Q st u = bwp P H c Q st := rfl
theorem bgdT_bt (b : Bool) : bgdT (some (.d (.bool b))) true A B = (bimpT b true A ∧ bimpT b false B) := rfl
theorem bgdT_bf (b : Bool) : bgdT (some (.d (.bool b))) false A B = (bimpT b false A ∧ bimpT b true B) := rfl
theorem bgdT_u (w : Bool) : bgdT (some .und) w A B = B () := rfl
theorem bcondT_b (b : Bool) : bcondT (.d (.bool b)) A B = (bimpT b true A ∧ bimpT b false B) := rfl
theorem bimpT_tt : bimpT true true A = A () := bimp_tt _
theorem bimpT_ff : bimpT false false A = A () := bimp_ff _
theorem bimpT_tf : bimpT true false A = True := bimp_tf _
theorem bimpT_ft : bimpT false true A = True := bimp_ft _
theorem bimpT_dt (p : Prop) [Decidable p] : bimpT (decide p) true A = (p → A ()) := bimp_dt _ _
theorem bimpT_df (p : Prop) [Decidable p] : bimpT (decide p) false A = (¬ p → A ()) := bimp_df _ _
theorem bimpT_et {α : Type} [BEq α] [LawfulBEq α] (x y : α) : bimpT (x == y) true A = (x = y → A ()) := by simp [bimpT]
theorem bimpT_ef {α : Type} [BEq α] [LawfulBEq α] (x y : α) : bimpT (x == y) false A = (x ≠ y → A ()) := by simp [bimpT]
theorem bimpT_net {α : Type} [BEq α] [LawfulBEq α] (x y : α) : bimpT (x != y) true A = (x ≠ y → A ()) := by simp [bimpT]
theorem bimpT_nef {α : Type} [BEq α] [LawfulBEq α] (x y : α) : bimpT (x != y) false A = (x = y → A ()) := by simp [bimpT]
theorem bimpT_nt (b : Bool) : bimpT (!b) true A = bimpT b false A := bimp_nt _ _
theorem bimpT_nf (b : Bool) : bimpT (!b) false A = bimpT b true A := bimp_nf _ _
theorem w_condT {H : Nat → List Nat} {Q : Ex → St → Prop} {c : Operand} {a b : Code} : bwp P H (.cond c a b) Q st = bcondT (st.ev c) (tW P H a Q st) (tW P H b Q st) := w_cond
theorem loadK_fT {t : TypeId} {mv bt be : Bool} {K : List PD → Option PD} {B : Bx} {k : PV → Option (BN × List PV) → Prop} : loadK P t mv bt be (.efn K) B k = optK ((tyi P t).bind fun i => if i.agg = true then none else some (.fn K)) (kE k) := rfl
theorem loadK_zT {t : TypeId} {mv bt be : Bool} {cs : List PD} {B : Bx} {k : PV → Option (BN × List PV) → Prop} : loadK P t mv bt be (.zp cs) B k = optK (evZLoad P t cs) (kE k) := rfl
theorem loadK_eT {t : TypeId} {mv bt be : Bool} {cs : List PD} {B : Bx} {k : PV → Option (BN × List PV) → Prop} : loadK P t mv bt be (.eptr cs) B k = optK (evELoad P t cs) (kE k) := rfl
end
section
variable {P : Program} {L : List Oper} {hs : List Nat} {dr : Bool} {l : List Oper} {i : Nat} {Q : St → Prop} {st : St} {d : Nat} {ty : TypeId} {pos : String} {af : Array Edge} {g : Option (Nat × Bool)}
theorem r_binT {op : BinOp} {t yt : TypeId} {x y : Operand} : brun1 P L hs dr ⟨some d, .binOp op t x y yt, ty, pos, af, g⟩ l i Q st = optK (evBin P op t (st.ev x) (st.ev y)) (kput P L hs dr l i Q (st) d) := r_bin
theorem r_unT {op : UnOp} {t : TypeId} {x : Operand} : brun1 P L hs dr ⟨some d, .unOp op t x, ty, pos, af, g⟩ l i Q st = optK (evUn op (st.ev x)) (kput P L hs dr l i Q (st) d) := r_un
theorem r_convT {s t : TypeId} {x : Operand} : brun1 P L hs dr ⟨some d, .convert s t x, ty, pos, af, g⟩ l i Q st = optK (if (tyi P s).isSome then evConv2 P s t (st.ev x) else none) (kput P L hs dr l i Q (st) d) := r_conv
theorem r_faT {t : TypeId} {x : Operand} {f : Nat} : brun1 P L hs dr ⟨some d, .fieldAddr t x f, ty, pos, af, g⟩ l i Q st = optK (evFldAddr P t f (st.ev x)) (kput P L hs dr l i Q (st) d) := r_fa
theorem r_fldT {t : TypeId} {x : Operand} {f : Nat} : brun1 P L hs dr ⟨some d, .field t x f, ty, pos, af, g⟩ l i Q st = optK (evFld P t f (st.ev x)) (kput P L hs dr l i Q (st) d) := r_fld
theorem r_iaT {t : TypeId} {x y : Operand} : brun1 P L hs dr ⟨some d, .indexAddr t x y, ty, pos, af, g⟩ l i Q st = optK (evIA P t (st.ev x) (st.ev y)) (kput P L hs dr l i Q (st) d) := r_ia
theorem r_idxT {t : TypeId} {x y : Operand} : brun1 P L hs dr ⟨some d, .index t x y, ty, pos, af, g⟩ l i Q st = optK (evIdx P t (st.ev x) (st.ev y)) (kput P L hs dr l i Q (st) d) := r_idx
theorem r_buildT {t : TypeId} {parts : Array (Nat × Operand)} : brun1 P L hs dr ⟨some d, .build t parts, ty, pos, af, g⟩ l i Q st = optK (evBuild P t (parts.toList.map fun p => (p.1, st.ev p.2))) (kput P L hs dr l i Q (st) d) := r_build
theorem r_bslT {t : TypeId} {n : Nat} {parts : Array (Nat × Operand)} : brun1 P L hs dr ⟨some d, .buildSlice t n parts, ty, pos, af, g⟩ l i Q st = optK (evBuildSlice P t n (parts.toList.map fun p => (p.1, st.ev p.2))) (kput P L hs dr l i Q (st) d) := r_bsl
theorem r_sliceT {t : TypeId} {x : Operand} {lo hi : Option Operand} : brun1 P L hs dr ⟨some d, .slice t x lo hi none, ty, pos, af, g⟩ l i Q st = optK (evSlice P t (st.ev x) (lo.map st.ev) (hi.map st.ev)) (kput P L hs dr l i Q (st) d) := r_slice
theorem r_pickT {c x y : Operand} : brun1 P L hs dr ⟨some d, .pick c x y, ty, pos, af, g⟩ l i Q st = optK (evPick (st.ev c) (st.ev x) (st.ev y)) (kput P L hs dr l i Q (st) d) := r_pick
theorem r_nilT {x : Operand} : brun1 P L hs dr ⟨some d, .nilCheck x, ty, pos, af, g⟩ l i Q st = optK (evNil (st.ev x)) (kput P L hs dr l i Q (st) d) := r_nil
theorem r_fnT {f : Nat} {caps : Array Operand} : brun1 P L hs dr ⟨some d, .makeFunc (.func f) #[] caps, ty, pos, af, g⟩ l i Q st =
    optK (if caps.toList.all (fun c => ((st.ev c).bC).isAt) = true then some (.clo f (caps.toList.map fun c => (st.ev c).bC)) else none) (kput P L hs dr l i Q (st) d) := r_fn
theorem r_extT {x : Operand} {n : Nat} : brun1 P L hs false ⟨some d, .extract x n, ty, pos, af, g⟩ l i Q st = optK (evExt n (st.ev x)) (kput P L hs false l i Q ((st.strip (tmpsOf [x]))) d) := r_ext
theorem r_extDT {x : Operand} {n : Nat} : brun1 P L hs true ⟨some d, .extract x n, ty, pos, af, g⟩ l i Q st = optK ((evExt n (st.ev x)).map PV.bT) (kput P L hs true l i Q (st) d) := r_extD
theorem r_lenT {t : TypeId} {x : Operand} : brun1 P L hs dr ⟨some d, .call ⟨.builtin .len, #[x], #[t]⟩, ty, pos, af, g⟩ l i Q st = optK (evLen P t (st.ev x)) (kput P L hs dr l i Q ((st.mvs (hs.contains i) [x])) d) := r_len
theorem r_maxT {t t' : TypeId} {x y : Operand} : brun1 P L hs dr ⟨some d, .call ⟨.builtin .max, #[x, y], #[t, t']⟩, ty, pos, af, g⟩ l i Q st = optK (evMinMax true (st.ev x) (st.ev y)) (kput P L hs dr l i Q ((st.mvs (hs.contains i) [x, y])) d) := r_max
theorem r_minT {t t' : TypeId} {x y : Operand} : brun1 P L hs dr ⟨some d, .call ⟨.builtin .min, #[x, y], #[t, t']⟩, ty, pos, af, g⟩ l i Q st = optK (evMinMax false (st.ev x) (st.ev y)) (kput P L hs dr l i Q ((st.mvs (hs.contains i) [x, y])) d) := r_min
theorem r_appT {t : TypeId} {x y : Operand} : brun1 P L hs dr ⟨some d, .call ⟨.builtin .append, #[x, y], #[t, t]⟩, ty, pos, af, g⟩ l i Q st = optK (evAppend P t (st.ev x) (st.ev y)) (kput P L hs dr l i Q ((st.strip (tmpsOf [x, y]))) d) := r_app
theorem r_allocT {t : TypeId} : brun1 P L hs dr ⟨some d, .alloc t, ty, pos, af, g⟩ l i Q st = allocK P t (drF dr (flagBe P L hs i)) (st.bx (.t d)) (kbox P L hs dr l i Q (st) d) := r_alloc'
theorem r_boxT {t : TypeId} {x : Operand} : brun1 P L hs dr ⟨some d, .box t x, ty, pos, af, g⟩ l i Q st = boxK (drF dr (flagBe P L hs i)) (st.bx (.t d)) (st.ev x) (kbox P L hs dr l i Q ((st.strip (tmpsOf [x]))) d) := r_box'
theorem okD_f {c : Prop} : okD false c = True := by simp [okD]
theorem okD_t {c : Prop} : okD true c = c := by simp [okD]
/-- The box is one of these, and so on. -/
def okK (l : List BN) (v : PV) (A : Prop) : Prop := okB l v ∧ A
theorem okK_p {l : List BN} {b : BN} {o : Nat} {A : Prop} (h : l.contains b = true ∨ False) : okK l (.ptr b o) A = A := by
  simp only [or_false] at h
  simp only [okK, okB, h, true_and]
theorem okK_e {l : List BN} {cs : List PD} {A : Prop} : okK l (.eptr cs) A = A := by simp only [okK, okB, true_and]
theorem okK_f {l : List BN} {K : List PD → Option PD} {A : Prop} : okK l (.efn K) A = A := by simp only [okK, okB, true_and]
@[congr] theorem okK_congr {l : List BN} {v v' : PV} {A : Prop} (h : v = v') : okK l v A = okK l v' A := by rw [h]
theorem r_loadT {t : TypeId} {x : Operand} : brun1 P L hs false ⟨some d, .load t x, ty, pos, af, g⟩ l i Q st =
    loadK P t (mvF l hs d i) (drF false (flagBt P L i)) (drF false (flagBe P L hs i)) (st.ev x) st.bx (kload P L hs false l i Q ((st.mvs (mvF l hs d i) [x])) d) := r_load'.trans (by rw [okD_f, true_and]; rfl)
theorem r_loadDT {t : TypeId} {x : Operand} : brun1 P L hs true ⟨some d, .load t x, ty, pos, af, g⟩ l i Q st =
    okK (baseB L x) (st.ev x) (loadK P t (mvF l hs d i) (drF true (flagBt P L i)) (drF true (flagBe P L hs i)) (st.ev x) st.bx (kload P L hs true l i Q ((st.mvs (mvF l hs d i) [x])) d)) := r_load'.trans (by rw [okD_t]; rfl)
theorem r_storeT {t : TypeId} {x y : Operand} : brun1 P L hs false ⟨none, .store t x y, ty, pos, af, g⟩ l i Q st =
    storeK P t (drF false (flagBe P L hs i)) (st.ev x) (st.ev y) st.bx (ksto P L hs false l i Q ((st.strip (tmpsOf [x, y])))) (kstz P L hs false l i Q (st.strip (tmpsOf [x, y]))) := r_store'.trans (by rw [okD_f, true_and]; rfl)
theorem r_storeDT {t : TypeId} {x y : Operand} : brun1 P L hs true ⟨none, .store t x y, ty, pos, af, g⟩ l i Q st =
    okK (baseB L x) (st.ev x) (storeK P t (drF true (flagBe P L hs i)) (st.ev x) (st.ev y) st.bx (ksto P L hs true l i Q ((st.strip (tmpsOf [x, y])))) (kstz P L hs true l i Q (st.strip (tmpsOf [x, y])))) := r_store'.trans (by rw [okD_t]; rfl)
theorem r_makeT {t : TypeId} {x y : Operand} : brun1 P L hs dr ⟨some d, .makeSlice t x y, ty, pos, af, g⟩ l i Q st = makeK P t d (drF dr (flagBe P L hs i)) (st.ev x) (st.ev y) (st.bx (.t d)) (kmk P L hs dr l i Q (st) d) := r_make'
theorem brun_grdT {op : Op} {j : Nat} {w : Bool} : brun P L hs dr (⟨some d, op, ty, pos, af, some (j, w)⟩ :: l) i Q st =
    bgdT (gdst L j st) w (tRun1 P L hs dr ⟨some d, op, ty, pos, af, some (j, w)⟩ l i Q st) (tRun P L hs dr l (i + 1) Q (st.put d .und)) := brun_grd'
end
theorem c_one : ((1 : Nat) : Int) = 1 := rfl
theorem c_zero : ((0 : Nat) : Int) = 0 := rfl
theorem c_lt0 (n : Nat) : ((n : Int) < 0) = False := eq_false (by omega)
theorem toNat_c (n : Nat) : (n : Int).toNat = n := rfl
theorem bxOf_t (bi : List (List PV)) (n : Nat) : bxOf bi (.t n) = none := rfl
theorem bxOf_a (bi : List (List PV)) (n : Nat) : bxOf bi (.a n) = bi[n]? := rfl
/-- The walk: as far as it goes. 'tys': what is asked of the types; 'more': what else may be used. -/
theorem bgo {A G : Prop} (g : G) (h : A = G := by
      conv => lhs; simp +contextual -implicitDefEqProofs (disch := first | exact Or.inl rfl | exact Or.inr rfl | omega | (simp only [List.length_nil, List.length_map, List.length_cons, List.length_append, List.length_take, List.length_drop]; omega)) only [↓w_skip, ↓w_exit, ↓w_ret, ↓w_seq, ↓w_condT, ↓w_block, ↓w_reg, ↓w_regM, ↓regM_t, ↓regM_f, ↓w_regH, ↓regH_t, ↓regH_f, ↓kreg_eq, List.contains_cons, ↓w_loop, ↓seqK_n, ↓seqK_e, ↓seqK_r, ↓blkK_n, ↓blkK_r, ↓blkK_e, ↓bcondT_b, ↓bimpT_tt, ↓bimpT_ff, ↓bimpT_tf, ↓bimpT_ft, ↓bimpT_dt, ↓bimpT_df, ↓bimpT_et, ↓bimpT_ef, ↓bimpT_net, ↓bimpT_nef, ↓bimpT_nt, ↓bimpT_nf,  ↓loopK_n, ↓loopK_e, ↓loopK_r, ↓endK_n, ↓endK_r, ↓endW_n, ↓endW_r, Option.map_none, Option.bind_none,
        ↓brun_nog, ↓brun_grdT, ↓brun_nil, ↓r_move', ↓r_assign, ↓r_binT, ↓r_unT, ↓r_convT, ↓r_faT, ↓r_fldT, ↓r_iaT, ↓r_idxT, ↓r_buildT, ↓r_bslT, ↓r_sliceT, ↓r_pickT, ↓r_nilT, ↓r_fnT, ↓r_extT, ↓r_extDT, ↓r_lenT, ↓r_maxT, ↓r_minT, ↓r_appT, ↓r_callF, ↓r_callD, ↓r_allocT, ↓r_boxT, ↓r_loadT, ↓r_loadDT, ↓r_storeT, ↓r_storeDT, ↓okK_p, ↓okK_e, ↓okK_f, r_make,
        ↓drF_f, ↓drF_t, ↓gdst_0, ↓gdst_s, ↓mvF_nil, ↓mvF_0, ↓mvF_1, ↓mvF_2, ↓mvF_3, ↓mvF_4, ↓mvF_5, ↓mvF_6, ↓mvF_7, ↓mvF_8, ↓mvF_9, ↓mvF_10, ↓mvF_11, ↓mvF_12, ↓mvF_13, ↓mvF_14, ↓mvF_15, ↓mvF_16, ↓mvF_17, ↓mvF_18, ↓mvF_19, ↓mvF_20, ↓mvF_21, ↓mvF_22, ↓mvF_23, ↓mvF_c0, ↓mvF_c1, ↓mvF_c2, ↓mvF_c3, ↓mvF_c4, ↓mvF_fn, Bool.or_false, Bool.false_or, Bool.true_or, Bool.or_true, List.contains_nil, Bool.not_true, Bool.not_false, Nat.reduceBEq, Nat.reduceEqDiff, ↓reduceIte, Nat.reduceAdd, Nat.reduceMul, Nat.reduceLeDiff, Nat.reduceLT,
        mvs_false, mvs_t1, mvs_c, mvs_nil, strip_nil, strip_one, strip_two, tmps_nil, tmps_t, tmps_c, tmps_f, mvd_t, mvd_f, tm_put, bx_put, tm_strip1, bx_strip1, tm_sbx, bx_sbx, tm_init, bx_init, tm_mk, bx_mk, look_n, look_c, lookB_n, lookB_c, getD_0, getD_s, getD_n,
        ev_t, ev_f, ev_int, ev_bool, ev_nil, ev_str, bT_d, bT_own, bT_nil, bT_nn, bT_ptr, bT_eptr, bT_rsl, bT_rsv, bT_q, bT_zs, bT_zp, bT_clo, bT_efn, bT_one, bT_dp, bT_fn, bT_junk, bT_und, bT_agg, bT_tup, PV.bC, PV.bV, List.map_cons, List.map_nil,
        ↓optK_some, evBin, evUn, evPick, evMinMax, pick2, ↓bgdT_bt, ↓bgdT_bf, ↓bgdT_u, ↓kput_eq, ↓kbox_eq, ↓kload_eq, ↓kE_eq, ↓ksto_eq, ↓kstz_eq, ↓kmk_eq, ↓tRun_eq, ↓tRun1_eq, ↓tW_eq, List.getElem?_cons_zero, List.getElem?_cons_succ, Option.bind_some, Option.map_some, Option.getD_some,
        ↓ret_0, ↓ret_1, ↓ret_2, ↓ret_3, ↓ret_c1, ↓cellK_1, ↓cellK_2, BN.t.injEq, BN.a.injEq, stripAt, List.modify_cons, List.modify_nil, List.mapIdx_cons, List.mapIdx_nil, bxOf_nil, bxOf_t, bxOf_a, List.getElem?_nil, g2_d, g2_own, g2_nil, g2_nn, g2_agg, g1_d, g1_own, g1_nil, g1_nn, List.all_cons, List.all_nil, Bool.and_true, Bool.true_and, reduceCtorEq, Bool.false_eq_true, Bool.true_eq_false, false_implies, true_implies, implies_true, and_true, true_and, and_self, or_self, true_or, or_true, ne_eq, not_false_eq_true, not_true_eq_false,
        evConv2_i, evConv2_s, evLen, evIA, evIdxR, evIdxAddr, evIdx, evFldAddr, evFld, evELoad, evExt, evNil, PV.list, ↓loadK_1, ↓loadK_eT, ↓loadK_zT, ↓loadK_fT, evZLoad, zv, zfit, zplain, PD.isSl, evIdxZ, ↓storeK_z, ↓storeZ_2, ↓loadK_2, ↓loadK_3t, ↓loadK_3ok, ↓loadK_3f, ↓storeK_1, ↓storeK_2, makeTI, ↓makeK_1, ↓makeK_2, ↓allocK_1, ↓allocK_2, ↓boxK_1, ↓boxK_2, pvCells, bxRead, sbo_none, sbo_some, PD.cells, List.head?_cons, List.drop_zero, List.drop_succ_cons, List.take_succ_cons, List.take_zero, List.length_cons, List.length_nil, List.length_map, List.getElem?_map, List.nil_append, List.cons_append, List.append_nil, PV.isJunk, PV.isAt,
        Int.natCast_nonneg, Nat.lt_irrefl, Int.lt_irrefl, bne_self_eq_false, beq_self_eq_true, c_lt0, c_one, c_zero, Int.cast_ofNat_Int, Int.add_zero, Int.toNat_natCast_add_one, toNat_c, Int.toNat_zero, Int.le_refl, Int.reduceToNat, Int.reduceLE, Int.reduceLT, Int.reduceAdd, Int.reduceSub, Int.reduceNeg, Int.ofNat_lt, wrap_in, decide_true, decide_false, Option.isSome_some, Option.isSome_none, Bool.false_and, Bool.and_false, Nat.zero_add, Nat.le_refl, tys, *]) : A := h ▸ g

end Go.Bee

/-
Loops, calls, and what may be taken for known. No condition.
-/
namespace Go.Bee
set_option linter.unusedVariables false

theorem Weak.refl {P : Program} (st : St) : Weak P st st := fun F G a w h => ⟨G, h⟩
theorem wk_rfl {P : Program} {K : St → Prop} {s : St} (h : K s) : wk P K s := ⟨s, Weak.refl s, h⟩
theorem wk_of {P : Program} {K : St → Prop} {s s' : St} (hw : Weak P s s') (h : K s') : wk P K s := ⟨s', hw, h⟩
theorem Weak.trans {P : Program} {s t u : St} (h : Weak P s t) (k : Weak P t u) : Weak P s u := fun F G a w hr => by
  obtain ⟨G', h'⟩ := h F G a w hr
  exact k F G' a w h'
theorem b_loop {P : Program} {H : Nat → List Nat} {c : Code} {Q : Ex → St → Prop} {st : St} (I : Nat → St → Prop) (n : Nat) (hI : I n st) (hr : ∀ n s, I n s → bwp P H c (loopK P I n Q) s) : bloop P (bwp P H c) Q st :=
  ⟨I, ⟨n, st, Weak.refl st, hI⟩, hr⟩
theorem b_loopw {P : Program} {H : Nat → List Nat} {c : Code} {Q : Ex → St → Prop} {st s : St} (I : Nat → St → Prop) (n : Nat) (hw : Weak P st s) (hI : I n s) (hr : ∀ n s, I n s → bwp P H c (loopK P I n Q) s) : bloop P (bwp P H c) Q st :=
  ⟨I, ⟨n, s, hw, hI⟩, hr⟩

/-- A slot may forget, or say less. -/
theorem Weak.put {P : Program} {st : St} {t : Nat} {x : PV} (h : ∀ (G : Gh) (w : World) (v : Value), RepT P G w (.t t) (st.tm t) v → RepT P G w (.t t) x v) : Weak P st (st.put t x) := fun F G a w hr =>
  ⟨G, ⟨fun u => by
    by_cases hu : u = t
    · subst hu; simp only [tm_put, if_true]; exact h G w _ (hr.tm u)
    · simp only [tm_put, hu, if_false]; exact hr.tm u, hr.hp, hr.sn, hr.nt, hr.defers, hr.z, hr.tab⟩⟩
theorem Weak.nil_own {P : Program} {st : St} {t : Nat} (e sz : Nat) (h : st.tm t = .nilS) : Weak P st (st.put t (.own e sz [])) := Weak.put fun G w v hv => by
  rw [h] at hv
  have hv' : v = .slice none 0 0 := hv
  rw [hv']
  exact ⟨.nil sz, .inl ⟨.inl rfl, fun h => absurd rfl h⟩⟩
theorem Weak.bT {P : Program} {st : St} (t : Nat) : Weak P st (st.put t (st.tm t).bT) := Weak.put fun G w v hv => hv.bT _
theorem Weak.own_d {P : Program} {st : St} {t e sz : Nat} {l : List PD} (h : st.tm t = .own e sz l) : Weak P st (st.put t (.d (.sl sz l))) := Weak.put fun G w v hv => by rw [h] at hv; exact ⟨hv.1, rfl⟩
theorem Weak.nil_d {P : Program} {st : St} {t : Nat} (sz : Nat) (h : st.tm t = .nilS) : Weak P st (st.put t (.d (.sl sz []))) := Weak.put fun G w v hv => by
  rw [h] at hv
  have hv' : v = .slice none 0 0 := hv
  rw [hv']
  exact ⟨.nil sz, rfl⟩
theorem Weak.junk {P : Program} {st : St} (t : Nat) : Weak P st (st.put t .junk) := Weak.put fun G w v hv => trivial

/-- A variable in memory whose parts are nobody's own. -/
theorem Weak.bC {P : Program} {st : St} (b : BN) : Weak P st ⟨st.tm, fun c => if c = b then (st.bx c).map (·.map PV.bC) else st.bx c⟩ := fun F G a w hr =>
  ⟨G, ⟨hr.tm, ⟨fun c cells hc => by
    simp only at hc
    split at hc
    · rename_i e
      obtain ⟨cells', hc', rfl⟩ := Option.map_eq_some_iff.1 hc
      obtain ⟨cs, q, h1, h2, h3, h4⟩ := hr.hp.bx c cells' hc'
      refine ⟨cs, q, h1, by simpa using h2, fun j u hj hu => h3 j u (by simpa using hj) hu, fun j x u hx hu => ?_⟩
      rw [List.getElem?_map] at hx
      obtain ⟨z, hz, rfl⟩ := Option.map_eq_some_iff.1 hx
      exact (h4 j z u hz hu).bC _
    · exact hr.hp.bx c cells hc, fun c => by
    simp only
    split
    · simp [hr.hp.live c]
    · exact hr.hp.live c, hr.hp.inj, hr.hp.imlt, hr.hp.ownlt, hr.hp.boxim, hr.hp.boxown⟩, hr.sn, hr.nt, hr.defers, hr.z, hr.tab⟩⟩

theorem FreeO.less {G : Gh} {w : World} {o : Option Pos} {g : Nat} {L : BN → Prop} (h : FreeO G w o g) (hL : ∀ b, L b → G.live b) : FreeO { G with live := L } w o g := ⟨h.1, h.2.1, fun b hb => h.2.2.1 b (hL b hb), h.2.2.2⟩
def PV.killC (b : BN) : PV → PV
  | .ptr c o => if c = b then .junk else .ptr c o
  | .rsl c e sz n => if c = b then .junk else .rsl c e sz n
  | .rsv c sz n => if c = b then .junk else .rsv c sz n
  | .clo f caps => if caps.any (fun x => match x with | .ptr c _ => decide (c = b) | _ => false) then .junk else .clo f caps
  | x => x
def PV.killV (b : BN) : PV → PV
  | .agg l => .agg (l.map (PV.killC b))
  | x => x.killC b
def PV.kill (b : BN) : PV → PV
  | .tup l => .tup (l.map (PV.killV b))
  | x => x.killV b
def St.drop (st : St) (b : BN) : St := ⟨fun t => (st.tm t).kill b, fun c => if c = b then none else (st.bx c).map fun cells => cells.map (PV.killC b)⟩
theorem killC_rep {P : Program} {G : Gh} {w : World} {b : BN} {p : Pos} {x : PV} {v : Value} (h : RepC P G w p x v) : RepC P { G with live := fun c => c ≠ b ∧ G.live c } w p (x.killC b) v := by
  have hAt : ∀ (y : PV) u, (match y with | .ptr c _ => decide (c = b) | _ => false) = false → RepAt G w y u → RepAt { G with live := fun c => c ≠ b ∧ G.live c } w y u := by
    intro y u hy hr
    cases y <;> simp only [RepAt] at hr ⊢ <;> try exact hr
    case ptr c o => exact ⟨hr.1, by simpa using hy, hr.2⟩
  cases x
  case ptr c o =>
    simp only [PV.killC]
    split
    · trivial
    · rename_i hc
      exact ⟨h.1, hc, h.2⟩
  case rsl c e sz n =>
    simp only [PV.killC]
    split
    · trivial
    · rename_i hc
      exact ⟨h.1, ⟨hc, h.2.1⟩, h.2.2⟩
  case rsv c sz n =>
    simp only [PV.killC]
    split
    · trivial
    · rename_i hc
      obtain ⟨k, h1, h2, h3, h4⟩ := h
      exact ⟨k, h1, h2, ⟨hc, h3⟩, h4⟩
  case q x => exact ⟨h.1.keep fun b o hb => ⟨hb.less fun _ h => h.2, rfl⟩, h.2⟩
  case zs x => exact ⟨h.1.keep fun g hg => ⟨hg.less fun _ h => h.2, fun _ => rfl⟩, h.2⟩
  case zp x => obtain ⟨g, o, h1, h2⟩ := h; exact ⟨g, o, h1, h2.keep fun g hg => ⟨hg.less fun _ h => h.2, fun _ => rfl⟩⟩
  case clo f caps =>
    simp only [PV.killC]
    split
    · trivial
    · rename_i hc
      obtain ⟨vs, hv, hl, hr⟩ := h
      refine ⟨vs, hv, hl, fun i y u h1 h2 => hAt y u ?_ (hr i y u h1 h2)⟩
      have := hc
      simp only [List.any_eq_true, not_exists, not_and, Bool.not_eq_true] at this
      exact this y (List.mem_of_getElem? h1)
  case agg l => exact h
  case tup l => exact h
  all_goals exact h
theorem killV_rep {P : Program} {G : Gh} {w : World} {b : BN} {loc : Loc} {i : Nat} {x : PV} {v : Value} (h : RepV P G w loc i x v) : RepV P { G with live := fun c => c ≠ b ∧ G.live c } w loc i (x.killV b) v := by
  cases x
  case agg l =>
    obtain ⟨cs, hv, hl, h1, hr⟩ := h
    refine ⟨cs, hv, by simpa using hl, h1, fun j y u hy hu => ?_⟩
    rw [List.getElem?_map] at hy
    obtain ⟨z, hz, rfl⟩ := Option.map_eq_some_iff.1 hy
    exact killC_rep (hr j z u hz hu)
  case ptr c o =>
    have := killC_rep (P := P) (w := w) (b := b) (p := (loc, i, 0)) (x := .ptr c o) h
    simp only [PV.killV]
    generalize PV.killC b (.ptr c o) = y at this
    cases y <;> first | exact this | exact absurd this (by simp [RepC])
  case rsl c e sz n =>
    have := killC_rep (P := P) (w := w) (b := b) (p := (loc, i, 0)) (x := .rsl c e sz n) h
    simp only [PV.killV]
    generalize PV.killC b (.rsl c e sz n) = y at this
    cases y <;> first | exact this | exact absurd this (by simp [RepC])
  case rsv c sz n =>
    have := killC_rep (P := P) (w := w) (b := b) (p := (loc, i, 0)) (x := .rsv c sz n) h
    simp only [PV.killV]
    generalize PV.killC b (.rsv c sz n) = y at this
    cases y <;> first | exact this | exact absurd this (by simp [RepC])
  case q y => exact killC_rep (P := P) (w := w) (b := b) (p := (loc, i, 0)) (x := .q y) h
  case zs y => exact killC_rep (P := P) (w := w) (b := b) (p := (loc, i, 0)) (x := .zs y) h
  case zp y => exact killC_rep (P := P) (w := w) (b := b) (p := (loc, i, 0)) (x := .zp y) h
  case clo f caps =>
    have := killC_rep (P := P) (w := w) (b := b) (p := (loc, i, 0)) (x := .clo f caps) h
    simp only [PV.killV]
    generalize PV.killC b (.clo f caps) = y at this
    cases y <;> first | exact this | exact absurd this (by simp [RepC])
  case tup l => exact h
  all_goals exact h
theorem kill_rep {P : Program} {G : Gh} {w : World} {b : BN} {loc : Loc} {x : PV} {v : Value} (h : RepT P G w loc x v) : RepT P { G with live := fun c => c ≠ b ∧ G.live c } w loc (x.kill b) v := by
  cases x
  case tup l =>
    obtain ⟨vs, hv, hl, hr⟩ := h
    refine ⟨vs, hv, by simpa using hl, fun j y u hy hu => ?_⟩
    rw [List.getElem?_map] at hy
    obtain ⟨z, hz, rfl⟩ := Option.map_eq_some_iff.1 hy
    exact killV_rep (hr j z u hz hu)
  case agg l => exact killV_rep (P := P) (w := w) (i := 0) (x := .agg l) h
  case ptr c o => exact RepV.toT (killV_rep (P := P) (w := w) (b := b) (i := 0) (x := .ptr c o) h)
  case rsl c e sz n => exact RepV.toT (killV_rep (P := P) (w := w) (b := b) (i := 0) (x := .rsl c e sz n) h)
  case rsv c sz n => exact RepV.toT (killV_rep (P := P) (w := w) (b := b) (i := 0) (x := .rsv c sz n) h)
  case q y => exact killV_rep (P := P) (w := w) (b := b) (loc := loc) (i := 0) (x := .q y) h
  case zs y => exact killV_rep (P := P) (w := w) (b := b) (loc := loc) (i := 0) (x := .zs y) h
  case zp y => exact killV_rep (P := P) (w := w) (b := b) (loc := loc) (i := 0) (x := .zp y) h
  case clo f caps => exact RepV.toT (killV_rep (P := P) (w := w) (b := b) (i := 0) (x := .clo f caps) h)
  all_goals exact h
/-- A variable in memory that nobody looks at any more. -/
theorem Weak.drop {P : Program} {st : St} (b : BN) : Weak P st (st.drop b) := fun F G a w hr => by
  refine ⟨{ G with live := fun c => c ≠ b ∧ G.live c }, ⟨fun t => kill_rep (hr.tm t), ⟨fun c cells hc => ?_, fun c => ?_, fun c c' hl hl' => hr.hp.inj c c' hl.2 hl'.2, hr.hp.imlt, hr.hp.ownlt, fun c hl => hr.hp.boxim c hl.2, fun c hl => hr.hp.boxown c hl.2⟩,
    ⟨hr.sn.ext, hr.sn.own, fun c hl => hr.sn.box c hl.2, hr.sn.βa, hr.sn.fz, hr.sn.fzm⟩, hr.nt, hr.defers, fun g hg => ⟨(hr.z g hg).1.less fun _ h => h.2, (hr.z g hg).2⟩, hr.tab⟩⟩
  · simp only [St.drop] at hc
    split at hc
    · cases hc
    · obtain ⟨cells', hc', rfl⟩ := Option.map_eq_some_iff.1 hc
      obtain ⟨cs, e, h1, h2, h3, h4⟩ := hr.hp.bx c cells' hc'
      refine ⟨cs, e, h1, by simpa using h2, fun j u hj hu => h3 j u (by simpa using hj) hu, fun j x u hx hu => ?_⟩
      rw [List.getElem?_map] at hx
      obtain ⟨z, hz, rfl⟩ := Option.map_eq_some_iff.1 hx
      exact killC_rep (h4 j z u hz hu)
  · simp only [St.drop]
    by_cases hcb : c = b
    · simp [hcb]
    · simp [hcb, hr.hp.live c]
theorem tm_drop (st : St) (b : BN) (t : Nat) : (st.drop b).tm t = (st.tm t).kill b := rfl
theorem bx_drop (st : St) (b c : BN) : (st.drop b).bx c = if c = b then none else (st.bx c).map fun cells => cells.map (PV.killC b) := rfl

/-- A slice that was made and filled, and is not written any more. -/
theorem Weak.freeze {P : Program} {st : St} {t : Nat} {b : BN} {e sz n : Nat} {l : List PD} (ht : st.tm t = .rsl b e sz n) (hb : st.bx b = some ((flat l).map .d)) (hl : l.length = n) (hu : ∀ x ∈ l, x.cells.length = sz) : Weak P st ((st.drop b).put t (.own e sz l)) := fun F G a w hr => by
  subst hl
  have hrt := hr.tm t
  rw [ht] at hrt
  obtain ⟨hv, hlive, hlen⟩ := hrt
  obtain ⟨cs, q, h1, h2, h3, h4⟩ := hr.hp.bx b _ hb
  have hcs : ∀ (i : Nat) x u, (flat l)[i]? = some x → cs[i]? = some u → RepD G.im w x u ∧ x.scalar = true := fun i x u hx hu => h4 i (.d x) u (by rw [List.getElem?_map, hx]; rfl) hu
  have hsz : (flat l).length ≤ cs.size := by simpa using h2
  have hβlt : ∀ c, G.live c → G.β c < w.heap.size := fun c hl => by obtain ⟨x, _, hbx⟩ := hr.hp.box hl; exact hbx.lt
  let G' : Gh := { im := (fun g o => G.im g o ∨ (g = G.β b ∧ o < (flat l).length)), β := G.β, live := (fun c => c ≠ b ∧ G.live c), own := (fun g => if g = G.β b then some (.t t, 0, 0) else G.own g), fz := G.fz }
  have hk : Keep G.im w G'.im w := fun g o h => ⟨.inl h, rfl⟩
  let G2 : Gh := { G' with live := G.live }
  have hstep : GStep G w G2 w (fun p q => p = q) := by
    refine ⟨hk, fun c hl => ⟨hl, rfl⟩, rfl, fun _ _ => rfl, Nat.le_refl _, fun g p q hg e => ⟨?_, rfl, fun o ho => ?_⟩, fun o' g ho' hf => ?_⟩
    · rw [← e]
      show (if g = G.β b then some (.t t, 0, 0) else G.own g) = some p
      rw [if_neg (fun e => ?_)]
      · exact hg
      · have : G.own (G.β b) = some p := e ▸ hg
        rw [hr.hp.boxown b hlive] at this; cases this
    · rcases ho with ho | ⟨rfl, _⟩
      · exact ho
      · have : G.own (G.β b) = some p := hg
        rw [hr.hp.boxown b hlive] at this; cases this
    · have hne : g ≠ G.β b := fun e => hf.2.2.1 b hlive e.symm
      exact ⟨⟨hf.1, (if_neg hne).trans hf.2.1, hf.2.2.1, fun o ho => ho.elim (hf.2.2.2.1 o) (fun ho => hne ho.1), hf.2.2.2.2⟩, .heap rfl⟩
  have hrep : RepD G'.im w (.sl sz l) (.slice (some ⟨G.β b, 0, none⟩) l.length l.length) := by
    refine .sl sz l (G.β b) 0 l.length (cs.toList.take (flat l).length) hlen (Nat.le_refl _) hu (fun x hx => ?_) (by simp; omega) (fun i v hi => ?_) (fun i x v hx hv => ?_)
    · obtain ⟨i, hi, rfl⟩ := List.mem_iff_getElem.1 hx
      exact (hcs i _ cs[i] (List.getElem?_eq_getElem hi) (Array.getElem?_eq_getElem (by omega))).2
    · rw [List.getElem?_take] at hi
      split at hi
      · rename_i hlt
        rw [Array.getElem?_toList] at hi
        rw [Nat.zero_add]
        exact ⟨.inr ⟨rfl, hlt⟩, by simp [World.cell?, h1, hi]⟩
      · cases hi
    · rw [List.getElem?_take_of_lt (List.getElem?_eq_some_iff.1 hx).1] at hv
      exact (hcs i x v hx (by simpa using hv)).1.keep hk
  have hown1 : ∀ g p, G'.own g = some p → g < w.heap.size := fun g p hg => by
    by_cases e : g = G.β b
    · rw [e]; exact hβlt b hlive
    · exact hr.hp.ownlt g p ((if_neg e).symm.trans hg)
  have hown2 : ∀ g p, G'.own g = some p → F.w0.heap.size ≤ g ∨ F.Wr g := fun g p hg => by
    by_cases e : g = G.β b
    · rw [e]; exact hr.sn.box b hlive
    · exact hr.sn.own g p ((if_neg e).symm.trans hg)
  refine ⟨G', fun u => ?_, ⟨fun c cells hc => ?_, fun c => ?_, fun c c' hl hl' => hr.hp.inj c c' hl.2 hl'.2, fun g o hg => ?_, hown1, fun c hl o hg => ?_, fun c hl => (if_neg (fun e => hl.1 (hr.hp.inj c b hl.2 hlive e))).trans (hr.hp.boxown c hl.2)⟩, ⟨?_, hown2, fun c hl => hr.sn.box c hl.2, hr.sn.βa, hr.sn.fz, hr.sn.fzm⟩, hr.nt, hr.defers, fun g hg => ⟨(hstep.free _ g (.inl rfl) (hr.z g hg).1).1.less fun _ h => h.2, (hr.z g hg).2⟩, hr.tab⟩
  · by_cases hu' : u = t
    · subst hu'
      simp only [tm_put, if_true]
      rw [hv]
      exact ⟨hrep, .inl ⟨.inr ⟨_, rfl⟩, fun _ g hg => by simp [Value.ownBlock] at hg; subst hg; exact ⟨if_pos rfl, cs, q, h1⟩⟩⟩
    · simp only [tm_put, hu', if_false, tm_drop]
      exact kill_rep (G := G2) (b := b) ((hr.tm u).step hstep (fun i j => rfl))
  · simp only [bx_put, bx_drop] at hc
    split at hc
    · cases hc
    · rename_i hcb
      obtain ⟨cells', hc', rfl⟩ := Option.map_eq_some_iff.1 hc
      obtain ⟨cs', e', k1, k2, k3, k4⟩ := hr.hp.bx c cells' hc'
      refine ⟨cs', e', k1, by simpa using k2, fun j u hj hu => k3 j u (by simpa using hj) hu, fun j x u hx hu => ?_⟩
      rw [List.getElem?_map] at hx
      obtain ⟨z, hz, rfl⟩ := Option.map_eq_some_iff.1 hx
      exact killC_rep (G := G2) (b := b) ((k4 j z u hz hu).step hstep rfl)
  · simp only [bx_put, bx_drop]
    by_cases hcb : c = b
    · simp [hcb, G']
    · simp [hcb, G', hr.hp.live c]
  · rcases hg with hg | ⟨rfl, _⟩
    · exact hr.hp.imlt g o hg
    · exact hβlt b hlive
  · rcases hg with hg | ⟨hg, _⟩
    · exact hr.hp.boxim c hl.2 o hg
    · exact hl.1 (hr.hp.inj c b hl.2 hlive hg)
  · have hx := hr.sn.ext
    have hbf := hr.sn.box b hlive
    refine ⟨hx.os, hx.tape, hx.output, hx.size, hx.old, fun g o hg => ⟨.inl (hx.keep g o hg).1, (hx.keep g o hg).2⟩, fun g o hg => ?_⟩
    rcases hg with hg | ⟨rfl, _⟩
    · exact hx.new g o hg
    · rcases hbf with h | h
      · exact .inr (.inl h)
      · exact .inr (.inr h)

/-! What is known of an argument. -/
theorem BRet.know {P : Program} {f : Nat} {bi bo : List (List PV)} {args : List PV} {r : PV} (hf : isFn P f = true) (hl : bo.length = bi.length) {A : Prop} (ha : ∀ (G : Gh) (w : World) (vs : Array Value), vs.size = args.length →
    (∀ (i : Nat) x u, args[i]? = some x → vs[i]? = some u → RepT P G w (.t i) x u) → A) (h : A → BRet P f bi args r bo) : BRet P f bi args r bo :=
  ⟨hf, hl, fun G w vs Wr hvs hargs => (h (ha G w vs hvs hargs)).2.2 G w vs Wr hvs hargs⟩
theorem BRet.len {P : Program} {f : Nat} {args : List PV} {r : PV} (i : Nat) {sz : Nat} {l : List PD} (hf : isFn P f = true) (ha : args[i]? = some (.d (.sl sz l))) (h : l.length ≤ 140737488355328 → BRet P f [] args r []) : BRet P f [] args r [] :=
  BRet.know hf rfl (fun G w vs hvs hargs => by
    have hi : i < vs.size := by rw [hvs]; exact (List.getElem?_eq_some_iff.1 ha).1
    exact (hargs i _ vs[i] ha (Array.getElem?_eq_getElem hi)).1.len) h
theorem BRet.slen {P : Program} {f : Nat} {args : List PV} {r : PV} (i : Nat) {l : List UInt8} (hf : isFn P f = true) (ha : args[i]? = some (.d (.str l))) (h : l.length ≤ 140737488355328 → BRet P f [] args r []) : BRet P f [] args r [] :=
  BRet.know hf rfl (fun G w vs hvs hargs => by
    have hi : i < vs.size := by rw [hvs]; exact (List.getElem?_eq_some_iff.1 ha).1
    exact (hargs i _ vs[i] ha (Array.getElem?_eq_getElem hi)).1.slen) h
theorem BRet.alen {P : Program} {f : Nat} {args : List PV} {r : PV} (i j : Nat) {cs : List PV} {sz : Nat} {l : List PD} (hf : isFn P f = true) (ha : args[i]? = some (.agg cs)) (hj : cs[j]? = some (.d (.sl sz l))) (h : l.length ≤ 140737488355328 → BRet P f [] args r []) : BRet P f [] args r [] :=
  BRet.know hf rfl (fun G w vs hvs hargs => by
    have hi : i < vs.size := by rw [hvs]; exact (List.getElem?_eq_some_iff.1 ha).1
    obtain ⟨us, -, hus, -, hr⟩ := hargs i _ vs[i] ha (Array.getElem?_eq_getElem hi)
    have hj' : j < us.size := by rw [hus]; exact (List.getElem?_eq_some_iff.1 hj).1
    exact (hr j _ us[j] hj (Array.getElem?_eq_getElem hj')).1.len) h
theorem BRet.aslen {P : Program} {f : Nat} {args : List PV} {r : PV} (i j : Nat) {cs : List PV} {l : List UInt8} (hf : isFn P f = true) (ha : args[i]? = some (.agg cs)) (hj : cs[j]? = some (.d (.str l))) (h : l.length ≤ 140737488355328 → BRet P f [] args r []) : BRet P f [] args r [] :=
  BRet.know hf rfl (fun G w vs hvs hargs => by
    have hi : i < vs.size := by rw [hvs]; exact (List.getElem?_eq_some_iff.1 ha).1
    obtain ⟨us, -, hus, -, hr⟩ := hargs i _ vs[i] ha (Array.getElem?_eq_getElem hi)
    have hj' : j < us.size := by rw [hus]; exact (List.getElem?_eq_some_iff.1 hj).1
    exact (hr j _ us[j] hj (Array.getElem?_eq_getElem hj')).1.slen) h
/-- A slice is nil, or it is not. -/
theorem BRet.nil0 {P : Program} {f : Nat} {args : List PV} {r : PV} {sz : Nat} {l : List PD} (hf : isFn P f = true) (h1 : l = [] → BRet P f [] (.nilS :: args) r []) (h2 : BRet P f [] (.nn sz l :: args) r []) : BRet P f [] (.d (.sl sz l) :: args) r [] := by
  refine ⟨hf, rfl, fun G w vs Wr hvs hargs => ?_⟩
  have hi : 0 < vs.size := by rw [hvs]; simp
  have h0 := hargs 0 _ vs[0] rfl (Array.getElem?_eq_getElem hi)
  have hgo : ∀ x, RepT P G w (.t 0) x vs[0] → ∀ (i : Nat) y u, (x :: args)[i]? = some y → vs[i]? = some u → RepT P G w (.t i) y u := by
    intro x hx i y u hy hu
    cases i with
    | zero => simp at hy; rw [Array.getElem?_eq_getElem hi] at hu; cases hu; subst hy; exact hx
    | succ i => exact hargs (i + 1) y u hy hu
  obtain ⟨hd, -⟩ := h0
  rcases hd.sl_shape with ⟨rfl, hv⟩ | ⟨g, o, c, hv, _⟩ | ⟨rfl, a, c, hv⟩
  rotate_left 2
  · exact h2.2.2 G w vs Wr (by simpa using hvs) (hgo (.nn sz []) ⟨hd, fun n c e => by rw [hv] at e; cases e⟩)
  · exact (h1 rfl).2.2 G w vs Wr (by simpa using hvs) (hgo .nilS hv)
  · exact h2.2.2 G w vs Wr (by simpa using hvs) (hgo (.nn sz l) ⟨hd, fun n c e => by rw [hv] at e; cases e⟩)

/-! Calls. -/
theorem joinB_same {l : List BN} {B B2 : Bx} (h : ∀ b, l.contains b = true → B2 b = B b) : joinB l B B2 = B2 := by
  funext b
  unfold joinB
  by_cases hl : l.contains b = true
  · rw [if_pos hl]; exact (h b hl).symm
  · rw [if_neg hl]
theorem vz_be {fl : AF} (h : fl.be = true) (B : Bx) : vz fl B = B := by simp [vz, h]
/-- What looks at no box. -/
theorem bcallD_of {P : Program} {inn : Option (List BN)} {fl : AF} {o : Oper} {K : St → Prop} {st : St} {r : PV} (h : ∀ B2 : Bx, OS1 P fl o (st.at B2) r (vz fl B2)) (k : K (st.after fl o r (vz fl st.bx))) : bcallD P inn fl o K st := by
  have h0 : OS1 P fl o st r (vz fl st.bx) := h st.bx
  cases inn with
  | none => exact ⟨r, _, h0, k⟩
  | some l =>
    refine ⟨r, _, h0, ⟨fun B2 hB => ⟨_, h B2, fun hbe => ?_⟩, fun hbe b hb => by rw [vz_be hbe]⟩, k⟩
    rw [vz_be hbe, vz_be hbe]
    exact (joinB_same hB).symm
theorem call_os1 {P : Program} {fl : AF} {st : St} {dd : Option Nat} {xs : List Operand} {ts : Array TypeId} {ty : TypeId} {pos : String} {af : Array Edge} {g : Option (Nat × Bool)} {f : Nat} {ys : List PV} {r : PV}
    (hret : BRet P f [] ys r []) (hmv : fl.mv = false) (hys : xs.map (fun x => (st.ev x).bT) = ys) (hp : (xs.map st.ev).all PV.passable = true) (hg : r.gives = true) :
    OS1 P fl ⟨dd, .call ⟨.value (.func f), xs.toArray, ts⟩, ty, pos, af, g⟩ st r (vz fl st.bx) := by
  refine .call _ _ (.func f) xs f [] ys [] [] [] ⟨⟨ts, rfl⟩, rfl, by rw [← hys]; simp, fun i x y hx hy => ?_, fun h => by rw [hmv] at h; (cases h), by simp, rfl, by simp, by simp, by simp, hg, hret, by simp, rfl⟩
  rw [List.append_nil] at hx
  rw [List.getElem?_map] at hx
  obtain ⟨z, hz, rfl⟩ := Option.map_eq_some_iff.1 hx
  rw [← hys, List.getElem?_map, hz] at hy
  simp at hy
  subst hy
  have : (st.ev z).bT = mvd fl.mv (st.ev z) := by rw [hmv]; rfl
  rw [this]
  exact .val _ (List.all_eq_true.1 hp _ (List.mem_map.2 ⟨z, List.mem_of_getElem? hz, rfl⟩))
theorem b_call {P : Program} {inn : Option (List BN)} {fl : AF} {K : St → Prop} {st : St} {d : Nat} {xs : List Operand} {ts : Array TypeId} {ty : TypeId} {pos : String} {af : Array Edge} {g : Option (Nat × Bool)} {f : Nat} {ys : List PV} {r : PV}
    (hret : BRet P f [] ys r []) (hmv : fl.mv = false) (hys : xs.map (fun x => (st.ev x).bT) = ys) (hp : (xs.map st.ev).all PV.passable = true) (hg : r.gives = true) (k : K (st.put d r)) :
    bcallD P inn fl ⟨some d, .call ⟨.value (.func f), xs.toArray, ts⟩, ty, pos, af, g⟩ K st :=
  bcallD_of (fun B2 => call_os1 (st := st.at B2) hret hmv (by rw [ev_at]; exact hys) (by rw [ev_at]; exact hp) hg) (by rw [after_pure rfl, hmv]; exact k)
/-- A call that looks at what is nobody's. -/
theorem b_look {P : Program} {inn : Option (List BN)} {fl : AF} {K : St → Prop} {st : St} {d : Nat} {xs : List Operand} {ts : Array TypeId} {ty : TypeId} {pos : String} {af : Array Edge} {g : Option (Nat × Bool)} {f : Nat} {ys xv : List PV} {r v : PV}
    (hret : BRet P f [] ys r []) (hmv : fl.mv = false) (hxv : xs.map st.ev = xv) (hp : ∀ B, All2 (LendV B) xv ys) (ht : TakeT r v) (k : K (st.put d v)) :
    bcallD P inn fl ⟨some d, .call ⟨.value (.func f), xs.toArray, ts⟩, ty, pos, af, g⟩ K st :=
  bcallD_of (fun B2 => .look v f xs ys r ⟨⟨ts, rfl⟩, by rw [ev_at, hxv]; exact hp _, hret, ht⟩) (by rw [after_pure rfl, hmv]; exact k)
/-- The same where a variable is looked at. -/
theorem b_lookb {P : Program} {fl : AF} {K : St → Prop} {st : St} {d : Nat} {xs : List Operand} {ts : Array TypeId} {ty : TypeId} {pos : String} {af : Array Edge} {g : Option (Nat × Bool)} {f : Nat} {ys xv : List PV} {r v : PV}
    (hret : BRet P f [] ys r []) (hmv : fl.mv = false) (hbe : fl.be = true) (hxv : xs.map st.ev = xv) (hp : All2 (LendV st.bx) xv ys) (ht : TakeT r v) (k : K (st.put d v)) :
    bcallD P none fl ⟨some d, .call ⟨.value (.func f), xs.toArray, ts⟩, ty, pos, af, g⟩ K st :=
  ⟨v, _, .look v f xs ys r ⟨⟨ts, rfl⟩, by rw [vz_be hbe, hxv]; exact hp, hret, ht⟩, by rw [after_pure rfl, hmv]; exact k⟩
/-- A call that writes to what is nobody's. -/
theorem b_writes {P : Program} {inn : Option (List BN)} {fl : AF} {K : St → Prop} {st : St} {d : Nat} {xs : List Operand} {ts : Array TypeId} {ty : TypeId} {pos : String} {af : Array Edge} {g : Option (Nat × Bool)} {f : Nat} {ys : List PV} {x : PD}
    (hret : BRet P f [] ys (.d x) []) (hmv : fl.mv = false) (hys : xs.map st.ev = ys) (hp : ys.all zpass = true) (hx : x.plain = true) (k : K (st.put d (.d x))) :
    bcallD P inn fl ⟨some d, .call ⟨.value (.func f), xs.toArray, ts⟩, ty, pos, af, g⟩ K st :=
  bcallD_of (fun B2 => .writes x f xs ⟨⟨ts, rfl⟩, fun y hy => by
    rw [ev_at]
    exact List.all_eq_true.1 hp _ (by rw [← hys]; exact List.mem_map.2 ⟨y, hy, rfl⟩), by rw [ev_at, hys]; exact hret, hx⟩) (by rw [after_pure rfl, hmv]; exact k)
/-- A call whose slice nobody else knows: it goes on as a variable in memory. -/
theorem b_boxed {P : Program} {fl : AF} {K : St → Prop} {st : St} {d : Nat} {xs : List Operand} {ts : Array TypeId} {ty : TypeId} {pos : String} {af : Array Edge} {g : Option (Nat × Bool)} {f : Nat} {ys xv : List PV} {R R' : PV} {x : PD} {e sz : Nat} {l : List PD} (m : Nat)
    (hret : BRet P f [] ys (.tup [R, .d x]) []) (hs : OwnIn (.t m) e sz l R R') (hmv : fl.mv = false) (hbe : fl.be = true) (hxv : xs.map st.ev = xv) (hp : ∀ B, All2 (LendV B) xv ys) (hx : x.plain = true) (hne : l ≠ []) (hf : ∀ y ∈ flat l, y.plain = true) (hb : st.bx (.t m) = none)
    (k : K ((st.sbx (.t m) ((flat l).map .d)).put d (.tup [R', .d x]))) :
    bcallD P none fl ⟨some d, .call ⟨.value (.func f), xs.toArray, ts⟩, ty, pos, af, g⟩ K st :=
  ⟨_, _, .boxed m f xs ys R R' x e sz l ⟨⟨ts, rfl⟩, by rw [hxv]; exact hp _, hret, hs, hx, hne, hf, hbe, hb⟩, by
    have e : st.after fl ⟨some d, .call ⟨.value (.func f), xs.toArray, ts⟩, ty, pos, af, g⟩ (.tup [R', .d x]) (Bx.set st.bx (.t m) ((flat l).map .d)) = (st.sbx (.t m) ((flat l).map .d)).put d (.tup [R', .d x]) := by
      unfold St.after St.upd St.put St.sbx stripsOf
      simp [hmv, hbe]
    rw [e]; exact k⟩
theorem b_boxed1 {P : Program} {fl : AF} {K : St → Prop} {st : St} {d : Nat} {xs : List Operand} {ts : Array TypeId} {ty : TypeId} {pos : String} {af : Array Edge} {g : Option (Nat × Bool)} {f : Nat} {ys xv : List PV} {R R' : PV} {e sz : Nat} {l : List PD} (m : Nat)
    (hret : BRet P f [] ys R []) (hs : OwnIn (.t m) e sz l R R') (hmv : fl.mv = false) (hbe : fl.be = true) (hxv : xs.map st.ev = xv) (hp : ∀ B, All2 (LendV B) xv ys) (hne : l ≠ []) (hf : ∀ y ∈ flat l, y.plain = true) (hb : st.bx (.t m) = none)
    (k : K ((st.sbx (.t m) ((flat l).map .d)).put d R')) :
    bcallD P none fl ⟨some d, .call ⟨.value (.func f), xs.toArray, ts⟩, ty, pos, af, g⟩ K st :=
  ⟨_, _, .boxed1 m f xs ys R R' e sz l ⟨⟨ts, rfl⟩, by rw [hxv]; exact hp _, hret, hs, hne, hf, hbe, hb⟩, by
    have e : st.after fl ⟨some d, .call ⟨.value (.func f), xs.toArray, ts⟩, ty, pos, af, g⟩ R' (Bx.set st.bx (.t m) ((flat l).map .d)) = (st.sbx (.t m) ((flat l).map .d)).put d R' := by
      unfold St.after St.upd St.put St.sbx stripsOf
      simp [hmv, hbe]
    rw [e]; exact k⟩
/-- A call that turns a variable's slice, and gives its front. -/
theorem b_redo {P : Program} {fl : AF} {K : St → Prop} {st : St} {d : Nat} {x0 : Operand} {xs : List Operand} {ts : Array TypeId} {ty : TypeId} {pos : String} {af : Array Edge} {g : Option (Nat × Bool)} {f : Nat} {b : BN} {sz n n' : Nat} {ys qs ps : List PD}
    (hret : BRet P f [qs.map .d] (.rsv (.a 0) sz n :: ys.map .d) (.rsv (.a 0) sz n') [ps.map .d]) (hx0 : st.ev x0 = .rsv b sz n) (hb : st.bx b = some (qs.map .d)) (hq : ∀ y ∈ qs, y.plain = true) (hmv : fl.mv = false) (hbe : fl.be = true) (hargs : xs.map st.ev = ys.map .d) (hpa : ∀ y ∈ ys, y.plain = true) (hp : ∀ y ∈ ps, y.plain = true)
    (k : K ((st.sbx b (ps.map .d)).put d (.rsv b sz n'))) : bcallD P none fl ⟨some d, .call ⟨.value (.func f), (x0 :: xs).toArray, ts⟩, ty, pos, af, g⟩ K st :=
  ⟨_, _, .redo b f x0 xs ys sz n n' qs ps ⟨⟨ts, rfl⟩, hx0, hb, hq, hargs, hpa, hret, hp, hbe⟩, by
    have e : st.after fl ⟨some d, .call ⟨.value (.func f), (x0 :: xs).toArray, ts⟩, ty, pos, af, g⟩ (.rsv b sz n') (Bx.set st.bx b (ps.map .d)) = (st.sbx b (ps.map .d)).put d (.rsv b sz n') := by
      unfold St.after St.upd St.put St.sbx stripsOf
      simp [hmv, hbe]
    rw [e]; exact k⟩
/-- A slice of a variable in front, which the call writes; data behind it. -/
theorem b_callr {P : Program} {fl : AF} {K : St → Prop} {st : St} {d : Nat} {x0 : Operand} {xs : List Operand} {ts : Array TypeId} {ty : TypeId} {pos : String} {af : Array Edge} {g : Option (Nat × Bool)} {f : Nat} {ys cells cells' : List PV} {r : PV} {b : BN} {sz n : Nat}
    (hret : BRet P f [cells] (.rsv (.a 0) sz n :: ys) r [cells']) (hx0 : st.ev x0 = .rsv b sz n) (hb : st.bx b = some cells) (hc1 : cells.all PV.pass1 = true) (hc2 : cells'.all PV.gives1 = true) (hmv : fl.mv = false) (hbe : fl.be = true) (hys : xs.map (fun x => (st.ev x).bT) = ys) (hp : (xs.map st.ev).all PV.passable = true) (hg : r.gives = true)
    (k : K ((st.sbx b cells').put d r)) : bcallD P none fl ⟨some d, .call ⟨.value (.func f), (x0 :: xs).toArray, ts⟩, ty, pos, af, g⟩ K st := by
  refine ⟨r, Bx.set st.bx b cells', .call _ _ (.func f) (x0 :: xs) f [] (.rsv (.a 0) sz n :: ys) [b] [cells] [cells'] ⟨⟨ts, rfl⟩, rfl, by rw [← hys]; simp, fun i x y hx hy => ?_, fun h => by rw [hmv] at h; (cases h), by simp, rfl, fun k b' hk => ?_, fun c hc => ?_, fun c hc => ?_, hg, hret, fun _ => hbe, ?_⟩, ?_⟩
  · rw [List.append_nil, List.map_cons, hx0] at hx
    cases i with
    | zero =>
      simp only [List.getElem?_cons_zero, Option.some.injEq] at hx hy
      subst hx; subst hy
      exact .rsv b sz n 0 rfl
    | succ i =>
      simp only [List.getElem?_cons_succ] at hx hy
      rw [List.getElem?_map] at hx
      obtain ⟨z, hz, rfl⟩ := Option.map_eq_some_iff.1 hx
      rw [← hys, List.getElem?_map, hz] at hy
      simp at hy
      subst hy
      have : (st.ev z).bT = mvd fl.mv (st.ev z) := by rw [hmv]; rfl
      rw [this]
      exact .val _ (List.all_eq_true.1 hp _ (List.mem_map.2 ⟨z, List.mem_of_getElem? hz, rfl⟩))
  · cases k with
    | zero =>
      simp only [List.getElem?_cons_zero, Option.some.injEq] at hk
      subst hk
      rw [vz_be hbe, hb]; rfl
    | succ k => simp at hk
  · rw [List.mem_singleton.1 hc]; exact hc1
  · rw [List.mem_singleton.1 hc]; exact hc2
  · rw [vz_be hbe]; rfl
  · have e : st.after fl ⟨some d, .call ⟨.value (.func f), (x0 :: xs).toArray, ts⟩, ty, pos, af, g⟩ r (Bx.set st.bx b cells') = (st.sbx b cells').put d r := by
      unfold St.after St.upd St.put St.sbx stripsOf
      simp [hmv, hbe]
    rw [e]; exact k
/-- A slice of a variable, in a struct, in front, which the call writes; data behind it. -/
theorem b_callra {P : Program} {fl : AF} {K : St → Prop} {st : St} {d : Nat} {x0 : Operand} {xs : List Operand} {ts : Array TypeId} {ty : TypeId} {pos : String} {af : Array Edge} {g : Option (Nat × Bool)} {f : Nat} {ys cells cells' : List PV} {r : PV} {b : BN} {sz n : Nat} {x : PD}
    (hret : BRet P f [cells] (.agg [.d x, .rsv (.a 0) sz n] :: ys) r [cells']) (hx0 : st.ev x0 = .agg [.d x, .rsv b sz n]) (hb : st.bx b = some cells) (hc1 : cells.all PV.pass1 = true) (hc2 : cells'.all PV.gives1 = true) (hmv : fl.mv = false) (hbe : fl.be = true) (hys : xs.map (fun x => (st.ev x).bT) = ys) (hp : (xs.map st.ev).all PV.passable = true) (hg : r.gives = true)
    (k : K ((st.sbx b cells').put d r)) : bcallD P none fl ⟨some d, .call ⟨.value (.func f), (x0 :: xs).toArray, ts⟩, ty, pos, af, g⟩ K st := by
  refine ⟨r, Bx.set st.bx b cells', .call _ _ (.func f) (x0 :: xs) f [] (.agg [.d x, .rsv (.a 0) sz n] :: ys) [b] [cells] [cells'] ⟨⟨ts, rfl⟩, rfl, by rw [← hys]; simp, fun i x y hx hy => ?_, fun h => by rw [hmv] at h; (cases h), by simp, rfl, fun k b' hk => ?_, fun c hc => ?_, fun c hc => ?_, hg, hret, fun _ => hbe, ?_⟩, ?_⟩
  · rw [List.append_nil, List.map_cons, hx0] at hx
    cases i with
    | zero =>
      simp only [List.getElem?_cons_zero, Option.some.injEq] at hx hy
      subst hx; subst hy
      exact .agr x b sz n 0 rfl
    | succ i =>
      simp only [List.getElem?_cons_succ] at hx hy
      rw [List.getElem?_map] at hx
      obtain ⟨z, hz, rfl⟩ := Option.map_eq_some_iff.1 hx
      rw [← hys, List.getElem?_map, hz] at hy
      simp at hy
      subst hy
      have : (st.ev z).bT = mvd fl.mv (st.ev z) := by rw [hmv]; rfl
      rw [this]
      exact .val _ (List.all_eq_true.1 hp _ (List.mem_map.2 ⟨z, List.mem_of_getElem? hz, rfl⟩))
  · cases k with
    | zero =>
      simp only [List.getElem?_cons_zero, Option.some.injEq] at hk
      subst hk
      rw [vz_be hbe, hb]; rfl
    | succ k => simp at hk
  · rw [List.mem_singleton.1 hc]; exact hc1
  · rw [List.mem_singleton.1 hc]; exact hc2
  · rw [vz_be hbe]; rfl
  · have e : st.after fl ⟨some d, .call ⟨.value (.func f), (x0 :: xs).toArray, ts⟩, ty, pos, af, g⟩ r (Bx.set st.bx b cells') = (st.sbx b cells').put d r := by
      unfold St.after St.upd St.put St.sbx stripsOf
      simp [hmv, hbe]
    rw [e]; exact k
/-- What is nobody's may be written from here on. -/
def PV.unqC : PV → PV
  | .q x => .zs x
  | x => x
def PV.unqV : PV → PV
  | .agg l => .agg (l.map PV.unqC)
  | x => x.unqC
def PV.unq : PV → PV
  | .tup l => .tup (l.map PV.unqV)
  | x => x.unqV
def St.unq (st : St) : St := ⟨fun t => (st.tm t).unq, fun b => (st.bx b).map fun cells => cells.map PV.unqC⟩
theorem Weak.unq {P : Program} {st : St} : Weak P st st.unq := fun F G a w hr => by
  let G' : Gh := { G with own := fun g => if G.own g = some qpos then none else G.own g }
  have hB : ∀ g, FreeB G w g → FreeB G' w g := fun g hg => ⟨hg.1, by simp [G', hg.2.1], hg.2.2⟩
  have hQ : ∀ g, FreeQ G w g → FreeB G' w g := fun g hg => ⟨hg.1, by simp [G', hg.2.1], hg.2.2⟩
  have hOwn : ∀ p, p ≠ qpos → ∀ g, G.own g = some p → G'.own g = some p := fun p hp g hg => by simp [G', hg, hp]
  have hAt : ∀ x v, RepAt G w x v → RepAt G' w x v := fun x v h => by cases x <;> exact h
  have hC : ∀ p, p ≠ qpos → ∀ x v, RepC P G w p x v → RepC P G' w p x.unqC v := by
    intro p hp x v h
    cases x
    case own e sz l =>
      refine ⟨h.1, h.2.imp (fun ⟨h1, h2⟩ => ⟨h1, fun hl g hg => ⟨hOwn p hp g (h2 hl g hg).1, (h2 hl g hg).2⟩⟩) fun ⟨vs, h1, h2, h3⟩ => ⟨vs, h1, h2, fun g hg => ⟨hOwn p hp g (h3 g hg).1, (h3 g hg).2⟩⟩⟩
    case dp x => exact ⟨h.1.keep fun b o ⟨h1, h2, h3⟩ => ⟨⟨h1, hOwn p hp b h2, h3⟩, rfl⟩, h.2⟩
    case q x => exact ⟨h.1.zd (fun b o hb => hQ b hb) h.2, h.2⟩
    case zs x => exact ⟨h.1.keep fun g hg => ⟨hB g hg, fun _ => rfl⟩, h.2⟩
    case zp x => obtain ⟨g, o, h1, h2⟩ := h; exact ⟨g, o, h1, h2.keep fun g hg => ⟨hB g hg, fun _ => rfl⟩⟩
    case clo f caps => obtain ⟨vs, h1, h2, h3⟩ := h; exact ⟨vs, h1, h2, fun i x u hx hu => hAt x u (h3 i x u hx hu)⟩
    all_goals exact h
  have hV : ∀ loc i, (∀ j, (loc, i, j) ≠ qpos) → ∀ x v, RepV P G w loc i x v → RepV P G' w loc i x.unqV v := by
    intro loc i hne x v h
    cases x
    case agg l =>
      obtain ⟨cs, h1, h2, h3, h4⟩ := h
      refine ⟨cs, h1, by simpa using h2, h3, fun j y u hy hu => ?_⟩
      rw [List.getElem?_map] at hy
      obtain ⟨z, hz, rfl⟩ := Option.map_eq_some_iff.1 hy
      exact hC _ (hne j) z u (h4 j z u hz hu)
    case d z => exact hC (loc, i, 0) (hne 0) (.d z) v h
    case nilS => exact hC (loc, i, 0) (hne 0) (.nilS) v h
    case nn sz l => exact hC (loc, i, 0) (hne 0) (.nn sz l) v h
    case own e sz l => exact hC (loc, i, 0) (hne 0) (.own e sz l) v h
    case ptr b o => exact hC (loc, i, 0) (hne 0) (.ptr b o) v h
    case rsl b e sz n => exact hC (loc, i, 0) (hne 0) (.rsl b e sz n) v h
    case eptr cs => exact hC (loc, i, 0) (hne 0) (.eptr cs) v h
    case efn K => exact hC (loc, i, 0) (hne 0) (.efn K) v h
    case dp z => exact hC (loc, i, 0) (hne 0) (.dp z) v h
    case rsv b sz n => exact hC (loc, i, 0) (hne 0) (.rsv b sz n) v h
    case q z => exact hC (loc, i, 0) (hne 0) (.q z) v h
    case zs z => exact hC (loc, i, 0) (hne 0) (.zs z) v h
    case zp z => exact hC (loc, i, 0) (hne 0) (.zp z) v h
    case one => exact hC (loc, i, 0) (hne 0) (.one) v h
    case clo f caps => exact hC (loc, i, 0) (hne 0) (.clo f caps) v h
    case fn K => exact hC (loc, i, 0) (hne 0) (.fn K) v h
    case junk => exact hC (loc, i, 0) (hne 0) (.junk) v h
    case und => exact hC (loc, i, 0) (hne 0) (.und) v h
    case tup l => exact h
  have hT : ∀ loc, loc ≠ .q → ∀ x v, RepT P G w loc x v → RepT P G' w loc x.unq v := by
    intro loc hne x v h
    have hn : ∀ i j, (loc, i, j) ≠ qpos := fun i j e => hne (by simp [qpos] at e; exact e.1)
    cases x
    case tup l =>
      obtain ⟨vs, h1, h2, h3⟩ := h
      refine ⟨vs, h1, by simpa using h2, fun j y u hy hu => ?_⟩
      rw [List.getElem?_map] at hy
      obtain ⟨z, hz, rfl⟩ := Option.map_eq_some_iff.1 hy
      exact hV loc j (hn j) z u (h3 j z u hz hu)
    case agg l => exact hV loc 0 (hn 0) (.agg l) v h
    case d z => exact hC (loc, 0, 0) (hn 0 0) (.d z) v h
    case nilS => exact hC (loc, 0, 0) (hn 0 0) (.nilS) v h
    case nn sz l => exact hC (loc, 0, 0) (hn 0 0) (.nn sz l) v h
    case own e sz l => exact hC (loc, 0, 0) (hn 0 0) (.own e sz l) v h
    case ptr b o => exact hC (loc, 0, 0) (hn 0 0) (.ptr b o) v h
    case rsl b e sz n => exact hC (loc, 0, 0) (hn 0 0) (.rsl b e sz n) v h
    case eptr cs => exact hC (loc, 0, 0) (hn 0 0) (.eptr cs) v h
    case efn K => exact hC (loc, 0, 0) (hn 0 0) (.efn K) v h
    case dp z => exact hC (loc, 0, 0) (hn 0 0) (.dp z) v h
    case rsv b sz n => exact hC (loc, 0, 0) (hn 0 0) (.rsv b sz n) v h
    case q z => exact hC (loc, 0, 0) (hn 0 0) (.q z) v h
    case zs z => exact hC (loc, 0, 0) (hn 0 0) (.zs z) v h
    case zp z => exact hC (loc, 0, 0) (hn 0 0) (.zp z) v h
    case one => exact hC (loc, 0, 0) (hn 0 0) (.one) v h
    case clo f caps => exact hC (loc, 0, 0) (hn 0 0) (.clo f caps) v h
    case fn K => exact hC (loc, 0, 0) (hn 0 0) (.fn K) v h
    case junk => exact hC (loc, 0, 0) (hn 0 0) (.junk) v h
    case und => exact hC (loc, 0, 0) (hn 0 0) (.und) v h
  refine ⟨G', fun t => hT _ (by simp) _ _ (hr.tm t), ⟨fun b cells hb => ?_, fun b => ?_, hr.hp.inj, hr.hp.imlt, fun g p hg => ?_, hr.hp.boxim, fun b hl => ?_⟩, ⟨hr.sn.ext, fun g p hg => ?_, hr.sn.box, hr.sn.βa, hr.sn.fz, hr.sn.fzm⟩, hr.nt, hr.defers, fun g hg => ⟨hB g (hr.z g hg).1, (hr.z g hg).2⟩, hr.tab⟩
  · simp only [St.unq, Option.map_eq_some_iff] at hb
    obtain ⟨cells', hc, rfl⟩ := hb
    obtain ⟨cs, e, h1, h2, h3, h4⟩ := hr.hp.bx b cells' hc
    refine ⟨cs, e, h1, by simpa using h2, fun j u hj hu => h3 j u (by simpa using hj) hu, fun j y u hy hu => ?_⟩
    rw [List.getElem?_map] at hy
    obtain ⟨z, hz, rfl⟩ := Option.map_eq_some_iff.1 hy
    exact hC _ (by simp [qpos]) z u (h4 j z u hz hu)
  · simp only [St.unq, Option.isSome_map]; exact hr.hp.live b
  · simp only [G'] at hg
    split at hg
    · cases hg
    · exact hr.hp.ownlt g p hg
  · simp [G', hr.hp.boxown b hl]
  · simp only [G'] at hg
    split at hg
    · cases hg
    · exact hr.sn.own g p hg
/-- A pointer to a variable in front, data behind it. -/
theorem callp_os1 {P : Program} {fl : AF} {st : St} {dd : Option Nat} {x0 : Operand} {xs : List Operand} {ts : Array TypeId} {ty : TypeId} {pos : String} {af : Array Edge} {g : Option (Nat × Bool)} {f : Nat} {ys cells cells' : List PV} {r : PV} {b : BN} {o : Nat}
    (hret : BRet P f [cells] (.ptr (.a 0) o :: ys) r [cells']) (hx0 : st.ev x0 = .ptr b o) (hb : st.bx b = some cells) (hc1 : cells.all PV.pass1 = true) (hc2 : cells'.all PV.gives1 = true) (hmv : fl.mv = false) (hbe : fl.be = true) (hys : xs.map (fun x => (st.ev x).bT) = ys) (hp : (xs.map st.ev).all PV.passable = true) (hg : r.gives = true) :
    OS1 P fl ⟨dd, .call ⟨.value (.func f), (x0 :: xs).toArray, ts⟩, ty, pos, af, g⟩ st r (Bx.set st.bx b cells') := by
  refine .call _ _ (.func f) (x0 :: xs) f [] (.ptr (.a 0) o :: ys) [b] [cells] [cells'] ⟨⟨ts, rfl⟩, rfl, by rw [← hys]; simp, fun i x y hx hy => ?_, fun h => by rw [hmv] at h; (cases h), by simp, rfl, fun k b' hk => ?_, fun c hc => ?_, fun c hc => ?_, hg, hret, fun _ => hbe, ?_⟩
  · rw [List.append_nil, List.map_cons, hx0] at hx
    cases i with
    | zero =>
      simp only [List.getElem?_cons_zero, Option.some.injEq] at hx hy
      subst hx; subst hy
      exact .ptr b o 0 rfl
    | succ i =>
      simp only [List.getElem?_cons_succ] at hx hy
      rw [List.getElem?_map] at hx
      obtain ⟨z, hz, rfl⟩ := Option.map_eq_some_iff.1 hx
      rw [← hys, List.getElem?_map, hz] at hy
      simp at hy
      subst hy
      have : (st.ev z).bT = mvd fl.mv (st.ev z) := by rw [hmv]; rfl
      rw [this]
      exact .val _ (List.all_eq_true.1 hp _ (List.mem_map.2 ⟨z, List.mem_of_getElem? hz, rfl⟩))
  · cases k with
    | zero =>
      simp only [List.getElem?_cons_zero, Option.some.injEq] at hk
      subst hk
      rw [vz_be hbe, hb]; rfl
    | succ k => simp at hk
  · rw [List.mem_singleton.1 hc]; exact hc1
  · rw [List.mem_singleton.1 hc]; exact hc2
  · rw [vz_be hbe]; rfl
theorem b_callp {P : Program} {inn : Option (List BN)} {fl : AF} {K : St → Prop} {st : St} {d : Nat} {x0 : Operand} {xs : List Operand} {ts : Array TypeId} {ty : TypeId} {pos : String} {af : Array Edge} {g : Option (Nat × Bool)} {f : Nat} {ys cells cells' : List PV} {r : PV} {b : BN} {o : Nat}
    (hret : BRet P f [cells] (.ptr (.a 0) o :: ys) r [cells']) (hx0 : st.ev x0 = .ptr b o) (hb : st.bx b = some cells) (hc1 : cells.all PV.pass1 = true) (hc2 : cells'.all PV.gives1 = true) (hmv : fl.mv = false) (hbe : fl.be = true) (hin : inAll inn b = true) (hys : xs.map (fun x => (st.ev x).bT) = ys) (hp : (xs.map st.ev).all PV.passable = true) (hg : r.gives = true)
    (k : K ((st.sbx b cells').put d r)) : bcallD P inn fl ⟨some d, .call ⟨.value (.func f), (x0 :: xs).toArray, ts⟩, ty, pos, af, g⟩ K st := by
  have h0 := callp_os1 (dd := some d) (ts := ts) (ty := ty) (pos := pos) (af := af) (g := g) hret hx0 hb hc1 hc2 hmv hbe hys hp hg
  have hk : st.after fl ⟨some d, .call ⟨.value (.func f), (x0 :: xs).toArray, ts⟩, ty, pos, af, g⟩ r (Bx.set st.bx b cells') = (st.sbx b cells').put d r := by
    unfold St.after St.upd St.put St.sbx stripsOf
    simp [hbe, hmv]
  cases inn with
  | none => exact ⟨r, _, h0, by rw [hk]; exact k⟩
  | some l =>
    refine ⟨r, _, h0, ⟨fun B2 hB => ⟨_, callp_os1 (st := st.at B2) hret (by rw [ev_at]; exact hx0) (by show B2 b = _; rw [hB b hin]; exact hb) hc1 hc2 hmv hbe (by rw [ev_at]; exact hys) (by rw [ev_at]; exact hp) hg, fun _ => ?_⟩, fun _ b2 hb2 => ?_⟩, by rw [hk]; exact k⟩
    · funext b2
      show (if b2 = b then some cells' else B2 b2) = if l.contains b2 = true then (if b2 = b then some cells' else st.bx b2) else B2 b2
      by_cases hl : l.contains b2 = true
      · rw [if_pos hl, hB b2 hl]
      · rw [if_neg hl]
        have : ¬ b2 = b := fun e => hl (e ▸ hin)
        rw [if_neg this]
    · have : ¬ b2 = b := fun e => by rw [e] at hb2; rw [show l.contains b = true from hin] at hb2; cases hb2
      simp only [Bx.set, if_neg this]
/-- The last argument is a function with its captured variables. -/
theorem b_callc {P : Program} {fl : AF} {K : St → Prop} {st : St} {d : Nat} {xs : List Operand} {c : Operand} {ts : Array TypeId} {ty : TypeId} {pos : String} {af : Array Edge} {g : Option (Nat × Bool)} {f : Nat} {ys : List PV} {r : PV} {f' : Nat} {caps : List PV} (Kf : List PD → Option PD)
    (hret : BRet P f [] (ys ++ [.fn Kf]) r []) (hmv : fl.mv = false) (hys : xs.map (fun x => (st.ev x).bT) = ys) (hp : (xs.map st.ev).all PV.passable = true) (hc : st.ev c = .clo f' caps) (hok : CloOK P (vz fl st.bx) f' caps Kf) (hg : r.gives = true) (k : K (st.put d r)) :
    bcallD P none fl ⟨some d, .call ⟨.value (.func f), (xs ++ [c]).toArray, ts⟩, ty, pos, af, g⟩ K st := by
  show bcall P fl _ K st
  refine ⟨r, vz fl st.bx, .call _ _ (.func f) (xs ++ [c]) f [] (ys ++ [.fn Kf]) [] [] [] ⟨⟨ts, rfl⟩, rfl, by rw [← hys]; simp, fun i x y hx hy => ?_, fun h => by rw [hmv] at h; (cases h), by simp, rfl, by simp, by simp, by simp, hg, hret, by simp, rfl⟩, ?_⟩
  · rw [List.append_nil, List.map_append] at hx
    have hl : ys.length = (xs.map st.ev).length := by rw [← hys]; simp
    by_cases hi : i < (xs.map st.ev).length
    · rw [List.getElem?_append_left hi] at hx
      rw [List.getElem?_append_left (by omega)] at hy
      rw [List.getElem?_map] at hx
      obtain ⟨z, hz, rfl⟩ := Option.map_eq_some_iff.1 hx
      rw [← hys, List.getElem?_map, hz] at hy
      simp at hy
      subst hy
      have : (st.ev z).bT = mvd fl.mv (st.ev z) := by rw [hmv]; rfl
      rw [this]
      exact .val _ (List.all_eq_true.1 hp _ (List.mem_map.2 ⟨z, List.mem_of_getElem? hz, rfl⟩))
    · rw [List.getElem?_append_right (by omega)] at hx hy
      rw [hl] at hy
      generalize i - (xs.map st.ev).length = j at hx hy
      cases j with
      | zero =>
        simp at hx hy
        subst hx; subst hy
        rw [hc]
        exact .fn f' caps Kf hok (by simp)
      | succ j => simp at hx
  · rw [after_pure rfl, hmv]
    exact k
theorem b_callc2 {P : Program} {fl : AF} {K : St → Prop} {st : St} {d : Nat} {x c : Operand} {ts : Array TypeId} {ty : TypeId} {pos : String} {af : Array Edge} {g : Option (Nat × Bool)} {f : Nat} {y r : PV} {f' : Nat} {caps : List PV} {Kf : List PD → Option PD}
    (hret : BRet P f [] [y, .fn Kf] r []) (hmv : fl.mv = false) (hys : (st.ev x).bT = y) (hp : (st.ev x).passable = true) (hc : st.ev c = .clo f' caps) (hok : CloOK P (vz fl st.bx) f' caps Kf) (hg : r.gives = true) (k : K (st.put d r)) :
    bcallD P none fl ⟨some d, .call ⟨.value (.func f), #[x, c], ts⟩, ty, pos, af, g⟩ K st :=
  b_callc (xs := [x]) (ys := [y]) Kf hret hmv (by rw [← hys]; rfl) (by simpa using hp) hc hok hg k
/-- A function value that was handed in. -/
theorem b_fn {P : Program} {fl : AF} {K : St → Prop} {st : St} {d t : Nat} {xs : List Operand} {ts : Array TypeId} {ty : TypeId} {pos : String} {af : Array Edge} {g : Option (Nat × Bool)} {Kf : List PD → Option PD} {zs : List PD} {r : PD}
    (hf : st.tm t = .fn Kf) (hmv : fl.mv = false) (hz : pdsOf (xs.map st.ev) = some zs) (hr : Kf zs = some r) (k : K (st.put d (ofPD r))) :
    bcallD P none fl ⟨some d, .call ⟨.value (.tmp t), xs.toArray, ts⟩, ty, pos, af, g⟩ K st := by
  show bcall P fl _ K st
  refine ⟨ofPD r, vz fl st.bx, .fn _ (.tmp t) xs Kf zs r ⟨⟨ts, rfl⟩, hf, hz, hr, rfl⟩, ?_⟩
  rw [after_pure rfl, hmv]
  exact k

/-! Results in variables. -/
theorem ret_cc {P : Program} {a b : Nat} {t u : TypeId} {r : PV} {st : St} {n m : Nat} {c1 c2 : List PV} {i j : TI} (ha : st.tm a = .ptr (.t n) 0) (hb : st.tm b = .ptr (.t m) 0) (h1 : st.bx (.t n) = some c1) (h2 : st.bx (.t m) = some c2) (hne : n ≠ m)
    (hi : tyi P t = some i) (hj : tyi P u = some j) (hia : i.agg = true) (hja : j.agg = true) (hl1 : c1.length = i.sz) (hl2 : c2.length = j.sz) (g1 : c1.all PV.gives1 = true) (g2 : c2.all PV.gives1 = true) (hr : .tup [.agg c1, .agg c2] = r) (hk : ∀ k, st.bx (.a k) = none) :
    retK P [.cell a t, .cell b u] r [] st :=
  ⟨[(.b (.t n), .agg c1), (.b (.t m), .agg c2)], by simp [resAll, resOf, ha, hb, h1, h2], by simp [cellsFit, ha, hb, h1, h2, hi, hj, hia, hja, hl1, hl2], by simp [hne], by simp only [List.map_cons, List.map_nil, List.all_cons, List.all_nil, PV.gives2, g1, g2]; rfl, by simpa [resPV] using hr, fun k => by simpa using hk k, by simp⟩
theorem ret_ct {P : Program} {a b : Nat} {t : TypeId} {r x : PV} {st : St} {n : Nat} {c1 : List PV} {i : TI} (ha : st.tm a = .ptr (.t n) 0) (h1 : st.bx (.t n) = some c1) (hb : st.tm b = x) 
    (hi : tyi P t = some i) (hia : i.agg = true) (hl1 : c1.length = i.sz) (g1 : c1.all PV.gives1 = true) (g2 : x.gives2 = true) (hr : .tup [.agg c1, x] = r) (hk : ∀ k, st.bx (.a k) = none) :
    retK P [.cell a t, .tmp b] r [] st := by
  subst hb
  exact ⟨[(.b (.t n), .agg c1), (.t b, st.tm b)], by simp [resAll, resOf, ha, h1], by simp [cellsFit, ha, h1, hi, hia, hl1], by simp, by simp only [List.map_cons, List.map_nil, List.all_cons, List.all_nil, g2, Bool.and_true]; exact g1, by simpa [resPV] using hr, fun k => by simpa using hk k, by simp⟩

/-- A result, and a variable that was handed in. -/
theorem ret_1p {P : Program} {t : Nat} {r : PV} {st : St} {c : List PV} (hx : st.tm t = r) (g : r.gives2 = true) (hb : st.bx (.a 0) = some c) (hk : ∀ k, st.bx (.a (k + 1)) = none) (hc : c.all PV.gives1 = true) : retK P [.tmp t] r [c] st := by
  subst hx
  refine ⟨[(.t t, st.tm t)], by simp [resAll, resOf], by simp [cellsFit], by simp, by simpa using g, by simp [resPV], fun k => ?_, by simpa using hc⟩
  cases k with
  | zero => simpa using hb
  | succ k => simpa using hk k
theorem ret_cp {P : Program} {a : Nat} {t : TypeId} {r : PV} {st : St} {n : Nat} {c1 c : List PV} {i : TI} (ha : st.tm a = .ptr (.t n) 0) (h1 : st.bx (.t n) = some c1) (hi : tyi P t = some i) (hia : i.agg = true) (hl1 : c1.length = i.sz) (g1 : c1.all PV.gives1 = true)
    (hr : .agg c1 = r) (hb : st.bx (.a 0) = some c) (hk : ∀ k, st.bx (.a (k + 1)) = none) (hc : c.all PV.gives1 = true) : retK P [.cell a t] r [c] st := by
  refine ⟨[(.b (.t n), .agg c1)], by simp [resAll, resOf, ha, h1], by simp [cellsFit, ha, h1, hi, hia, hl1], by simp, by simpa [PV.gives2] using g1, by simpa [resPV] using hr, fun k => ?_, by simpa using hc⟩
  cases k with
  | zero => simpa using hb
  | succ k => simpa using hk k

end Go.Bee

/-
States that are told in full: what a loop's round begins with. No condition.
-/
namespace Go.Bee
set_option linter.unusedVariables false

/-- Whatever is so, is so: of a slot, of a cell. -/
structure PLe (y x : PV) : Prop where
  t : ∀ (P : Program) (G : Gh) (w : World) (loc : Loc) (v : Value), RepT P G w loc y v → RepT P G w loc x v
structure CLe (y x : PV) : Prop where
  c : ∀ (P : Program) (G : Gh) (w : World) (p : Pos) (v : Value), RepC P G w p y v → RepC P G w p x v
theorem PLe.rfl {x : PV} : PLe x x := ⟨fun _ _ _ _ _ h => h⟩
theorem CLe.rfl {x : PV} : CLe x x := ⟨fun _ _ _ _ _ h => h⟩
theorem PLe.eq {y x : PV} (h : y = x) : PLe y x := h ▸ PLe.rfl
theorem CLe.eq {y x : PV} (h : y = x) : CLe y x := h ▸ CLe.rfl
theorem PLe.junk {y : PV} : PLe y .junk := ⟨fun _ _ _ _ _ _ => trivial⟩
theorem PLe.own {e sz : Nat} {l : List PD} : PLe (.own e sz l) (.d (.sl sz l)) := ⟨fun _ _ _ _ _ h => ⟨h.1, Eq.refl _⟩⟩
theorem PLe.dp {x : PD} : PLe (.dp x) (.d x) := ⟨fun P G w loc v h => RepC.bC (P := P) (p := (loc, 0, 0)) (loc, 0, 0) (x := .dp x) h⟩
theorem CLe.dp {x : PD} : CLe (.dp x) (.d x) := ⟨fun P G w p v h => RepC.bC (P := P) p (x := .dp x) h⟩
theorem PLe.nn {sz : Nat} {l : List PD} : PLe (.nn sz l) (.d (.sl sz l)) := ⟨fun _ _ _ _ _ h => ⟨h.1, Eq.refl _⟩⟩
theorem CLe.own {e sz : Nat} {l : List PD} : CLe (.own e sz l) (.d (.sl sz l)) := ⟨fun _ _ _ _ _ h => ⟨h.1, Eq.refl _⟩⟩
theorem PLe.nil {sz : Nat} : PLe .nilS (.d (.sl sz [])) := ⟨fun P G w loc v h => by
  obtain rfl : v = .slice none 0 0 := h
  exact ⟨.nil sz, Eq.refl _⟩⟩
theorem CLe.nil {sz : Nat} : CLe .nilS (.d (.sl sz [])) := ⟨fun P G w p v h => by
  obtain rfl : v = .slice none 0 0 := h
  exact ⟨.nil sz, Eq.refl _⟩⟩
theorem nil_ownAt {G : Gh} {w : World} {p : Pos} {e sz : Nat} : OwnAt G w p e sz [] (.slice none 0 0) :=
  ⟨.nil sz, .inl ⟨.inl (Eq.refl _), fun h => absurd (Eq.refl _) h⟩⟩
theorem PLe.nilO {e sz : Nat} : PLe .nilS (.own e sz []) := ⟨fun P G w loc v h => by
  obtain rfl : v = .slice none 0 0 := h
  exact nil_ownAt⟩
theorem CLe.nilO {e sz : Nat} : CLe .nilS (.own e sz []) := ⟨fun P G w p v h => by
  obtain rfl : v = .slice none 0 0 := h
  exact nil_ownAt⟩

def hasB (L : List BN) (b : BN) : Bool := L.any fun c => decide (c = b)
def okA (L : List BN) : PV → Bool
  | .ptr b _ => hasB L b
  | _ => true
def okC (L : List BN) : PV → Bool
  | .ptr b _ => hasB L b
  | .rsl b _ _ _ => hasB L b
  | .rsv b _ _ => hasB L b
  | .clo _ caps => caps.all (okA L)
  | _ => true
def okV (L : List BN) : PV → Bool
  | .agg l => l.all (okC L)
  | x => okC L x
def okT (L : List BN) : PV → Bool
  | .tup l => l.all (okV L)
  | x => okV L x
def Gh.lim (G : Gh) (L : List BN) : Gh := { G with live := fun c => hasB L c = true }
theorem okA_rep {G : Gh} {w : World} {L : List BN} {x : PV} {v : Value} (h : RepAt G w x v) (ho : okA L x = true) : RepAt (G.lim L) w x v := by
  cases x <;> first | exact h | exact ⟨h.1, ho⟩
theorem okC_rep {P : Program} {G : Gh} {w : World} {L : List BN} {p : Pos} {x : PV} {v : Value} (hL : ∀ b, hasB L b = true → G.live b) (h : RepC P G w p x v) (ho : okC L x = true) : RepC P (G.lim L) w p x v := by
  cases x
  case rsv b sz n => obtain ⟨k, h1, h2, h3, h4⟩ := h; exact ⟨k, h1, h2, ho, h4⟩
  case q x => exact ⟨h.1.keep fun b o hb => ⟨hb.less hL, rfl⟩, h.2⟩
  case zs x => exact ⟨h.1.keep fun g hg => ⟨hg.less hL, fun _ => rfl⟩, h.2⟩
  case zp x => obtain ⟨g, o, h1, h2⟩ := h; exact ⟨g, o, h1, h2.keep fun g hg => ⟨hg.less hL, fun _ => rfl⟩⟩
  case ptr b o => exact ⟨h.1, ho⟩
  case rsl b e sz n => exact ⟨h.1, ho, h.2.2⟩
  case clo f caps =>
    obtain ⟨vs, hv, hl, hr⟩ := h
    exact ⟨vs, hv, hl, fun i x u hx hu => okA_rep (hr i x u hx hu) (List.all_eq_true.1 ho x (List.mem_of_getElem? hx))⟩
  all_goals exact h
theorem okV_rep {P : Program} {G : Gh} {w : World} {L : List BN} {loc : Loc} {i : Nat} {x : PV} {v : Value} (hL : ∀ b, hasB L b = true → G.live b) (h : RepV P G w loc i x v) (ho : okV L x = true) : RepV P (G.lim L) w loc i x v := by
  cases x
  case agg l =>
    obtain ⟨cs, hv, hl, h1, hr⟩ := h
    exact ⟨cs, hv, hl, h1, fun j x u hx hu => okC_rep hL (hr j x u hx hu) (List.all_eq_true.1 ho x (List.mem_of_getElem? hx))⟩
  case d y => exact okC_rep (P := P) (G := G) (w := w) (L := L) (v := v) (p := (loc, i, 0)) (x := .d y) hL h ho
  case nilS => exact okC_rep (P := P) (G := G) (w := w) (L := L) (v := v) (p := (loc, i, 0)) (x := .nilS) hL h ho
  case nn sz l => exact okC_rep (P := P) (G := G) (w := w) (L := L) (v := v) (p := (loc, i, 0)) (x := .nn sz l) hL h ho
  case own e sz l => exact okC_rep (P := P) (G := G) (w := w) (L := L) (v := v) (p := (loc, i, 0)) (x := .own e sz l) hL h ho
  case ptr b o => exact okC_rep (P := P) (G := G) (w := w) (L := L) (v := v) (p := (loc, i, 0)) (x := .ptr b o) hL h ho
  case rsl b e sz n => exact okC_rep (P := P) (G := G) (w := w) (L := L) (v := v) (p := (loc, i, 0)) (x := .rsl b e sz n) hL h ho
  case eptr cs => exact okC_rep (P := P) (G := G) (w := w) (L := L) (v := v) (p := (loc, i, 0)) (x := .eptr cs) hL h ho
  case clo f caps => exact okC_rep (P := P) (G := G) (w := w) (L := L) (v := v) (p := (loc, i, 0)) (x := .clo f caps) hL h ho
  case fn K => exact okC_rep (P := P) (G := G) (w := w) (L := L) (v := v) (p := (loc, i, 0)) (x := .fn K) hL h ho
  case one => exact okC_rep (P := P) (G := G) (w := w) (L := L) (v := v) (p := (loc, i, 0)) (x := .one) hL h ho
  case efn K => exact okC_rep (P := P) (G := G) (w := w) (L := L) (v := v) (p := (loc, i, 0)) (x := .efn K) hL h ho
  case dp y => exact okC_rep (P := P) (G := G) (w := w) (L := L) (v := v) (p := (loc, i, 0)) (x := .dp y) hL h ho
  case rsv b sz n => exact okC_rep (P := P) (G := G) (w := w) (L := L) (v := v) (p := (loc, i, 0)) (x := .rsv b sz n) hL h ho
  case q y => exact okC_rep (P := P) (G := G) (w := w) (L := L) (v := v) (p := (loc, i, 0)) (x := .q y) hL h ho
  case zs y => exact okC_rep (P := P) (G := G) (w := w) (L := L) (v := v) (p := (loc, i, 0)) (x := .zs y) hL h ho
  case zp y => exact okC_rep (P := P) (G := G) (w := w) (L := L) (v := v) (p := (loc, i, 0)) (x := .zp y) hL h ho
  case junk => exact okC_rep (P := P) (G := G) (w := w) (L := L) (v := v) (p := (loc, i, 0)) (x := .junk) hL h ho
  case und => exact okC_rep (P := P) (G := G) (w := w) (L := L) (v := v) (p := (loc, i, 0)) (x := .und) hL h ho
  case tup l => exact okC_rep (P := P) (G := G) (w := w) (L := L) (v := v) (p := (loc, i, 0)) (x := .tup l) hL h ho
theorem okT_rep {P : Program} {G : Gh} {w : World} {L : List BN} {loc : Loc} {x : PV} {v : Value} (hL : ∀ b, hasB L b = true → G.live b) (h : RepT P G w loc x v) (ho : okT L x = true) : RepT P (G.lim L) w loc x v := by
  cases x
  case tup l =>
    obtain ⟨vs, hv, hl, hr⟩ := h
    exact ⟨vs, hv, hl, fun j x u hx hu => okV_rep hL (hr j x u hx hu) (List.all_eq_true.1 ho x (List.mem_of_getElem? hx))⟩
  case agg l => exact okV_rep (i := 0) (x := .agg l) hL h ho
  case d y => exact okC_rep (P := P) (G := G) (w := w) (L := L) (v := v) (p := (loc, 0, 0)) (x := .d y) hL h ho
  case nilS => exact okC_rep (P := P) (G := G) (w := w) (L := L) (v := v) (p := (loc, 0, 0)) (x := .nilS) hL h ho
  case nn sz l => exact okC_rep (P := P) (G := G) (w := w) (L := L) (v := v) (p := (loc, 0, 0)) (x := .nn sz l) hL h ho
  case own e sz l => exact okC_rep (P := P) (G := G) (w := w) (L := L) (v := v) (p := (loc, 0, 0)) (x := .own e sz l) hL h ho
  case ptr b o => exact okC_rep (P := P) (G := G) (w := w) (L := L) (v := v) (p := (loc, 0, 0)) (x := .ptr b o) hL h ho
  case rsl b e sz n => exact okC_rep (P := P) (G := G) (w := w) (L := L) (v := v) (p := (loc, 0, 0)) (x := .rsl b e sz n) hL h ho
  case eptr cs => exact okC_rep (P := P) (G := G) (w := w) (L := L) (v := v) (p := (loc, 0, 0)) (x := .eptr cs) hL h ho
  case clo f caps => exact okC_rep (P := P) (G := G) (w := w) (L := L) (v := v) (p := (loc, 0, 0)) (x := .clo f caps) hL h ho
  case fn K => exact okC_rep (P := P) (G := G) (w := w) (L := L) (v := v) (p := (loc, 0, 0)) (x := .fn K) hL h ho
  case one => exact okC_rep (P := P) (G := G) (w := w) (L := L) (v := v) (p := (loc, 0, 0)) (x := .one) hL h ho
  case efn K => exact okC_rep (P := P) (G := G) (w := w) (L := L) (v := v) (p := (loc, 0, 0)) (x := .efn K) hL h ho
  case dp y => exact okC_rep (P := P) (G := G) (w := w) (L := L) (v := v) (p := (loc, 0, 0)) (x := .dp y) hL h ho
  case rsv b sz n => exact okC_rep (P := P) (G := G) (w := w) (L := L) (v := v) (p := (loc, 0, 0)) (x := .rsv b sz n) hL h ho
  case q y => exact okC_rep (P := P) (G := G) (w := w) (L := L) (v := v) (p := (loc, 0, 0)) (x := .q y) hL h ho
  case zs y => exact okC_rep (P := P) (G := G) (w := w) (L := L) (v := v) (p := (loc, 0, 0)) (x := .zs y) hL h ho
  case zp y => exact okC_rep (P := P) (G := G) (w := w) (L := L) (v := v) (p := (loc, 0, 0)) (x := .zp y) hL h ho
  case junk => exact okC_rep (P := P) (G := G) (w := w) (L := L) (v := v) (p := (loc, 0, 0)) (x := .junk) hL h ho
  case und => exact okC_rep (P := P) (G := G) (w := w) (L := L) (v := v) (p := (loc, 0, 0)) (x := .und) hL h ho

def HasT (st : St) (L : List BN) : List (Nat × PV) → Prop
  | [] => True
  | q :: l => (PLe (st.tm q.1) q.2 ∧ okT L q.2 = true) ∧ HasT st L l
def HasC (L : List BN) : List PV → List PV → Prop
  | [], [] => True
  | y :: ys, x :: xs => (CLe y x ∧ okC L x = true) ∧ HasC L ys xs
  | _, _ => False
def HasB (st : St) (L : List BN) : List (BN × List PV) → Prop
  | [] => True
  | q :: l => (∃ cells, st.bx q.1 = some cells ∧ HasC L cells q.2) ∧ HasB st L l
/-- The state st is at least what is told. -/
def Has (st : St) (ts : List (Nat × PV)) (bs : List (BN × List PV)) : Prop := HasT st (bs.map (·.1)) ts ∧ HasB st (bs.map (·.1)) bs
theorem HasT.get {st : St} {L : List BN} : ∀ {ts : List (Nat × PV)}, HasT st L ts → ∀ t, look ts t = .junk ∨ (PLe (st.tm t) (look ts t) ∧ okT L (look ts t) = true)
  | [], _, t => .inl rfl
  | (m, x) :: l, h, t => by
    rw [look_c]
    split
    · rename_i e; subst e; exact .inr h.1
    · exact HasT.get h.2 t
theorem HasC.get {L : List BN} : ∀ {ys xs : List PV}, HasC L ys xs → ys.length = xs.length ∧ ∀ (j : Nat) x, xs[j]? = some x → ∃ y, ys[j]? = some y ∧ CLe y x ∧ okC L x = true
  | [], [], _ => ⟨rfl, fun j x h => by simp at h⟩
  | y :: ys, x :: xs, h => by
    obtain ⟨h1, h2⟩ := HasC.get h.2
    refine ⟨by simp [h1], fun j z hz => ?_⟩
    cases j with
    | zero => simp at hz; subst hz; exact ⟨y, rfl, h.1⟩
    | succ j => simp at hz; simpa using h2 j z hz
theorem HasC.same {L : List BN} : ∀ {xs : List PV}, xs.all (okC L) = true → HasC L xs xs
  | [], _ => trivial
  | x :: xs, h => by
    simp only [List.all_cons, Bool.and_eq_true] at h
    exact ⟨⟨CLe.rfl, h.1⟩, HasC.same h.2⟩
theorem HasC.of {L : List BN} {ys xs : List PV} (h : ys = xs) (ho : xs.all (okC L) = true) : HasC L ys xs := by
  subst h; exact HasC.same ho
theorem HasB.get {st : St} {L : List BN} : ∀ {bs : List (BN × List PV)}, HasB st L bs → ∀ b cells, lookB bs b = some cells → ∃ ys, st.bx b = some ys ∧ HasC L ys cells
  | [], _, b, cells, h => by simp [lookB] at h
  | (m, x) :: l, h, b, cells, hb => by
    rw [lookB_c] at hb
    split at hb
    · rename_i e; subst e; cases hb; exact h.1
    · exact HasB.get h.2 b cells hb
theorem lookB_has : ∀ (bs : List (BN × List PV)) (b : BN), (hasB (bs.map (·.1)) b = true) ↔ (lookB bs b).isSome = true
  | [], b => by simp [hasB, lookB]
  | (m, x) :: l, b => by
    have ih := lookB_has l b
    simp only [hasB] at ih
    rw [lookB_c]
    simp only [hasB, List.map_cons, List.any_cons, Bool.or_eq_true, decide_eq_true_eq, ih]
    by_cases e : b = m
    · simp [e]
    · simp only [if_neg e]
      exact ⟨fun h => h.elim (fun h => absurd h.symm e) id, .inr⟩
theorem Weak.mk {P : Program} {st : St} {ts : List (Nat × PV)} {bs : List (BN × List PV)} (h : Has st ts bs) : Weak P st (mk ts bs) := fun F G a w hr => by
  have hlive : ∀ b, hasB (bs.map (·.1)) b = true → G.live b := fun b hb => by
    obtain ⟨cells, hc⟩ := Option.isSome_iff_exists.1 ((lookB_has bs b).1 hb)
    obtain ⟨ys, hy, -⟩ := h.2.get b cells hc
    exact (hr.hp.live b).2 (by rw [hy]; rfl)
  let G' : Gh := G.lim (bs.map (·.1))
  refine ⟨G', ⟨fun t => ?_, ⟨fun b cells hc => ?_, fun b => lookB_has bs b, fun c c' hl hl' => hr.hp.inj c c' (hlive c hl) (hlive c' hl'), hr.hp.imlt, hr.hp.ownlt, fun c hl => hr.hp.boxim c (hlive c hl), fun c hl => hr.hp.boxown c (hlive c hl)⟩,
    ⟨hr.sn.ext, hr.sn.own, fun c hl => hr.sn.box c (hlive c hl), hr.sn.βa, hr.sn.fz, hr.sn.fzm⟩, hr.nt, hr.defers, fun g hg => ⟨(hr.z g hg).1.less hlive, (hr.z g hg).2⟩, hr.tab⟩⟩
  · show RepT P _ w _ (look ts t) _
    rcases h.1.get t with e | ⟨e1, e2⟩
    · rw [e]; trivial
    · exact okT_rep hlive (e1.t P G w _ _ (hr.tm t)) e2
  · obtain ⟨ys, hy, hcs⟩ := h.2.get b cells hc
    obtain ⟨hl, hg⟩ := hcs.get
    obtain ⟨cs, e, h1, h2, h3, h4⟩ := hr.hp.bx b ys hy
    refine ⟨cs, e, h1, hl ▸ h2, fun j u hj hu => h3 j u (hl ▸ hj) hu, fun j x u hx hu => ?_⟩
    obtain ⟨y, hyj, hle, hok⟩ := hg j x hx
    exact okC_rep hlive (hle.c P G w _ _ (h4 j y u hyj hu)) hok

/-- How a round hands over to the next one. -/
def Nxt {ι : Type} (P : Program) (T : ι → List (Nat × PV)) (B : ι → List (BN × List PV)) (J : ι → Prop) (μ : ι → Nat) (n : Nat) (I : Nat → St → Prop) : Prop :=
  ∀ i st, J i → μ i < n → Has st (T i) (B i) → ∃ m s', Weak P st s' ∧ m < n ∧ I m s'
theorem b_lp {ι : Type} {P : Program} {H : Nat → List Nat} {c : Code} {Q : Ex → St → Prop} {st : St} (T : ι → List (Nat × PV)) (B : ι → List (BN × List PV)) (J : ι → Prop) (μ : ι → Nat) (i : ι) (hs : Has st (T i) (B i)) (hj : J i)
    (hr : ∀ i, J i → ∀ I, Nxt P T B J μ (μ i) I → bwp P H c (loopK P I (μ i) Q) (mk (T i) (B i))) : bloop P (bwp P H c) Q st :=
  ⟨fun n s => ∃ i, n = μ i ∧ J i ∧ s = mk (T i) (B i), ⟨_, _, Weak.mk hs, i, rfl, hj, rfl⟩, fun n s ⟨i, hn, hj, hs⟩ => by
    subst hn; subst hs
    exact hr i hj _ fun i' st' hj' hlt hs' => ⟨_, _, Weak.mk hs', hlt, i', rfl, hj', rfl⟩⟩
theorem Nxt.go {ι : Type} {P : Program} {T : ι → List (Nat × PV)} {B : ι → List (BN × List PV)} {J : ι → Prop} {μ : ι → Nat} {n : Nat} {I : Nat → St → Prop} (h : Nxt P T B J μ n I) (i : ι) {st : St} (hj : J i) (hlt : μ i < n) (hs : Has st (T i) (B i)) :
    ∃ m s', Weak P st s' ∧ m < n ∧ I m s' := h i st hj hlt hs
/-- What the state holds, read off. -/
theorem hs {st : St} {ts : List (Nat × PV)} {bs : List (BN × List PV)} (h : Has st ts bs := by
  repeat' first | exact trivial | exact PLe.rfl | exact CLe.rfl | rfl | exact PLe.own | exact PLe.nil | exact PLe.nilO | exact PLe.nn | exact PLe.dp | exact CLe.dp | exact CLe.own | exact CLe.nil | exact CLe.nilO | refine ⟨_, rfl, ?_⟩ | refine And.intro ?_ ?_ | exact HasC.of rfl (by simp only [*]) | exact HasC.of (by simp only [*]) (by simp only [*]) | (refine PLe.eq ?_; simp [tm_put, tm_mk, look_c, look_n, tm_strip1, tm_sbx, bT_d, bT_own]; done) | (refine CLe.eq ?_; simp; done)) : Has st ts bs := h
/-- The slots alone. -/
theorem hsT {L : List BN} {st : St} {ts : List (Nat × PV)} (h : HasT st L ts := by
  repeat' first | exact trivial | exact PLe.rfl | exact CLe.rfl | rfl | exact PLe.own | exact PLe.nil | exact PLe.nilO | exact PLe.nn | exact PLe.dp | exact CLe.dp | exact CLe.own | exact CLe.nil | exact CLe.nilO | refine ⟨_, rfl, ?_⟩ | refine And.intro ?_ ?_ | exact HasC.of rfl (by simp only [*]) | exact HasC.of (by simp only [*]) (by simp only [*]) | (refine PLe.eq ?_; simp [tm_put, tm_mk, look_c, look_n, tm_strip1, tm_sbx, bT_d, bT_own]; done) | (refine CLe.eq ?_; simp; done)) : HasT st L ts := h
theorem wk_mk {P : Program} {K : St → Prop} {s : St} (ts : List (Nat × PV)) (bs : List (BN × List PV)) (hs : Has s ts bs) (h : K (mk ts bs)) : wk P K s := ⟨_, Weak.mk hs, h⟩
/-! A slice that was made and filled, in a state that is told in full. -/
theorem map_same {α : Type} {f : α → α} : ∀ {l : List α}, (∀ y ∈ l, f y = y) → l.map f = l
  | [], _ => rfl
  | a :: l, h => by rw [List.map_cons, h a (List.mem_cons_self ..), map_same fun y hy => h y (List.mem_cons_of_mem _ hy)]
theorem killC_ok {L : List BN} {b : BN} {x : PV} (h : okC L x = true) (hb : hasB L b = false) : x.killC b = x := by
  have hne : ∀ c, hasB L c = true → c ≠ b := fun c hc e => by rw [e, hb] at hc; cases hc
  cases x
  case ptr c o => simp only [PV.killC, if_neg (hne c h)]
  case rsl c e sz n => simp only [PV.killC, if_neg (hne c h)]
  case rsv c sz n => simp only [PV.killC, if_neg (hne c h)]
  case clo f caps =>
    simp only [PV.killC]
    rw [if_neg]
    intro ha
    obtain ⟨y, hy, hyb⟩ := List.any_eq_true.1 ha
    have := List.all_eq_true.1 h y hy
    cases y <;> simp at hyb
    exact hne _ this hyb
  all_goals rfl
theorem killV_ok {L : List BN} {b : BN} {x : PV} (h : okV L x = true) (hb : hasB L b = false) : x.killV b = x := by
  cases x
  case agg l =>
    simp only [PV.killV]
    congr 1
    exact map_same fun y hy => killC_ok (List.all_eq_true.1 h y hy) hb
  case ptr c o => exact killC_ok (L := L) (x := .ptr c o) h hb
  case rsl c e sz n => exact killC_ok (L := L) (x := .rsl c e sz n) h hb
  case rsv c sz n => exact killC_ok (L := L) (x := .rsv c sz n) h hb
  case clo f caps => exact killC_ok (L := L) (x := .clo f caps) h hb
  all_goals rfl
theorem kill_ok {L : List BN} {b : BN} {x : PV} (h : okT L x = true) (hb : hasB L b = false) : x.kill b = x := by
  cases x
  case tup l =>
    simp only [PV.kill]
    congr 1
    exact map_same fun y hy => killV_ok (List.all_eq_true.1 h y hy) hb
  case agg l => exact killV_ok (L := L) (x := .agg l) h hb
  case ptr c o => exact killV_ok (L := L) (x := .ptr c o) h hb
  case rsl c e sz n => exact killV_ok (L := L) (x := .rsl c e sz n) h hb
  case rsv c sz n => exact killV_ok (L := L) (x := .rsv c sz n) h hb
  case clo f caps => exact killV_ok (L := L) (x := .clo f caps) h hb
  all_goals rfl
theorem look_ok {L : List BN} {b : BN} : ∀ {ts : List (Nat × PV)}, ts.all (fun q => okT L q.2) = true → hasB L b = false → ∀ t, (look ts t).kill b = look ts t
  | [], _, _, _ => rfl
  | (m, x) :: l, h, hb, t => by
    simp only [List.all_cons, Bool.and_eq_true] at h
    rw [look_c]
    split
    · exact kill_ok h.1 hb
    · exact look_ok h.2 hb t
theorem lookB_ok {L : List BN} {b : BN} : ∀ {bs : List (BN × List PV)}, bs.all (fun q => q.2.all (okC L)) = true → hasB L b = false → ∀ c, (lookB bs c).map (fun cells => cells.map (PV.killC b)) = lookB bs c
  | [], _, _, _ => rfl
  | (m, x) :: l, h, hb, t => by
    simp only [List.all_cons, Bool.and_eq_true] at h
    rw [lookB_c]
    split
    · simp only [Option.map_some]
      rw [map_same fun y hy => killC_ok (List.all_eq_true.1 h.1 y hy) hb]
    · exact lookB_ok h.2 hb t
theorem wk_fz {P : Program} {K : St → Prop} {s : St} (t : Nat) (b : BN) (e sz n : Nat) (l : List PD) (ts : List (Nat × PV)) (bs : List (BN × List PV)) (hs : Has s ((t, .rsl b e sz n) :: ts) ((b, (flat l).map .d) :: bs)) (hl : l.length = n) (hu : ∀ x ∈ l, x.cells.length = sz)
    (h : K (mk ((t, .own e sz l) :: ts) bs)) (h1 : ts.all (fun q => okT (bs.map (·.1)) q.2) = true := by rfl) (h2 : bs.all (fun q => q.2.all (okC (bs.map (·.1)))) = true := by rfl) (h3 : hasB (bs.map (·.1)) b = false := by rfl) : wk P K s := by
  refine ⟨_, Weak.trans (Weak.mk hs) (Weak.freeze (t := t) (b := b) (e := e) (sz := sz) (n := n) (l := l) (by rw [tm_mk, look_c, if_pos rfl]) (by rw [bx_mk, lookB_c, if_pos rfl]) hl hu), ?_⟩
  have e1 : ((mk ((t, .rsl b e sz n) :: ts) ((b, (flat l).map .d) :: bs)).drop b).put t (.own e sz l) = mk ((t, .own e sz l) :: ts) bs := by
    unfold mk St.drop St.put
    simp only [St.mk.injEq]
    refine ⟨funext fun k => ?_, funext fun c => ?_⟩
    · by_cases hk : k = t
      · rw [if_pos hk, look_c, if_pos hk]
      · rw [if_neg hk, look_c, look_c, if_neg hk, if_neg hk, look_ok h1 h3]
    · split
      · rename_i hc
        subst hc
        cases hq : lookB bs c with
        | none => rfl
        | some q => have := (lookB_has bs c).2 (by rw [hq]; rfl); rw [h3] at this; cases this
      · rename_i hc
        rw [lookB_c, if_neg hc, lookB_ok h2 h3]
  rw [e1]; exact h
end Go.Bee
