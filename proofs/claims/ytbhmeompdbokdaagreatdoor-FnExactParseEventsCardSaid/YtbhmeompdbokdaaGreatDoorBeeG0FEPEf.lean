/-
The logic and the walks, part 6. No condition.
-/
import Derived.Test.YtbhmeompdbokdaaGreatDoorBeeG0FEPEe
namespace Go.Bee
set_option linter.unusedVariables false

def St.put (st : St) (d : Nat) (v : PV) : St := ⟨fun t => if t = d then v else st.tm t, st.bx⟩
def St.strip (st : St) (ts : List Nat) : St := ⟨fun t => if t ∈ ts then (st.tm t).bT else st.tm t, st.bx⟩
def St.sbx (st : St) (b : BN) (cells : List PV) : St := ⟨st.tm, Bx.set st.bx b cells⟩
def St.mvs (st : St) (mv : Bool) (xs : List Operand) : St := if mv = true then st.strip (tmpsOf xs) else st
theorem tm_put (st : St) (d : Nat) (v : PV) (t : Nat) : (st.put d v).tm t = if t = d then v else st.tm t := rfl
theorem bx_put (st : St) (d : Nat) (v : PV) : (st.put d v).bx = st.bx := rfl
theorem tm_sbx (st : St) (b : BN) (c : List PV) (t : Nat) : (st.sbx b c).tm t = st.tm t := rfl
theorem bx_sbx (st : St) (b : BN) (c : List PV) (b' : BN) : (st.sbx b c).bx b' = if b' = b then some c else st.bx b' := rfl
theorem tm_init (args : List PV) (bi : List (List PV)) (t : Nat) : (St.init args bi).tm t = args.getD t .und := rfl
theorem bx_init (args : List PV) (bi : List (List PV)) (b : BN) : (St.init args bi).bx b = bxOf bi b := rfl
def look : List (Nat × PV) → Nat → PV
  | [], _ => .junk
  | (m, x) :: l, n => if n = m then x else look l n
def lookB : List (BN × List PV) → BN → Option (List PV)
  | [], _ => none
  | (m, x) :: l, n => if n = m then some x else lookB l n
def mk (ts : List (Nat × PV)) (bs : List (BN × List PV)) : St := ⟨look ts, lookB bs⟩
theorem tm_mk (ts : List (Nat × PV)) (bs : List (BN × List PV)) (n : Nat) : (mk ts bs).tm n = look ts n := rfl
theorem bx_mk (ts : List (Nat × PV)) (bs : List (BN × List PV)) (b : BN) : (mk ts bs).bx b = lookB bs b := rfl
theorem look_n (n : Nat) : look [] n = .junk := rfl
theorem look_c (m n : Nat) (x : PV) (l : List (Nat × PV)) : look ((m, x) :: l) n = if n = m then x else look l n := rfl
theorem lookB_n (n : BN) : lookB [] n = none := rfl
theorem lookB_c (m n : BN) (x : List PV) (l : List (BN × List PV)) : lookB ((m, x) :: l) n = if n = m then some x else lookB l n := rfl
theorem mvs_true (st : St) (xs : List Operand) : st.mvs true xs = st.strip (tmpsOf xs) := rfl
theorem mvs_false (st : St) (xs : List Operand) : st.mvs false xs = st := rfl

def flg (P : Program) (L : List Oper) (hs : List Nat) (draw : Bool) (i : Nat) (o : Oper) (rest : List Oper) : AF := { mv := mvOf draw hs i o rest, bt := !draw || flagBt P L i, be := !draw || flagBe P L hs i }
def brun (P : Program) (L : List Oper) (hs : List Nat) (draw : Bool) : List Oper → Nat → (St → Prop) → St → Prop
  | [], _, Q, st => Q st
  | o :: l, i, Q, st => match o.guard with
    | none => bopx P (inL P draw L o) (flg P L hs draw i o l) o (brun P L hs draw l (i + 1) Q) st
    | some g => bgd (((L[g.1]?).bind (·.dst)).map st.tm) g.2 (bopx P (inL P draw L o) (flg P L hs draw i o l) o (brun P L hs draw l (i + 1) Q) st) (brun P L hs draw l (i + 1) Q (st.upd [] o.dst .und st.bx))
def brun1 (P : Program) (L : List Oper) (hs : List Nat) (draw : Bool) (o : Oper) (l : List Oper) (i : Nat) (Q : St → Prop) (st : St) : Prop :=
  bopx P (inL P draw L o) (flg P L hs draw i o l) o (brun P L hs draw l (i + 1) Q) st
theorem bopx_n {P : Program} {inn : Option (List BN)} {fl : AF} {o : Oper} {K : St → Prop} {s : St} (h : inn = none) : bopx P inn fl o K s = bop P fl o K s := by
  subst h; rfl

section steps
variable {P : Program} {L : List Oper} {hs : List Nat} {dr : Bool} {l : List Oper} {i : Nat} {Q : St → Prop} {st : St} {d : Nat} {ty : TypeId} {pos : String} {af : Array Edge} {g : Option (Nat × Bool)}

def optK (r : Option PV) (k : PV → Prop) : Prop := match r with
  | some v => k v
  | none => False
theorem optK_some (v : PV) (k : PV → Prop) : optK (some v) k = k v := rfl
theorem brun_nil : brun P L hs dr [] i Q st = Q st := rfl
theorem brun_nog {dd : Option Nat} {op : Op} : brun P L hs dr (⟨dd, op, ty, pos, af, none⟩ :: l) i Q st = brun1 P L hs dr ⟨dd, op, ty, pos, af, none⟩ l i Q st := rfl
theorem brun_grd {op : Op} {j : Nat} {w : Bool} : brun P L hs dr (⟨some d, op, ty, pos, af, some (j, w)⟩ :: l) i Q st =
    bgd (((L[j]?).bind (·.dst)).map st.tm) w (brun1 P L hs dr ⟨some d, op, ty, pos, af, some (j, w)⟩ l i Q st) (brun P L hs dr l (i + 1) Q (st.put d .und)) := by
  simp only [brun, brun1, St.upd, St.put]
  simp
def bimp (b w : Bool) (A : Prop) : Prop := b = w → A
theorem bimp_tt (A : Prop) : bimp true true A = A := by simp [bimp]
theorem bimp_ff (A : Prop) : bimp false false A = A := by simp [bimp]
theorem bimp_tf (A : Prop) : bimp true false A = True := by simp [bimp]
theorem bimp_ft (A : Prop) : bimp false true A = True := by simp [bimp]
theorem bimp_dt (p A : Prop) [Decidable p] : bimp (decide p) true A = (p → A) := by simp [bimp]
theorem bimp_df (p A : Prop) [Decidable p] : bimp (decide p) false A = (¬ p → A) := by simp [bimp]
theorem bimp_nt (b : Bool) (A : Prop) : bimp (!b) true A = bimp b false A := by simp [bimp]
theorem bimp_nf (b : Bool) (A : Prop) : bimp (!b) false A = bimp b true A := by simp [bimp]
@[congr] theorem bimp_congr {b b' w : Bool} {A : Prop} (h : b = b') : bimp b w A = bimp b' w A := by rw [h]
theorem after_pure {fl : AF} {o : Oper} {v : PV} (hd : o.dst = some d) : st.after fl o v (vz fl st.bx) = (st.mvs fl.mv o.op.operands.toList).put d v := by
  unfold St.after St.upd St.mvs stripsOf
  have hb : (if fl.be = true then vz fl st.bx else st.bx) = st.bx := by split <;> first | (rename_i h; simp [vz, h]) | rfl
  rw [hb, hd]
  by_cases hm : fl.mv = true
  · simp only [hm, if_true, St.put, St.strip, Option.some.injEq]
  · simp only [hm, St.put, Option.some.injEq]
    simp
theorem bop_ev {fl : AF} {o : Oper} {K : St → Prop} (hc : ∀ c, o.op = .call c → ∀ X, c.callee ≠ .value X) : bop P fl o K st = (match ev1 P fl o st.ev (vz fl st.bx) with | some q => K (st.after fl o q.1 q.2) | none => False) := by
  unfold bop
  split
  · rename_i c hop
    split
    · rename_i X hX; exact absurd hX (hc c hop X)
    · rfl
  · rfl
theorem ev_map {r : Option PV} {fl : AF} {o : Oper} {K : St → Prop} (hd : o.dst = some d) : (match r.map fun v => (v, vz fl st.bx) with | some q => K (st.after fl o q.1 q.2) | none => False) = optK r fun v => K ((st.mvs fl.mv o.op.operands.toList).put d v) := by
  cases r with
  | none => rfl
  | some v => simp only [Option.map_some, optK]; rw [after_pure hd]

theorem r_move {x : Operand} : brun1 P L hs dr ⟨some d, .move x, ty, pos, af, g⟩ l i Q st =
    brun P L hs dr l (i + 1) Q ((st.mvs (l.any (fun q => consumesT q d) || hs.contains i) [x]).put d (mvd (l.any (fun q => consumesT q d) || hs.contains i) (st.ev x))) := by
  unfold brun1
  rw [bopx_n (by rfl), bop_ev (by intro c h; cases h)]
  exact congrArg _ (after_pure rfl)
theorem r_assign {x : Operand} : brun1 P L hs dr ⟨some d, .assign x, ty, pos, af, g⟩ l i Q st = brun P L hs dr l (i + 1) Q ((st.strip (tmpsOf [x])).put d (st.ev x)) := by
  unfold brun1
  rw [bopx_n (by rfl), bop_ev (by intro c h; cases h)]
  exact congrArg _ (after_pure rfl)
theorem r_bin {op : BinOp} {t yt : TypeId} {x y : Operand} : brun1 P L hs dr ⟨some d, .binOp op t x y yt, ty, pos, af, g⟩ l i Q st = optK (evBinO P op t y (st.ev x) (st.ev y)) fun v => brun P L hs dr l (i + 1) Q (st.put d v) := by
  unfold brun1
  rw [bopx_n (by rfl), bop_ev (by intro c h; cases h)]
  exact ev_map rfl
theorem r_un {op : UnOp} {t : TypeId} {x : Operand} : brun1 P L hs dr ⟨some d, .unOp op t x, ty, pos, af, g⟩ l i Q st = optK (evUn op (st.ev x)) fun v => brun P L hs dr l (i + 1) Q (st.put d v) := by
  unfold brun1
  rw [bopx_n (by rfl), bop_ev (by intro c h; cases h)]
  exact ev_map rfl
theorem r_conv {s t : TypeId} {x : Operand} : brun1 P L hs dr ⟨some d, .convert s t x, ty, pos, af, g⟩ l i Q st = optK (if (tyi P s).isSome then evConv2 P s t (st.ev x) else none) fun v => brun P L hs dr l (i + 1) Q (st.put d v) := by
  unfold brun1
  rw [bopx_n (by rfl), bop_ev (by intro c h; cases h)]
  have : ev1 P (flg P L hs dr i ⟨some d, .convert s t x, ty, pos, af, g⟩ l) ⟨some d, .convert s t x, ty, pos, af, g⟩ st.ev (vz (flg P L hs dr i ⟨some d, .convert s t x, ty, pos, af, g⟩ l) st.bx) =
      (if (tyi P s).isSome then evConv2 P s t (st.ev x) else none).map fun v => (v, vz (flg P L hs dr i ⟨some d, .convert s t x, ty, pos, af, g⟩ l) st.bx) := by
    simp only [ev1]; split <;> rfl
  rw [this]
  exact ev_map rfl
theorem r_fa {t : TypeId} {x : Operand} {f : Nat} : brun1 P L hs dr ⟨some d, .fieldAddr t x f, ty, pos, af, g⟩ l i Q st = optK (evFldAddr P t f (st.ev x)) fun v => brun P L hs dr l (i + 1) Q (st.put d v) := by
  unfold brun1
  rw [bopx_n (by rfl), bop_ev (by intro c h; cases h)]
  exact ev_map rfl
theorem r_fld {t : TypeId} {x : Operand} {f : Nat} : brun1 P L hs dr ⟨some d, .field t x f, ty, pos, af, g⟩ l i Q st = optK (evFld P t f (st.ev x)) fun v => brun P L hs dr l (i + 1) Q (st.put d v) := by
  unfold brun1
  rw [bopx_n (by rfl), bop_ev (by intro c h; cases h)]
  exact ev_map rfl
theorem r_ia {t : TypeId} {x y : Operand} : brun1 P L hs dr ⟨some d, .indexAddr t x y, ty, pos, af, g⟩ l i Q st = optK (evIA P t (st.ev x) (st.ev y)) fun v => brun P L hs dr l (i + 1) Q (st.put d v) := by
  unfold brun1
  rw [bopx_n (by rfl), bop_ev (by intro c h; cases h)]
  exact ev_map rfl
theorem r_idx {t : TypeId} {x y : Operand} : brun1 P L hs dr ⟨some d, .index t x y, ty, pos, af, g⟩ l i Q st = optK (evIdx P t (st.ev x) (st.ev y)) fun v => brun P L hs dr l (i + 1) Q (st.put d v) := by
  unfold brun1
  rw [bopx_n (by rfl), bop_ev (by intro c h; cases h)]
  exact ev_map rfl
theorem r_build {t : TypeId} {parts : Array (Nat × Operand)} : brun1 P L hs dr ⟨some d, .build t parts, ty, pos, af, g⟩ l i Q st = optK (evBuild P t (parts.toList.map fun p => (p.1, st.ev p.2))) fun v => brun P L hs dr l (i + 1) Q (st.put d v) := by
  unfold brun1
  rw [bopx_n (by rfl), bop_ev (by intro c h; cases h)]
  exact ev_map rfl
theorem r_bsl {t : TypeId} {n : Nat} {parts : Array (Nat × Operand)} : brun1 P L hs dr ⟨some d, .buildSlice t n parts, ty, pos, af, g⟩ l i Q st = optK (evBuildSlice P t n (parts.toList.map fun p => (p.1, st.ev p.2))) fun v => brun P L hs dr l (i + 1) Q (st.put d v) := by
  unfold brun1
  rw [bopx_n (by rfl), bop_ev (by intro c h; cases h)]
  exact ev_map rfl
theorem r_slice {t : TypeId} {x : Operand} {lo hi : Option Operand} : brun1 P L hs dr ⟨some d, .slice t x lo hi none, ty, pos, af, g⟩ l i Q st = optK (evSlice P t (st.ev x) (lo.map st.ev) (hi.map st.ev)) fun v => brun P L hs dr l (i + 1) Q (st.put d v) := by
  unfold brun1
  rw [bopx_n (by rfl), bop_ev (by intro c h; cases h)]
  exact ev_map rfl
def evPick : PV → PV → PV → Option PV
  | .d (.bool b), x, y => some (pick2 b x.bT y.bT)
  | _, _, _ => none
theorem r_pick {c x y : Operand} : brun1 P L hs dr ⟨some d, .pick c x y, ty, pos, af, g⟩ l i Q st = optK (evPick (st.ev c) (st.ev x) (st.ev y)) fun v => brun P L hs dr l (i + 1) Q (st.put d v) := by
  unfold brun1
  rw [bopx_n (by rfl), bop_ev (by intro c h; cases h)]
  generalize hfl : flg P L hs dr i ⟨some d, .pick c x y, ty, pos, af, g⟩ l = fl
  have hmv : fl.mv = false := by rw [← hfl]; rfl
  have : ev1 P fl ⟨some d, .pick c x y, ty, pos, af, g⟩ st.ev (vz fl st.bx) = (evPick (st.ev c) (st.ev x) (st.ev y)).map fun v => (v, vz fl st.bx) := by
    simp only [ev1, evPick]
    cases st.ev c <;> try rfl
    rename_i y; cases y <;> rfl
  rw [this, ev_map rfl, hmv]
  rfl
def evNil : PV → Option PV
  | .ptr b o => some (.ptr b o)
  | .eptr cs => some (.eptr cs)
  | _ => none
theorem r_nil {x : Operand} : brun1 P L hs dr ⟨some d, .nilCheck x, ty, pos, af, g⟩ l i Q st = optK (evNil (st.ev x)) fun v => brun P L hs dr l (i + 1) Q (st.put d v) := by
  unfold brun1
  rw [bopx_n (by rfl), bop_ev (by intro c h; cases h)]
  generalize hfl : flg P L hs dr i ⟨some d, .nilCheck x, ty, pos, af, g⟩ l = fl
  have hmv : fl.mv = false := by rw [← hfl]; rfl
  have : ev1 P fl ⟨some d, .nilCheck x, ty, pos, af, g⟩ st.ev (vz fl st.bx) = (evNil (st.ev x)).map fun v => (v, vz fl st.bx) := by
    simp only [ev1, evNil]
    cases st.ev x <;> rfl
  rw [this, ev_map rfl, hmv]
  rfl
theorem r_fn {f : Nat} {caps : Array Operand} : brun1 P L hs dr ⟨some d, .makeFunc (.func f) #[] caps, ty, pos, af, g⟩ l i Q st =
    optK (if caps.toList.all (fun c => ((st.ev c).bC).isAt) = true then some (.clo f (caps.toList.map fun c => (st.ev c).bC)) else none) fun v => brun P L hs dr l (i + 1) Q (st.put d v) := by
  unfold brun1
  rw [bopx_n (by rfl), bop_ev (by intro c h; cases h)]
  generalize hfl : flg P L hs dr i ⟨some d, .makeFunc (.func f) #[] caps, ty, pos, af, g⟩ l = fl
  have hmv : fl.mv = false := by rw [← hfl]; rfl
  have : ev1 P fl ⟨some d, .makeFunc (.func f) #[] caps, ty, pos, af, g⟩ st.ev (vz fl st.bx) = (if caps.toList.all (fun c => ((st.ev c).bC).isAt) = true then some (PV.clo f (caps.toList.map fun c => (st.ev c).bC)) else none).map fun v => (v, vz fl st.bx) := by
    simp only [ev1, true_and]
    split <;> rfl
  rw [this, ev_map rfl, hmv]
  rfl
def evExt (n : Nat) : PV → Option PV
  | .tup l => l[n]?
  | _ => none
theorem r_ext {x : Operand} {n : Nat} : brun1 P L hs false ⟨some d, .extract x n, ty, pos, af, g⟩ l i Q st = optK (evExt n (st.ev x)) fun v => brun P L hs false l (i + 1) Q ((st.strip (tmpsOf [x])).put d v) := by
  unfold brun1
  rw [bopx_n (by rfl), bop_ev (by intro c h; cases h)]
  generalize hfl : flg P L hs false i ⟨some d, .extract x n, ty, pos, af, g⟩ l = fl
  have hmv : fl.mv = true := by rw [← hfl]; rfl
  have : ev1 P fl ⟨some d, .extract x n, ty, pos, af, g⟩ st.ev (vz fl st.bx) = (evExt n (st.ev x)).map fun v => (v, vz fl st.bx) := by
    simp only [ev1, evExt, hmv, mvd, if_true]
    cases st.ev x <;> rfl
  rw [this, ev_map rfl, hmv]
  rfl
theorem r_extD {x : Operand} {n : Nat} : brun1 P L hs true ⟨some d, .extract x n, ty, pos, af, g⟩ l i Q st = optK ((evExt n (st.ev x)).map PV.bT) fun v => brun P L hs true l (i + 1) Q (st.put d v) := by
  unfold brun1
  rw [bopx_n (by rfl), bop_ev (by intro c h; cases h)]
  generalize hfl : flg P L hs true i ⟨some d, .extract x n, ty, pos, af, g⟩ l = fl
  have hmv : fl.mv = false := by rw [← hfl]; rfl
  have : ev1 P fl ⟨some d, .extract x n, ty, pos, af, g⟩ st.ev (vz fl st.bx) = ((evExt n (st.ev x)).map PV.bT).map fun v => (v, vz fl st.bx) := by
    simp only [ev1, evExt, hmv, mvd]
    cases st.ev x <;> simp [Option.map_map]
    rfl
  rw [this, ev_map rfl, hmv]
  rfl
theorem r_len {t : TypeId} {x : Operand} : brun1 P L hs dr ⟨some d, .call ⟨.builtin .len, #[x], #[t]⟩, ty, pos, af, g⟩ l i Q st = optK (evLen P t (st.ev x)) fun v => brun P L hs dr l (i + 1) Q ((st.mvs (hs.contains i) [x]).put d v) := by
  unfold brun1
  rw [bopx_n (by rfl), bop_ev (by intro c h X; cases h; simp)]
  exact ev_map rfl
theorem r_max {t t' : TypeId} {x y : Operand} : brun1 P L hs dr ⟨some d, .call ⟨.builtin .max, #[x, y], #[t, t']⟩, ty, pos, af, g⟩ l i Q st = optK (evMinMax true (st.ev x) (st.ev y)) fun v => brun P L hs dr l (i + 1) Q ((st.mvs (hs.contains i) [x, y]).put d v) := by
  unfold brun1
  rw [bopx_n (by rfl), bop_ev (by intro c h X; cases h; simp)]
  exact ev_map rfl
theorem r_min {t t' : TypeId} {x y : Operand} : brun1 P L hs dr ⟨some d, .call ⟨.builtin .min, #[x, y], #[t, t']⟩, ty, pos, af, g⟩ l i Q st = optK (evMinMax false (st.ev x) (st.ev y)) fun v => brun P L hs dr l (i + 1) Q ((st.mvs (hs.contains i) [x, y]).put d v) := by
  unfold brun1
  rw [bopx_n (by rfl), bop_ev (by intro c h X; cases h; simp)]
  exact ev_map rfl
theorem r_app {t : TypeId} {x y : Operand} : brun1 P L hs dr ⟨some d, .call ⟨.builtin .append, #[x, y], #[t, t]⟩, ty, pos, af, g⟩ l i Q st = optK (evAppend P t (st.ev x) (st.ev y)) fun v => brun P L hs dr l (i + 1) Q ((st.strip (tmpsOf [x, y])).put d v) := by
  unfold brun1
  rw [bopx_n (by rfl), bop_ev (by intro c h X; cases h; simp)]
  generalize hfl : flg P L hs dr i ⟨some d, .call ⟨.builtin .append, #[x, y], #[t, t]⟩, ty, pos, af, g⟩ l = fl
  have hmv : fl.mv = true := by rw [← hfl]; rfl
  have : ev1 P fl ⟨some d, .call ⟨.builtin .append, #[x, y], #[t, t]⟩, ty, pos, af, g⟩ st.ev (vz fl st.bx) = (evAppend P t (st.ev x) (st.ev y)).map fun v => (v, vz fl st.bx) := by
    simp [ev1, hmv]
  rw [this, ev_map rfl, hmv]
  rfl
theorem r_callF {X : Operand} {xs : Array Operand} {ts : Array TypeId} {dd : Option Nat} : brun1 P L hs false ⟨dd, .call ⟨.value X, xs, ts⟩, ty, pos, af, g⟩ l i Q st =
    bcallD P none (flg P L hs false i ⟨dd, .call ⟨.value X, xs, ts⟩, ty, pos, af, g⟩ l) ⟨dd, .call ⟨.value X, xs, ts⟩, ty, pos, af, g⟩ (brun P L hs false l (i + 1) Q) st := rfl
theorem r_callD {X : Operand} {xs : Array Operand} {ts : Array TypeId} {dd : Option Nat} : brun1 P L hs true ⟨dd, .call ⟨.value X, xs, ts⟩, ty, pos, af, g⟩ l i Q st =
    bcallD P (inL P true L ⟨dd, .call ⟨.value X, xs, ts⟩, ty, pos, af, g⟩) (flg P L hs true i ⟨dd, .call ⟨.value X, xs, ts⟩, ty, pos, af, g⟩ l) ⟨dd, .call ⟨.value X, xs, ts⟩, ty, pos, af, g⟩ (brun P L hs true l (i + 1) Q) st := by
  unfold brun1 bopx bcallD
  cases inL P true L ⟨dd, .call ⟨.value X, xs, ts⟩, ty, pos, af, g⟩ <;> rfl

theorem vz_t {fl : AF} (h : fl.be = true) : vz fl st.bx = st.bx := by simp [vz, h]
def allocK (P : Program) (t : TypeId) (be : Bool) (old : Option (List PV)) (k : List PV → Prop) : Prop :=
  match tyi P t with
  | some i => be = true ∧ old = none ∧ i.zero ≠ [] ∧ i.zero.all (fun x => !x.isJunk) = true ∧ k i.zero
  | none => False
theorem bx_alloc {t : TypeId} {fl : AF} {K : St → Prop} : bopx P (inL P dr L ⟨some d, .alloc t, ty, pos, af, g⟩) fl ⟨some d, .alloc t, ty, pos, af, g⟩ K st = bop P fl ⟨some d, .alloc t, ty, pos, af, g⟩ K st := by
  cases dr <;> simp [inL, bopx, locP]
theorem bx_box {t : TypeId} {x : Operand} {fl : AF} {K : St → Prop} : bopx P (inL P dr L ⟨some d, .box t x, ty, pos, af, g⟩) fl ⟨some d, .box t x, ty, pos, af, g⟩ K st = bop P fl ⟨some d, .box t x, ty, pos, af, g⟩ K st := by
  cases dr <;> simp [inL, bopx, locP]
def okD (dr : Bool) (c : Prop) : Prop := dr = true → c
theorem bx_load {t : TypeId} {x : Operand} {fl : AF} {K : St → Prop} : bopx P (inL P dr L ⟨some d, .load t x, ty, pos, af, g⟩) fl ⟨some d, .load t x, ty, pos, af, g⟩ K st = (okD dr (okB (baseB L x) (st.ev x)) ∧ bop P fl ⟨some d, .load t x, ty, pos, af, g⟩ K st) := by
  cases dr <;> simp [inL, bopx, locP, okD]
theorem bx_store {t : TypeId} {x y : Operand} {fl : AF} {K : St → Prop} : bopx P (inL P dr L ⟨none, .store t x y, ty, pos, af, g⟩) fl ⟨none, .store t x y, ty, pos, af, g⟩ K st = (okD dr (okB (baseB L x) (st.ev x)) ∧ bop P fl ⟨none, .store t x y, ty, pos, af, g⟩ K st) := by
  cases dr <;> simp [inL, bopx, locP, okD]
theorem r_alloc {t : TypeId} : brun1 P L hs dr ⟨some d, .alloc t, ty, pos, af, g⟩ l i Q st = allocK P t (!dr || flagBe P L hs i) (st.bx (.t d)) fun c => brun P L hs dr l (i + 1) Q ((st.sbx (.t d) c).put d (.ptr (.t d) 0)) := by
  unfold brun1
  rw [bx_alloc, bop_ev (by intro c h; cases h)]
  generalize hfl : flg P L hs dr i ⟨some d, .alloc t, ty, pos, af, g⟩ l = fl
  have hbe : fl.be = (!dr || flagBe P L hs i) := by rw [← hfl]; rfl
  have hmv : fl.mv = false := by rw [← hfl]; rfl
  rw [← hbe]
  simp only [ev1, Option.bind_some, allocK]
  cases hti : tyi P t with
  | none => simp
  | some ti =>
    simp only [Option.bind_some]
    by_cases hb : fl.be = true
    · rw [vz_t hb]
      by_cases hc : st.bx (.t d) = none ∧ ti.zero ≠ [] ∧ ti.zero.all (fun x => !x.isJunk) = true
      · rw [if_pos ⟨hb, hc⟩]
        simp only [hb, hc, true_and, ne_eq, not_false_eq_true]
        congr 1
        unfold St.after St.upd St.put St.sbx stripsOf
        simp [hb, hmv]
      · rw [if_neg (fun h => hc h.2)]
        simp only [hb, true_and]
        rw [eq_comm, eq_iff_iff, iff_false]
        rintro ⟨a, b, c, _⟩
        exact hc ⟨a, b, c⟩
    · rw [if_neg (fun h => hb h.1)]
      simp [hb]
def boxK (be : Bool) (old : Option (List PV)) (x : PV) (k : List PV → Prop) : Prop :=
  match pvCells x with
  | some c => be = true ∧ old = none ∧ k c
  | none => False
theorem r_box {t : TypeId} {x : Operand} : brun1 P L hs dr ⟨some d, .box t x, ty, pos, af, g⟩ l i Q st = boxK (!dr || flagBe P L hs i) (st.bx (.t d)) (st.ev x) fun c => brun P L hs dr l (i + 1) Q (((st.strip (tmpsOf [x])).sbx (.t d) c).put d (.ptr (.t d) 0)) := by
  unfold brun1
  rw [bx_box, bop_ev (by intro c h; cases h)]
  generalize hfl : flg P L hs dr i ⟨some d, .box t x, ty, pos, af, g⟩ l = fl
  have hbe : fl.be = (!dr || flagBe P L hs i) := by rw [← hfl]; rfl
  have hmv : fl.mv = true := by rw [← hfl]; rfl
  rw [← hbe]
  simp only [ev1, Option.bind_some, boxK, mvd, hmv, if_true]
  cases hti : pvCells (st.ev x) with
  | none => simp
  | some c =>
    simp only [Option.bind_some]
    by_cases hb : fl.be = true
    · rw [vz_t hb]
      by_cases hc : st.bx (.t d) = none
      · rw [if_pos ⟨hb, hc⟩]
        simp only [hb, hc, true_and]
        congr 1
        unfold St.after St.upd St.put St.sbx St.strip stripsOf
        simp [hb, hmv, Op.operands]
      · rw [if_neg (fun h => hc h.2)]
        simp [hc]
    · rw [if_neg (fun h => hb h.1)]
      simp [hb]
def loadK (P : Program) (t : TypeId) (mv bt be : Bool) (x : PV) (B : Bx) (k : PV → Option (BN × List PV) → Prop) : Prop :=
  match x with
  | .ptr b off => match B b, tyi P t with
    | some cells, some i => match bxRead cells off i.sz i.agg with
      | some r => if mv = true then be = true ∧ k r (some (b, stripAt cells off (if i.agg then i.sz else 1))) else (bt = true ∨ be = true) ∧ k r.bV none
      | none => False
    | _, _ => False
  | .eptr cs => optK (evELoad P t cs) fun r => k r none
  | .efn K => optK ((tyi P t).bind fun i => if i.agg = true then none else some (.fn K)) fun r => k r none
  | .zp cs => optK (evZLoad P t cs) fun r => k r none
  | _ => False
def St.sbo (st : St) : Option (BN × List PV) → St
  | some q => st.sbx q.1 q.2
  | none => st
theorem sbo_none (st : St) : st.sbo none = st := rfl
theorem sbo_some (st : St) (b : BN) (c : List PV) : st.sbo (some (b, c)) = st.sbx b c := rfl
theorem r_load {t : TypeId} {x : Operand} : brun1 P L hs dr ⟨some d, .load t x, ty, pos, af, g⟩ l i Q st =
    (okD dr (okB (baseB L x) (st.ev x)) ∧ loadK P t (l.any (fun q => consumesT q d) || hs.contains i) (!dr || flagBt P L i) (!dr || flagBe P L hs i) (st.ev x) st.bx fun v q => brun P L hs dr l (i + 1) Q (((st.mvs (l.any (fun q => consumesT q d) || hs.contains i) [x]).sbo q).put d v)) := by
  unfold brun1
  rw [bx_load]
  refine congrArg _ ?_
  rw [bop_ev (by intro c h; cases h)]
  generalize hfl : flg P L hs dr i ⟨some d, .load t x, ty, pos, af, g⟩ l = fl
  have hbe : fl.be = (!dr || flagBe P L hs i) := by rw [← hfl]; rfl
  have hbt : fl.bt = (!dr || flagBt P L i) := by rw [← hfl]; rfl
  have hmv : fl.mv = (l.any (fun q => consumesT q d) || hs.contains i) := by rw [← hfl]; rfl
  rw [← hbe, ← hbt, ← hmv]
  have hst : stripsOf fl ⟨some d, .load t x, ty, pos, af, g⟩ = if fl.mv = true then tmpsOf [x] else [] := by simp [stripsOf, Op.operands]
  simp only [ev1, evLoad, loadK]
  cases hev : st.ev x with
  | ptr b off =>
    simp only
    by_cases hv : fl.bt = true ∨ fl.be = true
    · have hvz : vz fl st.bx = st.bx := by simp [vz, hv]
      rw [hvz]
      cases hB : st.bx b with
      | none => simp
      | some cells =>
        cases hti : tyi P t with
        | none => simp
        | some ti =>
          simp only [Option.bind_some]
          cases hr : bxRead cells off ti.sz ti.agg with
          | none => simp
          | some r =>
            simp only [Option.bind_some]
            by_cases hm : fl.mv = true
            · simp only [hm, if_true]
              by_cases hb : fl.be = true
              · simp only [hb, if_true, true_and]
                congr 1
                unfold St.after St.upd St.put St.sbo St.sbx St.mvs St.strip
                rw [hst]
                simp [hb, hm]
              · simp [hb]
            · have hm' : fl.mv = false := by simpa using hm
              simp only [hm', Bool.false_eq_true, if_false, hv, true_and]
              rw [← hvz, after_pure (d := d) rfl]
              simp [St.sbo, St.mvs, hm']
    · have hvz : vz fl st.bx = fun _ => none := by simp [vz, hv]
      have hb : ¬ fl.be = true := fun h => hv (.inr h)
      rw [hvz]
      simp only [Option.bind_none]
      cases hB : st.bx b with
      | none => simp
      | some cells =>
        cases hti : tyi P t with
        | none => simp
        | some ti =>
          cases hr : bxRead cells off ti.sz ti.agg with
          | none => simp [hr]
          | some r =>
            have hbt' : ¬ fl.bt = true := fun h => hv (.inl h)
            simp [hr, hb, hbt']
  | eptr cs =>
    simp only
    rw [ev_map (by rfl)]
    simp [St.sbo, Op.operands]
  | efn K =>
    simp only
    rw [ev_map (by rfl)]
    simp [St.sbo, Op.operands]
  | zp cs =>
    simp only
    rw [ev_map (by rfl)]
    simp [St.sbo, Op.operands]
  | _ => rfl
def makeK (P : Program) (t : TypeId) (d : Nat) (be : Bool) (x y : PV) (old : Option (List PV)) (k : PV → List PV → Prop) : Prop :=
  match x, y with
  | .d (.int _ n), .d (.int _ m) => match tyi P t with
    | some i => match i.el with
      | some e => match tyi P e with
        | some te => be = true ∧ old = none ∧ n = m ∧ 0 ≤ n ∧ n ≤ 140737488355328 ∧ (te.by_ : Int) * n ≤ 281474976710656 ∧ te.zero.length = te.sz ∧ 0 < te.sz ∧ te.zero.all (fun x => !x.isJunk) = true ∧ k (.rsl (.t d) e te.sz n.toNat) (List.replicate n.toNat te.zero).flatten
        | none => False
      | none => False
    | none => False
  | _, _ => False
theorem r_make {t : TypeId} {x y : Operand} : brun1 P L hs dr ⟨some d, .makeSlice t x y, ty, pos, af, g⟩ l i Q st = makeK P t d (!dr || flagBe P L hs i) (st.ev x) (st.ev y) (st.bx (.t d)) fun v c => brun P L hs dr l (i + 1) Q ((st.sbx (.t d) c).put d v) := by
  unfold brun1
  rw [bopx_n (by rfl), bop_ev (by intro c h; cases h)]
  generalize hfl : flg P L hs dr i ⟨some d, .makeSlice t x y, ty, pos, af, g⟩ l = fl
  have hbe : fl.be = (!dr || flagBe P L hs i) := by rw [← hfl]; rfl
  have hmv : fl.mv = false := by rw [← hfl]; rfl
  rw [← hbe]
  simp only [ev1, Option.bind_some]
  generalize st.ev x = X
  generalize st.ev y = Y
  cases X <;> try rfl
  rename_i X
  cases X <;> try rfl
  rename_i k n
  cases Y <;> try rfl
  rename_i Y
  cases Y <;> try rfl
  rename_i k' m
  simp only [evMake, makeK]
  cases tyi P t with
  | none => rfl
  | some ti =>
    simp only [Option.bind_some]
    cases ti.el with
    | none => rfl
    | some e =>
      simp only [Option.bind_some]
      cases tyi P e with
      | none => rfl
      | some te =>
        simp only [Option.bind_some]
        by_cases hb : fl.be = true
        · rw [vz_t hb]
          by_cases hc : st.bx (.t d) = none ∧ n = m ∧ 0 ≤ n ∧ n ≤ 140737488355328 ∧ (te.by_ : Int) * n ≤ 281474976710656 ∧ te.zero.length = te.sz ∧ 0 < te.sz ∧ te.zero.all (fun x => !x.isJunk) = true
          · rw [if_pos ⟨hb, hc⟩]
            have e1 : st.after fl ⟨some d, .makeSlice t x y, ty, pos, af, g⟩ (.rsl (.t d) e te.sz n.toNat) (Bx.set st.bx (.t d) (List.replicate n.toNat te.zero).flatten) = (st.sbx (.t d) (List.replicate n.toNat te.zero).flatten).put d (.rsl (.t d) e te.sz n.toNat) := by
              unfold St.after St.upd St.put St.sbx stripsOf
              simp [hb, hmv]
            simp only [e1]
            rw [eq_iff_iff]
            obtain ⟨c1, c2, c3, c4, c5, c6, c7, c8⟩ := hc
            exact ⟨fun h => ⟨hb, c1, c2, c3, c4, c5, c6, c7, c8, h⟩, fun h => h.2.2.2.2.2.2.2.2.2⟩
          · rw [if_neg (fun h => hc h.2)]
            rw [eq_comm, eq_iff_iff, iff_false]
            rintro ⟨_, c1, c2, c3, c4, c5, c6, c7, c8, _⟩
            exact hc ⟨c1, c2, c3, c4, c5, c6, c7, c8⟩
        · rw [if_neg (fun h => hb h.1)]
          rw [eq_comm, eq_iff_iff, iff_false]
          rintro ⟨c, _⟩
          exact hb c
def storeK (P : Program) (t : TypeId) (be : Bool) (x y : PV) (B : Bx) (k : BN → List PV → Prop) (kz : Prop) : Prop :=
  match x with
  | .ptr b off => match B b, tyi P t, pvCells y with
    | some cells, some i, some new => be = true ∧ new.length = i.sz ∧ off + new.length ≤ cells.length ∧ k b (cells.take off ++ new ++ cells.drop (off + new.length))
    | _, _, _ => False
  | .zp cs => match tyi P t, pvCells y.bT with
    | some i, some new => be = true ∧ new.length = i.sz ∧ 0 < new.length ∧ zfit new cs = true ∧ kz
    | _, _ => False
  | _ => False
theorem r_store {t : TypeId} {x y : Operand} : brun1 P L hs dr ⟨none, .store t x y, ty, pos, af, g⟩ l i Q st =
    (okD dr (okB (baseB L x) (st.ev x)) ∧ storeK P t (!dr || flagBe P L hs i) (st.ev x) (st.ev y) st.bx (fun b c => brun P L hs dr l (i + 1) Q ((st.strip (tmpsOf [x, y])).sbx b c)) (brun P L hs dr l (i + 1) Q (st.strip (tmpsOf [x, y])))) := by
  unfold brun1
  rw [bx_store]
  refine congrArg _ ?_
  rw [bop_ev (by intro c h; cases h)]
  generalize hfl : flg P L hs dr i ⟨none, .store t x y, ty, pos, af, g⟩ l = fl
  have hbe : fl.be = (!dr || flagBe P L hs i) := by rw [← hfl]; rfl
  have hmv : fl.mv = true := by rw [← hfl]; rfl
  rw [← hbe]
  simp only [ev1, evStore, storeK, if_true, mvd, hmv]
  cases hev : st.ev x with
  | ptr b off =>
    simp only
    by_cases hb : fl.be = true
    · rw [vz_t hb]
      cases hB : st.bx b with
      | none => simp
      | some cells =>
        cases hti : tyi P t with
        | none => simp
        | some ti =>
          cases hy : pvCells (st.ev y) with
          | none => simp
          | some new =>
            simp only [Option.bind_some, hb, true_and]
            by_cases hc : new.length = ti.sz ∧ off + new.length ≤ cells.length
            · rw [if_pos hc]
              simp only [Option.map_some]
              have e : ∀ C, st.after fl ⟨none, .store t x y, ty, pos, af, g⟩ .junk (Bx.set st.bx b C) = (st.strip (tmpsOf [x, y])).sbx b C := by
                intro C
                unfold St.after St.upd St.sbx St.strip stripsOf
                simp [hb, hmv, Op.operands]
              rw [e, eq_iff_iff]
              exact ⟨fun h => ⟨hc.1, hc.2, h⟩, fun h => h.2.2⟩
            · rw [if_neg hc]
              simp only [Option.map_none]
              rw [eq_comm, eq_iff_iff, iff_false]
              rintro ⟨a, b, _⟩
              exact hc ⟨a, b⟩
    · cases hB : st.bx b <;> cases hti : tyi P t <;> cases hy : pvCells (st.ev y) <;> simp [hb] <;> (cases hz : vz fl st.bx b <;> simp)
  | zp cs =>
    simp only
    cases hti : tyi P t with
    | none => simp
    | some ti =>
      cases hy : pvCells (st.ev y).bT with
      | none => simp
      | some new =>
        simp only [Option.bind_some]
        by_cases hc : fl.be = true ∧ new.length = ti.sz ∧ 0 < new.length ∧ zfit new cs = true
        · rw [if_pos hc]
          simp only [Option.map_some]
          have e : st.after fl ⟨none, .store t x y, ty, pos, af, g⟩ .junk (vz fl st.bx) = st.strip (tmpsOf [x, y]) := by
            rw [vz_t hc.1]
            unfold St.after St.upd St.strip stripsOf
            simp [hc.1, hmv, Op.operands]
          rw [e, eq_iff_iff]
          exact ⟨fun h => ⟨hc.1, hc.2.1, hc.2.2.1, hc.2.2.2, h⟩, fun h => h.2.2.2.2⟩
        · rw [if_neg hc]
          simp only [Option.map_none]
          rw [eq_comm, eq_iff_iff, iff_false]
          rintro ⟨a, b, c, d, _⟩
          exact hc ⟨a, b, c, d⟩
  | _ => rfl
end steps

end Go.Bee
namespace Go.Bee
section
variable {P : Program} {H : Nat → List Nat} {Q : Ex → St → Prop} {st : St}
theorem w_skip : bwp P H .skip Q st = Q .normal st := rfl
theorem w_exit {id : Nat} : bwp P H (.exit id) Q st = Q (.exit id) st := rfl
theorem w_ret : bwp P H .ret Q st = Q .ret st := rfl
theorem w_seq {a b : Code} : bwp P H (.seq a b) Q st = bwp P H a (seqK (bwp P H b Q) Q) st := rfl
theorem w_cond {c : Operand} {a b : Code} : bwp P H (.cond c a b) Q st = bcond (st.ev c) (bwp P H a Q st) (bwp P H b Q st) := rfl
theorem w_block {id : Nat} {c : Code} : bwp P H (.block id c) Q st = bwp P H c (blkK id Q) st := rfl
theorem w_loop {c : Code} : bwp P H (.loop c) Q st = bloop P (bwp P H c) Q st := rfl
theorem brun_eq {P : Program} {L : List Oper} {hs : List Nat} {draw : Bool} {Q : St → Prop} : ∀ (l : List Oper) (i : Nat) (st : St), L.drop i = l → bops P L (flagsOf P L hs draw) (innsOf P draw L) l i Q st = brun P L hs draw l i Q st
  | [], i, st, _ => rfl
  | o :: l, i, st, hl => by
    have hfl : flg P L hs draw i o l = flagsOf P L hs draw i := by simp [flg, flagsOf, flagMv, hl]
    have hLi : L[i]? = some o := by
      have := congrArg (fun m => m[0]?) hl
      simpa using this
    have hin : inL P draw L o = innsOf P draw L i := by simp [innsOf, hLi]
    have hl' : L.drop (i + 1) = l := by rw [← List.drop_drop, hl]; rfl
    have ih := fun s => brun_eq (P := P) (hs := hs) (draw := draw) (Q := Q) l (i + 1) s hl'
    unfold bops brun
    rw [hfl, hin, funext ih]
    cases o.guard <;> rfl
theorem w_reg {id : Nat} {L : List Oper} {dr : Bool} : bwp P (fun _ => []) (.region id L.toArray dr) Q st = brun P L [] dr L 0 (Q .normal) st := by
  show mreg P [] L.toArray dr (Q .normal) st = _
  unfold mreg
  rw [if_neg (by simp)]
  exact brun_eq L 0 st rfl
def Hm (ms : List Nat) : Nat → List Nat := fun id => if ms.contains id = true then [1000000] else []
def kreg (P : Program) (L : List Oper) (dr : Bool) (K : St → Prop) (st : St) : Prop := brun P L [1000000] dr L 0 K st
def regM (b : Bool) (P : Program) (L : List Oper) (dr : Bool) (K : St → Prop) (st : St) : Prop := match b with
  | true => wk P (kreg P L dr K) st
  | false => brun P L [] dr L 0 K st
theorem kreg_eq {L : List Oper} {dr : Bool} {K : St → Prop} : kreg P L dr K st = brun P L [1000000] dr L 0 K st := rfl
theorem regM_t {L : List Oper} {dr : Bool} {K : St → Prop} : regM true P L dr K st = wk P (kreg P L dr K) st := rfl
theorem regM_f {L : List Oper} {dr : Bool} {K : St → Prop} : regM false P L dr K st = brun P L [] dr L 0 K st := rfl
@[congr] theorem regM_congr {b b' : Bool} {L : List Oper} {dr : Bool} {K : St → Prop} (h : b = b') : regM b P L dr K st = regM b' P L dr K st := by rw [h]
theorem w_regM {ms : List Nat} {id : Nat} {L : List Oper} {dr : Bool} : bwp P (Hm ms) (.region id L.toArray dr) Q st = regM (ms.contains id) P L dr (Q .normal) st := by
  show mreg P (Hm ms id) L.toArray dr (Q .normal) st = _
  unfold mreg Hm
  by_cases h : ms.contains id = true
  · rw [if_pos h, if_pos (by simp), h]
    refine congrArg (fun K => wk P K st) (funext fun s => ?_)
    exact brun_eq L 0 s rfl
  · rw [if_neg h, if_neg (by simp), Bool.eq_false_iff.2 h]
    exact brun_eq L 0 st rfl
def Hh (r : Nat) (hs : List Nat) : Nat → List Nat := fun id => if [r].contains id = true then hs else []
def regH (b m : Bool) (hs : List Nat) (P : Program) (L : List Oper) (dr : Bool) (K : St → Prop) (st : St) : Prop := match b, m with
  | true, true => wk P (fun s => brun P L hs dr L 0 K s) st
  | true, false => brun P L hs dr L 0 K st
  | false, _ => brun P L [] dr L 0 K st
theorem regH_t {hs : List Nat} {L : List Oper} {dr : Bool} {K : St → Prop} : regH true false hs P L dr K st = brun P L hs dr L 0 K st := rfl
theorem regH_f {m : Bool} {hs : List Nat} {L : List Oper} {dr : Bool} {K : St → Prop} : regH false m hs P L dr K st = brun P L [] dr L 0 K st := by cases m <;> rfl
@[congr] theorem regH_congr {b b' m m' : Bool} {hs : List Nat} {L : List Oper} {dr : Bool} {K : St → Prop} (h : b = b') (h2 : m = m') : regH b m hs P L dr K st = regH b' m' hs P L dr K st := by rw [h, h2]
theorem w_regH {r : Nat} {hs : List Nat} {id : Nat} {L : List Oper} {dr : Bool} : bwp P (Hh r hs) (.region id L.toArray dr) Q st = regH ([r].contains id) (hs.contains 1000000) hs P L dr (Q .normal) st := by
  show mreg P (Hh r hs id) L.toArray dr (Q .normal) st = _
  unfold mreg Hh
  by_cases h : [r].contains id = true
  · rw [if_pos h, h]
    by_cases h2 : hs.contains 1000000 = true
    · rw [if_pos h2, h2]
      refine congrArg (fun K => wk P K st) (funext fun s => ?_)
      exact brun_eq L 0 s rfl
    · rw [if_neg h2, Bool.eq_false_iff.2 h2]
      exact brun_eq L 0 st rfl
  · rw [if_neg h, if_neg (by simp), Bool.eq_false_iff.2 h, regH_f]
    exact brun_eq L 0 st rfl
theorem seqK_n {K : St → Prop} : seqK K Q .normal = K := rfl
theorem seqK_e {K : St → Prop} {i : Nat} : seqK K Q (.exit i) = Q (.exit i) := rfl
theorem seqK_r {K : St → Prop} : seqK K Q .ret = Q .ret := rfl
theorem blkK_n {i : Nat} : blkK i Q .normal = Q .normal := rfl
theorem blkK_r {i : Nat} : blkK i Q .ret = Q .ret := rfl
theorem blkK_e {i j : Nat} : blkK i Q (.exit j) = if j = i then Q .normal else Q (.exit j) := rfl
theorem loopK_n {I : Nat → St → Prop} {n : Nat} : loopK P I n Q .normal st = ∃ m s', Weak P st s' ∧ m < n ∧ I m s' := rfl
theorem loopK_e {I : Nat → St → Prop} {n i : Nat} : loopK P I n Q (.exit i) = wk P (Q (.exit i)) := rfl
theorem loopK_r {I : Nat → St → Prop} {n : Nat} : loopK P I n Q .ret = Q .ret := rfl
theorem endW_n {rs : List ResultVar} {r : PV} {bo : List (List PV)} : endW P rs r bo .normal st = wk P (retK P rs r bo) st := rfl
theorem endW_r {rs : List ResultVar} {r : PV} {bo : List (List PV)} : endW P rs r bo .ret st = wk P (retK P rs r bo) st := rfl
theorem endK_n {rs : List ResultVar} {r : PV} {bo : List (List PV)} : endK P rs r bo .normal st = retK P rs r bo st := rfl
theorem endK_r {rs : List ResultVar} {r : PV} {bo : List (List PV)} : endK P rs r bo .ret st = retK P rs r bo st := rfl
end

def St.strip1 (st : St) (s : Nat) : St := ⟨fun t => if t = s then (st.tm t).bT else st.tm t, st.bx⟩
theorem tm_strip1 (st : St) (s t : Nat) : (st.strip1 s).tm t = if t = s then (st.tm t).bT else st.tm t := rfl
theorem bx_strip1 (st : St) (s : Nat) : (st.strip1 s).bx = st.bx := rfl
theorem strip_nil (st : St) : st.strip [] = st := by simp [St.strip]
theorem strip_one (st : St) (s : Nat) : st.strip [s] = st.strip1 s := by simp [St.strip, St.strip1]
theorem strip_two (st : St) (s t : Nat) : st.strip [s, t] = (st.strip1 s).strip1 t := by
  have hT : ∀ x : PV, x.bT.bT = x.bT := by
    have hC : ∀ y : PV, y.bC.bC = y.bC := by intro y; cases y <;> rfl
    have hV : ∀ y : PV, y.bV.bV = y.bV := by
      intro y
      cases y <;> first | rfl | exact hC _ | skip
      simp only [PV.bV, List.map_map]
      congr 1
      apply List.map_congr_left
      intro y _; exact hC y
    intro x
    cases x
    case agg l => exact hV (.agg l)
    case tup l =>
      simp only [PV.bT, List.map_map]
      congr 1
      apply List.map_congr_left
      intro y _; exact hV y
    all_goals rfl
  unfold St.strip St.strip1
  congr 1
  funext u
  by_cases h1 : u = s <;> by_cases h2 : u = t
  · subst h1; subst h2; simp [hT]
  · subst h1; simp [h2]
  · subst h2; simp [h1]
  · simp [h1, h2]
theorem tmps_nil : tmpsOf [] = [] := rfl
theorem tmps_t (t : Nat) (xs : List Operand) : tmpsOf (.tmp t :: xs) = t :: tmpsOf xs := rfl
theorem tmps_c (v : Value) (xs : List Operand) : tmpsOf (.const v :: xs) = tmpsOf xs := rfl
theorem tmps_f (f : Nat) (xs : List Operand) : tmpsOf (.func f :: xs) = tmpsOf xs := rfl
theorem bT_d (x : PD) : PV.bT (.d x) = .d x := rfl
theorem bT_own (e sz : Nat) (l : List PD) : PV.bT (.own e sz l) = .d (.sl sz l) := rfl
theorem bT_nil : PV.bT .nilS = .nilS := rfl
theorem bT_nn (sz : Nat) (l : List PD) : PV.bT (.nn sz l) = .nn sz l := rfl
theorem bT_ptr (b : BN) (o : Nat) : PV.bT (.ptr b o) = .ptr b o := rfl
theorem bT_eptr (cs : List PD) : PV.bT (.eptr cs) = .eptr cs := rfl
theorem evConv2_i {P : Program} {s t : TypeId} {k : IntKind} {n : Int} : evConv2 P s t (.d (.int k n)) = evConv P t (.d (.int k n)) := rfl
theorem evConv2_s {P : Program} {s t : TypeId} {l : List UInt8} : evConv2 P s t (.d (.str l)) = evConv P t (.d (.str l)) := rfl
theorem bT_rsv (b : BN) (sz n : Nat) : PV.bT (.rsv b sz n) = .rsv b sz n := rfl
theorem bT_q (x : PD) : PV.bT (.q x) = .q x := rfl
theorem bT_zs (x : PD) : PV.bT (.zs x) = .zs x := rfl
theorem bT_zp (x : List PD) : PV.bT (.zp x) = .zp x := rfl
theorem bT_rsl (b : BN) (e sz n : Nat) : PV.bT (.rsl b e sz n) = .rsl b e sz n := rfl
theorem bT_clo (f : Nat) (c : List PV) : PV.bT (.clo f c) = .clo f c := rfl
theorem bT_one : PV.bT .one = .one := rfl
theorem bT_er (b : Bool) : PV.bT (.er b) = .er b := rfl
theorem bT_efn (K : List PD → Option PD) : PV.bT (.efn K) = .efn K := rfl
theorem bT_dp (x : PD) : PV.bT (.dp x) = .d x := rfl
theorem bT_fn (K : List PD → Option PD) : PV.bT (.fn K) = .fn K := rfl
theorem bT_junk : PV.bT .junk = .junk := rfl
theorem bT_und : PV.bT .und = .und := rfl
theorem bT_agg (l : List PV) : PV.bT (.agg l) = .agg (l.map PV.bC) := rfl
theorem bT_tup (l : List PV) : PV.bT (.tup l) = .tup (l.map PV.bV) := rfl
theorem ev_t (st : St) (t : Nat) : st.ev (.tmp t) = st.tm t := rfl
theorem ev_f (st : St) (f : Nat) : st.ev (.func f) = .clo f [] := rfl
theorem ev_int (st : St) (k : IntKind) (n : Int) : st.ev (.const (.int k n)) = .d (.int k n) := rfl
theorem ev_bool (st : St) (b : Bool) : st.ev (.const (.bool b)) = .d (.bool b) := rfl
theorem ev_nil (st : St) : st.ev (.const (.slice none 0 0)) = .nilS := rfl
theorem ev_str (st : St) (l : List UInt8) (h : l.length ≤ 140737488355328) : st.ev (.const (.string ⟨l.toArray⟩)) = .d (.str l) := by
  show (if _ then _ else _) = _
  rw [if_pos (by simpa using h)]
theorem mvd_t (x : PV) : mvd true x = x := rfl
theorem mvd_f (x : PV) : mvd false x = x.bT := rfl
theorem getD_0 (x : PV) (l : List PV) (y : PV) : (x :: l).getD 0 y = x := rfl
theorem getD_s (x : PV) (l : List PV) (n : Nat) (y : PV) : (x :: l).getD (n + 1) y = l.getD n y := by simp
theorem getD_n (n : Nat) (y : PV) : ([] : List PV).getD n y = y := by simp
theorem mvs_nil (st : St) (b : Bool) : st.mvs b [] = st := by cases b <;> simp [mvs_true, mvs_false, tmps_nil, strip_nil]
theorem mvs_c (st : St) (b : Bool) (v : Value) : st.mvs b [.const v] = st := by cases b <;> simp [mvs_true, mvs_false, tmps_nil, tmps_c, strip_nil]
theorem mvs_t1 (st : St) (s : Nat) : st.mvs true [.tmp s] = st.strip1 s := by simp [mvs_true, tmps_t, tmps_nil, strip_one]
theorem ret_1 {P : Program} {t : Nat} {r : PV} {st : St} : retK P [.tmp t] r [] st = ((st.tm t).gives2 = true ∧ st.tm t = r ∧ ∀ k, st.bx (.a k) = none) := by
  rw [eq_iff_iff]
  constructor
  · rintro ⟨xs, hx, -, -, hg, hr, hb, -⟩
    simp [resAll, resOf] at hx
    subst hx
    simp [resPV] at hg hr
    exact ⟨hg, hr, fun k => by simpa using hb k⟩
  · rintro ⟨hg, hr, hb⟩
    exact ⟨_, rfl, rfl, by simp, by simpa using hg, by simpa [resPV] using hr, fun k => by simpa using hb k, by simp⟩
theorem ret_2 {P : Program} {t u : Nat} {r : PV} {st : St} : retK P [.tmp t, .tmp u] r [] st = (t ≠ u ∧ (st.tm t).gives2 = true ∧ (st.tm u).gives2 = true ∧ .tup [st.tm t, st.tm u] = r ∧ ∀ k, st.bx (.a k) = none) := by
  rw [eq_iff_iff]
  constructor
  · rintro ⟨xs, hx, -, hn, hg, hr, hb, -⟩
    simp [resAll, resOf] at hx
    subst hx
    simp [resPV] at hg hr hn
    exact ⟨hn, hg.1, hg.2, hr, fun k => by simpa using hb k⟩
  · rintro ⟨hn, hg, hg2, hr, hb⟩
    exact ⟨_, rfl, rfl, by simpa using hn, by simpa using ⟨hg, hg2⟩, by simpa [resPV] using hr, fun k => by simpa using hb k, by simp⟩
theorem ret_3 {P : Program} {t u q : Nat} {r : PV} {st : St} : retK P [.tmp t, .tmp u, .tmp q] r [] st = (t ≠ u ∧ t ≠ q ∧ u ≠ q ∧ (st.tm t).gives2 = true ∧ (st.tm u).gives2 = true ∧ (st.tm q).gives2 = true ∧ .tup [st.tm t, st.tm u, st.tm q] = r ∧ ∀ k, st.bx (.a k) = none) := by
  rw [eq_iff_iff]
  constructor
  · rintro ⟨xs, hx, -, hn, hg, hr, hb, -⟩
    simp [resAll, resOf] at hx
    subst hx
    simp [resPV] at hg hr hn
    exact ⟨hn.1.1, hn.1.2, hn.2, hg.1, hg.2.1, hg.2.2, hr, fun k => by simpa using hb k⟩
  · rintro ⟨hn, hn2, hn3, hg, hg2, hg3, hr, hb⟩
    exact ⟨_, rfl, rfl, by simp [hn, hn2, hn3], by simp [hg, hg2, hg3], by simpa [resPV] using hr, fun k => by simpa using hb k, by simp⟩
def cellK (P : Program) (t : TypeId) (x : PV) (B : Bx) (k : List PV → Prop) : Prop := match x with
  | .ptr (.t n) 0 => match B (.t n), tyi P t with
    | some cells, some i => i.agg = true ∧ cells.length = i.sz ∧ k cells
    | _, _ => False
  | _ => False
theorem ret_c1 {P : Program} {a : Nat} {t : TypeId} {r : PV} {st : St} : retK P [.cell a t] r [] st = cellK P t (st.tm a) st.bx fun cells => cells.all PV.gives1 = true ∧ .agg cells = r ∧ ∀ k, st.bx (.a k) = none := by
  rw [eq_iff_iff]
  constructor
  · rintro ⟨xs, hx, hf, -, hg, hr, hb, -⟩
    simp only [resAll, resOf, cellsFit] at hx hf
    unfold cellK
    split at hx
    · rename_i n hn
      rw [hn] at hf
      simp only at hf
      cases hB : st.bx (.t n) with
      | none => simp [hB] at hx
      | some cells =>
        simp only [hB] at hf
        cases hti : tyi P t with
        | none => simp [hti] at hf
        | some i =>
          simp [hB, hti] at hx hf
          subst hx
          simp [hn, hB]
          simp [resPV] at hg hr
          exact ⟨hf.1, hf.2, by simpa [PV.gives2] using hg, hr, fun k => by simpa using hb k⟩
    · simp at hx
  · intro h
    unfold cellK at h
    split at h
    · rename_i n hn
      split at h
      · rename_i cells i hB hti
        obtain ⟨h1, h2, h3, h4, h5⟩ := h
        exact ⟨[(.b (.t n), .agg cells)], by simp [resAll, resOf, hn, hB], by simp [cellsFit, hn, hB, hti, h1, h2], by simp, by simpa [PV.gives2] using h3, by simpa [resPV] using h4, fun k => by simpa using h5 k, by simp⟩
      · exact h.elim
    · exact h.elim
theorem ret_0 {P : Program} {r : PV} {st : St} : retK P [] r [] st = (.tup [] = r ∧ ∀ k, st.bx (.a k) = none) := by
  rw [eq_iff_iff]
  constructor
  · rintro ⟨xs, hx, -, hn, hg, hr, hb, -⟩
    simp [resAll] at hx
    subst hx
    exact ⟨hr, fun k => by simpa using hb k⟩
  · rintro ⟨hr, hb⟩
    exact ⟨_, rfl, rfl, by simp, by simp, hr, fun k => by simpa using hb k, by simp⟩
theorem bxOf_nil (b : BN) : bxOf [] b = none := by cases b <;> simp [bxOf]
theorem g2_d (x : PD) : PV.gives2 (.d x) = true := rfl
theorem g2_own (e sz : Nat) (l : List PD) : PV.gives2 (.own e sz l) = true := rfl
theorem g2_nil : PV.gives2 .nilS = true := rfl
theorem g2_nn (sz : Nat) (l : List PD) : PV.gives2 (.nn sz l) = true := rfl
theorem g2_agg (l : List PV) : PV.gives2 (.agg l) = l.all PV.gives1 := rfl
theorem g1_d (x : PD) : PV.gives1 (.d x) = true := rfl
theorem g1_own (e sz : Nat) (l : List PD) : PV.gives1 (.own e sz l) = true := rfl
theorem g1_nil : PV.gives1 .nilS = true := rfl
theorem g1_nn (sz : Nat) (l : List PD) : PV.gives1 (.nn sz l) = true := rfl
theorem wrap_in (x : Int) (h1 : -9223372036854775808 ≤ x) (h2 : x ≤ 9223372036854775807) : IntKind.i64.wrap x = x := IntWalk.i64_in x ⟨h1, h2⟩

section
variable {P : Program} {H : Nat → List Nat} {st st' : St}
@[congr] theorem bwp_congr {c : Code} {Q : Ex → St → Prop} (h : st = st') : bwp P H c Q st = bwp P H c Q st' := by rw [h]
@[congr] theorem brun_congr {L : List Oper} {hs : List Nat} {dr : Bool} {l : List Oper} {i : Nat} {Q : St → Prop} (h : st = st') : brun P L hs dr l i Q st = brun P L hs dr l i Q st' := by rw [h]
@[congr] theorem brun1_congr {L : List Oper} {hs : List Nat} {dr : Bool} {o : Oper} {l : List Oper} {i : Nat} {Q : St → Prop} (h : st = st') : brun1 P L hs dr o l i Q st = brun1 P L hs dr o l i Q st' := by rw [h]
@[congr] theorem bcallD_congr {inn : Option (List BN)} {fl : AF} {o : Oper} {K : St → Prop} (h : st = st') : bcallD P inn fl o K st = bcallD P inn fl o K st' := by rw [h]
@[congr] theorem bloop_congr {F : (Ex → St → Prop) → St → Prop} {Q : Ex → St → Prop} (h : st = st') : bloop P F Q st = bloop P F Q st' := by rw [h]
@[congr] theorem wk_congr {K : St → Prop} (h : st = st') : wk P K st = wk P K st' := by rw [h]
@[congr] theorem seqK_congr {K : St → Prop} {Q : Ex → St → Prop} {e : Ex} (h : st = st') : seqK K Q e st = seqK K Q e st' := by rw [h]
@[congr] theorem blkK_congr {i : Nat} {Q : Ex → St → Prop} {e : Ex} (h : st = st') : blkK i Q e st = blkK i Q e st' := by rw [h]
@[congr] theorem loopK_congr {I : Nat → St → Prop} {n : Nat} {Q : Ex → St → Prop} {e : Ex} (h : st = st') : loopK P I n Q e st = loopK P I n Q e st' := by rw [h]
@[congr] theorem endW_congr {rs : List ResultVar} {r : PV} {bo : List (List PV)} {e : Ex} (h : st = st') : endW P rs r bo e st = endW P rs r bo e st' := by rw [h]
@[congr] theorem endK_congr {rs : List ResultVar} {r : PV} {bo : List (List PV)} {e : Ex} (h : st = st') : endK P rs r bo e st = endK P rs r bo e st' := by rw [h]
@[congr] theorem retK_congr {rs : List ResultVar} {r : PV} {bo : List (List PV)} (h : st = st') : retK P rs r bo st = retK P rs r bo st' := by rw [h]
@[congr] theorem optK_congr {r r' : Option PV} {k : PV → Prop} (h : r = r') : optK r k = optK r' k := by rw [h]
@[congr] theorem bcond_congr {c c' : PV} {A B : Prop} (h : c = c') : bcond c A B = bcond c' A B := by rw [h]
@[congr] theorem bgd_congr {c c' : Option PV} {w : Bool} {A B : Prop} (h : c = c') : bgd c w A B = bgd c' w A B := by rw [h]
def allocK2 (i : Option TI) (be : Bool) (old : Option (List PV)) (k : List PV → Prop) : Prop := match i with
  | some i => be = true ∧ old = none ∧ i.zero ≠ [] ∧ i.zero.all (fun x => !x.isJunk) = true ∧ k i.zero
  | none => False
theorem allocK_1 {t : TypeId} {be : Bool} {old : Option (List PV)} {k : List PV → Prop} : allocK P t be old k = allocK2 (tyi P t) be old k := rfl
theorem allocK_2 {i : TI} {be : Bool} {old : Option (List PV)} {k : List PV → Prop} : allocK2 (some i) be old k = (be = true ∧ old = none ∧ i.zero ≠ [] ∧ i.zero.all (fun x => !x.isJunk) = true ∧ k i.zero) := rfl
@[congr] theorem allocK_congr {t : TypeId} {be : Bool} {old : Option (List PV)} {k : List PV → Prop} : allocK P t be old k = allocK P t be old k := rfl
@[congr] theorem allocK2_congr {i i' : Option TI} {be : Bool} {old : Option (List PV)} {k : List PV → Prop} (h2 : i = i') : allocK2 i be old k = allocK2 i' be old k := by rw [h2]
def boxK2 (c : Option (List PV)) (be : Bool) (old : Option (List PV)) (k : List PV → Prop) : Prop := match c with
  | some c => be = true ∧ old = none ∧ k c
  | none => False
theorem boxK_1 {be : Bool} {old : Option (List PV)} {x : PV} {k : List PV → Prop} : boxK be old x k = boxK2 (pvCells x) be old k := rfl
theorem boxK_2 {c : List PV} {be : Bool} {old : Option (List PV)} {k : List PV → Prop} : boxK2 (some c) be old k = (be = true ∧ old = none ∧ k c) := rfl
@[congr] theorem boxK_congr {be : Bool} {old : Option (List PV)} {x x' : PV} {k : List PV → Prop} (h3 : x = x') : boxK be old x k = boxK be old x' k := by rw [h3]
@[congr] theorem boxK2_congr {be : Bool} {old : Option (List PV)} {c c' : Option (List PV)} {k : List PV → Prop} (h3 : c = c') : boxK2 c be old k = boxK2 c' be old k := by rw [h3]
def loadK3 (mv bt be : Bool) (r : Option PV) (c : List PV) (b : BN) (k : PV → Option (BN × List PV) → Prop) : Prop := match r with
  | some r => if mv = true then be = true ∧ k r (some (b, c)) else (bt = true ∨ be = true) ∧ k r.bV none
  | none => False
def loadK2 (mv bt be : Bool) (cells : Option (List PV)) (i : Option TI) (b : BN) (off : Nat) (k : PV → Option (BN × List PV) → Prop) : Prop := match cells, i with
  | some cells, some i => loadK3 mv bt be (bxRead cells off i.sz i.agg) (stripAt cells off (if i.agg then i.sz else 1)) b k
  | _, _ => False
theorem loadK_1 {t : TypeId} {mv bt be : Bool} {b : BN} {off : Nat} {B : Bx} {k : PV → Option (BN × List PV) → Prop} : loadK P t mv bt be (.ptr b off) B k = loadK2 mv bt be (B b) (tyi P t) b off k := rfl
theorem loadK_2 {mv bt be : Bool} {cells : List PV} {i : TI} {b : BN} {off : Nat} {k : PV → Option (BN × List PV) → Prop} : loadK2 mv bt be (some cells) (some i) b off k = loadK3 mv bt be (bxRead cells off i.sz i.agg) (stripAt cells off (if i.agg then i.sz else 1)) b k := rfl
theorem loadK_3t {bt be : Bool} {r : PV} {c : List PV} {b : BN} {k : PV → Option (BN × List PV) → Prop} : loadK3 true bt be (some r) c b k = (be = true ∧ k r (some (b, c))) := rfl
theorem loadK_3ok {bt be : Bool} {r : PV} {c : List PV} {b : BN} {k : PV → Option (BN × List PV) → Prop} (h : bt = true ∨ be = true) : loadK3 false bt be (some r) c b k = k r.bV none := by
  show ((bt = true ∨ be = true) ∧ k r.bV none) = _
  simp [h]
theorem loadK_3f {bt be : Bool} {r : PV} {c : List PV} {b : BN} {k : PV → Option (BN × List PV) → Prop} : loadK3 false bt be (some r) c b k = ((bt = true ∨ be = true) ∧ k r.bV none) := rfl
@[congr] theorem loadK_congr {t : TypeId} {mv bt be : Bool} {x x' : PV} {B : Bx} {k : PV → Option (BN × List PV) → Prop} (h3 : x = x') : loadK P t mv bt be x B k = loadK P t mv bt be x' B k := by rw [h3]
@[congr] theorem loadK2_congr {mv bt be : Bool} {cells cells' : Option (List PV)} {i i' : Option TI} {b : BN} {off : Nat} {k : PV → Option (BN × List PV) → Prop} (h1 : cells = cells') (h2 : i = i') : loadK2 mv bt be cells i b off k = loadK2 mv bt be cells' i' b off k := by rw [h1, h2]
@[congr] theorem loadK3_congr {mv mv' bt be : Bool} {r r' : Option PV} {c c' : List PV} {b : BN} {k : PV → Option (BN × List PV) → Prop} (h1 : mv = mv') (h2 : r = r') (h3 : c = c') : loadK3 mv bt be r c b k = loadK3 mv' bt be r' c' b k := by rw [h1, h2, h3]
def storeK2 (be : Bool) (cells : Option (List PV)) (i : Option TI) (new : Option (List PV)) (off : Nat) (k : List PV → Prop) : Prop := match cells, i, new with
  | some cells, some i, some new => be = true ∧ new.length = i.sz ∧ off + new.length ≤ cells.length ∧ k (cells.take off ++ new ++ cells.drop (off + new.length))
  | _, _, _ => False
theorem storeK_1 {t : TypeId} {be : Bool} {b : BN} {off : Nat} {y : PV} {B : Bx} {k : BN → List PV → Prop} {kz : Prop} : storeK P t be (.ptr b off) y B k kz = storeK2 be (B b) (tyi P t) (pvCells y) off (k b) := rfl
theorem storeK_2 {be : Bool} {cells new : List PV} {i : TI} {off : Nat} {k : List PV → Prop} : storeK2 be (some cells) (some i) (some new) off k = (be = true ∧ new.length = i.sz ∧ off + new.length ≤ cells.length ∧ k (cells.take off ++ new ++ cells.drop (off + new.length))) := rfl
def storeZ (be : Bool) (i : Option TI) (new : Option (List PV)) (cs : List PD) (kz : Prop) : Prop := match i, new with
  | some i, some new => be = true ∧ new.length = i.sz ∧ 0 < new.length ∧ zfit new cs = true ∧ kz
  | _, _ => False
theorem storeK_z {t : TypeId} {be : Bool} {cs : List PD} {y : PV} {B : Bx} {k : BN → List PV → Prop} {kz : Prop} : storeK P t be (.zp cs) y B k kz = storeZ be (tyi P t) (pvCells y.bT) cs kz := rfl
theorem storeZ_2 {be : Bool} {new : List PV} {i : TI} {cs : List PD} {kz : Prop} : storeZ be (some i) (some new) cs kz = (be = true ∧ new.length = i.sz ∧ 0 < new.length ∧ zfit new cs = true ∧ kz) := rfl
@[congr] theorem storeZ_congr {be : Bool} {i i' : Option TI} {new new' : Option (List PV)} {cs : List PD} {kz : Prop} (h2 : i = i') (h3 : new = new') : storeZ be i new cs kz = storeZ be i' new' cs kz := by rw [h2, h3]
@[congr] theorem storeK_congr {t : TypeId} {be : Bool} {x x' y y' : PV} {B : Bx} {k : BN → List PV → Prop} {kz : Prop} (h2 : x = x') (h3 : y = y') : storeK P t be x y B k kz = storeK P t be x' y' B k kz := by rw [h2, h3]
@[congr] theorem storeK2_congr {be : Bool} {cells cells' : Option (List PV)} {i i' : Option TI} {new new' : Option (List PV)} {off : Nat} {k : List PV → Prop} (h1 : cells = cells') (h2 : i = i') (h3 : new = new') : storeK2 be cells i new off k = storeK2 be cells' i' new' off k := by rw [h1, h2, h3]
def makeTI (P : Program) (t : TypeId) : Option (TypeId × TI) := (tyi P t).bind fun i => i.el.bind fun e => (tyi P e).map fun te => (e, te)
def makeK2 (d : Nat) (be : Bool) (n m : Int) (old : Option (List PV)) (q : Option (TypeId × TI)) (k : PV → List PV → Prop) : Prop := match q with
  | some (e, te) => be = true ∧ old = none ∧ n = m ∧ 0 ≤ n ∧ n ≤ 140737488355328 ∧ (te.by_ : Int) * n ≤ 281474976710656 ∧ te.zero.length = te.sz ∧ 0 < te.sz ∧ te.zero.all (fun x => !x.isJunk) = true ∧ k (.rsl (.t d) e te.sz n.toNat) (List.replicate n.toNat te.zero).flatten
  | none => False
theorem makeK_1 {t : TypeId} {d : Nat} {be : Bool} {k1 k2 : IntKind} {n m : Int} {old : Option (List PV)} {k : PV → List PV → Prop} : makeK P t d be (.d (.int k1 n)) (.d (.int k2 m)) old k = makeK2 d be n m old (makeTI P t) k := by
  unfold makeK makeK2 makeTI
  cases tyi P t with
  | none => rfl
  | some i =>
    simp only [Option.bind_some]
    cases i.el with
    | none => rfl
    | some e =>
      simp only [Option.bind_some]
      cases tyi P e <;> rfl
theorem makeK_2 {d : Nat} {be : Bool} {n m : Int} {old : Option (List PV)} {e : TypeId} {te : TI} {k : PV → List PV → Prop} : makeK2 d be n m old (some (e, te)) k = (be = true ∧ old = none ∧ n = m ∧ 0 ≤ n ∧ n ≤ 140737488355328 ∧ (te.by_ : Int) * n ≤ 281474976710656 ∧ te.zero.length = te.sz ∧ 0 < te.sz ∧ te.zero.all (fun x => !x.isJunk) = true ∧ k (.rsl (.t d) e te.sz n.toNat) (List.replicate n.toNat te.zero).flatten) := rfl
@[congr] theorem makeK_congr {t : TypeId} {d : Nat} {be : Bool} {x x' y y' : PV} {old : Option (List PV)} {k : PV → List PV → Prop} (h2 : x = x') (h3 : y = y') : makeK P t d be x y old k = makeK P t d be x' y' old k := by rw [h2, h3]
@[congr] theorem makeK2_congr {d : Nat} {be : Bool} {n m : Int} {old : Option (List PV)} {q q' : Option (TypeId × TI)} {k : PV → List PV → Prop} (h : q = q') : makeK2 d be n m old q k = makeK2 d be n m old q' k := by rw [h]
def cellK2 (cells : Option (List PV)) (i : Option TI) (k : List PV → Prop) : Prop := match cells, i with
  | some cells, some i => i.agg = true ∧ cells.length = i.sz ∧ k cells
  | _, _ => False
theorem cellK_1 {t : TypeId} {n : Nat} {B : Bx} {k : List PV → Prop} : cellK P t (.ptr (.t n) 0) B k = cellK2 (B (.t n)) (tyi P t) k := rfl
theorem cellK_2 {cells : List PV} {i : TI} {k : List PV → Prop} : cellK2 (some cells) (some i) k = (i.agg = true ∧ cells.length = i.sz ∧ k cells) := rfl
@[congr] theorem cellK_congr {t : TypeId} {x x' : PV} {B : Bx} {k : List PV → Prop} (h : x = x') : cellK P t x B k = cellK P t x' B k := by rw [h]
@[congr] theorem cellK2_congr {cells cells' : Option (List PV)} {i i' : Option TI} {k : List PV → Prop} (h1 : cells = cells') (h2 : i = i') : cellK2 cells i k = cellK2 cells' i' k := by rw [h1, h2]
end

def mvF (l : List Oper) (hs : List Nat) (d i : Nat) : Bool := l.any (fun q => consumesT q d) || hs.contains i
def drF (dr x : Bool) : Bool := !dr || x
def gdst (L : List Oper) (j : Nat) (st : St) : Option PV := ((L[j]?).bind (·.dst)).map st.tm
@[congr] theorem mvF_congr {l : List Oper} {hs : List Nat} {d i : Nat} : mvF l hs d i = mvF l hs d i := rfl
@[congr] theorem drF_congr {dr x : Bool} : drF dr x = drF dr x := rfl
@[congr] theorem gdst_congr {L : List Oper} {j : Nat} {st st' : St} (h : st = st') : gdst L j st = gdst L j st' := by rw [h]
@[congr] theorem flagBt_congr {P : Program} {l : List Oper} {i : Nat} : flagBt P l i = flagBt P l i := rfl
@[congr] theorem flagBe_congr {P : Program} {l : List Oper} {hs : List Nat} {i : Nat} : flagBe P l hs i = flagBe P l hs i := rfl
theorem drF_f (x : Bool) : drF false x = true := rfl
theorem drF_t (x : Bool) : drF true x = x := by cases x <;> rfl
theorem gdst_0 {d : Nat} {op : Op} {ty : TypeId} {pos : String} {af : Array Edge} {g : Option (Nat × Bool)} {L : List Oper} {st : St} : gdst (⟨some d, op, ty, pos, af, g⟩ :: L) 0 st = some (st.tm d) := rfl
theorem gdst_s {o : Oper} {L : List Oper} {j : Nat} {st : St} : gdst (o :: L) (j + 1) st = gdst L j st := rfl
theorem mvF_nil {hs : List Nat} {d i : Nat} : mvF [] hs d i = hs.contains i := by simp [mvF]
section
variable {dd : Option Nat} {ty : TypeId} {pos : String} {af : Array Edge} {g : Option (Nat × Bool)} {l : List Oper} {hs : List Nat} {d i : Nat}
theorem mvF_0 {x : Operand} : mvF (⟨dd, .move x, ty, pos, af, g⟩ :: l) hs d i = mvF l hs d i := by simp [mvF, consumesT]
theorem mvF_1 {op : BinOp} {t yt : TypeId} {x y : Operand} : mvF (⟨dd, .binOp op t x y yt, ty, pos, af, g⟩ :: l) hs d i = mvF l hs d i := by simp [mvF, consumesT]
theorem mvF_2 {op : UnOp} {t : TypeId} {x : Operand} : mvF (⟨dd, .unOp op t x, ty, pos, af, g⟩ :: l) hs d i = mvF l hs d i := by simp [mvF, consumesT]
theorem mvF_3 {s t : TypeId} {x : Operand} : mvF (⟨dd, .convert s t x, ty, pos, af, g⟩ :: l) hs d i = mvF l hs d i := by simp [mvF, consumesT]
theorem mvF_4 {t : TypeId} {x : Operand} {f : Nat} : mvF (⟨dd, .fieldAddr t x f, ty, pos, af, g⟩ :: l) hs d i = mvF l hs d i := by simp [mvF, consumesT]
theorem mvF_5 {t : TypeId} {x : Operand} {f : Nat} : mvF (⟨dd, .field t x f, ty, pos, af, g⟩ :: l) hs d i = mvF l hs d i := by simp [mvF, consumesT]
theorem mvF_6 {t : TypeId} {x y : Operand} : mvF (⟨dd, .indexAddr t x y, ty, pos, af, g⟩ :: l) hs d i = mvF l hs d i := by simp [mvF, consumesT]
theorem mvF_7 {t : TypeId} {x y : Operand} : mvF (⟨dd, .index t x y, ty, pos, af, g⟩ :: l) hs d i = mvF l hs d i := by simp [mvF, consumesT]
theorem mvF_8 {t : TypeId} {parts : Array (Nat × Operand)} : mvF (⟨dd, .build t parts, ty, pos, af, g⟩ :: l) hs d i = mvF l hs d i := by simp [mvF, consumesT]
theorem mvF_9 {t : TypeId} {n : Nat} {parts : Array (Nat × Operand)} : mvF (⟨dd, .buildSlice t n parts, ty, pos, af, g⟩ :: l) hs d i = mvF l hs d i := by simp [mvF, consumesT]
theorem mvF_10 {t : TypeId} {x : Operand} {lo hi mx : Option Operand} : mvF (⟨dd, .slice t x lo hi mx, ty, pos, af, g⟩ :: l) hs d i = mvF l hs d i := by simp [mvF, consumesT]
theorem mvF_11 {c x y : Operand} : mvF (⟨dd, .pick c x y, ty, pos, af, g⟩ :: l) hs d i = mvF l hs d i := by simp [mvF, consumesT]
theorem mvF_12 {x : Operand} : mvF (⟨dd, .nilCheck x, ty, pos, af, g⟩ :: l) hs d i = mvF l hs d i := by simp [mvF, consumesT]
theorem mvF_13 {t : TypeId} : mvF (⟨dd, .alloc t, ty, pos, af, g⟩ :: l) hs d i = mvF l hs d i := by simp [mvF, consumesT]
theorem mvF_14 {t : TypeId} {x : Operand} : mvF (⟨dd, .load t x, ty, pos, af, g⟩ :: l) hs d i = mvF l hs d i := by simp [mvF, consumesT]
theorem mvF_15 {t : TypeId} {x y : Operand} : mvF (⟨dd, .makeSlice t x y, ty, pos, af, g⟩ :: l) hs d i = mvF l hs d i := by simp [mvF, consumesT]
theorem mvF_16 {v : Value} : mvF (⟨dd, .assign (.const v), ty, pos, af, g⟩ :: l) hs d i = mvF l hs d i := by simp [mvF, consumesT]
theorem mvF_17 {t : TypeId} {x : Operand} {v : Value} : mvF (⟨dd, .store t x (.const v), ty, pos, af, g⟩ :: l) hs d i = mvF l hs d i := by simp [mvF, consumesT]
theorem mvF_18 {t : TypeId} {v : Value} : mvF (⟨dd, .box t (.const v), ty, pos, af, g⟩ :: l) hs d i = mvF l hs d i := by simp [mvF, consumesT]
theorem mvF_19 {X : Operand} {xs : Array Operand} {ts : Array TypeId} : mvF (⟨dd, .call ⟨.value X, xs, ts⟩, ty, pos, af, g⟩ :: l) hs d i = mvF l hs d i := by simp [mvF, consumesT]
theorem mvF_20 {xs : Array Operand} {ts : Array TypeId} : mvF (⟨dd, .call ⟨.builtin .len, xs, ts⟩, ty, pos, af, g⟩ :: l) hs d i = mvF l hs d i := by simp [mvF, consumesT]
theorem mvF_21 {xs : Array Operand} {ts : Array TypeId} : mvF (⟨dd, .call ⟨.builtin .max, xs, ts⟩, ty, pos, af, g⟩ :: l) hs d i = mvF l hs d i := by simp [mvF, consumesT]
theorem mvF_22 {xs : Array Operand} {ts : Array TypeId} : mvF (⟨dd, .call ⟨.builtin .min, xs, ts⟩, ty, pos, af, g⟩ :: l) hs d i = mvF l hs d i := by simp [mvF, consumesT]
theorem mvF_23 {v : Value} {y : Operand} {ts : Array TypeId} : mvF (⟨dd, .call ⟨.builtin .append, #[.const v, y], ts⟩, ty, pos, af, g⟩ :: l) hs d i = mvF l hs d i := by simp [mvF, consumesT]
theorem mvF_c0 {u : Nat}  : mvF (⟨dd, .assign (.tmp u), ty, pos, af, g⟩ :: l) hs d i = (u == d || mvF l hs d i) := by simp [mvF, consumesT, Bool.or_assoc]
theorem mvF_c1 {u : Nat} {t : TypeId} {x : Operand} : mvF (⟨dd, .store t x (.tmp u), ty, pos, af, g⟩ :: l) hs d i = (u == d || mvF l hs d i) := by simp [mvF, consumesT, Bool.or_assoc]
theorem mvF_c2 {u : Nat} {t : TypeId} : mvF (⟨dd, .box t (.tmp u), ty, pos, af, g⟩ :: l) hs d i = (u == d || mvF l hs d i) := by simp [mvF, consumesT, Bool.or_assoc]
theorem mvF_c3 {u : Nat} {k : Nat} : mvF (⟨dd, .extract (.tmp u) k, ty, pos, af, g⟩ :: l) hs d i = (u == d || mvF l hs d i) := by simp [mvF, consumesT, Bool.or_assoc]
theorem mvF_c4 {u : Nat} {y : Operand} {ts : Array TypeId} : mvF (⟨dd, .call ⟨.builtin .append, #[.tmp u, y], ts⟩, ty, pos, af, g⟩ :: l) hs d i = (u == d || mvF l hs d i) := by simp [mvF, consumesT, Bool.or_assoc]
theorem mvF_fn {f : Fn} {ts : Array Operand} {caps : Array Operand} : mvF (⟨dd, .makeFunc f ts caps, ty, pos, af, g⟩ :: l) hs d i = mvF l hs d i := by simp [mvF, consumesT]
end
section
variable {P : Program} {L : List Oper} {hs : List Nat} {dr : Bool} {l : List Oper} {i : Nat} {Q : St → Prop} {st : St} {d : Nat} {ty : TypeId} {pos : String} {af : Array Edge} {g : Option (Nat × Bool)}
theorem r_move' {x : Operand} : brun1 P L hs dr ⟨some d, .move x, ty, pos, af, g⟩ l i Q st =
    brun P L hs dr l (i + 1) Q ((st.mvs (mvF l hs d i) [x]).put d (mvd (mvF l hs d i) (st.ev x))) := r_move
theorem r_load' {t : TypeId} {x : Operand} : brun1 P L hs dr ⟨some d, .load t x, ty, pos, af, g⟩ l i Q st =
    (okD dr (okB (baseB L x) (st.ev x)) ∧ loadK P t (mvF l hs d i) (drF dr (flagBt P L i)) (drF dr (flagBe P L hs i)) (st.ev x) st.bx fun v q => brun P L hs dr l (i + 1) Q (((st.mvs (mvF l hs d i) [x]).sbo q).put d v)) := r_load
theorem r_alloc' {t : TypeId} : brun1 P L hs dr ⟨some d, .alloc t, ty, pos, af, g⟩ l i Q st = allocK P t (drF dr (flagBe P L hs i)) (st.bx (.t d)) fun c => brun P L hs dr l (i + 1) Q ((st.sbx (.t d) c).put d (.ptr (.t d) 0)) := r_alloc
theorem r_box' {t : TypeId} {x : Operand} : brun1 P L hs dr ⟨some d, .box t x, ty, pos, af, g⟩ l i Q st = boxK (drF dr (flagBe P L hs i)) (st.bx (.t d)) (st.ev x) fun c => brun P L hs dr l (i + 1) Q (((st.strip (tmpsOf [x])).sbx (.t d) c).put d (.ptr (.t d) 0)) := r_box
theorem r_store' {t : TypeId} {x y : Operand} : brun1 P L hs dr ⟨none, .store t x y, ty, pos, af, g⟩ l i Q st =
    (okD dr (okB (baseB L x) (st.ev x)) ∧ storeK P t (drF dr (flagBe P L hs i)) (st.ev x) (st.ev y) st.bx (fun b c => brun P L hs dr l (i + 1) Q ((st.strip (tmpsOf [x, y])).sbx b c)) (brun P L hs dr l (i + 1) Q (st.strip (tmpsOf [x, y])))) := r_store
theorem brun_grd' {op : Op} {j : Nat} {w : Bool} : brun P L hs dr (⟨some d, op, ty, pos, af, some (j, w)⟩ :: l) i Q st =
    bgd (gdst L j st) w (brun1 P L hs dr ⟨some d, op, ty, pos, af, some (j, w)⟩ l i Q st) (brun P L hs dr l (i + 1) Q (st.put d .und)) := brun_grd
end

def kput (P : Program) (L : List Oper) (hs : List Nat) (dr : Bool) (l : List Oper) (i : Nat) (Q : St → Prop) (st : St) (d : Nat) (v : PV) : Prop := brun P L hs dr l (i + 1) Q (st.put d v)
def kbox (P : Program) (L : List Oper) (hs : List Nat) (dr : Bool) (l : List Oper) (i : Nat) (Q : St → Prop) (st : St) (d : Nat) (c : List PV) : Prop := brun P L hs dr l (i + 1) Q ((st.sbx (.t d) c).put d (.ptr (.t d) 0))
def kload (P : Program) (L : List Oper) (hs : List Nat) (dr : Bool) (l : List Oper) (i : Nat) (Q : St → Prop) (st : St) (d : Nat) (v : PV) (q : Option (BN × List PV)) : Prop := brun P L hs dr l (i + 1) Q ((st.sbo q).put d v)
def kE (k : PV → Option (BN × List PV) → Prop) (r : PV) : Prop := k r none
def kstz (P : Program) (L : List Oper) (hs : List Nat) (dr : Bool) (l : List Oper) (i : Nat) (Q : St → Prop) (st : St) : Prop := brun P L hs dr l (i + 1) Q st
def ksto (P : Program) (L : List Oper) (hs : List Nat) (dr : Bool) (l : List Oper) (i : Nat) (Q : St → Prop) (st : St) (b : BN) (c : List PV) : Prop := brun P L hs dr l (i + 1) Q (st.sbx b c)
def kmk (P : Program) (L : List Oper) (hs : List Nat) (dr : Bool) (l : List Oper) (i : Nat) (Q : St → Prop) (st : St) (d : Nat) (v : PV) (c : List PV) : Prop := brun P L hs dr l (i + 1) Q ((st.sbx (.t d) c).put d v)
def tRun1 (P : Program) (L : List Oper) (hs : List Nat) (dr : Bool) (o : Oper) (l : List Oper) (i : Nat) (Q : St → Prop) (st : St) (_ : Unit) : Prop := brun1 P L hs dr o l i Q st
def tRun (P : Program) (L : List Oper) (hs : List Nat) (dr : Bool) (l : List Oper) (i : Nat) (Q : St → Prop) (st : St) (_ : Unit) : Prop := brun P L hs dr l i Q st
def tW (P : Program) (H : Nat → List Nat) (c : Code) (Q : Ex → St → Prop) (st : St) (_ : Unit) : Prop := bwp P H c Q st
def bimpT (b w : Bool) (A : Unit → Prop) : Prop := b = w → A ()
def bgdT (c : Option PV) (w : Bool) (A B : Unit → Prop) : Prop := bgd c w (A ()) (B ())
def bcondT (c : PV) (A B : Unit → Prop) : Prop := bcond c (A ()) (B ())
section
variable {P : Program} {L : List Oper} {hs : List Nat} {dr : Bool} {l : List Oper} {i : Nat} {Q : St → Prop} {st : St} {d : Nat} {o : Oper} {A B : Unit → Prop}
theorem kput_eq {v : PV} : kput P L hs dr l i Q st d v = brun P L hs dr l (i + 1) Q (st.put d v) := rfl
theorem kbox_eq {c : List PV} : kbox P L hs dr l i Q st d c = brun P L hs dr l (i + 1) Q ((st.sbx (.t d) c).put d (.ptr (.t d) 0)) := rfl
theorem kload_eq {v : PV} {q : Option (BN × List PV)} : kload P L hs dr l i Q st d v q = brun P L hs dr l (i + 1) Q ((st.sbo q).put d v) := rfl
theorem kE_eq {k : PV → Option (BN × List PV) → Prop} {r : PV} : kE k r = k r none := rfl
theorem kstz_eq : kstz P L hs dr l i Q st = brun P L hs dr l (i + 1) Q st := rfl
theorem ksto_eq {b : BN} {c : List PV} : ksto P L hs dr l i Q st b c = brun P L hs dr l (i + 1) Q (st.sbx b c) := rfl
theorem kmk_eq {v : PV} {c : List PV} : kmk P L hs dr l i Q st d v c = brun P L hs dr l (i + 1) Q ((st.sbx (.t d) c).put d v) := rfl
theorem tRun1_eq {u : Unit} : tRun1 P L hs dr o l i Q st u = brun1 P L hs dr o l i Q st := rfl
theorem tRun_eq {u : Unit} : tRun P L hs dr l i Q st u = brun P L hs dr l i Q st := rfl
theorem tW_eq {H : Nat → List Nat} {c : Code} {Q : Ex → St → Prop} {u : Unit} : tW P H c Q st u = bwp P H c Q st := rfl
theorem bgdT_bt (b : Bool) : bgdT (some (.d (.bool b))) true A B = (bimpT b true A ∧ bimpT b false B) := rfl
theorem bgdT_bf (b : Bool) : bgdT (some (.d (.bool b))) false A B = (bimpT b false A ∧ bimpT b true B) := rfl
theorem bgdT_u (w : Bool) : bgdT (some .und) w A B = B () := rfl
theorem bcondT_b (b : Bool) : bcondT (.d (.bool b)) A B = (bimpT b true A ∧ bimpT b false B) := rfl
theorem bimpT_tt : bimpT true true A = A () := bimp_tt _
theorem bimpT_ff : bimpT false false A = A () := bimp_ff _
theorem bimpT_tf : bimpT true false A = True := bimp_tf _
theorem bimpT_ft : bimpT false true A = True := bimp_ft _
theorem bimpT_dt (p : Prop) [Decidable p] : bimpT (decide p) true A = (p → A ()) := bimp_dt _ _
theorem bimpT_df (p : Prop) [Decidable p] : bimpT (decide p) false A = (¬ p → A ()) := bimp_df _ _
theorem bimpT_et {α : Type} [BEq α] [LawfulBEq α] (x y : α) : bimpT (x == y) true A = (x = y → A ()) := by simp [bimpT]
theorem bimpT_ef {α : Type} [BEq α] [LawfulBEq α] (x y : α) : bimpT (x == y) false A = (x ≠ y → A ()) := by simp [bimpT]
theorem bimpT_net {α : Type} [BEq α] [LawfulBEq α] (x y : α) : bimpT (x != y) true A = (x ≠ y → A ()) := by simp [bimpT]
theorem bimpT_nef {α : Type} [BEq α] [LawfulBEq α] (x y : α) : bimpT (x != y) false A = (x = y → A ()) := by simp [bimpT]
theorem bimpT_nt (b : Bool) : bimpT (!b) true A = bimpT b false A := bimp_nt _ _
theorem bimpT_nf (b : Bool) : bimpT (!b) false A = bimpT b true A := bimp_nf _ _
theorem w_condT {H : Nat → List Nat} {Q : Ex → St → Prop} {c : Operand} {a b : Code} : bwp P H (.cond c a b) Q st = bcondT (st.ev c) (tW P H a Q st) (tW P H b Q st) := w_cond
theorem loadK_fT {t : TypeId} {mv bt be : Bool} {K : List PD → Option PD} {B : Bx} {k : PV → Option (BN × List PV) → Prop} : loadK P t mv bt be (.efn K) B k = optK ((tyi P t).bind fun i => if i.agg = true then none else some (.fn K)) (kE k) := rfl
theorem loadK_zT {t : TypeId} {mv bt be : Bool} {cs : List PD} {B : Bx} {k : PV → Option (BN × List PV) → Prop} : loadK P t mv bt be (.zp cs) B k = optK (evZLoad P t cs) (kE k) := rfl
theorem loadK_eT {t : TypeId} {mv bt be : Bool} {cs : List PD} {B : Bx} {k : PV → Option (BN × List PV) → Prop} : loadK P t mv bt be (.eptr cs) B k = optK (evELoad P t cs) (kE k) := rfl
end
section
variable {P : Program} {L : List Oper} {hs : List Nat} {dr : Bool} {l : List Oper} {i : Nat} {Q : St → Prop} {st : St} {d : Nat} {ty : TypeId} {pos : String} {af : Array Edge} {g : Option (Nat × Bool)}
theorem r_binT {op : BinOp} {t yt : TypeId} {x y : Operand} : brun1 P L hs dr ⟨some d, .binOp op t x y yt, ty, pos, af, g⟩ l i Q st = optK (evBinO P op t y (st.ev x) (st.ev y)) (kput P L hs dr l i Q (st) d) := r_bin
theorem r_unT {op : UnOp} {t : TypeId} {x : Operand} : brun1 P L hs dr ⟨some d, .unOp op t x, ty, pos, af, g⟩ l i Q st = optK (evUn op (st.ev x)) (kput P L hs dr l i Q (st) d) := r_un
theorem r_convT {s t : TypeId} {x : Operand} : brun1 P L hs dr ⟨some d, .convert s t x, ty, pos, af, g⟩ l i Q st = optK (if (tyi P s).isSome then evConv2 P s t (st.ev x) else none) (kput P L hs dr l i Q (st) d) := r_conv
theorem r_faT {t : TypeId} {x : Operand} {f : Nat} : brun1 P L hs dr ⟨some d, .fieldAddr t x f, ty, pos, af, g⟩ l i Q st = optK (evFldAddr P t f (st.ev x)) (kput P L hs dr l i Q (st) d) := r_fa
theorem r_fldT {t : TypeId} {x : Operand} {f : Nat} : brun1 P L hs dr ⟨some d, .field t x f, ty, pos, af, g⟩ l i Q st = optK (evFld P t f (st.ev x)) (kput P L hs dr l i Q (st) d) := r_fld
theorem r_iaT {t : TypeId} {x y : Operand} : brun1 P L hs dr ⟨some d, .indexAddr t x y, ty, pos, af, g⟩ l i Q st = optK (evIA P t (st.ev x) (st.ev y)) (kput P L hs dr l i Q (st) d) := r_ia
theorem r_idxT {t : TypeId} {x y : Operand} : brun1 P L hs dr ⟨some d, .index t x y, ty, pos, af, g⟩ l i Q st = optK (evIdx P t (st.ev x) (st.ev y)) (kput P L hs dr l i Q (st) d) := r_idx
theorem r_buildT {t : TypeId} {parts : Array (Nat × Operand)} : brun1 P L hs dr ⟨some d, .build t parts, ty, pos, af, g⟩ l i Q st = optK (evBuild P t (parts.toList.map fun p => (p.1, st.ev p.2))) (kput P L hs dr l i Q (st) d) := r_build
theorem r_bslT {t : TypeId} {n : Nat} {parts : Array (Nat × Operand)} : brun1 P L hs dr ⟨some d, .buildSlice t n parts, ty, pos, af, g⟩ l i Q st = optK (evBuildSlice P t n (parts.toList.map fun p => (p.1, st.ev p.2))) (kput P L hs dr l i Q (st) d) := r_bsl
theorem r_sliceT {t : TypeId} {x : Operand} {lo hi : Option Operand} : brun1 P L hs dr ⟨some d, .slice t x lo hi none, ty, pos, af, g⟩ l i Q st = optK (evSlice P t (st.ev x) (lo.map st.ev) (hi.map st.ev)) (kput P L hs dr l i Q (st) d) := r_slice
theorem r_pickT {c x y : Operand} : brun1 P L hs dr ⟨some d, .pick c x y, ty, pos, af, g⟩ l i Q st = optK (evPick (st.ev c) (st.ev x) (st.ev y)) (kput P L hs dr l i Q (st) d) := r_pick
theorem r_nilT {x : Operand} : brun1 P L hs dr ⟨some d, .nilCheck x, ty, pos, af, g⟩ l i Q st = optK (evNil (st.ev x)) (kput P L hs dr l i Q (st) d) := r_nil
theorem r_fnT {f : Nat} {caps : Array Operand} : brun1 P L hs dr ⟨some d, .makeFunc (.func f) #[] caps, ty, pos, af, g⟩ l i Q st =
    optK (if caps.toList.all (fun c => ((st.ev c).bC).isAt) = true then some (.clo f (caps.toList.map fun c => (st.ev c).bC)) else none) (kput P L hs dr l i Q (st) d) := r_fn
theorem r_extT {x : Operand} {n : Nat} : brun1 P L hs false ⟨some d, .extract x n, ty, pos, af, g⟩ l i Q st = optK (evExt n (st.ev x)) (kput P L hs false l i Q ((st.strip (tmpsOf [x]))) d) := r_ext
theorem r_extDT {x : Operand} {n : Nat} : brun1 P L hs true ⟨some d, .extract x n, ty, pos, af, g⟩ l i Q st = optK ((evExt n (st.ev x)).map PV.bT) (kput P L hs true l i Q (st) d) := r_extD
theorem r_lenT {t : TypeId} {x : Operand} : brun1 P L hs dr ⟨some d, .call ⟨.builtin .len, #[x], #[t]⟩, ty, pos, af, g⟩ l i Q st = optK (evLen P t (st.ev x)) (kput P L hs dr l i Q ((st.mvs (hs.contains i) [x])) d) := r_len
theorem r_maxT {t t' : TypeId} {x y : Operand} : brun1 P L hs dr ⟨some d, .call ⟨.builtin .max, #[x, y], #[t, t']⟩, ty, pos, af, g⟩ l i Q st = optK (evMinMax true (st.ev x) (st.ev y)) (kput P L hs dr l i Q ((st.mvs (hs.contains i) [x, y])) d) := r_max
theorem r_minT {t t' : TypeId} {x y : Operand} : brun1 P L hs dr ⟨some d, .call ⟨.builtin .min, #[x, y], #[t, t']⟩, ty, pos, af, g⟩ l i Q st = optK (evMinMax false (st.ev x) (st.ev y)) (kput P L hs dr l i Q ((st.mvs (hs.contains i) [x, y])) d) := r_min
theorem r_appT {t : TypeId} {x y : Operand} : brun1 P L hs dr ⟨some d, .call ⟨.builtin .append, #[x, y], #[t, t]⟩, ty, pos, af, g⟩ l i Q st = optK (evAppend P t (st.ev x) (st.ev y)) (kput P L hs dr l i Q ((st.strip (tmpsOf [x, y]))) d) := r_app
theorem r_allocT {t : TypeId} : brun1 P L hs dr ⟨some d, .alloc t, ty, pos, af, g⟩ l i Q st = allocK P t (drF dr (flagBe P L hs i)) (st.bx (.t d)) (kbox P L hs dr l i Q (st) d) := r_alloc'
theorem r_boxT {t : TypeId} {x : Operand} : brun1 P L hs dr ⟨some d, .box t x, ty, pos, af, g⟩ l i Q st = boxK (drF dr (flagBe P L hs i)) (st.bx (.t d)) (st.ev x) (kbox P L hs dr l i Q ((st.strip (tmpsOf [x]))) d) := r_box'
theorem okD_f {c : Prop} : okD false c = True := by simp [okD]
theorem okD_t {c : Prop} : okD true c = c := by simp [okD]
def okK (l : List BN) (v : PV) (A : Prop) : Prop := okB l v ∧ A
theorem okK_p {l : List BN} {b : BN} {o : Nat} {A : Prop} (h : l.contains b = true ∨ False) : okK l (.ptr b o) A = A := by
  simp only [or_false] at h
  simp only [okK, okB, h, true_and]
theorem okK_e {l : List BN} {cs : List PD} {A : Prop} : okK l (.eptr cs) A = A := by simp only [okK, okB, true_and]
theorem okK_f {l : List BN} {K : List PD → Option PD} {A : Prop} : okK l (.efn K) A = A := by simp only [okK, okB, true_and]
@[congr] theorem okK_congr {l : List BN} {v v' : PV} {A : Prop} (h : v = v') : okK l v A = okK l v' A := by rw [h]
theorem r_loadT {t : TypeId} {x : Operand} : brun1 P L hs false ⟨some d, .load t x, ty, pos, af, g⟩ l i Q st =
    loadK P t (mvF l hs d i) (drF false (flagBt P L i)) (drF false (flagBe P L hs i)) (st.ev x) st.bx (kload P L hs false l i Q ((st.mvs (mvF l hs d i) [x])) d) := r_load'.trans (by rw [okD_f, true_and]; rfl)
theorem r_loadDT {t : TypeId} {x : Operand} : brun1 P L hs true ⟨some d, .load t x, ty, pos, af, g⟩ l i Q st =
    okK (baseB L x) (st.ev x) (loadK P t (mvF l hs d i) (drF true (flagBt P L i)) (drF true (flagBe P L hs i)) (st.ev x) st.bx (kload P L hs true l i Q ((st.mvs (mvF l hs d i) [x])) d)) := r_load'.trans (by rw [okD_t]; rfl)
theorem r_storeT {t : TypeId} {x y : Operand} : brun1 P L hs false ⟨none, .store t x y, ty, pos, af, g⟩ l i Q st =
    storeK P t (drF false (flagBe P L hs i)) (st.ev x) (st.ev y) st.bx (ksto P L hs false l i Q ((st.strip (tmpsOf [x, y])))) (kstz P L hs false l i Q (st.strip (tmpsOf [x, y]))) := r_store'.trans (by rw [okD_f, true_and]; rfl)
theorem r_storeDT {t : TypeId} {x y : Operand} : brun1 P L hs true ⟨none, .store t x y, ty, pos, af, g⟩ l i Q st =
    okK (baseB L x) (st.ev x) (storeK P t (drF true (flagBe P L hs i)) (st.ev x) (st.ev y) st.bx (ksto P L hs true l i Q ((st.strip (tmpsOf [x, y])))) (kstz P L hs true l i Q (st.strip (tmpsOf [x, y])))) := r_store'.trans (by rw [okD_t]; rfl)
theorem brun_grdT {op : Op} {j : Nat} {w : Bool} : brun P L hs dr (⟨some d, op, ty, pos, af, some (j, w)⟩ :: l) i Q st =
    bgdT (gdst L j st) w (tRun1 P L hs dr ⟨some d, op, ty, pos, af, some (j, w)⟩ l i Q st) (tRun P L hs dr l (i + 1) Q (st.put d .und)) := brun_grd'
end
theorem binO_t {P : Program} {op : BinOp} {t : TypeId} {k : Nat} {x y : PV} : evBinO P op t (.tmp k) x y = evBin P op t x y := rfl
theorem binO_i {P : Program} {op : BinOp} {t : TypeId} {k : IntKind} {n : Int} {x y : PV} : evBinO P op t (.const (.int k n)) x y = evBin P op t x y := rfl
theorem binO_b {P : Program} {op : BinOp} {t : TypeId} {b : Bool} {x y : PV} : evBinO P op t (.const (.bool b)) x y = evBin P op t x y := rfl
theorem binO_s {P : Program} {op : BinOp} {t : TypeId} {b : ByteArray} {x y : PV} : evBinO P op t (.const (.string b)) x y = evBin P op t x y := rfl
theorem binO_l {P : Program} {op : BinOp} {t : TypeId} {b : Option Addr} {n c : Nat} {x y : PV} : evBinO P op t (.const (.slice b n c)) x y = evBin P op t x y := rfl
theorem binO_n {P : Program} {op : BinOp} {t : TypeId} {x y : PV} : evBinO P op t (.const .nilIface) x y = if isIf P t = true then evErr op x else none := rfl
theorem c_one : ((1 : Nat) : Int) = 1 := rfl
theorem c_zero : ((0 : Nat) : Int) = 0 := rfl
theorem c_lt0 (n : Nat) : ((n : Int) < 0) = False := eq_false (by omega)
theorem toNat_c (n : Nat) : (n : Int).toNat = n := rfl
theorem bxOf_t (bi : List (List PV)) (n : Nat) : bxOf bi (.t n) = none := rfl
theorem bxOf_a (bi : List (List PV)) (n : Nat) : bxOf bi (.a n) = bi[n]? := rfl
theorem bgo {A G : Prop} (g : G) (h : A = G := by
      conv => lhs; simp +contextual -implicitDefEqProofs (disch := first | exact Or.inl rfl | exact Or.inr rfl | omega | (simp only [List.length_nil, List.length_map, List.length_cons, List.length_append, List.length_take, List.length_drop]; omega)) only [↓w_skip, ↓w_exit, ↓w_ret, ↓w_seq, ↓w_condT, ↓w_block, ↓w_reg, ↓w_regM, ↓regM_t, ↓regM_f, ↓w_regH, ↓regH_t, ↓regH_f, ↓kreg_eq, List.contains_cons, ↓w_loop, ↓seqK_n, ↓seqK_e, ↓seqK_r, ↓blkK_n, ↓blkK_r, ↓blkK_e, ↓bcondT_b, ↓bimpT_tt, ↓bimpT_ff, ↓bimpT_tf, ↓bimpT_ft, ↓bimpT_dt, ↓bimpT_df, ↓bimpT_et, ↓bimpT_ef, ↓bimpT_net, ↓bimpT_nef, ↓bimpT_nt, ↓bimpT_nf,  ↓loopK_n, ↓loopK_e, ↓loopK_r, ↓endK_n, ↓endK_r, ↓endW_n, ↓endW_r, Option.map_none, Option.bind_none,
        ↓brun_nog, ↓brun_grdT, ↓brun_nil, ↓r_move', ↓r_assign, ↓r_binT, ↓r_unT, ↓r_convT, ↓r_faT, ↓r_fldT, ↓r_iaT, ↓r_idxT, ↓r_buildT, ↓r_bslT, ↓r_sliceT, ↓r_pickT, ↓r_nilT, ↓r_fnT, ↓r_extT, ↓r_extDT, ↓r_lenT, ↓r_maxT, ↓r_minT, ↓r_appT, ↓r_callF, ↓r_callD, ↓r_allocT, ↓r_boxT, ↓r_loadT, ↓r_loadDT, ↓r_storeT, ↓r_storeDT, ↓okK_p, ↓okK_e, ↓okK_f, r_make,
        ↓drF_f, ↓drF_t, ↓gdst_0, ↓gdst_s, ↓mvF_nil, ↓mvF_0, ↓mvF_1, ↓mvF_2, ↓mvF_3, ↓mvF_4, ↓mvF_5, ↓mvF_6, ↓mvF_7, ↓mvF_8, ↓mvF_9, ↓mvF_10, ↓mvF_11, ↓mvF_12, ↓mvF_13, ↓mvF_14, ↓mvF_15, ↓mvF_16, ↓mvF_17, ↓mvF_18, ↓mvF_19, ↓mvF_20, ↓mvF_21, ↓mvF_22, ↓mvF_23, ↓mvF_c0, ↓mvF_c1, ↓mvF_c2, ↓mvF_c3, ↓mvF_c4, ↓mvF_fn, Bool.or_false, Bool.false_or, Bool.true_or, Bool.or_true, List.contains_nil, Bool.not_true, Bool.not_false, Nat.reduceBEq, Nat.reduceEqDiff, ↓reduceIte, Nat.reduceAdd, Nat.reduceMul, Nat.reduceLeDiff, Nat.reduceLT,
        mvs_false, mvs_t1, mvs_c, mvs_nil, strip_nil, strip_one, strip_two, tmps_nil, tmps_t, tmps_c, tmps_f, mvd_t, mvd_f, tm_put, bx_put, tm_strip1, bx_strip1, tm_sbx, bx_sbx, tm_init, bx_init, tm_mk, bx_mk, look_n, look_c, lookB_n, lookB_c, getD_0, getD_s, getD_n,
        ev_t, ev_f, ev_int, ev_bool, ev_nil, ev_str, bT_d, bT_own, bT_nil, bT_nn, bT_ptr, bT_eptr, bT_rsl, bT_rsv, bT_q, bT_zs, bT_zp, bT_clo, bT_efn, bT_one, bT_er, bT_dp, bT_fn, bT_junk, bT_und, bT_agg, bT_tup, PV.bC, PV.bV, List.map_cons, List.map_nil,
        ↓optK_some, binO_t, binO_i, binO_b, binO_s, binO_l, binO_n, evErr, evBin, evUn, evPick, evMinMax, pick2, ↓bgdT_bt, ↓bgdT_bf, ↓bgdT_u, ↓kput_eq, ↓kbox_eq, ↓kload_eq, ↓kE_eq, ↓ksto_eq, ↓kstz_eq, ↓kmk_eq, ↓tRun_eq, ↓tRun1_eq, ↓tW_eq, List.getElem?_cons_zero, List.getElem?_cons_succ, Option.bind_some, Option.map_some, Option.getD_some,
        ↓ret_0, ↓ret_1, ↓ret_2, ↓ret_3, ↓ret_c1, ↓cellK_1, ↓cellK_2, BN.t.injEq, BN.a.injEq, stripAt, List.modify_cons, List.modify_nil, List.mapIdx_cons, List.mapIdx_nil, bxOf_nil, bxOf_t, bxOf_a, List.getElem?_nil, g2_d, g2_own, g2_nil, g2_nn, g2_agg, g1_d, g1_own, g1_nil, g1_nn, List.all_cons, List.all_nil, Bool.and_true, Bool.true_and, reduceCtorEq, Bool.false_eq_true, Bool.true_eq_false, false_implies, true_implies, implies_true, and_true, true_and, and_self, or_self, true_or, or_true, ne_eq, not_false_eq_true, not_true_eq_false,
        evConv2_i, evConv2_s, evLen, evIA, evIdxR, evIdxAddr, evIdx, evFldAddr, evFld, evELoad, evExt, evNil, PV.list, ↓loadK_1, ↓loadK_eT, ↓loadK_zT, ↓loadK_fT, evZLoad, zv, zfit, zplain, PD.isSl, evIdxZ, ↓storeK_z, ↓storeZ_2, ↓loadK_2, ↓loadK_3t, ↓loadK_3ok, ↓loadK_3f, ↓storeK_1, ↓storeK_2, makeTI, ↓makeK_1, ↓makeK_2, ↓allocK_1, ↓allocK_2, ↓boxK_1, ↓boxK_2, pvCells, bxRead, sbo_none, sbo_some, PD.cells, List.head?_cons, List.drop_zero, List.drop_succ_cons, List.take_succ_cons, List.take_zero, List.length_cons, List.length_nil, List.length_map, List.getElem?_map, List.nil_append, List.cons_append, List.append_nil, PV.isJunk, PV.isAt,
        Int.natCast_nonneg, Nat.lt_irrefl, Int.lt_irrefl, bne_self_eq_false, beq_self_eq_true, c_lt0, c_one, c_zero, Int.cast_ofNat_Int, Int.add_zero, Int.toNat_natCast_add_one, toNat_c, Int.toNat_zero, Int.le_refl, Int.reduceToNat, Int.reduceLE, Int.reduceLT, Int.reduceAdd, Int.reduceSub, Int.reduceNeg, Int.ofNat_lt, wrap_in, decide_true, decide_false, Option.isSome_some, Option.isSome_none, Bool.false_and, Bool.and_false, Nat.zero_add, Nat.le_refl, tys, *]) : A := h ▸ g

end Go.Bee

