/-
The logic's operations: what each yields. No condition.
-/
import Derived.Test.YtkgjplamdmakpaaGreatDoorBeeB
namespace Go.Bee
set_option linter.unusedVariables false

def PV.isJunk : PV → Bool
  | .junk => true
  | _ => false
def cpc : Value → PV
  | .bool b => .d (.bool b)
  | .int k n => .d (.int k n)
  | .string s => if s.data.toList.length ≤ 140737488355328 then .d (.str s.data.toList) else .junk
  | .slice none n c => if n = 0 ∧ c = 0 then .nilS else .junk
  | .func (.func f) first caps => if first.toList = [] ∧ caps.toList = [] then .clo f [] else .junk
  | .nilFunc => .one
  | .pointer none => .one
  | .nilIface => .one
  | _ => .junk
def cpv : Value → PV
  | .agg _ => .junk
  | .tuple _ => .junk
  | v => cpc v
theorem cpc_rep {P : Program} {G : Gh} {w : World} (p : Pos) (v : Value) : RepC P G w p (cpc v) v := by
  unfold cpc
  split
  · exact ⟨.bool _, rfl⟩
  · exact ⟨.int _ _, rfl⟩
  · rename_i s
    split
    · rename_i hb
      refine ⟨?_, rfl⟩
      have := RepD.str (S := G.im) (w := w) s.data.toList hb
      simpa using this
    · trivial
  · split
    · rename_i h; obtain ⟨rfl, rfl⟩ := h; exact rfl
    · trivial
  · split
    · rename_i f a b h
      obtain ⟨h1, h2⟩ := h
      obtain rfl : a = #[] := by simpa using h1
      obtain rfl : b = #[] := by simpa using h2
      exact ⟨#[], rfl, rfl, by intro i x u h; simp at h⟩
    · trivial
  · rfl
  · rfl
  · rfl
  · trivial
theorem cpc_cell {v : Value} (h : (cpc v).isJunk = false) : v.oneCell' = true := by
  unfold cpc at h
  split at h <;> first | rfl | (simp [PV.isJunk] at h; done)
theorem cpv_rep {P : Program} {G : Gh} {w : World} (loc : Loc) (v : Value) : RepT P G w loc (cpv v) v := by
  have key : RepT P G w loc (cpc v) v := by
    have h := cpc_rep (P := P) (G := G) (w := w) (loc, 0, 0) v
    generalize hx : cpc v = x at h
    cases x <;> first | exact h | (simp only [RepC] at h)
  unfold cpv
  split
  · trivial
  · trivial
  · exact key

def St.ev (st : St) : Operand → PV
  | .tmp t => st.tm t
  | .const v => cpv v
  | .global _ => .junk
  | .func f => .clo f []
def opLoc : Operand → Loc
  | .tmp t => .t t
  | _ => .res
theorem Rel.ev {P : Program} {F : Fr} {G : Gh} {st : St} {a : Act} {w : World} (h : Rel P F G st a w) (x : Operand) : RepT P G w (opLoc x) (st.ev x) (a.eval x) := by
  cases x with
  | tmp t => exact h.tm t
  | const v => exact cpv_rep _ v
  | global g => trivial
  | func f => exact ⟨#[], rfl, rfl, by intro i x u h; simp at h⟩

structure TI where
  sz : Nat
  by_ : Nat
  agg : Bool
  el : Option TypeId
  str : Bool
  bool : Bool
  ref : Bool
  ptr : Bool
  int : Option IntKind
  fl : List (Option (Nat × Nat × Bool))
  zero : List PV
def tyi (P : Program) (t : TypeId) : Option TI :=
  match P.info? t, P.underlying t with
  | some i, some d => some {
      sz := i.size, by_ := i.bytes,
      agg := (match d with | .struct _ => true | .array _ _ => true | _ => false),
      el := (match d with | .slice e => some e | _ => none),
      str := (match d with | .string => true | _ => false),
      bool := (match d with | .bool => true | _ => false),
      ref := (match d with | .bool => false | .int _ => false | .string => false | .slice _ => false | .struct _ => false | _ => true),
      ptr := (match d with | .pointer _ => true | _ => false),
      int := (match d with | .int k => some k | _ => none),
      fl := (match d with
        | .struct fs => fs.toList.map (fun f => match P.info? f.type, P.underlying f.type with
          | some i, some d => some (f.offset, i.size, match d with | .struct _ => true | .array _ _ => true | _ => false)
          | _, _ => none)
        | _ => []),
      zero := ((i.zero.map fun v => v.cells.toList.map cpc).getD [])  }
  | _, _ => none

theorem tyi_spec {P : Program} {t : TypeId} {i : TI} (h : tyi P t = some i) : ∃ i' d, P.info? t = some i' ∧ P.underlying t = some d ∧ i.sz = i'.size ∧ i.by_ = i'.bytes ∧
    i.agg = (match d with | .struct _ => true | .array _ _ => true | _ => false) ∧ i.el = (match d with | .slice e => some e | _ => none) ∧ i.str = (match d with | .string => true | _ => false) ∧
    i.int = (match d with | .int k => some k | _ => none) ∧ i.zero = ((i'.zero.map fun v => v.cells.toList.map cpc).getD []) ∧
    i.fl = (match d with
        | .struct fs => fs.toList.map (fun f => match P.info? f.type, P.underlying f.type with
          | some i, some d => some (f.offset, i.size, match d with | .struct _ => true | .array _ _ => true | _ => false)
          | _, _ => none)
        | _ => []) := by
  unfold tyi at h
  split at h
  · rename_i i' d h1 h2
    cases h
    exact ⟨i', d, h1, h2, rfl, rfl, rfl, rfl, rfl, rfl, rfl, rfl⟩
  · cases h
theorem tyi_size {P : Program} {t : TypeId} {i : TI} (h : tyi P t = some i) (w : World) : (sizeOf t).run P w = .ok i.sz w := by
  obtain ⟨i', d, h1, h2, h3, -⟩ := tyi_spec h
  simp [sizeOf, typeInfo, h1, h3]
theorem tyi_agg {P : Program} {t : TypeId} {i : TI} (h : tyi P t = some i) (w : World) : (isAgg t).run P w = .ok i.agg w := by
  obtain ⟨i', d, h1, h2, h3, h4, h5, -⟩ := tyi_spec h
  rw [h5]
  simp only [isAgg, Sem.run_bind, run_underlying h2, Result.andThen_ok]
  cases d <;> rfl

/-! Two structs are equal if each field is: bools, numbers, texts, and structs of such. -/
def pdOnly : List PV → Option (List PD)
  | [] => some []
  | .d x :: l => (pdOnly l).map fun ys => x :: ys
  | _ :: _ => none
def eqFs (P : Program) (E : TypeId → List PD → List PD → Option Bool) : List Field → List PD → List PD → Option Bool
  | [], _, _ => some true
  | f :: fs, xs, ys => if f.name = "_" then none else (tyi P f.type).bind fun i => if ¬ (f.offset + i.sz ≤ xs.length ∧ f.offset + i.sz ≤ ys.length ∧ (i.agg = true ∨ i.sz = 1)) then none else
      (E f.type ((xs.drop f.offset).take i.sz) ((ys.drop f.offset).take i.sz)).bind fun r => (eqFs P E fs xs ys).map fun r' => r && r'
def eqAt (P : Program) : Nat → TypeId → List PD → List PD → Option Bool
  | 0, _, _, _ => none
  | d + 1, t, xs, ys => match P.underlying t with
    | some .bool => match xs, ys with
      | [.bool a], [.bool b] => some (a == b)
      | _, _ => none
    | some (.int _) => match xs, ys with
      | [.int k a], [.int k' b] => if k = k' then some (a == b) else none
      | _, _ => none
    | some .string => match xs, ys with
      | [.str a], [.str b] => some (a == b)
      | _, _ => none
    | some (.struct fs) => if P.stoodInHeld t = true then none else eqFs P (eqAt P d) fs.toList xs ys
    | _ => none
/-- A value of type t with these cells. -/
def AsV (P : Program) (S : Nat → Nat → Prop) (w : World) (t : TypeId) (xs : List PD) (u : Value) : Prop :=
  ∀ i, tyi P t = some i → (i.agg = true → ∃ cs : Array Value, u = .agg cs ∧ cs.size = xs.length ∧ ∀ (j : Nat) x v, xs[j]? = some x → cs[j]? = some v → RepD S w x v) ∧ (i.agg = false → ∀ x, xs = [x] → RepD S w x u)
theorem part_ok {P : Program} {S : Nat → Nat → Prop} {w : World} {t : TypeId} {ti : TI} {off : Nat} {zs : List PD} {cz : Array Value} (hti : tyi P t = some ti) (hle : off + ti.sz ≤ zs.length) (hz : ti.agg = true ∨ ti.sz = 1) (hz1 : cz.size = zs.length)
    (hz2 : ∀ (j : Nat) x v, zs[j]? = some x → cz[j]? = some v → RepD S w x v) : ∃ pv, (part t cz off).run P w = .ok pv w ∧ AsV P S w t ((zs.drop off).take ti.sz) pv := by
  cases hg : ti.agg
  · have h1 : ti.sz = 1 := hz.resolve_left (by rw [hg]; simp)
    have hlt : off < cz.size := by omega
    have hlz : off < zs.length := by omega
    refine ⟨cz[off], by simp [part, tyi_agg hti, hg, Array.getElem?_eq_getElem hlt], fun i' hi' => ?_⟩
    rw [hti] at hi'; cases hi'
    refine ⟨fun h => (by rw [hg] at h; cases h), fun _ y hy => ?_⟩
    rw [h1, List.drop_eq_getElem_cons hlz, List.take_succ_cons, List.take_zero] at hy
    obtain rfl := (List.cons.inj hy).1
    exact hz2 off _ _ (List.getElem?_eq_getElem hlz) (Array.getElem?_eq_getElem hlt)
  · refine ⟨.agg (cz.extract off (off + ti.sz)), by simp [part, tyi_agg hti, hg, tyi_size hti], fun i' hi' => ?_⟩
    rw [hti] at hi'; cases hi'
    refine ⟨fun _ => ⟨_, rfl, by simp; omega, fun j x v hx hv => ?_⟩, fun h => by rw [hg] at h; cases h⟩
    rw [List.getElem?_take] at hx
    split at hx
    · rw [List.getElem?_drop] at hx
      rw [Array.getElem?_extract] at hv
      split at hv
      · exact hz2 _ _ _ hx hv
      · cases hv
    · cases hx
theorem eqAt_ok {P : Program} {S : Nat → Nat → Prop} {w : World} : ∀ (d : Nat) (t : TypeId) (xs ys : List PD) (r : Bool), eqAt P d t xs ys = some r → ∀ (k : Nat) (u v : Value), (tyi P t).isSome = true → AsV P S w t xs u → AsV P S w t ys v →
    (Op.equalIn (k + d) t u v).run P w = .ok r w
  | 0, t, xs, ys, r, h, k, u, v, _, _, _ => by simp [eqAt] at h
  | d + 1, t, xs, ys, r, h, k, u, v, hi, hu, hv => by
    obtain ⟨i, hi⟩ := Option.isSome_iff_exists.1 hi
    obtain ⟨i', dd, h1, h2, h3, h4, h5, -⟩ := tyi_spec hi
    unfold eqAt at h
    rw [h2] at h
    rw [show k + (d + 1) = (k + d) + 1 from rfl]
    split at h
    · rename_i e
      cases e
      have hag : i.agg = false := h5
      split at h
      · cases h
        have a1 := (hu i hi).2 hag _ rfl
        have a2 := (hv i hi).2 hag _ rfl
        cases a1; cases a2
        exact run_equalIn_bool' w _ t _ _ h2
      · cases h
    · rename_i q e
      cases e
      have hag : i.agg = false := h5
      split at h
      · split at h
        · rename_i hk; subst hk
          cases h
          have a1 := (hu i hi).2 hag _ rfl
          have a2 := (hv i hi).2 hag _ rfl
          cases a1; cases a2
          exact run_equalIn_int w _ t _ _ _ _ h2
        · cases h
      · cases h
    · rename_i e
      cases e
      have hag : i.agg = false := h5
      split at h
      · cases h
        have a1 := (hu i hi).2 hag _ rfl
        have a2 := (hv i hi).2 hag _ rfl
        cases a1; cases a2
        rw [run_equalIn_string w _ t _ _ h2]
        simp
      · cases h
    · rename_i fs e
      cases e
      have hag : i.agg = true := h5
      split at h
      · cases h
      · rename_i hst
        obtain ⟨cs, rfl, hc1, hc2⟩ := (hu i hi).1 hag
        obtain ⟨cs', rfl, hc1', hc2'⟩ := (hv i hi).1 hag
        have hfo : P.fieldsOf t = fs := by simp [Program.fieldsOf, h2]
        rw [run_equalIn_struct w _ t cs cs' (by rw [hfo]; exact h2) (by simpa using hst), hfo]
        generalize fs.toList = l at h
        clear hfo h5 h2
        induction l generalizing r with
        | nil => simp only [eqFs, Option.some.injEq] at h; subst h; simp [Op.eqFields]
        | cons f l ih =>
          unfold eqFs at h
          split at h
          · cases h
          · rename_i hn
            simp only [Option.bind_eq_some_iff] at h
            obtain ⟨ti, hti, h⟩ := h
            split at h
            · cases h
            · rename_i hck
              simp only [Decidable.not_not] at hck
              obtain ⟨hx1, hy1, hz1⟩ := hck
              simp only [Option.bind_eq_some_iff, Option.map_eq_some_iff] at h
              obtain ⟨r1, hr1, r2, hr2, rfl⟩ := h
              obtain ⟨pa, e1, e2⟩ := part_ok hti hx1 hz1 hc1 hc2
              obtain ⟨pb, e3, e4⟩ := part_ok hti hy1 hz1 hc1' hc2'
              have e5 := eqAt_ok d f.type _ _ r1 hr1 k pa pb (by rw [hti]; rfl) e2 e4
              simp only [Op.eqFields, hn, ne_eq, not_false_eq_true, if_true, Sem.run_bind, e1, e3, e5, Result.andThen_ok]
              cases r1
              · simp
              · simpa using ih r2 hr2
    · cases h

structure AF where
  mv : Bool
  bt : Bool
  be : Bool

abbrev Bx := BN → Option (List PV)
def Bx.set (B : Bx) (b : BN) (cells : List PV) : Bx := fun c => if c = b then some cells else B c

def pvCells : PV → Option (List PV)
  | .agg l => some l
  | .tup _ => none
  | .junk => none
  | .und => none
  | x => some [x]
def mvd (mv : Bool) (x : PV) : PV := if mv then x else x.bT

def pick2 (c : Bool) : PV → PV → PV
  | .d (.bool x), .d (.bool y) => .d (.bool (if c then x else y))
  | x, y => if c then x else y

def evEq (P : Program) (op : BinOp) (t : TypeId) (xs ys : List PV) : Option PV :=
  if P.eqGuardType P.depth t = true then none else (tyi P t).bind fun i => if i.agg = false then none else (pdOnly xs).bind fun ps => (pdOnly ys).bind fun qs => (eqAt P 8 t ps qs).bind fun r =>
    match op with | .eql => some (.d (.bool r)) | .neq => some (.d (.bool (!r))) | _ => none
theorem pdOnly_get : ∀ {l : List PV} {ys : List PD}, pdOnly l = some ys → ys.length = l.length ∧ ∀ (i : Nat) y, ys[i]? = some y → l[i]? = some (.d y)
  | [], ys, h => by simp [pdOnly] at h; subst h; simp
  | x :: xs, ys, h => by
    cases x <;> simp only [pdOnly, reduceCtorEq, Option.map_eq_some_iff] at h
    obtain ⟨zs, hz, rfl⟩ := h
    obtain ⟨h1, h2⟩ := pdOnly_get hz
    refine ⟨by simp [h1], fun i y hy => ?_⟩
    cases i with
    | zero => simp at hy; subst hy; rfl
    | succ i => simp at hy; simpa using h2 i y hy
def bAnd (k : IntKind) (a b : Int) : Int := k.wrap (BitVec.ofInt k.bits a &&& BitVec.ofInt k.bits b).toNat
def bShr (k : IntKind) (a b : Int) : Int := a.fdiv (2 ^ min b.toNat k.bits)
def evBin (P : Program) (op : BinOp) (t : TypeId) : PV → PV → Option PV
  | .d (.int k a), .d (.int k' b) =>
    if k = k' then
      match op with
      | .add => some (.d (.int k (k.wrap (a + b))))
      | .sub => some (.d (.int k (k.wrap (a - b))))
      | .mul => some (.d (.int k (k.wrap (a * b))))
      | .quo => if b = 0 then none else some (.d (.int k (k.wrap (a.tdiv b))))
      | .rem => if b = 0 then none else some (.d (.int k (a.tmod b)))
      | .and => some (.d (.int k (bAnd k a b)))
      | .shr => if b < 0 then none else some (.d (.int k (bShr k a b)))
      | .eql => some (.d (.bool (a == b)))
      | .neq => some (.d (.bool (a != b)))
      | .lss => some (.d (.bool (decide (a < b))))
      | .leq => some (.d (.bool (decide (a ≤ b))))
      | .gtr => some (.d (.bool (decide (a > b))))
      | .geq => some (.d (.bool (decide (a ≥ b))))
      | _ => none
    else none
  | .d (.str a), .d (.str b) =>
    match op with
    | .add => if a.length + b.length ≤ 140737488355328 then some (.d (.str (a ++ b))) else none
    | .eql => some (.d (.bool (a == b)))
    | .neq => some (.d (.bool (!(a == b))))
    | .lss => some (.d (.bool (Op.bytesLess a b)))
    | .leq => some (.d (.bool (Op.bytesLess a b || a == b)))
    | .gtr => some (.d (.bool (!(Op.bytesLess a b || a == b))))
    | .geq => some (.d (.bool (!(Op.bytesLess a b))))
    | _ => none
  | .d (.bool a), .d (.bool b) =>
    match tyi P t with
    | some i => if i.bool then (match op with | .eql => some (.d (.bool (a == b))) | .neq => some (.d (.bool (!(a == b)))) | _ => none) else none
    | none => none
  | .nilS, .nilS => match tyi P t with
    | some i => if i.el.isSome then (match op with | .eql => some (.d (.bool true)) | .neq => some (.d (.bool false)) | _ => none) else none
    | none => none
  | .nn _ _, .nilS => match tyi P t with
    | some i => if i.el.isSome then (match op with | .eql => some (.d (.bool false)) | .neq => some (.d (.bool true)) | _ => none) else none
    | none => none
  | .agg xs, .agg ys => evEq P op t xs ys
  | _, _ => none
theorem run_eq_nil {P : Program} (w : World) (d : Nat) {t e : TypeId} (hu : P.underlying t = some (.slice e)) (n c m k : Nat) : (Op.equalIn (d + 1) t (.slice none n c) (.slice none m k)).run P w = .ok true w := by
  simp [Op.equalIn, run_underlying hu]
theorem run_eq_nn {P : Program} (w : World) (d : Nat) {t e : TypeId} (hu : P.underlying t = some (.slice e)) (a : Addr) (n c m k : Nat) : (Op.equalIn (d + 1) t (.slice (some a) n c) (.slice none m k)).run P w = .ok false w := by
  simp [Op.equalIn, run_underlying hu]
theorem beq_bytes (a b : List UInt8) : ((⟨a.toArray⟩ : ByteArray).toList == (⟨b.toArray⟩ : ByteArray).toList) = (a == b) := by simp
theorem evBin_ok {P : Program} {G : Gh} {w : World} {op : BinOp} {t : TypeId} {x y r : PV} {u v : Value} {l1 l2 : Loc} (loc : Loc) (X Y : Operand) (hx : RepT P G w l1 x u) (hy : RepT P G w l2 y v)
    (h : evBin P op t x y = some r) : ∃ rv, ((do eqGuard op t X Y u v; binOp op t u v : Sem Value)).run P w = .ok rv w ∧ RepT P G w loc r rv := by
  unfold evBin at h
  split at h
  · obtain ⟨hx, -⟩ := hx; obtain ⟨hy, -⟩ := hy
    cases hx; cases hy
    rename_i k a k' b
    split at h
    · rename_i hk; subst hk
      cases op <;> simp only [Option.some.injEq, reduceCtorEq] at h <;> first
        | (subst h; refine ⟨_, ?_, ⟨by first | exact .int _ _ | exact .bool _, rfl⟩⟩; simp [eqGuard, binOp, Op.intArith, Op.intCmp, Op.intBits, bAnd]; done)
        | (split at h
           · cases h
           · rename_i h0; cases h; refine ⟨_, ?_, ⟨.int _ _, rfl⟩⟩; simp [eqGuard, binOp, Op.intDiv, Op.shift, bShr, h0])
    · cases h
  · obtain ⟨hx, -⟩ := hx; obtain ⟨hy, -⟩ := hy
    cases hx; cases hy
    rename_i a b ha hb
    cases op <;> simp only [Option.some.injEq, reduceCtorEq] at h <;> first
      | (subst h; refine ⟨_, ?_, ⟨.bool _, rfl⟩⟩; simp [eqGuard, binOp, Op.stringOp]; done)
      | (split at h
         · rename_i hl
           cases h
           refine ⟨.string ⟨(a ++ b).toArray⟩, ?_, ⟨.str _ (by simpa using hl), rfl⟩⟩
           have h1 : ((⟨a.toArray⟩ : ByteArray).size) = a.length := by simp [ByteArray.size]
           have h2 : ((⟨b.toArray⟩ : ByteArray).size) = b.length := by simp [ByteArray.size]
           have h3 : (⟨a.toArray⟩ ++ ⟨b.toArray⟩ : ByteArray) = ⟨(a ++ b).toArray⟩ := by
             apply ByteArray.ext; simp
           have h4 : ¬ (((a.length + b.length : Nat) : Int) > 9223372036854775807) := by omega
           simp only [eqGuard, binOp, Op.stringOp, h1, h2, h3, IntKind.max_i64]
           simp only [h4]
           simp
         · cases h)
  · obtain ⟨hx, -⟩ := hx; obtain ⟨hy, -⟩ := hy
    cases hx; cases hy
    rename_i a b
    split at h
    · rename_i i hi
      split at h
      · rename_i hbool
        have hu : P.underlying t = some .bool := by
          unfold tyi at hi
          split at hi
          · rename_i i' d h1 h2
            cases hi
            simp only at hbool
            cases d <;> simp at hbool
            exact h2
          · cases hi
        cases op <;> simp only [Option.some.injEq, reduceCtorEq] at h <;> (subst h; refine ⟨_, ?_, ⟨.bool _, rfl⟩⟩)
        · simp [eqGuard, binOp, Op.equal, Op.maxDepth, run_equalIn_bool' (P := P) w _ t a b hu]
        · simp [eqGuard, binOp, Op.equal, Op.maxDepth, run_equalIn_bool' (P := P) w _ t a b hu]
      · cases h
    · cases h
  · split at h
    · rename_i i hi
      split at h
      · rename_i hel
        obtain ⟨e, he⟩ := Option.isSome_iff_exists.1 hel
        have hu : P.underlying t = some (.slice e) := by
          unfold tyi at hi
          split at hi
          · rename_i i' d h1 h2
            cases hi
            simp only at he
            cases d <;> simp at he
            subst he
            exact h2
          · cases hi
        obtain rfl : u = .slice none 0 0 := hx
        obtain rfl : v = .slice none 0 0 := hy
        cases op <;> simp only [Option.some.injEq, reduceCtorEq] at h <;> (subst h; refine ⟨_, ?_, ⟨.bool _, rfl⟩⟩)
        · simp [eqGuard, binOp, Op.equal, Op.maxDepth, run_eq_nil w 9999 hu]
        · simp [eqGuard, binOp, Op.equal, Op.maxDepth, run_eq_nil w 9999 hu]
      · cases h
    · cases h
  · split at h
    · rename_i i hi
      split at h
      · rename_i hel
        obtain ⟨e, he⟩ := Option.isSome_iff_exists.1 hel
        have hu : P.underlying t = some (.slice e) := by
          unfold tyi at hi
          split at hi
          · rename_i i' d h1 h2
            cases hi
            simp only at he
            cases d <;> simp at he
            subst he
            exact h2
          · cases hi
        obtain ⟨hd, hne⟩ := hx
        obtain rfl : v = .slice none 0 0 := hy
        have : ∃ a n c, u = .slice (some a) n c := by
          cases hd
          · exact absurd rfl (hne 0 0)
          · exact ⟨_, _, _, rfl⟩
          · exact ⟨_, _, _, rfl⟩
        obtain ⟨a, n, c, rfl⟩ := this
        cases op <;> simp only [Option.some.injEq, reduceCtorEq] at h <;> (subst h; refine ⟨_, ?_, ⟨.bool _, rfl⟩⟩)
        · simp [eqGuard, binOp, Op.equal, Op.maxDepth, run_eq_nn w 9999 hu]
        · simp [eqGuard, binOp, Op.equal, Op.maxDepth, run_eq_nn w 9999 hu]
      · cases h
    · cases h
  · rename_i xs ys
    unfold evEq at h
    split at h
    · cases h
    · rename_i hgd
      simp only [Option.bind_eq_some_iff] at h
      obtain ⟨i, hi, h⟩ := h
      split at h
      · cases h
      · rename_i hag
        simp only [Bool.not_eq_false] at hag
        simp only [Option.bind_eq_some_iff] at h
        obtain ⟨ps, hps, qs, hqs, b, hb, h⟩ := h
        obtain ⟨cs, rfl, hc1, -, hc2⟩ := hx
        obtain ⟨cs', rfl, hc1', -, hc2'⟩ := hy
        obtain ⟨hp1, hp2⟩ := pdOnly_get hps
        obtain ⟨hq1, hq2⟩ := pdOnly_get hqs
        have hrun := eqAt_ok (S := G.im) (w := w) 8 t ps qs b hb 9992 (.agg cs) (.agg cs') (by rw [hi]; rfl)
          (fun i' hi' => by
            rw [hi] at hi'; cases hi'
            exact ⟨fun _ => ⟨cs, rfl, by omega, fun j x v hx hv => (hc2 j _ v (hp2 j x hx) hv).1⟩, fun h => by rw [hag] at h; cases h⟩)
          (fun i' hi' => by
            rw [hi] at hi'; cases hi'
            exact ⟨fun _ => ⟨cs', rfl, by omega, fun j x v hx hv => (hc2' j _ v (hq2 j x hx) hv).1⟩, fun h => by rw [hag] at h; cases h⟩)
        have hg := run_eqGuard_agg (P := P) w op t X Y cs cs' (by simpa using hgd)
        cases op <;> simp only [Option.some.injEq, reduceCtorEq] at h <;> (subst h; refine ⟨_, ?_, ⟨.bool _, rfl⟩⟩)
        · simp only [Sem.run_bind, hg, Result.andThen_ok, run_eql_struct, hrun]
        · simp only [Sem.run_bind, hg, Result.andThen_ok, run_neq_struct, hrun]
  · cases h

end Go.Bee
