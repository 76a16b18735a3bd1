/-
The logic's operations: what each yields. No condition.
-/
import Derived.Test.YtgopmghiadpbcaaDoorBeeB
namespace Go.Bee
set_option linter.unusedVariables false

def PV.isJunk : PV → Bool
  | .junk => true
  | _ => false
def cpc : Value → PV
  | .bool b => .d (.bool b)
  | .int k n => .d (.int k n)
  | .string s => if s.data.toList.length ≤ 140737488355328 then .d (.str s.data.toList) else .junk
  | .slice none n c => if n = 0 ∧ c = 0 then .nilS else .junk
  | .func (.func f) first caps => if first.toList = [] ∧ caps.toList = [] then .clo f [] else .junk
  | _ => .junk
def cpv : Value → PV
  | .agg _ => .junk
  | .tuple _ => .junk
  | v => cpc v
theorem cpc_rep {P : Program} {G : Gh} {w : World} (p : Pos) (v : Value) : RepC P G w p (cpc v) v := by
  unfold cpc
  split
  · exact ⟨.bool _, rfl⟩
  · exact ⟨.int _ _, rfl⟩
  · rename_i s
    split
    · rename_i hb
      refine ⟨?_, rfl⟩
      have := RepD.str (S := G.im) (w := w) s.data.toList hb
      simpa using this
    · trivial
  · split
    · rename_i h; obtain ⟨rfl, rfl⟩ := h; exact rfl
    · trivial
  · split
    · rename_i f a b h
      obtain ⟨h1, h2⟩ := h
      obtain rfl : a = #[] := by simpa using h1
      obtain rfl : b = #[] := by simpa using h2
      exact ⟨#[], rfl, rfl, by intro i x u h; simp at h⟩
    · trivial
  · trivial
theorem cpc_cell {v : Value} (h : (cpc v).isJunk = false) : v.oneCell' = true := by
  unfold cpc at h
  split at h <;> first | rfl | (simp [PV.isJunk] at h; done)
theorem cpv_rep {P : Program} {G : Gh} {w : World} (loc : Loc) (v : Value) : RepT P G w loc (cpv v) v := by
  have key : RepT P G w loc (cpc v) v := by
    have h := cpc_rep (P := P) (G := G) (w := w) (loc, 0, 0) v
    generalize hx : cpc v = x at h
    cases x <;> first | exact h | (simp only [RepC] at h)
  unfold cpv
  split
  · trivial
  · trivial
  · exact key

def St.ev (st : St) : Operand → PV
  | .tmp t => st.tm t
  | .const v => cpv v
  | .global _ => .junk
  | .func f => .clo f []
def opLoc : Operand → Loc
  | .tmp t => .t t
  | _ => .res
theorem Rel.ev {P : Program} {F : Fr} {G : Gh} {st : St} {a : Act} {w : World} (h : Rel P F G st a w) (x : Operand) : RepT P G w (opLoc x) (st.ev x) (a.eval x) := by
  cases x with
  | tmp t => exact h.tm t
  | const v => exact cpv_rep _ v
  | global g => trivial
  | func f => exact ⟨#[], rfl, rfl, by intro i x u h; simp at h⟩

structure TI where
  sz : Nat
  by_ : Nat
  agg : Bool
  el : Option TypeId
  str : Bool
  bool : Bool
  ref : Bool
  ptr : Bool
  int : Option IntKind
  fl : List (Option (Nat × Nat × Bool))
  zero : List PV
def tyi (P : Program) (t : TypeId) : Option TI :=
  match P.info? t, P.underlying t with
  | some i, some d => some {
      sz := i.size, by_ := i.bytes,
      agg := (match d with | .struct _ => true | .array _ _ => true | _ => false),
      el := (match d with | .slice e => some e | _ => none),
      str := (match d with | .string => true | _ => false),
      bool := (match d with | .bool => true | _ => false),
      ref := (match d with | .bool => false | .int _ => false | .string => false | .slice _ => false | .struct _ => false | _ => true),
      ptr := (match d with | .pointer _ => true | _ => false),
      int := (match d with | .int k => some k | _ => none),
      fl := (match d with
        | .struct fs => fs.toList.map (fun f => match P.info? f.type, P.underlying f.type with
          | some i, some d => some (f.offset, i.size, match d with | .struct _ => true | .array _ _ => true | _ => false)
          | _, _ => none)
        | _ => []),
      zero := ((i.zero.map fun v => v.cells.toList.map cpc).getD [])  }
  | _, _ => none

structure AF where
  mv : Bool
  bt : Bool
  be : Bool

abbrev Bx := BN → Option (List PV)
def Bx.set (B : Bx) (b : BN) (cells : List PV) : Bx := fun c => if c = b then some cells else B c

def pvCells : PV → Option (List PV)
  | .agg l => some l
  | .tup _ => none
  | .junk => none
  | .und => none
  | x => some [x]
def mvd (mv : Bool) (x : PV) : PV := if mv then x else x.bT

def pick2 (c : Bool) : PV → PV → PV
  | .d (.bool x), .d (.bool y) => .d (.bool (if c then x else y))
  | x, y => if c then x else y

def evBin (P : Program) (op : BinOp) (t : TypeId) : PV → PV → Option PV
  | .d (.int k a), .d (.int k' b) =>
    if k = k' then
      match op with
      | .add => some (.d (.int k (k.wrap (a + b))))
      | .sub => some (.d (.int k (k.wrap (a - b))))
      | .mul => some (.d (.int k (k.wrap (a * b))))
      | .quo => if b = 0 then none else some (.d (.int k (k.wrap (a.tdiv b))))
      | .rem => if b = 0 then none else some (.d (.int k (a.tmod b)))
      | .eql => some (.d (.bool (a == b)))
      | .neq => some (.d (.bool (a != b)))
      | .lss => some (.d (.bool (decide (a < b))))
      | .leq => some (.d (.bool (decide (a ≤ b))))
      | .gtr => some (.d (.bool (decide (a > b))))
      | .geq => some (.d (.bool (decide (a ≥ b))))
      | _ => none
    else none
  | .d (.str a), .d (.str b) =>
    match op with
    | .add => if a.length + b.length ≤ 140737488355328 then some (.d (.str (a ++ b))) else none
    | .eql => some (.d (.bool (a == b)))
    | .neq => some (.d (.bool (!(a == b))))
    | .lss => some (.d (.bool (Op.bytesLess a b)))
    | .leq => some (.d (.bool (Op.bytesLess a b || a == b)))
    | .gtr => some (.d (.bool (!(Op.bytesLess a b || a == b))))
    | .geq => some (.d (.bool (!(Op.bytesLess a b))))
    | _ => none
  | .d (.bool a), .d (.bool b) =>
    match tyi P t with
    | some i => if i.bool then (match op with | .eql => some (.d (.bool (a == b))) | .neq => some (.d (.bool (!(a == b)))) | _ => none) else none
    | none => none
  | .nilS, .nilS => match tyi P t with
    | some i => if i.el.isSome then (match op with | .eql => some (.d (.bool true)) | .neq => some (.d (.bool false)) | _ => none) else none
    | none => none
  | .nn _ _, .nilS => match tyi P t with
    | some i => if i.el.isSome then (match op with | .eql => some (.d (.bool false)) | .neq => some (.d (.bool true)) | _ => none) else none
    | none => none
  | _, _ => none
theorem run_eq_nil {P : Program} (w : World) (d : Nat) {t e : TypeId} (hu : P.underlying t = some (.slice e)) (n c m k : Nat) : (Op.equalIn (d + 1) t (.slice none n c) (.slice none m k)).run P w = .ok true w := by
  simp [Op.equalIn, run_underlying hu]
theorem run_eq_nn {P : Program} (w : World) (d : Nat) {t e : TypeId} (hu : P.underlying t = some (.slice e)) (a : Addr) (n c m k : Nat) : (Op.equalIn (d + 1) t (.slice (some a) n c) (.slice none m k)).run P w = .ok false w := by
  simp [Op.equalIn, run_underlying hu]
theorem beq_bytes (a b : List UInt8) : ((⟨a.toArray⟩ : ByteArray).toList == (⟨b.toArray⟩ : ByteArray).toList) = (a == b) := by simp
theorem evBin_ok {P : Program} {G : Gh} {w : World} {op : BinOp} {t : TypeId} {x y r : PV} {u v : Value} {l1 l2 : Loc} (loc : Loc) (X Y : Operand) (hx : RepT P G w l1 x u) (hy : RepT P G w l2 y v)
    (h : evBin P op t x y = some r) : ∃ rv, ((do eqGuard op t X Y u v; binOp op t u v : Sem Value)).run P w = .ok rv w ∧ RepT P G w loc r rv := by
  unfold evBin at h
  split at h
  · obtain ⟨hx, -⟩ := hx; obtain ⟨hy, -⟩ := hy
    cases hx; cases hy
    rename_i k a k' b
    split at h
    · rename_i hk; subst hk
      cases op <;> simp only [Option.some.injEq, reduceCtorEq] at h <;> first
        | (subst h; refine ⟨_, ?_, ⟨by first | exact .int _ _ | exact .bool _, rfl⟩⟩; simp [eqGuard, binOp, Op.intArith, Op.intCmp]; done)
        | (split at h
           · cases h
           · rename_i h0; cases h; refine ⟨_, ?_, ⟨.int _ _, rfl⟩⟩; simp [eqGuard, binOp, Op.intDiv, h0])
    · cases h
  · obtain ⟨hx, -⟩ := hx; obtain ⟨hy, -⟩ := hy
    cases hx; cases hy
    rename_i a b ha hb
    cases op <;> simp only [Option.some.injEq, reduceCtorEq] at h <;> first
      | (subst h; refine ⟨_, ?_, ⟨.bool _, rfl⟩⟩; simp [eqGuard, binOp, Op.stringOp]; done)
      | (split at h
         · rename_i hl
           cases h
           refine ⟨.string ⟨(a ++ b).toArray⟩, ?_, ⟨.str _ (by simpa using hl), rfl⟩⟩
           have h1 : ((⟨a.toArray⟩ : ByteArray).size) = a.length := by simp [ByteArray.size]
           have h2 : ((⟨b.toArray⟩ : ByteArray).size) = b.length := by simp [ByteArray.size]
           have h3 : (⟨a.toArray⟩ ++ ⟨b.toArray⟩ : ByteArray) = ⟨(a ++ b).toArray⟩ := by
             apply ByteArray.ext; simp
           have h4 : ¬ (((a.length + b.length : Nat) : Int) > 9223372036854775807) := by omega
           simp only [eqGuard, binOp, Op.stringOp, h1, h2, h3, IntKind.max_i64]
           simp only [h4]
           simp
         · cases h)
  · obtain ⟨hx, -⟩ := hx; obtain ⟨hy, -⟩ := hy
    cases hx; cases hy
    rename_i a b
    split at h
    · rename_i i hi
      split at h
      · rename_i hbool
        have hu : P.underlying t = some .bool := by
          unfold tyi at hi
          split at hi
          · rename_i i' d h1 h2
            cases hi
            simp only at hbool
            cases d <;> simp at hbool
            exact h2
          · cases hi
        cases op <;> simp only [Option.some.injEq, reduceCtorEq] at h <;> (subst h; refine ⟨_, ?_, ⟨.bool _, rfl⟩⟩)
        · simp [eqGuard, binOp, Op.equal, Op.maxDepth, run_equalIn_bool' (P := P) w _ t a b hu]
        · simp [eqGuard, binOp, Op.equal, Op.maxDepth, run_equalIn_bool' (P := P) w _ t a b hu]
      · cases h
    · cases h
  · split at h
    · rename_i i hi
      split at h
      · rename_i hel
        obtain ⟨e, he⟩ := Option.isSome_iff_exists.1 hel
        have hu : P.underlying t = some (.slice e) := by
          unfold tyi at hi
          split at hi
          · rename_i i' d h1 h2
            cases hi
            simp only at he
            cases d <;> simp at he
            subst he
            exact h2
          · cases hi
        obtain rfl : u = .slice none 0 0 := hx
        obtain rfl : v = .slice none 0 0 := hy
        cases op <;> simp only [Option.some.injEq, reduceCtorEq] at h <;> (subst h; refine ⟨_, ?_, ⟨.bool _, rfl⟩⟩)
        · simp [eqGuard, binOp, Op.equal, Op.maxDepth, run_eq_nil w 9999 hu]
        · simp [eqGuard, binOp, Op.equal, Op.maxDepth, run_eq_nil w 9999 hu]
      · cases h
    · cases h
  · split at h
    · rename_i i hi
      split at h
      · rename_i hel
        obtain ⟨e, he⟩ := Option.isSome_iff_exists.1 hel
        have hu : P.underlying t = some (.slice e) := by
          unfold tyi at hi
          split at hi
          · rename_i i' d h1 h2
            cases hi
            simp only at he
            cases d <;> simp at he
            subst he
            exact h2
          · cases hi
        obtain ⟨hd, hne⟩ := hx
        obtain rfl : v = .slice none 0 0 := hy
        have : ∃ a n c, u = .slice (some a) n c := by
          cases hd
          · exact absurd rfl (hne 0 0)
          · exact ⟨_, _, _, rfl⟩
          · exact ⟨_, _, _, rfl⟩
        obtain ⟨a, n, c, rfl⟩ := this
        cases op <;> simp only [Option.some.injEq, reduceCtorEq] at h <;> (subst h; refine ⟨_, ?_, ⟨.bool _, rfl⟩⟩)
        · simp [eqGuard, binOp, Op.equal, Op.maxDepth, run_eq_nn w 9999 hu]
        · simp [eqGuard, binOp, Op.equal, Op.maxDepth, run_eq_nn w 9999 hu]
      · cases h
    · cases h
  · cases h

end Go.Bee
