/-
The logic's operations that turn nothing in memory. No condition.
-/
import Derived.Test.YtkgjplamdmakpaaGreatDoorBeeC
import Derived.Laws.IdiomStrings
namespace Go.Bee
set_option linter.unusedVariables false

theorem tyi_el {P : Program} {t e : TypeId} {i : TI} (h : tyi P t = some i) (he : i.el = some e) : P.underlying t = some (.slice e) := by
  obtain ⟨i', d, h1, h2, h3, h4, h5, h6, -⟩ := tyi_spec h
  rw [h6] at he
  cases d <;> simp at he
  subst he; exact h2
theorem tyi_str {P : Program} {t : TypeId} {i : TI} (h : tyi P t = some i) (he : i.str = true) : P.underlying t = some .string := by
  obtain ⟨i', d, h1, h2, h3, h4, h5, h6, h7, -⟩ := tyi_spec h
  rw [h7] at he
  cases d <;> simp at he
  exact h2
theorem tyi_int {P : Program} {t : TypeId} {k : IntKind} {i : TI} (h : tyi P t = some i) (he : i.int = some k) : P.underlying t = some (.int k) := by
  obtain ⟨i', d, h1, h2, h3, h4, h5, h6, h7, h8, -⟩ := tyi_spec h
  rw [h8] at he
  cases d <;> simp at he
  subst he; exact h2
theorem tyi_fl {P : Program} {t : TypeId} {i : TI} (h : tyi P t = some i) {f off sz : Nat} {ag : Bool} (he : i.fl[f]? = some (some (off, sz, ag))) :
    ∃ fs fd, P.underlying t = some (.struct fs) ∧ fs[f]? = some fd ∧ fd.offset = off ∧ (∀ w, (sizeOf fd.type).run P w = .ok sz w) ∧ ∀ w, (isAgg fd.type).run P w = .ok ag w := by
  obtain ⟨i', d, h1, h2, h3, h4, h5, h6, h7, h8, h9, h10⟩ := tyi_spec h
  rw [h10] at he
  cases d <;> simp at he
  rename_i fs
  obtain ⟨fd, hfd, he⟩ := he
  split at he
  · rename_i j dd k1 k2
    simp only [Option.some.injEq, Prod.mk.injEq] at he
    obtain ⟨rfl, rfl, he⟩ := he
    refine ⟨fs, fd, h2, hfd, rfl, fun w => by simp [sizeOf, typeInfo, k1], fun w => ?_⟩
    rw [← he]
    simp only [isAgg, Sem.run_bind, run_underlying k2, Result.andThen_ok]
    cases dd <;> rfl
  · cases he

/-- What a slot holds, as a slice to be read. -/
def PV.list : PV → Option (Nat × List PD)
  | .d (.sl sz l) => some (sz, l)
  | .own _ sz l => some (sz, l)
  | .nn sz l => some (sz, l)
  | .dp (.sl sz l) => some (sz, l)
  | _ => none
theorem RepT.list {P : Program} {G : Gh} {w : World} {loc : Loc} {x : PV} {v : Value} {sz : Nat} {l : List PD} (h : RepT P G w loc x v) (hx : x.list = some (sz, l)) : RepD G.im w (.sl sz l) v := by
  cases x <;> simp only [PV.list, reduceCtorEq] at hx
  · rename_i y
    cases y <;> simp only [reduceCtorEq, Option.some.injEq, Prod.mk.injEq] at hx
    obtain ⟨rfl, rfl⟩ := hx
    exact h.1
  · simp only [Option.some.injEq, Prod.mk.injEq] at hx
    obtain ⟨rfl, rfl⟩ := hx
    exact h.1
  · simp only [Option.some.injEq, Prod.mk.injEq] at hx
    obtain ⟨rfl, rfl⟩ := hx
    exact OwnAt.data h
  · rename_i y
    cases y <;> simp only [reduceCtorEq, Option.some.injEq, Prod.mk.injEq] at hx
    obtain ⟨rfl, rfl⟩ := hx
    exact (RepC.bC (P := P) (p := (loc, 0, 0)) (loc, 0, 0) (x := .dp (.sl _ _)) h).1

def evUn (op : UnOp) : PV → Option PV
  | .d (.bool b) => match op with | .not => some (.d (.bool !b)) | _ => none
  | .d (.int k n) => match op with | .neg => some (.d (.int k (k.wrap (0 - n)))) | _ => none
  | _ => none
theorem evUn_ok {P : Program} {G : Gh} {w : World} {op : UnOp} {x r : PV} {u : Value} {l1 : Loc} (loc : Loc) (hx : RepT P G w l1 x u) (h : evUn op x = some r) :
    ∃ rv, (Op.unary op u).run P w = .ok rv w ∧ RepT P G w loc r rv := by
  unfold evUn at h
  split at h
  · obtain ⟨hx, -⟩ := hx; cases hx
    cases op <;> simp at h
    subst h; exact ⟨_, rfl, ⟨.bool _, rfl⟩⟩
  · obtain ⟨hx, -⟩ := hx; cases hx
    cases op <;> simp only [Option.some.injEq, reduceCtorEq] at h
    subst h; exact ⟨_, rfl, ⟨.int _ _, rfl⟩⟩
  · cases h

def evConv (P : Program) (dst : TypeId) : PV → Option PV
  | .d (.int k n) => (tyi P dst).bind fun i => i.int.map fun k' => .d (.int k' (k'.wrap n))
  | .d (.str l) => (tyi P dst).bind fun i => if i.str then some (.d (.str l)) else none
  | _ => none
theorem evConv_ok {P : Program} {G : Gh} {w : World} {src dst : TypeId} {x r : PV} {u : Value} {l1 : Loc} (loc : Loc) (hs : (tyi P src).isSome = true) (hx : RepT P G w l1 x u) (h : evConv P dst x = some r) :
    ∃ rv, (convert src dst u).run P w = .ok rv w ∧ RepT P G w loc r rv := by
  obtain ⟨i0, hi0⟩ := Option.isSome_iff_exists.1 hs
  obtain ⟨_, d0, -, hd0, -⟩ := tyi_spec hi0
  unfold evConv at h
  split at h
  · obtain ⟨hx, -⟩ := hx; cases hx
    simp only [Option.bind_eq_some_iff, Option.map_eq_some_iff] at h
    obtain ⟨i, hi, k', hk, rfl⟩ := h
    have hu := tyi_int hi hk
    refine ⟨_, ?_, ⟨.int _ _, rfl⟩⟩
    simp [convert, run_underlying hd0, run_underlying hu, Conv.intToInt]
  · obtain ⟨hx, -⟩ := hx; cases hx
    rename_i l hb
    simp only [Option.bind_eq_some_iff] at h
    obtain ⟨i, hi, h⟩ := h
    split at h
    · rename_i hstr
      cases h
      have hu := tyi_str hi hstr
      refine ⟨_, ?_, ⟨.str _ hb, rfl⟩⟩
      simp [convert, run_underlying hd0, run_underlying hu]
    · cases h
  · cases h

def u8s : List PD → Option (List UInt8)
  | [] => some []
  | .int .u8 n :: l => if 0 ≤ n ∧ n < 256 then (u8s l).map (UInt8.ofNat n.toNat :: ·) else none
  | _ => none
theorem u8s_get : ∀ {l : List PD} {bs : List UInt8}, u8s l = some bs → bs.length = l.length ∧ ∀ (j : Nat) b, bs[j]? = some b → l[j]? = some (.int .u8 (b.toNat : Int))
  | [], bs, h => by simp [u8s] at h; subst h; exact ⟨rfl, fun j b h => by simp at h⟩
  | x :: l, bs, h => by
    unfold u8s at h
    split at h
    · rename_i e; cases e
    · rename_i n l' e
      cases e
      split at h
      · rename_i hn
        obtain ⟨bs', h1, rfl⟩ := Option.map_eq_some_iff.1 h
        obtain ⟨h2, h3⟩ := u8s_get h1
        refine ⟨by simp [h2], fun j b hj => ?_⟩
        cases j with
        | zero =>
          simp at hj; subst hj
          have : (UInt8.ofNat n.toNat).toNat = n.toNat := by simp [UInt8.toNat_ofNat']; omega
          simp [this]; omega
        | succ j => simp at hj ⊢; exact h3 j b hj
      · cases h
    · cases h
/-- Bytes as a text, too. -/
def evConv2 (P : Program) (src dst : TypeId) (x : PV) : Option PV :=
  match x.list with
  | some (sz, l) => (tyi P src).bind fun si => si.el.bind fun e => (tyi P e).bind fun te => (tyi P dst).bind fun i => (u8s l).bind fun bs =>
      if te.int = some .u8 ∧ i.str = true ∧ sz = 1 ∧ l ≠ [] then some (.d (.str bs)) else none
  | none => evConv P dst x
theorem flat_ints : ∀ {l : List PD} {bs : List UInt8}, u8s l = some bs → flat l = l
  | [], _, _ => rfl
  | x :: l, bs, h => by
    unfold u8s at h
    split at h
    · rename_i e; cases e
    · rename_i n l' e
      cases e
      split at h
      · obtain ⟨bs', h1, -⟩ := Option.map_eq_some_iff.1 h
        rw [flat_cons, flat_ints h1]; rfl
      · cases h
    · cases h
theorem evConv2_ok {P : Program} {G : Gh} {w : World} {src dst : TypeId} {x r : PV} {u : Value} {l1 : Loc} (loc : Loc) (hs : (tyi P src).isSome = true) (hx : RepT P G w l1 x u) (h : evConv2 P src dst x = some r) :
    ∃ rv, (convert src dst u).run P w = .ok rv w ∧ RepT P G w loc r rv := by
  unfold evConv2 at h
  split at h
  · rename_i sz l hl
    simp only [Option.bind_eq_some_iff] at h
    obtain ⟨si, hsi, e, he, te, hte, i, hi, bs, hbs, h⟩ := h
    split at h
    · rename_i hc
      obtain ⟨hu8, hstr, rfl, hne⟩ := hc
      cases h
      have hd := hx.list hl
      obtain ⟨hbl, hbg⟩ := u8s_get hbs
      rcases hd.sl_shape with ⟨h1, -⟩ | ⟨g, o, c, rfl, hlc, hu, hrun⟩ | ⟨h1, -⟩
      · exact absurd h1 hne
      rotate_left
      · exact absurd h1 hne
      obtain ⟨vs, hv1, hv2, hv3, hv4⟩ := hrun
      rw [flat_ints hbs] at hv1 hv4
      have hrun := run_convert_bytes_back (P := P) w src dst e ⟨g, o, none⟩ c bs (tyi_el hsi he) (tyi_int hte hu8) (tyi_str hi hstr) (fun j hj => by
        have hj2 : j < vs.length := by omega
        have hlj := hbg j _ (List.getElem?_eq_getElem hj)
        have hr := hv4 j _ _ hlj (List.getElem?_eq_getElem hj2)
        have hcell := (hv3 j _ (List.getElem?_eq_getElem hj2)).2
        generalize vs[j] = z at hr hcell
        cases hr
        rw [Addr.add_lit]; exact hcell)
      rw [hbl] at hrun
      exact ⟨_, hrun, ⟨.str _ (by rw [hbl]; exact hd.len), rfl⟩⟩
    · cases h
  · exact evConv_ok loc hs hx h
def evIdxAddr (P : Program) (t : TypeId) (x i : PV) : Option PV :=
  match x.list, i with
  | some (sz, l), .d (.int _ n) => (tyi P t).bind fun ti => ti.el.bind fun e => (tyi P e).bind fun te =>
      if te.sz = sz ∧ 0 ≤ n then (l[n.toNat]?).map fun y => .eptr y.cells else none
  | _, _ => none
theorem evIdxAddr_ok {P : Program} {G : Gh} {w : World} {t : TypeId} {x y r : PV} {u v : Value} {l1 l2 : Loc} (loc : Loc) (hx : RepT P G w l1 x u) (hy : RepT P G w l2 y v) (h : evIdxAddr P t x y = some r) :
    ∃ rv, (Instr.indexAt t u v).run P w = .ok rv w ∧ RepT P G w loc r rv := by
  unfold evIdxAddr at h
  split at h
  · rename_i sz l k n hl
    obtain ⟨hy, -⟩ := hy; cases hy
    have hd := hx.list hl
    simp only [Option.bind_eq_some_iff] at h
    obtain ⟨ti, hti, e, he, te, hte, h⟩ := h
    split at h
    · rename_i hc
      obtain ⟨rfl, hn⟩ := hc
      simp only [Option.map_eq_some_iff] at h
      obtain ⟨y, hy, rfl⟩ := h
      obtain ⟨hlt, hy'⟩ := List.getElem?_eq_some_iff.1 hy
      rcases hd.sl_shape with ⟨rfl, -⟩ | ⟨g, o, c, rfl, hlc, hu, hrun⟩ | ⟨rfl, -⟩
      · simp at hlt
      rotate_left
      · simp at hlt
      · have hel := tyi_el hti he
        refine ⟨.pointer (some ⟨g, o + n.toNat * te.sz, none⟩), ?_, ⟨g, _, rfl, ?_⟩⟩
        · have hlt' : n < (l.length : Int) := by omega
          simp [Instr.indexAt, asIntOf, run_underlying hel, hn, hlt', tyi_size hte, Addr.add_lit]
        · have := (hrun.drop (n.toNat * te.sz)).take te.sz
          rwa [flat_elem hu hy] at this
    · cases h
  · cases h

def evIdxR (P : Program) (t : TypeId) (b : BN) (sz m : Nat) (i : PV) : Option PV :=
  match i with
  | .d (.int _ n) => (tyi P t).bind fun ti => ti.el.bind fun e => (tyi P e).bind fun te => if te.sz = sz ∧ 0 ≤ n ∧ n < (m : Int) then some (.ptr b (n.toNat * sz)) else none
  | _ => none
def evIdxZ (P : Program) (t : TypeId) (sz : Nat) (l : List PD) (i : PV) : Option PV :=
  match i with
  | .d (.int _ n) => (tyi P t).bind fun ti => ti.el.bind fun e => (tyi P e).bind fun te =>
      if te.sz = sz ∧ 0 ≤ n then (l[n.toNat]?).map fun y => .zp y.cells else none
  | _ => none
theorem evIdxZ_ok {P : Program} {G : Gh} {w : World} {t : TypeId} {sz : Nat} {l : List PD} {y r : PV} {u v : Value} {l1 l2 : Loc} (loc : Loc) (hx : RepT P G w l1 (.zs (.sl sz l)) u) (hy : RepT P G w l2 y v) (h : evIdxZ P t sz l y = some r) :
    ∃ rv, (Instr.indexAt t u v).run P w = .ok rv w ∧ RepT P G w loc r rv := by
  unfold evIdxZ at h
  split at h
  · rename_i k n
    obtain ⟨hy, -⟩ := hy; cases hy
    obtain ⟨hx, -⟩ := hx
    simp only [Option.bind_eq_some_iff] at h
    obtain ⟨ti, hti, e, he, te, hte, h⟩ := h
    split at h
    · rename_i hc
      obtain ⟨rfl, hn⟩ := hc
      simp only [Option.map_eq_some_iff] at h
      obtain ⟨y, hy, rfl⟩ := h
      obtain ⟨hlt, hy'⟩ := List.getElem?_eq_some_iff.1 hy
      have hel := tyi_el hti he
      cases hx with
      | sc _ _ hx => cases hx
      | nil => simp at hlt
      | emp => simp at hlt
      | sl _ _ g o c vs hb hcc hu hs hl hv hr =>
        refine ⟨.pointer (some ⟨g, o + n.toNat * te.sz, none⟩), ?_, ⟨g, _, rfl, ?_⟩⟩
        · have hlt' : n < (l.length : Int) := by omega
          simp [Instr.indexAt, asIntOf, run_underlying hel, hn, hlt', tyi_size hte, Addr.add_lit]
        · have hfe := flat_elem hu hy
          have hyl : y.cells.length = te.sz := hu y (List.mem_of_getElem? hy)
          have hall : (n.toNat + 1) * te.sz ≤ (flat l).length := by rw [flat_length hu]; exact Nat.mul_le_mul_right _ hlt
          rw [Nat.add_mul, Nat.one_mul] at hall
          refine ⟨(vs.drop (n.toNat * te.sz)).take te.sz, by simp; omega, fun x hx => hs x ?_, fun i v hi => ?_, fun i x v hx hi => ?_⟩
          · rw [← hfe] at hx; exact List.mem_of_mem_drop (List.mem_of_mem_take hx)
          · rw [List.getElem?_take] at hi
            split at hi
            · rw [List.getElem?_drop] at hi
              have := hv _ v hi
              rwa [← Nat.add_assoc] at this
            · cases hi
          · rw [← hfe, List.getElem?_take] at hx
            rw [List.getElem?_take] at hi
            split at hi
            · rename_i hlt2
              rw [if_pos hlt2, List.getElem?_drop] at hx
              rw [List.getElem?_drop] at hi
              exact hr _ x v hx hi
            · cases hi
    · cases h
  · cases h
def evIA (P : Program) (t : TypeId) (x i : PV) : Option PV :=
  match x with
  | .rsl b _ sz m => evIdxR P t b sz m i
  | .rsv b sz m => evIdxR P t b sz m i
  | .zs (.sl sz l) => evIdxZ P t sz l i
  | x => evIdxAddr P t x i
theorem evIA_ok {P : Program} {G : Gh} {w : World} {t : TypeId} {x y r : PV} {u v : Value} {l1 l2 : Loc} (loc : Loc) (hx : RepT P G w l1 x u) (hy : RepT P G w l2 y v) (h : evIA P t x y = some r) :
    ∃ rv, (Instr.indexAt t u v).run P w = .ok rv w ∧ RepT P G w loc r rv := by
  unfold evIA at h
  split at h
  · rename_i b e sz m
    unfold evIdxR at h
    split at h
    · rename_i k n
      obtain ⟨hy, -⟩ := hy; cases hy
      obtain ⟨hv, hl, -⟩ := hx
      simp only [Option.bind_eq_some_iff] at h
      obtain ⟨ti, hti, e', he, te, hte, h⟩ := h
      split at h
      · rename_i hc
        obtain ⟨rfl, hn, hlt⟩ := hc
        cases h
        have hel := tyi_el hti he
        refine ⟨_, ?_, rfl, hl⟩
        rw [hv]
        simp [Instr.indexAt, asIntOf, run_underlying hel, hn, hlt, tyi_size hte, Addr.add_lit]
      · cases h
    · cases h
  · rename_i b sz m
    unfold evIdxR at h
    split at h
    · rename_i k n
      obtain ⟨hy, -⟩ := hy; cases hy
      obtain ⟨c, hnc, hv, hl, -⟩ := hx
      simp only [Option.bind_eq_some_iff] at h
      obtain ⟨ti, hti, e', he, te, hte, h⟩ := h
      split at h
      · rename_i hc
        obtain ⟨rfl, hn, hlt⟩ := hc
        cases h
        have hel := tyi_el hti he
        refine ⟨_, ?_, rfl, hl⟩
        rw [hv]
        simp [Instr.indexAt, asIntOf, run_underlying hel, hn, hlt, tyi_size hte, Addr.add_lit]
      · cases h
    · cases h
  · exact evIdxZ_ok loc hx hy h
  · exact evIdxAddr_ok loc hx hy h

def evIdx (P : Program) (t : TypeId) (x i : PV) : Option PV :=
  match x, i with
  | .d (.str l), .d (.int _ n) => (tyi P t).bind fun ti => if ti.str = true ∧ 0 ≤ n then (l[n.toNat]?).map fun b => .d (.int .u8 (b.toNat : Int)) else none
  | _, _ => none
theorem evIdx_ok {P : Program} {G : Gh} {w : World} {t : TypeId} {x y r : PV} {u v : Value} {l1 l2 : Loc} (loc : Loc) (hx : RepT P G w l1 x u) (hy : RepT P G w l2 y v) (h : evIdx P t x y = some r) :
    ∃ rv, (Instr.index t u v).run P w = .ok rv w ∧ RepT P G w loc r rv := by
  unfold evIdx at h
  split at h
  · obtain ⟨hy, -⟩ := hy; cases hy
    obtain ⟨hx, -⟩ := hx; cases hx
    rename_i l k n hb
    simp only [Option.bind_eq_some_iff] at h
    obtain ⟨ti, hti, h⟩ := h
    split at h
    · rename_i hc
      obtain ⟨hs, hn⟩ := hc
      simp only [Option.map_eq_some_iff] at h
      obtain ⟨b, hb', rfl⟩ := h
      have hu := tyi_str hti hs
      refine ⟨_, ?_, ⟨.int _ _, rfl⟩⟩
      have hg : (⟨l.toArray⟩ : ByteArray)[n.toNat]? = some b := by
        obtain ⟨hlt, rfl⟩ := List.getElem?_eq_some_iff.1 hb'
        have hsz : n.toNat < (⟨l.toArray⟩ : ByteArray).size := by simpa [ByteArray.size] using hlt
        rw [ByteArray.getElem?_lt' _ _ hsz]
        rfl
      simp [Instr.index, asIntOf, run_underlying hu, hn, hg]
    · cases h
  · cases h

def evFldAddr (P : Program) (t : TypeId) (f : Nat) : PV → Option PV
  | .ptr b o => (tyi P t).bind fun i => (i.fl[f]?.getD none).bind fun q => if q.2.1 = 0 then none else some (.ptr b (o + q.1))
  | .eptr cs => (tyi P t).bind fun i => (i.fl[f]?.getD none).bind fun q => if q.2.1 = 0 then none else some (.eptr (cs.drop q.1))
  | .zp cs => (tyi P t).bind fun i => (i.fl[f]?.getD none).bind fun q => if q.2.1 = 0 then none else some (.zp (cs.drop q.1))
  | _ => none
theorem ZRun.drop {S : Nat → Prop} {w : World} {g o : Nat} {cells : List PD} (h : ZRun S w g o cells) (n : Nat) : ZRun S w g (o + n) (cells.drop n) := by
  obtain ⟨vs, hl, hs, hv, hr⟩ := h
  refine ⟨vs.drop n, by simp [hl], fun x hx => hs x (List.mem_of_mem_drop hx), fun i v hi => ?_, fun i x v hx hy => ?_⟩
  · rw [List.getElem?_drop] at hi
    have := hv _ _ hi
    rwa [← Nat.add_assoc] at this
  · rw [List.getElem?_drop] at hx hy
    exact hr _ _ _ hx hy
theorem run_fieldAt {P : Program} {w : World} {t : TypeId} {f : Nat} {i : TI} {q : Nat × Nat × Bool} (hi : tyi P t = some i) (hq : i.fl[f]?.getD none = some q) (h0 : q.2.1 ≠ 0) (g o : Nat) :
    (Instr.fieldAt t (.pointer (some ⟨g, o, none⟩)) f).run P w = .ok (.pointer (some ⟨g, o + q.1, none⟩)) w := by
  obtain ⟨off, sz, ag⟩ := q
  have hq' : i.fl[f]? = some (some (off, sz, ag)) := by
    cases hh : i.fl[f]? <;> simp [hh] at hq
    exact congrArg some hq
  obtain ⟨fs, fd, h1, h2, h3, h4, h5⟩ := tyi_fl hi hq'
  simp only at h0
  simp [Instr.fieldAt, run_underlying h1, h2, Instr.sureAddr, fieldPlace, h4, h0, Addr.add_lit, h3]
theorem evFldAddr_ok {P : Program} {G : Gh} {w : World} {t : TypeId} {f : Nat} {x r : PV} {u : Value} {l1 : Loc} (loc : Loc) (hx : RepT P G w l1 x u) (h : evFldAddr P t f x = some r) :
    ∃ rv, (Instr.fieldAt t u f).run P w = .ok rv w ∧ RepT P G w loc r rv := by
  unfold evFldAddr at h
  split at h
  · obtain ⟨rfl, hl⟩ := hx
    simp only [Option.bind_eq_some_iff] at h
    obtain ⟨i, hi, q, hq, h⟩ := h
    split at h
    · cases h
    · rename_i h0
      cases h
      exact ⟨_, run_fieldAt hi hq h0 _ _, rfl, hl⟩
  · obtain ⟨g, o, rfl, hr⟩ := hx
    simp only [Option.bind_eq_some_iff] at h
    obtain ⟨i, hi, q, hq, h⟩ := h
    split at h
    · cases h
    · rename_i h0
      cases h
      exact ⟨_, run_fieldAt hi hq h0 _ _, g, _, rfl, hr.drop _⟩
  · obtain ⟨g, o, rfl, hr⟩ := hx
    simp only [Option.bind_eq_some_iff] at h
    obtain ⟨i, hi, q, hq, h⟩ := h
    split at h
    · cases h
    · rename_i h0
      cases h
      exact ⟨_, run_fieldAt hi hq h0 _ _, g, _, rfl, ZRun.drop hr _⟩
  · cases h

def evFld (P : Program) (t : TypeId) (f : Nat) : PV → Option PV
  | .agg l => (tyi P t).bind fun i => (i.fl[f]?.getD none).bind fun q => if q.2.2 then (if q.1 + q.2.1 ≤ l.length then some (.agg (((l.drop q.1).take q.2.1).map PV.bC)) else none) else (l[q.1]?).map PV.bC
  | _ => none
theorem RepC.toT {P : Program} {G : Gh} {w : World} {p : Pos} {x : PV} {v : Value} (h : RepC P G w p x v) (loc : Loc) (hp : p = (loc, 0, 0)) : RepT P G w loc x v := by
  subst hp
  cases x <;> first | exact h | (simp only [RepC] at h)
theorem evFld_ok {P : Program} {G : Gh} {w : World} {t : TypeId} {f : Nat} {x r : PV} {u : Value} {l1 : Loc} (loc : Loc) (hx : RepT P G w l1 x u) (h : evFld P t f x = some r) :
    ∃ rv, (Instr.field t u f).run P w = .ok rv w ∧ RepT P G w loc r rv := by
  unfold evFld at h
  split at h
  · rename_i l
    obtain ⟨cs, rfl, hsz, h1, hr⟩ := hx
    simp only [Option.bind_eq_some_iff] at h
    obtain ⟨i, hi, q, hq, h⟩ := h
    obtain ⟨off, sz, ag⟩ := q
    have hq' : i.fl[f]? = some (some (off, sz, ag)) := by
      cases hh : i.fl[f]? <;> simp [hh] at hq
      exact congrArg some hq
    obtain ⟨fs, fd, k1, k2, k3, k4, k5⟩ := tyi_fl hi hq'
    cases ag
    · simp only [Bool.false_eq_true, if_false, Option.map_eq_some_iff] at h
      obtain ⟨y, hy, rfl⟩ := h
      have hlt : off < cs.size := by rw [hsz]; exact (List.getElem?_eq_some_iff.1 hy).1
      have hc : cs[off]? = some cs[off] := Array.getElem?_eq_getElem hlt
      refine ⟨cs[off], ?_, ((hr off y _ hy hc).bC (loc, 0, 0)).toT loc rfl⟩
      simp [Instr.field, run_underlying k1, k2, asAgg, part, k5, k3, hc]
    · simp only [if_true] at h
      split at h
      · rename_i hle
        cases h
        refine ⟨.agg (cs.extract off (off + sz)), ?_, ⟨_, rfl, ?_, ?_, ?_⟩⟩
        · simp [Instr.field, run_underlying k1, k2, asAgg, part, k5, k3, k4]
        · simp; omega
        · intro u hu
          obtain ⟨j, hj, rfl⟩ := Array.mem_iff_getElem.1 hu
          rw [Array.getElem_extract]
          exact h1 _ (Array.getElem_mem _)
        · intro j x u hx hu
          rw [List.getElem?_map] at hx
          obtain ⟨y, hy, rfl⟩ := Option.map_eq_some_iff.1 hx
          rw [List.getElem?_take] at hy
          split at hy
          · rename_i hj
            rw [List.getElem?_drop] at hy
            rw [Array.getElem?_extract] at hu
            split at hu
            · exact (hr _ _ _ hy hu).bC _
            · cases hu
          · cases hy
      · cases h
  · cases h

def evLen (P : Program) (t : TypeId) (x : PV) : Option PV :=
  match x with
  | .d (.str l) => (tyi P t).bind fun i => if i.str then some (.int l.length) else none
  | .nilS => (tyi P t).bind fun i => i.el.map fun _ => .int 0
  | .rsl _ _ _ n => (tyi P t).bind fun i => i.el.map fun _ => .int n
  | .rsv _ _ n => (tyi P t).bind fun i => i.el.map fun _ => .int n
  | .zs (.sl _ l) => (tyi P t).bind fun i => i.el.map fun _ => .int l.length
  | x => x.list.bind fun q => (tyi P t).bind fun i => i.el.map fun _ => .int q.2.length
theorem evLen_ok {P : Program} {G : Gh} {w : World} {t ty : TypeId} {x r : PV} {u : Value} {l1 : Loc} (loc : Loc) (hx : RepT P G w l1 x u) (h : evLen P t x = some r) :
    ∃ rv, (Builtin.len_ #[t] ty #[u]).run P w = .ok rv w ∧ RepT P G w loc r rv := by
  unfold evLen at h
  split at h
  · obtain ⟨hx, -⟩ := hx; cases hx
    rename_i l hb
    simp only [Option.bind_eq_some_iff] at h
    obtain ⟨i, hi, h⟩ := h
    split at h
    · rename_i hs
      cases h
      have hu := tyi_str hi hs
      refine ⟨_, ?_, ⟨.int _ _, rfl⟩⟩
      rw [run_len_string _ _ _ _ hu]
      simp [goInt, ByteArray.size]
    · cases h
  · simp only [Option.bind_eq_some_iff, Option.map_eq_some_iff] at h
    obtain ⟨i, hi, e, he, rfl⟩ := h
    have hu := tyi_el hi he
    obtain rfl : u = .slice none 0 0 := hx
    refine ⟨_, ?_, ⟨.int _ _, rfl⟩⟩
    simp [Builtin.len_, run_underlying hu, goInt]
  · simp only [Option.bind_eq_some_iff, Option.map_eq_some_iff] at h
    obtain ⟨i, hi, e, he, rfl⟩ := h
    have hu := tyi_el hi he
    obtain ⟨hv, -⟩ := hx
    refine ⟨_, ?_, ⟨.int _ _, rfl⟩⟩
    rw [hv]
    simp [Builtin.len_, run_underlying hu, goInt]
  · simp only [Option.bind_eq_some_iff, Option.map_eq_some_iff] at h
    obtain ⟨i, hi, e, he, rfl⟩ := h
    have hu := tyi_el hi he
    obtain ⟨c, -, hv, -⟩ := hx
    refine ⟨_, ?_, ⟨.int _ _, rfl⟩⟩
    rw [hv]
    simp [Builtin.len_, run_underlying hu, goInt]
  · simp only [Option.bind_eq_some_iff, Option.map_eq_some_iff] at h
    obtain ⟨i, hi, e, he, rfl⟩ := h
    have hu := tyi_el hi he
    obtain ⟨hx, -⟩ := hx
    rename_i sz l
    have key : ∃ a c, u = .slice a l.length c := by
      cases hx with
      | sc _ _ hx => cases hx
      | nil => exact ⟨_, _, rfl⟩
      | emp => exact ⟨_, _, rfl⟩
      | sl => exact ⟨_, _, rfl⟩
    obtain ⟨a, c, rfl⟩ := key
    refine ⟨.int .i64 l.length, ?_, ⟨.int _ _, rfl⟩⟩
    simp [Builtin.len_, run_underlying hu, goInt]
  · simp only [Option.bind_eq_some_iff, Option.map_eq_some_iff] at h
    obtain ⟨⟨sz, l⟩, hl, i, hi, e, he, rfl⟩ := h
    have hu := tyi_el hi he
    have hd := hx.list hl
    refine ⟨.int .i64 l.length, ?_, ⟨.int _ _, rfl⟩⟩
    rcases hd.sl_shape with ⟨rfl, rfl⟩ | ⟨g, o, c, rfl, -⟩ | ⟨rfl, a, c, rfl⟩
    rotate_left 2
    · simp [Builtin.len_, run_underlying hu, goInt]
    · simp [Builtin.len_, run_underlying hu, goInt]
    · simp [Builtin.len_, run_underlying hu, goInt]

end Go.Bee
