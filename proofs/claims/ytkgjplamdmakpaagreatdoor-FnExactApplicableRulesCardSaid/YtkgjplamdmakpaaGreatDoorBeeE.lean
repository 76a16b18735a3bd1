/-
The logic's operations: slices of slices and strings, loads. No condition.
-/
import Derived.Test.YtkgjplamdmakpaaGreatDoorBeeD
namespace Go.Bee
set_option linter.unusedVariables false

def PV.int? : PV → Option Int
  | .d (.int _ n) => some n
  | _ => none
def sb (lo hi : Option PV) (n : Nat) : Option (Nat × Nat) :=
  (match hi with | none => some n | some p => p.int?.bind fun k => if 0 ≤ k ∧ k ≤ (n : Int) then some k.toNat else none).bind fun h =>
    (match lo with | none => some 0 | some p => p.int?.bind fun k => if 0 ≤ k ∧ k ≤ (h : Int) then some k.toNat else none).map fun l => (l, h)
/-- The operands of a slice expression, where they stand. -/
def RepO (P : Program) (G : Gh) (w : World) : Option PV → Option Value → Prop
  | none, none => True
  | some p, some v => ∃ l, RepT P G w l p v
  | _, _ => False
theorem run_sb {P : Program} {G : Gh} {w : World} {lo hi : Option PV} {lv hv : Option Value} {n cap : Nat} {a b : Nat} (isS : Bool) (hl : RepO P G w lo lv) (hh : RepO P G w hi hv) (hc : n ≤ cap)
    (h : sb lo hi n = some (a, b)) : (Instr.sliceBounds isS n cap lv hv none).run P w = .ok (a, b, cap) w ∧ a ≤ b ∧ b ≤ n := by
  unfold sb at h
  simp only [Option.bind_eq_some_iff, Option.map_eq_some_iff, Prod.mk.injEq] at h
  obtain ⟨h', h1, l', h2, rfl, rfl⟩ := h
  have key : ∀ (p : PV) (v : Value) (m q : Nat) (code : BoundsCode), (∃ l, RepT P G w l p v) → (p.int?.bind fun k => if 0 ≤ k ∧ k ≤ (m : Int) then some k.toNat else none) = some q →
      (∀ M, m ≤ M → (Instr.sliceBound v M code).run P w = .ok q w) ∧ q ≤ m := by
    intro p v m q code ⟨l, hp⟩ hq
    simp only [Option.bind_eq_some_iff] at hq
    obtain ⟨k, hk, hq⟩ := hq
    cases p <;> simp only [PV.int?, reduceCtorEq] at hk
    rename_i y
    cases y <;> simp only [reduceCtorEq, Option.some.injEq] at hk
    subst hk
    obtain ⟨hp, -⟩ := hp; cases hp
    rename_i kk k
    split at hq
    · rename_i hc
      cases hq
      refine ⟨fun M hM => ?_, by omega⟩
      have h3 : k ≤ (M : Int) := by omega
      simp [Instr.sliceBound, asIntOf, hc.1, h3]
    · cases hq
  cases hi with
  | none =>
    cases hv with
    | some v => exact hh.elim
    | none =>
      simp only [Option.some.injEq] at h1
      subst h1
      cases lo with
      | none =>
        cases lv with
        | some v => exact hl.elim
        | none =>
          simp only [Option.some.injEq] at h2
          subst h2
          exact ⟨by simp [Instr.sliceBounds], by omega, by omega⟩
      | some p =>
        cases lv with
        | none => exact hl.elim
        | some v =>
          obtain ⟨k1, k2⟩ := key p v n _ .sliceB hl h2
          refine ⟨?_, k2, Nat.le_refl _⟩
          simp [Instr.sliceBounds, k1 n (Nat.le_refl _)]
  | some ph =>
    cases hv with
    | none => exact hh.elim
    | some v =>
      obtain ⟨k1, k2⟩ := key ph v n _ (if isS then .sliceAcap else .sliceAlen) hh h1
      have k1' := k1 cap hc
      cases lo with
      | none =>
        cases lv with
        | some v => exact hl.elim
        | none =>
          simp only [Option.some.injEq] at h2
          subst h2
          exact ⟨by simp [Instr.sliceBounds, k1'], by omega, k2⟩
      | some p =>
        cases lv with
        | none => exact hl.elim
        | some u =>
          obtain ⟨q1, q2⟩ := key p u h' _ .sliceB hl h2
          refine ⟨?_, q2, k2⟩
          simp [Instr.sliceBounds, k1', q1 _ (Nat.le_refl _)]

def evSliceR (P : Program) (t : TypeId) (b : BN) (e sz m : Nat) (lo hi : Option PV) : Option PV :=
  (tyi P t).bind fun i => i.el.bind fun e' => (tyi P e').bind fun te => if te.sz = sz ∧ sb lo hi m = some (0, m) then some (.rsl b e sz m) else none
def evSlice (P : Program) (t : TypeId) (x : PV) (lo hi : Option PV) : Option PV :=
  match x with
  | .rsl b e sz m => evSliceR P t b e sz m lo hi
  | .d (.str s) => (tyi P t).bind fun i => if i.str = true then (sb lo hi s.length).map fun q => .d (.str ((s.take q.2).drop q.1)) else none
  | x => x.list.bind fun s => (tyi P t).bind fun i => i.el.bind fun e => (tyi P e).bind fun te => if te.sz = s.1 then (sb lo hi s.2.length).map fun q => .d (.sl s.1 ((s.2.take q.2).drop q.1)) else none
theorem evSlice_ok {P : Program} {G : Gh} {w : World} {t : TypeId} {x r : PV} {u : Value} {l1 : Loc} (loc : Loc) {lo hi : Option PV} {lv hv : Option Value} (hx : RepT P G w l1 x u) (hlo : RepO P G w lo lv) (hhi : RepO P G w hi hv)
    (h : evSlice P t x lo hi = some r) : ∃ rv, (Instr.sliceAt t u lv hv none).run P w = .ok rv w ∧ RepT P G w loc r rv := by
  unfold evSlice at h
  split at h
  · rename_i b e sz m
    unfold evSliceR at h
    obtain ⟨rfl, hlv, hm⟩ := hx
    simp only [Option.bind_eq_some_iff] at h
    obtain ⟨i, hi', e', he, te, hte, h⟩ := h
    split at h
    · rename_i hc
      obtain ⟨rfl, hsb⟩ := hc
      cases h
      have hu := tyi_el hi' he
      obtain ⟨h1, h2, h3⟩ := run_sb (P := P) (w := w) true hlo hhi (Nat.le_refl _) hsb
      refine ⟨.slice (some ⟨G.β b, 0, none⟩) m m, ?_, rfl, hlv, hm⟩
      by_cases h0 : m = 0
      · subst h0
        simp [Instr.sliceAt, Instr.slice, run_underlying hu, h1, tyi_size hte]
      · simp [Instr.sliceAt, Instr.slice, run_underlying hu, h1, tyi_size hte, h0, Addr.add_lit]
    · cases h
  · obtain ⟨hx, -⟩ := hx; cases hx
    rename_i s hb
    simp only [Option.bind_eq_some_iff] at h
    obtain ⟨i, hi', h⟩ := h
    split at h
    · rename_i hs
      simp only [Option.map_eq_some_iff] at h
      obtain ⟨⟨a, b⟩, hab, rfl⟩ := h
      have hu := tyi_str hi' hs
      obtain ⟨h1, h2, h3⟩ := run_sb (P := P) (w := w) false hlo hhi (Nat.le_refl _) hab
      have hsz : (⟨s.toArray⟩ : ByteArray).size = s.length := by simp [ByteArray.size]
      refine ⟨.string ⟨((s.take b).drop a).toArray⟩, ?_, ⟨.str _ (by simp; omega), rfl⟩⟩
      have hx : (⟨s.toArray⟩ : ByteArray).extract a b = ⟨((s.take b).drop a).toArray⟩ := by
        apply ByteArray.ext
        simp [ByteArray.data_extract, List.extract_eq_take_drop, List.drop_take]
      simp [Instr.sliceAt, Instr.slice, run_underlying hu, hsz, h1, hx]
    · cases h
  · simp only [Option.bind_eq_some_iff] at h
    obtain ⟨⟨sz, s⟩, hl, i, hi', e, he, te, hte, h⟩ := h
    split at h
    · rename_i hsz
      simp only at hsz
      subst hsz
      simp only [Option.map_eq_some_iff] at h
      obtain ⟨⟨a, b⟩, hab, rfl⟩ := h
      have hu := tyi_el hi' he
      have hd := hx.list hl
      rcases hd.sl_shape with ⟨rfl, rfl⟩ | ⟨g, o, c, rfl, hlc, huni, hrun⟩ | ⟨rfl, ad, c, rfl⟩
      rotate_left 2
      · obtain ⟨h1, h2, h3⟩ := run_sb (P := P) (w := w) (cap := c) true hlo hhi (by simp) hab
        simp only [List.length_nil] at h1 h3
        obtain rfl : b = 0 := by omega
        obtain rfl : a = 0 := by omega
        refine ⟨.slice (some ad) 0 c, ?_, ⟨by simpa using RepD.emp te.sz ad c, rfl⟩⟩
        by_cases hc0 : c = 0
        · subst hc0; simp [Instr.sliceAt, Instr.slice, run_underlying hu, h1, tyi_size hte]
        · simp [Instr.sliceAt, Instr.slice, run_underlying hu, h1, tyi_size hte, hc0, Addr.add]
      · obtain ⟨h1, h2, h3⟩ := run_sb (P := P) (w := w) true hlo hhi (Nat.le_refl _) hab
        simp only [List.length_nil] at h1 h3
        obtain rfl : b = 0 := by omega
        obtain rfl : a = 0 := by omega
        refine ⟨.slice none 0 0, ?_, ⟨by simpa using RepD.nil te.sz, rfl⟩⟩
        simp [Instr.sliceAt, Instr.slice, run_underlying hu, h1, tyi_size hte]
      · obtain ⟨h1, h2, h3⟩ := run_sb (P := P) (w := w) true hlo hhi hlc hab
        have hbd := hd.len
        by_cases hcl : c = a
        · have hab' : b - a = 0 := by omega
          refine ⟨.slice (some ⟨g, o, none⟩) (b - a) (c - a), ?_, ?_, rfl⟩
          · rw [hcl] at h1 ⊢
            simp [Instr.sliceAt, Instr.slice, run_underlying hu, h1, tyi_size hte]
          · have hnil : (s.take b).drop a = [] := by apply List.drop_eq_nil_of_le; simp; omega
            rw [hnil]
            have := RepD.of_run (S := G.im) (w := w) (sz := te.sz) (l := []) (g := g) (o := o) (c := c - a) (by simp) (by simp) (by simp) ⟨[], by simp [flat_nil], by simp [flat_nil], by simp, by simp [flat_nil]⟩
            rw [hab']
            exact this
        · refine ⟨.slice (some ⟨g, o + a * te.sz, none⟩) (b - a) (c - a), ?_, ?_, rfl⟩
          · simp [Instr.sliceAt, Instr.slice, run_underlying hu, h1, tyi_size hte, hcl, Addr.add_lit]
          · have hlen : ((s.take b).drop a).length = b - a := by simp; omega
            rw [← hlen]
            refine RepD.of_run (by rw [hlen]; omega) (by rw [hlen]; omega) (fun x hx => huni x (List.mem_of_mem_take (List.mem_of_mem_drop hx))) ?_
            have := (hrun.take (b * te.sz)).drop (a * te.sz)
            rwa [flat_take huni, flat_drop (fun x hx => huni x (List.mem_of_mem_take hx))] at this
    · cases h

/-- The cells of a variable in memory, read. -/
def bxRead (cells : List PV) (o sz : Nat) (ag : Bool) : Option PV :=
  if ag then (if o + sz ≤ cells.length then some (.agg ((cells.drop o).take sz)) else none) else cells[o]?
theorem BoxAt.cell {P : Program} {G : Gh} {w : World} {b : BN} {cells : List PV} (h : BoxAt P G w b cells) {j : Nat} {x : PV} (hx : cells[j]? = some x) :
    ∃ u, w.cell? ⟨G.β b, j, none⟩ = some u ∧ w.frozen? ⟨G.β b, j, none⟩ = false ∧ u.oneCell' = true ∧ RepC P G w (.b b, 0, j) x u := by
  obtain ⟨cs, e, h1, h2, h3, h4⟩ := h
  have hjl : j < cells.length := (List.getElem?_eq_some_iff.1 hx).1
  have hlt : j < cs.size := by omega
  refine ⟨cs[j], ?_, ?_, h3 j _ hjl (Array.getElem?_eq_getElem hlt), h4 j x _ hx (Array.getElem?_eq_getElem hlt)⟩
  · simp [World.cell?, h1, hlt]
  · simp [World.frozen?, h1]
def LoadRep (P : Program) (G : Gh) (w : World) (b : BN) (o : Nat) (ag : Bool) (r : PV) (rv : Value) : Prop :=
  match r with
  | .agg l => ag = true ∧ ∃ cs : Array Value, rv = .agg cs ∧ cs.size = l.length ∧ (∀ u ∈ cs, u.oneCell' = true) ∧ ∀ (j : Nat) x u, l[j]? = some x → cs[j]? = some u → RepC P G w (.b b, 0, o + j) x u
  | r => ag = false ∧ RepC P G w (.b b, 0, o) r rv ∧ rv.oneCell' = true
theorem run_loadBox {P : Program} {G : Gh} {w : World} {b : BN} {cells : List PV} (h : BoxAt P G w b cells) {t : TypeId} {i : TI} (hi : tyi P t = some i) {o : Nat} {r : PV}
    (hr : bxRead cells o i.sz i.agg = some r) : ∃ rv, (Instr.loadAt t (.pointer (some ⟨G.β b, o, none⟩))).run P w = .ok rv w ∧
      LoadRep P G w b o i.agg r rv := by
  unfold bxRead at hr
  split at hr
  · rename_i hag
    split at hr
    · rename_i hle
      cases hr
      obtain ⟨cs, e, h1, h2, h3, h4⟩ := h
      have hcell : ∀ (j : Nat) v, (cs.extract o (o + i.sz)).toList[j]? = some v → w.cell? ((⟨G.β b, o, none⟩ : Addr).add j) = some v := by
        intro j v hv
        rw [Array.getElem?_toList, Array.getElem?_extract] at hv
        split at hv
        · simp [Addr.add_lit, World.cell?, h1, hv]
        · cases hv
      have hlen : (cs.extract o (o + i.sz)).toList.length = i.sz := by simp; omega
      have hrun := run_loadCells_list (P := P) w ⟨G.β b, o, none⟩ (cs.extract o (o + i.sz)).toList hcell
      rw [hlen, Array.toArray_toList] at hrun
      refine ⟨.agg (cs.extract o (o + i.sz)), ?_, hag, _, rfl, by simp; omega, ?_, ?_⟩
      · simp [Instr.loadAt, Instr.sureAddr, loadVar, tyi_agg hi, tyi_size hi, hag, hrun]
      · intro u hu
        obtain ⟨j, hj, rfl⟩ := Array.mem_iff_getElem.1 hu
        have hj2 : j < i.sz := by simp at hj; omega
        rw [Array.getElem_extract]
        exact h3 (o + j) _ (by omega) (Array.getElem?_eq_getElem (by omega))
      · intro j x u hx hu
        rw [List.getElem?_take] at hx
        split at hx
        · rw [List.getElem?_drop] at hx
          rw [Array.getElem?_extract] at hu
          split at hu
          · exact h4 _ _ _ hx hu
          · cases hu
        · cases hx
    · cases hr
  · rename_i hag
    obtain ⟨u, k1, k2, k3, k4⟩ := h.cell hr
    refine ⟨u, ?_, ?_⟩
    · simp only [Bool.not_eq_true] at hag
      simp [Instr.loadAt, Instr.sureAddr, loadVar, tyi_agg hi, hag, k1]
    · cases r <;> first | exact ⟨by simpa using hag, k4, k3⟩ | (simp only [RepC] at k4)

/-- What lies behind a place in a slice, read. -/
def evELoad (P : Program) (t : TypeId) (cs : List PD) : Option PV :=
  (tyi P t).bind fun i => if i.agg then (if i.sz ≤ cs.length then some (.agg ((cs.take i.sz).map .d)) else none) else cs.head?.map .d
theorem evELoad_ok {P : Program} {G : Gh} {w : World} {t : TypeId} {cs : List PD} {r : PV} {u : Value} {l1 : Loc} (loc : Loc) (hx : RepT P G w l1 (.eptr cs) u) (h : evELoad P t cs = some r) :
    ∃ rv, (Instr.loadAt t u).run P w = .ok rv w ∧ RepT P G w loc r rv := by
  obtain ⟨g, o, rfl, vs, hl, hs, hv, hr⟩ := hx
  unfold evELoad at h
  simp only [Option.bind_eq_some_iff] at h
  obtain ⟨i, hi, h⟩ := h
  split at h
  · rename_i hag
    split at h
    · rename_i hle
      cases h
      have hcell : ∀ (j : Nat) v, (vs.take i.sz)[j]? = some v → w.cell? ((⟨g, o, none⟩ : Addr).add j) = some v := by
        intro j v hj
        rw [List.getElem?_take] at hj
        split at hj
        · rw [Addr.add_lit]; exact (hv j v hj).2
        · cases hj
      have hrun := run_loadCells_list (P := P) w ⟨g, o, none⟩ (vs.take i.sz) hcell
      have hlen : (vs.take i.sz).length = i.sz := by simp; omega
      rw [hlen] at hrun
      refine ⟨.agg (vs.take i.sz).toArray, ?_, _, rfl, by simp; omega, ?_, ?_⟩
      · simp [Instr.loadAt, Instr.sureAddr, loadVar, tyi_agg hi, tyi_size hi, hag, hrun]
      · intro u hu
        rw [List.mem_toArray] at hu
        obtain ⟨j, hj, rfl⟩ := List.mem_iff_getElem.1 hu
        simp only [List.length_take] at hj
        have hj2 : j < cs.length := by omega
        rw [List.getElem_take]
        exact (hr j cs[j] _ (List.getElem?_eq_getElem hj2) (List.getElem?_eq_getElem _)).oneCell (hs _ (List.getElem_mem hj2))
      · intro j x u hx hu
        rw [List.getElem?_map, List.getElem?_take] at hx
        simp only [List.getElem?_toArray, List.getElem?_take] at hu
        split at hx
        · rename_i hj
          rw [if_pos hj] at hu
          obtain ⟨y, hy, rfl⟩ := Option.map_eq_some_iff.1 hx
          exact ⟨hr j y u hy hu, hs y (List.mem_of_getElem? hy)⟩
        · cases hx
    · cases h
  · rename_i hag
    simp only [Bool.not_eq_true] at hag
    simp only [Option.map_eq_some_iff] at h
    obtain ⟨y, hy, rfl⟩ := h
    cases cs with
    | nil => cases hy
    | cons c rest =>
      cases hy
      cases vs with
      | nil => simp at hl
      | cons v vs' =>
        have h0 := hv 0 v rfl
        refine ⟨v, ?_, hr 0 y v rfl rfl, hs _ (List.mem_cons_self ..)⟩
        simp [Instr.loadAt, Instr.sureAddr, loadVar, tyi_agg hi, hag]
        rw [show (⟨g, o, none⟩ : Addr) = ⟨g, o + 0, none⟩ from rfl, h0.2]

end Go.Bee
