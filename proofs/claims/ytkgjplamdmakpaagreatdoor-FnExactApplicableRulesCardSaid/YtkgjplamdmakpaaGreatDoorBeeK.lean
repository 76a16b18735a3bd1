/-
What an operation that calls no function comes to in the logic, the machine comes to. No condition.
-/
import Derived.Test.YtkgjplamdmakpaaGreatDoorBeeJ
namespace Go.Bee
set_option linter.unusedVariables false

theorem pick2_rep {P : Program} {G : Gh} {w : World} {loc : Loc} {c : Bool} {x y : PV} {u v : Value} (hx : RepT P G w loc x u) (hy : RepT P G w loc y v) : RepT P G w loc (pick2 c x y) (if c then u else v) := by
  unfold pick2
  split
  · obtain ⟨hx, -⟩ := hx; obtain ⟨hy, -⟩ := hy
    cases hx; cases hy
    cases c
    · exact ⟨.bool _, rfl⟩
    · exact ⟨.bool _, rfl⟩
  · cases c
    · simpa using hy
    · simpa using hx

theorem evStore_ok {P : Program} {F : Fr} {G : Gh} {st : St} {a : Act} {w : World} (h : Rel P F G st a w) {fl : AF} {ts : List Nat} {t : TypeId} {X Y : Operand} {B B' : Bx} (hts : fl.mv = true → ∀ t, Y = .tmp t → t ∈ ts)
    (hBe : fl.be = true → B = st.bx) (he : evStore P fl t (st.ev X) (st.ev Y) B = some B') :
    ∃ w' G', (Instr.storeAt t (a.eval X) (a.eval Y)).run P w = .ok () w' ∧ Rel P F G' (st.upd ts none .junk (if fl.be = true then B' else st.bx)) (a.put none undef) w' := by
  unfold evStore at he
  have hX := h.ev X
  split at he
  · rename_i b off hev
    rw [hev] at hX
    obtain ⟨hp, hl⟩ := hX
    simp only [Option.bind_eq_some_iff] at he
    obtain ⟨cells, hc, i, hi, new, hnew, he⟩ := he
    split at he
    · rename_i hcond
      obtain ⟨hbe, hn, hfit⟩ := hcond
      cases he
      have hBB := hBe hbe
      subst hBB
      simp only [hbe, if_true]
      have hst : ∀ (f : Pos → Pos) (vs : List Value), (a.eval Y).cells.toList = vs → (∀ t, t ∉ ts → ∀ i j, f (.t t, i, j) = (.t t, i, j)) → (∀ c j, f (.b c, 0, j) = (.b c, 0, j)) → f qpos = qpos → vs.length = new.length → (∀ u ∈ vs, u.oneCell' = true) →
          (∀ (j : Nat) x u, new[j]? = some x → vs[j]? = some u → ∃ p, RepC P G w p x u ∧ f p = (.b b, 0, off + j)) →
          ∃ w' G', (Instr.storeAt t (a.eval X) (a.eval Y)).run P w = .ok () w' ∧ Rel P F G' (st.upd ts none .junk (Bx.set st.bx b (cells.take off ++ new ++ cells.drop (off + new.length)))) (a.put none undef) w' := by
        intro f vs hvs hf hfb hfq hlen hone hrep
        obtain ⟨G', w', hrun, hR⟩ := h.store hc f ts hf hfb hfq hlen hfit hone hrep
        refine ⟨w', G', ?_, hR⟩
        have hs : (a.eval Y).cells.size = i.sz := by
          have : (a.eval Y).cells.toList.length = i.sz := by rw [hvs, hlen, hn]
          simpa using this
        have hne : ¬ ((a.eval Y).cells.size ≠ i.sz) := by simp [hs]
        rw [hp]
        simp only [Instr.storeAt, Instr.sureAddr, storeVar, Sem.run_bind, Sem.run_pure, Result.andThen_ok, tyi_size hi]
        rw [if_neg hne]
        rw [hvs]
        exact hrun
      have hY := h.ev Y
      cases hmv : fl.mv with
      | false =>
        rw [hmv] at hnew
        obtain ⟨k1, k2, k3⟩ := pvCells_rep (hY.bT .res) hnew
        refine hst id _ rfl (fun _ _ _ _ => rfl) (fun _ _ => rfl) rfl (by simpa using k1) (fun u hu => k2 u (by simpa using hu)) (fun j x u hx hu => ?_)
        have h2 := pvCells_rep (hY.bT (.b b)) hnew
        have h3 := h2.2.2 j x u hx (by simpa using hu)
        refine ⟨(.b b, 0, off + j), ?_, rfl⟩
        have hbc : x.bC = x := by
          have hCC : ∀ q : PV, q.bC.bC = q.bC := by intro q; cases q <;> rfl
          have : ∀ z, pvCells (PV.bT z) = some new → ∀ y ∈ new, y.bC = y := by
            intro z hz y hy
            cases z <;> simp only [PV.bT, PV.bV, pvCells, PV.bC, Option.some.injEq, reduceCtorEq] at hz <;> subst hz <;> first
              | (simp only [List.mem_singleton] at hy; subst hy; rfl)
              | (simp only [List.mem_map] at hy; obtain ⟨q, _, rfl⟩ := hy; exact hCC q)
          exact this _ hnew x (List.mem_of_getElem? hx)
        rw [← hbc]; exact h3.bC _
      | true =>
        rw [hmv] at hnew
        simp only [mvd, if_true] at hnew
        obtain ⟨k1, k2, k3⟩ := pvCells_rep hY hnew
        have hnotb : ∀ c, opLoc Y ≠ .b c := by intro c; cases Y <;> simp [opLoc]
        refine hst (fun p => if p.1 = opLoc Y then (.b b, 0, off + p.2.2) else p) _ rfl (fun t ht i j => ?_) (fun c j => ?_) (by cases Y <;> simp [qpos, opLoc]) (by simpa using k1) (fun u hu => k2 u (by simpa using hu)) (fun j x u hx hu => ?_)
        · have : Loc.t t ≠ opLoc Y := by
            intro e
            cases Y <;> simp [opLoc] at e
            subst e; exact ht (hts hmv _ rfl)
          simp [this]
        · have : Loc.b c ≠ opLoc Y := fun e => hnotb c e.symm
          simp [this]
        · exact ⟨(opLoc Y, 0, j), k3 j x u hx (by simpa using hu), by simp⟩
    · cases he
  · rename_i cs hev
    rw [hev] at hX
    obtain ⟨g, o, hp, hz⟩ := hX
    simp only [Option.bind_eq_some_iff] at he
    obtain ⟨i, hi, new, hnew, he⟩ := he
    split at he
    · rename_i hcond
      obtain ⟨hbe, hn, h0, hfit⟩ := hcond
      cases he
      have hBB := hBe hbe
      subst hBB
      simp only [hbe, if_true]
      have hY := (h.ev Y).bT .res
      obtain ⟨k1, k2, k3⟩ := pvCells_rep hY hnew
      have hsz : (a.eval Y).cells.toList.length = new.length := by simpa using k1
      obtain ⟨f1, f2⟩ := zfit_get hfit
      obtain ⟨w', hrun, hR⟩ := h.zstore (ts := ts) hz (vs := (a.eval Y).cells.toList) (by omega) (by omega) (fun j x hj hx => (f2 j (by omega)).2 x hx) (fun u hu => by
        refine ⟨k2 u (by simpa using hu), ?_⟩
        obtain ⟨j, hj, rfl⟩ := List.mem_iff_getElem.1 hu
        obtain ⟨y, hy, hy2⟩ := (f2 j (by omega)).1
        have := k3 j _ _ hy (by rw [← Array.getElem?_toList]; exact List.getElem?_eq_getElem hj)
        exact zplain_rep this hy2)
      refine ⟨w', G, ?_, hR⟩
      have hs : (a.eval Y).cells.size = i.sz := by rw [← hn]; exact k1
      have hne : ¬ ((a.eval Y).cells.size ≠ i.sz) := by simp [hs]
      rw [hp]
      simp only [Instr.storeAt, Instr.sureAddr, storeVar, Sem.run_bind, Sem.run_pure, Result.andThen_ok, tyi_size hi]
      rw [if_neg hne]
      exact hrun
    · cases he
  · cases he

theorem flat_rep {α : Type} (z : List α) : ∀ (n j : Nat) (x : α), (List.replicate n z).flatten[j]? = some x → z[j % z.length]? = some x
  | 0, j, x, h => by simp at h
  | n + 1, j, x, h => by
    simp only [List.replicate_succ, List.flatten_cons] at h
    by_cases hj : j < z.length
    · rw [List.getElem?_append_left hj] at h
      rw [Nat.mod_eq_of_lt hj]; exact h
    · rw [List.getElem?_append_right (by omega)] at h
      have := flat_rep z n _ x h
      rwa [Nat.mod_eq_sub_mod (by omega)]
theorem evMake_ok {P : Program} {F : Fr} {G : Gh} {st : St} {a : Act} {w : World} (h : Rel P F G st a w) {fl : AF} {d : Nat} (hd : d < F.nt) {t : TypeId} {X Y : Operand} {r : PV} {B B' : Bx} (hBe : fl.be = true → B = st.bx) (ts : List Nat)
    (he : evMake P fl t d (st.ev X) (st.ev Y) B = some (r, B')) :
    ∃ rv w' G', (Instr.makeSlice t (a.eval X) (a.eval Y)).run P w = .ok rv w' ∧ Rel P F G' (st.upd ts (some d) r (if fl.be = true then B' else st.bx)) (a.put (some d) rv) w' := by
  unfold evMake at he
  have hX := h.ev X
  have hY := h.ev Y
  split at he
  · rename_i k n k' m hx hy
    rw [hx] at hX; rw [hy] at hY
    obtain ⟨hX, -⟩ := hX
    obtain ⟨hY, -⟩ := hY
    simp only [Option.bind_eq_some_iff] at he
    obtain ⟨i, hi, e, hel, te, hte, he⟩ := he
    split at he
    · rename_i hc
      obtain ⟨hbe, hbn, rfl, h0, hb, hby, hzl, hsz, hj⟩ := hc
      simp only [Option.some.injEq, Prod.mk.injEq] at he
      obtain ⟨rfl, rfl⟩ := he
      have hBB := hBe hbe
      subst hBB
      have ht := tyi_el hi hel
      obtain ⟨i', td, k1, k2, k3, k4, k5, k6, k7, k8, k9, k10⟩ := tyi_spec hte
      cases hz : i'.zero with
      | none => rw [k9, hz] at hzl; simp at hzl; omega
      | some z =>
        have hzero : te.zero = z.cells.toList.map cpc := by rw [k9, hz]; rfl
        have hzs : z.cells.size = te.sz := by rw [hzero] at hzl; simpa using hzl
        have hone : ∀ u ∈ z.cells, u.oneCell' = true := by
          intro u hu
          have := List.all_eq_true.1 hj (cpc u) (by rw [hzero]; exact List.mem_map.2 ⟨u, by simpa using hu, rfl⟩)
          exact cpc_cell (by simpa using this)
        have hvX : a.eval X = .int k n := by generalize a.eval X = u at hX; cases hX; rfl
        have hvY : a.eval Y = .int k' n := by generalize a.eval Y = u at hY; cases hY; rfl
        have hrun := run_make (P := P) w t e i' z ht k1 hz k k' n n h0 (Int.le_refl _) (by rw [← k4]; exact hby) (by omega)
        rw [← k3] at hrun
        have hmc : ∀ (j : Nat) u, (madeCells z.cells (n.toNat * te.sz))[j]? = some u → z.cells[j % te.sz]? = some u := by
          intro j u hu
          have hjs : j % te.sz < z.cells.size := by rw [hzs]; exact Nat.mod_lt _ hsz
          unfold madeCells at hu
          rw [Array.getElem?_map] at hu
          obtain ⟨q, hq, rfl⟩ := Option.map_eq_some_iff.1 hu
          have hq' : q = j := by
            have hjl : j < n.toNat * te.sz := by
              have := (Array.getElem?_eq_some_iff.1 hq).1
              simpa using this
            rw [Array.getElem?_range, if_pos hjl] at hq
            exact (Option.some.inj hq).symm
          subst hq'
          rw [hzs, Array.getElem?_eq_getElem hjs]
          congr 1
          exact (getElem!_pos z.cells (q % te.sz) hjs).symm
        obtain ⟨G', hG'⟩ := h.newBox (d := d) hd hbn (cs := madeCells z.cells (n.toNat * te.sz)) (e := e) (cells := (List.replicate n.toNat te.zero).flatten) id ts (fun _ _ _ _ => rfl) (fun _ _ => rfl) rfl
          (by rw [size_madeCells]; simp [hzl]) (fun u hu => by
            obtain ⟨j, hj1, rfl⟩ := Array.mem_iff_getElem.1 hu
            exact hone _ (Array.mem_of_getElem? (hmc j _ (Array.getElem?_eq_getElem hj1)))) (fun j x u hx hu => ⟨(.b (.t d), 0, j), by
            have h1 := flat_rep te.zero _ j x hx
            rw [hzl, hzero, List.getElem?_map, Array.getElem?_toList, hmc j u hu] at h1
            simp at h1
            rw [← h1]; exact cpc_rep _ u, rfl⟩)
        have hp := hG'.tm d
        have hv0 : (a.put (some d) (.pointer (some ⟨w.heap.size, 0, none⟩))).tmps.getD d undef = .pointer (some ⟨w.heap.size, 0, none⟩) := by
          have hlt : d < a.tmps.size := by rw [h.nt]; exact hd
          simp [Act.put, Array.getD_eq_getD_getElem?, hlt]
        rw [hv0] at hp
        have hp' : RepT P G' (w.alloc (.cells (madeCells z.cells (n.toNat * te.sz)) e)) (.t d) (.ptr (.t d) 0) (.pointer (some ⟨w.heap.size, 0, none⟩)) := by
          have : (st.upd ts (some d) (.ptr (.t d) 0) (Bx.set st.bx (.t d) (List.replicate n.toNat te.zero).flatten)).tm d = .ptr (.t d) 0 := by simp [St.upd]
          rw [this] at hp; exact hp
        obtain ⟨hp1, hp2⟩ := hp'
        have hβ : G'.β (.t d) = w.heap.size := by injection hp1 with h1; injection h1 with h1; injection h1 with h1; exact h1.symm
        have hR := hG'.put1 [] (d := some d) (x := .rsl (.t d) e te.sz n.toNat) (v := .slice (some ⟨w.heap.size, 0, none⟩) n.toNat n.toNat) (fun d' e => by cases e; exact hd) (fun loc => ⟨by rw [hβ], hp2, by omega⟩)
        refine ⟨_, _, G', by rw [hvX, hvY]; exact hrun, ?_⟩
        rw [if_pos hbe]
        have e1 : (st.upd ts (some d) (.ptr (.t d) 0) (Bx.set st.bx (.t d) (List.replicate n.toNat te.zero).flatten)).upd [] (some d) (.rsl (.t d) e te.sz n.toNat) (Bx.set st.bx (.t d) (List.replicate n.toNat te.zero).flatten) =
            st.upd ts (some d) (.rsl (.t d) e te.sz n.toNat) (Bx.set st.bx (.t d) (List.replicate n.toNat te.zero).flatten) := by
          unfold St.upd
          congr 1
          funext t
          by_cases htd : some t = some d <;> simp [htd]
        have e2 : ∀ v, (a.put (some d) (.pointer (some ⟨w.heap.size, 0, none⟩))).put (some d) v = a.put (some d) v := by
          intro v; simp [Act.put]
        have hR' := hR
        rw [e2] at hR'
        exact e1 ▸ hR'
    · cases he
  · cases he

theorem ev1_sound {P : Program} {F : Fr} {G : Gh} {st : St} {a : Act} {w : World} (h : Rel P F G st a w) {fl : AF} {o : Oper} {v : PV} {B' : Bx} (hd : ∀ d', o.dst = some d' → d' < F.nt)
    (he : ev1 P fl o st.ev (vz fl st.bx) = some (v, B')) {K : Act → World → Prop} {Q : Exit → Act → World → Prop} (hK : ∀ a' w', (∃ G', Rel P F G' (st.after fl o v B') a' w') → K a' w') : o.wp P a w K Q := by
  have hbsub : ∀ b c, vz fl st.bx b = some c → st.bx b = some c := by
    intro b c hc; unfold vz at hc; split at hc
    · exact hc
    · cases hc
  generalize hBx : vz fl st.bx = B at he hbsub
  have hBeq : fl.be = true → B = st.bx := by intro h2; rw [← hBx]; simp [vz, h2]
  have hsame : (if fl.be = true then B else st.bx) = st.bx := by split <;> first | (rename_i hc; exact hBeq hc) | rfl
  -- a plain value
  have plain : ∀ (rv : Value), (execOp a.eval o).run P w = .ok (.value rv) w → B' = B → (∀ loc, RepT P G w loc v rv) → o.wp P a w K Q := by
    intro rv hrun hB hrep
    refine wp_value hrun (hK _ _ ⟨G, ?_⟩)
    unfold St.after
    rw [hB, hsame]
    exact h.put1 _ hd hrep
  -- a value that the same run gives at every place
  have plain2 : ∀ (S : Sem Value), (execOp a.eval o = do pure (.value (← S))) → B' = B → (∀ loc, ∃ rv, S.run P w = .ok rv w ∧ RepT P G w loc v rv) → o.wp P a w K Q := by
    intro S hS hB hrep
    obtain ⟨rv, hrun, _⟩ := hrep .res
    refine plain rv ?_ hB (fun loc => ?_)
    · rw [hS]; simp [hrun]
    · obtain ⟨rv', hrun', hr'⟩ := hrep loc
      rw [hrun] at hrun'; cases hrun'; exact hr'
  have hmvt : ∀ x, x ∈ o.op.operands.toList → fl.mv = true → ∀ t, x = Operand.tmp t → t ∈ stripsOf fl o := by
    intro x hx hmv t e
    subst e
    simp only [stripsOf, hmv, if_true]
    exact mem_tmpsOf.2 hx
  unfold ev1 at he
  split at he
  · -- move
    rename_i x hop
    simp only [Option.some.injEq, Prod.mk.injEq] at he
    obtain ⟨rfl, rfl⟩ := he
    obtain ⟨G', hG'⟩ := h.mvd fl.mv (ts := stripsOf fl o) x (hmvt x (by simp [hop, Op.operands])) hd
    exact wp_value (w' := w) (v := a.eval x) (by simp [execOp, hop]) (hK _ _ ⟨G', by unfold St.after; rw [hsame]; exact hG'⟩)
  · -- assign
    rename_i x hop
    simp only [Option.some.injEq, Prod.mk.injEq] at he
    obtain ⟨rfl, rfl⟩ := he
    obtain ⟨G', hG'⟩ := h.mvd fl.mv (ts := stripsOf fl o) x (hmvt x (by simp [hop, Op.operands])) hd
    exact wp_value (w' := w) (v := a.eval x) (by simp [execOp, hop]) (hK _ _ ⟨G', by unfold St.after; rw [hsame]; exact hG'⟩)
  · -- pick
    rename_i c x y hop
    split at he
    · rename_i b hb
      simp only [Option.some.injEq, Prod.mk.injEq] at he
      obtain ⟨rfl, rfl⟩ := he
      have hc := h.ev c
      rw [hb] at hc
      obtain ⟨hc, -⟩ := hc
      have hcv : a.eval c = .bool b := by generalize a.eval c = u at hc; cases hc; rfl
      refine plain (if b then a.eval x else a.eval y) ?_ rfl (fun loc => pick2_rep ((h.ev x).bT loc) ((h.ev y).bT loc))
      simp [execOp, hop, hcv, asBool]
    · cases he
  · -- alloc
    rename_i t hop
    simp only [Option.bind_eq_some_iff] at he
    obtain ⟨d, hdd, i, hi, he⟩ := he
    split at he
    · rename_i hc
      obtain ⟨hbe, hbn, hz0, hj⟩ := hc
      simp only [Option.some.injEq, Prod.mk.injEq] at he
      obtain ⟨rfl, rfl⟩ := he
      obtain ⟨i', td, k1, k2, k3, k4, k5, k6, k7, k8, k9, k10⟩ := tyi_spec hi
      have hBB := hBeq hbe
      subst hBB
      cases hzz : i'.zero with
      | none => rw [k9, hzz] at hz0; exact absurd rfl hz0
      | some z =>
        have hzero : i.zero = z.cells.toList.map cpc := by rw [k9, hzz]; rfl
        have hone : ∀ u ∈ z.cells, u.oneCell' = true := by
          intro u hu
          have := List.all_eq_true.1 hj (cpc u) (by rw [hzero]; exact List.mem_map.2 ⟨u, by simpa using hu, rfl⟩)
          exact cpc_cell (by simpa using this)
        have hrunA : (execOp a.eval o).run P w = .ok (.value (.pointer (some ⟨w.heap.size, 0, none⟩))) (w.alloc (.cells z.cells t)) := by
          simp [execOp, hop, Instr.alloc, zeroValue, typeInfo, k1, hzz, newVar, newRow]
        obtain ⟨G', hG'⟩ := h.newBox (d := d) (hd d hdd) hbn (cs := z.cells) (e := t) (cells := i.zero) id (stripsOf fl o) (fun _ _ _ _ => rfl) (fun _ _ => rfl) rfl (by rw [hzero]; simp) hone (fun j x u hx hu => ⟨(.b (.t d), 0, j), by
          rw [hzero, List.getElem?_map, Array.getElem?_toList, hu] at hx
          simp at hx; subst hx
          exact cpc_rep _ u, rfl⟩)
        exact wp_value hrunA (hK _ _ ⟨G', by unfold St.after; rw [if_pos hbe, hdd]; exact hG'⟩)
    · cases he
  · -- box
    rename_i t x hop
    simp only [Option.bind_eq_some_iff] at he
    obtain ⟨d, hdd, cells, hcells, he⟩ := he
    split at he
    · rename_i hc
      obtain ⟨hbe, hbn⟩ := hc
      simp only [Option.some.injEq, Prod.mk.injEq] at he
      obtain ⟨rfl, rfl⟩ := he
      have hBB := hBeq hbe
      subst hBB
      have hrunA : (execOp a.eval o).run P w = .ok (.value (.pointer (some ⟨w.heap.size, 0, none⟩))) (w.alloc (.cells (a.eval x).cells t)) := by
        simp [execOp, hop, Instr.box, newVar, newRow]
      have hX := h.ev x
      cases hmv : fl.mv with
      | false =>
        rw [hmv] at hcells
        obtain ⟨k1, k2, k3⟩ := pvCells_rep (hX.bT .res) hcells
        obtain ⟨G', hG'⟩ := h.newBox (d := d) (hd d hdd) hbn (cs := (a.eval x).cells) (e := t) (cells := cells) id (stripsOf fl o) (fun _ _ _ _ => rfl) (fun _ _ => rfl) rfl k1 k2 (fun j y u hy hu => ⟨(.b (.t d), 0, j), (pvCells_rep (hX.bT (.b (.t d))) hcells).2.2 j y u hy hu, rfl⟩)
        exact wp_value hrunA (hK _ _ ⟨G', by unfold St.after; rw [if_pos hbe, hdd]; exact hG'⟩)
      | true =>
        rw [hmv] at hcells
        simp only [mvd, if_true] at hcells
        obtain ⟨k1, k2, k3⟩ := pvCells_rep hX hcells
        have hnotb : ∀ c, opLoc x ≠ .b c := by intro c; cases x <;> simp [opLoc]
        obtain ⟨G', hG'⟩ := h.newBox (d := d) (hd d hdd) hbn (cs := (a.eval x).cells) (e := t) (cells := cells) (fun p => if p.1 = opLoc x then (.b (.t d), 0, p.2.2) else p) (stripsOf fl o)
          (fun t ht i j => by
            have : Loc.t t ≠ opLoc x := by
              intro e
              cases x <;> simp [opLoc] at e
              subst e; exact ht (hmvt _ (by simp [hop, Op.operands]) hmv _ rfl)
            simp [this])
          (fun c j => by
            have : Loc.b c ≠ opLoc x := fun e => hnotb c e.symm
            simp [this]) (by cases x <;> simp [qpos, opLoc]) k1 k2 (fun j y u hy hu => ⟨(opLoc x, 0, j), k3 j y u hy hu, by simp⟩)
        exact wp_value hrunA (hK _ _ ⟨G', by unfold St.after; rw [if_pos hbe, hdd]; exact hG'⟩)
    · cases he
  · -- build
    rename_i t parts hop
    simp only [Option.map_eq_some_iff, Prod.mk.injEq] at he
    obtain ⟨r, hr, rfl, rfl⟩ := he
    exact plain2 (Instr.build t (parts.map fun (i, x) => (i, a.eval x))) (by simp [execOp, hop]) rfl (fun loc => evBuild_ok h loc hr)
  · -- buildSlice
    rename_i t len parts hop
    split at he
    · rename_i hds
      obtain ⟨d, hdd⟩ := Option.isSome_iff_exists.1 hds
      simp only [Option.map_eq_some_iff, Prod.mk.injEq] at he
      obtain ⟨r, hr, rfl, rfl⟩ := he
      obtain ⟨rv, w', G', hrun, hR⟩ := evBuildSlice_ok h (hd d hdd) hr (stripsOf fl o)
      refine wp_value (w' := w') (v := rv) ?_ (hK _ _ ⟨G', by unfold St.after; rw [hsame, hdd]; exact hR⟩)
      have : execOp a.eval o = (do let q ← Instr.buildSlice t len (parts.map fun (i, x) => (i, a.eval x)); pure (Next.value q) : Sem Next) := by simp [execOp, hop]
      rw [this]; simp [hrun]
    · cases he
  · -- load
    rename_i t x hop
    obtain ⟨rv, G', hrun, hR⟩ := evLoad_ok h (ts := stripsOf fl o) (d := o.dst) hd hbsub hBeq he
    refine wp_value (w' := w) (v := rv) ?_ (hK _ _ ⟨G', hR⟩)
    simp [execOp, hop, hrun]
  · -- store
    rename_i t x y hop
    split at he
    · rename_i hdn
      simp only [Option.map_eq_some_iff, Prod.mk.injEq] at he
      obtain ⟨B1, hB1, rfl, rfl⟩ := he
      obtain ⟨w', G', hrun, hR⟩ := evStore_ok h (ts := stripsOf fl o) (hmvt y (by simp [hop, Op.operands])) hBeq hB1
      refine wp_skip' (w' := w') ?_ (hK _ _ ⟨G', by unfold St.after; rw [hdn]; exact hR⟩)
      simp [execOp, hop, hrun]
    · cases he
  · -- nilCheck
    rename_i x hop
    have hX := h.ev x
    split at he
    · rename_i b off hev
      simp only [Option.some.injEq, Prod.mk.injEq] at he
      obtain ⟨rfl, rfl⟩ := he
      rw [hev] at hX
      have hX' := hX
      obtain ⟨hp, hl⟩ := hX'
      refine plain (a.eval x) ?_ rfl (fun loc => ⟨hp, hl⟩)
      rw [hp]; simp [execOp, hop, hp]
    · rename_i cs hev
      simp only [Option.some.injEq, Prod.mk.injEq] at he
      obtain ⟨rfl, rfl⟩ := he
      rw [hev] at hX
      have hX' := hX
      obtain ⟨g, k, hp, hr⟩ := hX'
      refine plain (a.eval x) ?_ rfl (fun loc => ⟨g, k, hp, hr⟩)
      rw [hp]; simp [execOp, hop, hp]
    · cases he
  · -- binOp
    rename_i op t x y yt hop
    simp only [Option.map_eq_some_iff, Prod.mk.injEq] at he
    obtain ⟨r, hr, rfl, rfl⟩ := he
    exact plain2 (do eqGuard op t x y (a.eval x) (a.eval y); binOp op t (a.eval x) (a.eval y)) (by simp [execOp, hop]) rfl (fun loc => evBin_ok loc x y (h.ev x) (h.ev y) hr)
  · -- unOp
    rename_i op t x hop
    simp only [Option.map_eq_some_iff, Prod.mk.injEq] at he
    obtain ⟨r, hr, rfl, rfl⟩ := he
    exact plain2 (Op.unary op (a.eval x)) (by simp [execOp, hop]) rfl (fun loc => evUn_ok loc (h.ev x) hr)
  · -- convert
    rename_i s t x hop
    split at he
    · rename_i hs
      simp only [Option.map_eq_some_iff, Prod.mk.injEq] at he
      obtain ⟨r, hr, rfl, rfl⟩ := he
      exact plain2 (convert s t (a.eval x)) (by simp [execOp, hop]) rfl (fun loc => evConv2_ok loc hs (h.ev x) hr)
    · cases he
  · -- makeFunc
    rename_i fn first caps hop
    split at he
    · rename_i f
      split at he
      · rename_i hf
        simp only [Option.some.injEq, Prod.mk.injEq] at he
        obtain ⟨rfl, rfl⟩ := he
        obtain ⟨hf, hall⟩ := hf
        have hf' : first = #[] := by simpa using hf
        refine plain (.func (.func f) #[] (caps.map a.eval)) (by simp [execOp, hop, hf', Instr.makeFunc]) rfl (fun loc => ⟨caps.map a.eval, rfl, by simp, fun i x u hx hu => ?_⟩)
        rw [List.getElem?_map] at hx
        obtain ⟨c, hc, rfl⟩ := Option.map_eq_some_iff.1 hx
        rw [Array.getElem?_toList] at hc
        rw [Array.getElem?_map, hc] at hu
        simp at hu
        subst hu
        have hat := List.all_eq_true.1 hall c (by
          have := Array.mem_of_getElem? hc
          simpa using this)
        have hr := h.ev c
        generalize st.ev c = y at hr hat
        cases y <;> first | (simp [PV.bC, PV.isAt] at hat; done) | exact hr | exact ⟨OwnAt.data hr, rfl⟩ | exact RepC.bC (P := P) (p := (opLoc c, 0, 0)) (opLoc c, 0, 0) (x := .dp _) hr
      · cases he
    · cases he
  · -- slice
    rename_i t x lo hi mx hop
    split at he
    · rename_i hmx
      simp only [Option.map_eq_some_iff, Prod.mk.injEq] at he
      obtain ⟨r, hr, rfl, rfl⟩ := he
      have hmx' : mx = none := by cases mx <;> simp at hmx; rfl
      have hO : ∀ q : Option Operand, RepO P G w (q.map st.ev) (q.map a.eval) := by
        intro q; cases q with
        | none => trivial
        | some q => exact ⟨_, h.ev q⟩
      exact plain2 (Instr.sliceAt t (a.eval x) (lo.map a.eval) (hi.map a.eval) none) (by simp [execOp, hop, hmx']) rfl (fun loc => evSlice_ok loc (h.ev x) (hO lo) (hO hi) hr)
    · cases he
  · -- fieldAddr
    rename_i t x f hop
    simp only [Option.map_eq_some_iff, Prod.mk.injEq] at he
    obtain ⟨r, hr, rfl, rfl⟩ := he
    exact plain2 (Instr.fieldAt t (a.eval x) f) (by simp [execOp, hop]) rfl (fun loc => evFldAddr_ok loc (h.ev x) hr)
  · -- field
    rename_i t x f hop
    simp only [Option.map_eq_some_iff, Prod.mk.injEq] at he
    obtain ⟨r, hr, rfl, rfl⟩ := he
    exact plain2 (Instr.field t (a.eval x) f) (by simp [execOp, hop]) rfl (fun loc => evFld_ok loc (h.ev x) hr)
  · -- indexAddr
    rename_i t x i hop
    simp only [Option.map_eq_some_iff, Prod.mk.injEq] at he
    obtain ⟨r, hr, rfl, rfl⟩ := he
    exact plain2 (Instr.indexAt t (a.eval x) (a.eval i)) (by simp [execOp, hop]) rfl (fun loc => evIA_ok loc (h.ev x) (h.ev i) hr)
  · -- makeSlice
    rename_i t lo hi hop
    simp only [Option.bind_eq_some_iff] at he
    obtain ⟨d, hdd, he⟩ := he
    obtain ⟨rv, w', G', hrun, hR⟩ := evMake_ok h (hd d hdd) hBeq (stripsOf fl o) he
    refine wp_value (w' := w') (v := rv) ?_ (hK _ _ ⟨G', by unfold St.after; rw [hdd]; exact hR⟩)
    simp [execOp, hop, hrun]
  · -- index
    rename_i t x i hop
    simp only [Option.map_eq_some_iff, Prod.mk.injEq] at he
    obtain ⟨r, hr, rfl, rfl⟩ := he
    exact plain2 (Instr.index t (a.eval x) (a.eval i)) (by simp [execOp, hop]) rfl (fun loc => evIdx_ok loc (h.ev x) (h.ev i) hr)
  · -- extract
    rename_i x i hop
    have hX := h.ev x
    split at he
    · rename_i l hev
      simp only [Option.map_eq_some_iff, Prod.mk.injEq] at he
      obtain ⟨r, hr, rfl, rfl⟩ := he
      rw [hev] at hX
      obtain ⟨vs, hp, hsz, hrep⟩ := hX
      have hlt : i < vs.size := by rw [hsz]; exact (List.getElem?_eq_some_iff.1 hr).1
      have hvi : vs[i]? = some vs[i] := Array.getElem?_eq_getElem hlt
      have hV := hrep i r vs[i] hr hvi
      have hrunX : (execOp a.eval o).run P w = .ok (.value vs[i]) w := by simp [execOp, hop, hp, Instr.extract, hvi]
      cases hmv : fl.mv with
      | false =>
        refine plain vs[i] hrunX rfl (fun loc => ?_)
        rw [hmv]
        have h1 := hV.bV loc 0
        have h2 : RepT P G w loc r.bV vs[i] := RepV.toT h1
        cases r <;> first | exact h2 | (simp only [RepV, RepC] at hV)
      | true =>
        rw [hmv] at hK
        simp only [Bee.mvd, if_true] at hK
        cases hdd : o.dst with
        | none =>
          have := h.next (GStep.refl G w) (ts := stripsOf fl o) (d := none) (x := r) (v := vs[i]) (bx := st.bx) (fun t _ _ i j => rfl) (fun d' e => by cases e) (fun d' e => by cases e) h.hp h.sn
          exact wp_value hrunX (hK _ _ ⟨G, by unfold St.after; rw [hsame, hdd]; exact this⟩)
        | some d =>
          have hnotb : ∀ c, opLoc x ≠ .b c := by intro c; cases x <;> simp [opLoc]
          let f : Pos → Pos := fun p => if p.1 = opLoc x then (.t d, 0, p.2.2) else p
          have hfq : f qpos = qpos := by cases x <;> simp [f, qpos, opLoc]
          have hg := GStep.relabel G w f hfq
          have hR := h.next hg (ts := stripsOf fl o) (d := some d) (x := r) (v := vs[i]) (bx := st.bx) (fun t ht _ i j => by
              have : Loc.t t ≠ opLoc x := by
                intro e
                cases x <;> simp [opLoc] at e
                subst e; exact ht (hmvt _ (by simp [hop, Op.operands]) hmv _ rfl)
              simp [f, this]) (fun d' e => by
              cases e
              exact RepV.toT (hV.step hg (loc' := .t d) (i' := 0) (fun j => by simp [f]))) (fun d' e => by cases e; exact hd d hdd) (h.hp.relabel f (fun b j => by
                have : Loc.b b ≠ opLoc x := fun e => hnotb b e.symm
                simp [f, this]) hfq) (h.sn.relabel f)
          exact wp_value hrunX (hK _ _ ⟨_, by unfold St.after; rw [hsame, hdd]; exact hR⟩)
    · cases he
  · -- calls of builtins
    rename_i c hop
    split at he
    · rename_i x t hcal hargs htys
      simp only [Option.map_eq_some_iff, Prod.mk.injEq] at he
      obtain ⟨r, hr, rfl, rfl⟩ := he
      have e1 : c.args = #[x] := by apply Array.toList_inj.1; simpa using hargs
      have e2 : c.argTypes = #[t] := by apply Array.toList_inj.1; simpa using htys
      exact plain2 (Builtin.len_ #[t] o.type #[a.eval x]) (by simp [execOp, hop, resolve, invoke, builtin, hcal, e1, e2]) rfl (fun loc => evLen_ok loc (h.ev x) hr)
    · rename_i s x t t' hcal hargs htys
      split at he
      · rename_i hc
        obtain ⟨rfl, hmv, hds⟩ := hc
        obtain ⟨d, hdd⟩ := Option.isSome_iff_exists.1 hds
        simp only [Option.map_eq_some_iff, Prod.mk.injEq] at he
        obtain ⟨r, hr, rfl, rfl⟩ := he
        have e1 : c.args = #[s, x] := by apply Array.toList_inj.1; simpa using hargs
        have e2 : c.argTypes = #[t, t] := by apply Array.toList_inj.1; simpa using htys
        obtain ⟨rv, w', G', hrun, hR⟩ := evAppend_ok h (hd d hdd) (ty := o.type) hr
        have hst : stripsOf fl o = tmpsOf [s, x] := by simp [stripsOf, hmv, hop, Op.operands, Call.operands, hcal, e1]
        refine wp_value (w' := w') (v := rv) ?_ (hK _ _ ⟨G', by unfold St.after; rw [hsame, hdd, hst]; exact hR⟩)
        simp [execOp, hop, resolve, invoke, builtin, hcal, e1, e2, hrun]
      · cases he
    · rename_i x y t t' hcal hargs htys
      simp only [Option.map_eq_some_iff, Prod.mk.injEq] at he
      obtain ⟨r, hr, rfl, rfl⟩ := he
      have e1 : c.args = #[x, y] := by apply Array.toList_inj.1; simpa using hargs
      have e2 : c.argTypes = #[t, t'] := by apply Array.toList_inj.1; simpa using htys
      obtain ⟨rv, hrun, hrep⟩ := evMinMax_ok (t1 := t) (t2 := t') (ty := o.type) (h.ev x) (h.ev y) hr
      exact plain rv (by simp at hrun; simp [execOp, hop, resolve, invoke, builtin, hcal, e1, e2, hrun]) rfl hrep
    · rename_i x y t t' hcal hargs htys
      simp only [Option.map_eq_some_iff, Prod.mk.injEq] at he
      obtain ⟨r, hr, rfl, rfl⟩ := he
      have e1 : c.args = #[x, y] := by apply Array.toList_inj.1; simpa using hargs
      have e2 : c.argTypes = #[t, t'] := by apply Array.toList_inj.1; simpa using htys
      obtain ⟨rv, hrun, hrep⟩ := evMinMax_ok (t1 := t) (t2 := t') (ty := o.type) (h.ev x) (h.ev y) hr
      exact plain rv (by simp at hrun; simp [execOp, hop, resolve, invoke, builtin, hcal, e1, e2, hrun]) rfl hrep
    · cases he
  · cases he

end Go.Bee
