/-
The logic and the walks, part 3. No condition.
-/
import Derived.Test.YtbhmeompdbokdaaGreatDoorBeeG0FEPEb
namespace Go.Bee
set_option linter.unusedVariables false

theorem pick2_rep {P : Program} {G : Gh} {w : World} {loc : Loc} {c : Bool} {x y : PV} {u v : Value} (hx : RepT P G w loc x u) (hy : RepT P G w loc y v) : RepT P G w loc (pick2 c x y) (if c then u else v) := by
  unfold pick2
  split
  · obtain ⟨hx, -⟩ := hx; obtain ⟨hy, -⟩ := hy
    cases hx; cases hy
    cases c
    · exact ⟨.bool _, rfl⟩
    · exact ⟨.bool _, rfl⟩
  · cases c
    · simpa using hy
    · simpa using hx

theorem evStore_ok {P : Program} {F : Fr} {G : Gh} {st : St} {a : Act} {w : World} (h : Rel P F G st a w) {fl : AF} {ts : List Nat} {t : TypeId} {X Y : Operand} {B B' : Bx} (hts : fl.mv = true → ∀ t, Y = .tmp t → t ∈ ts)
    (hBe : fl.be = true → B = st.bx) (he : evStore P fl t (st.ev X) (st.ev Y) B = some B') :
    ∃ w' G', (Instr.storeAt t (a.eval X) (a.eval Y)).run P w = .ok () w' ∧ Rel P F G' (st.upd ts none .junk (if fl.be = true then B' else st.bx)) (a.put none undef) w' := by
  unfold evStore at he
  have hX := h.ev X
  split at he
  · rename_i b off hev
    rw [hev] at hX
    obtain ⟨hp, hl⟩ := hX
    simp only [Option.bind_eq_some_iff] at he
    obtain ⟨cells, hc, i, hi, new, hnew, he⟩ := he
    split at he
    · rename_i hcond
      obtain ⟨hbe, hn, hfit⟩ := hcond
      cases he
      have hBB := hBe hbe
      subst hBB
      simp only [hbe, if_true]
      have hst : ∀ (f : Pos → Pos) (vs : List Value), (a.eval Y).cells.toList = vs → (∀ t, t ∉ ts → ∀ i j, f (.t t, i, j) = (.t t, i, j)) → (∀ c j, f (.b c, 0, j) = (.b c, 0, j)) → f qpos = qpos → vs.length = new.length → (∀ u ∈ vs, u.oneCell' = true) →
          (∀ (j : Nat) x u, new[j]? = some x → vs[j]? = some u → ∃ p, RepC P G w p x u ∧ f p = (.b b, 0, off + j)) →
          ∃ w' G', (Instr.storeAt t (a.eval X) (a.eval Y)).run P w = .ok () w' ∧ Rel P F G' (st.upd ts none .junk (Bx.set st.bx b (cells.take off ++ new ++ cells.drop (off + new.length)))) (a.put none undef) w' := by
        intro f vs hvs hf hfb hfq hlen hone hrep
        obtain ⟨G', w', hrun, hR⟩ := h.store hc f ts hf hfb hfq hlen hfit hone hrep
        refine ⟨w', G', ?_, hR⟩
        have hs : (a.eval Y).cells.size = i.sz := by
          have : (a.eval Y).cells.toList.length = i.sz := by rw [hvs, hlen, hn]
          simpa using this
        have hne : ¬ ((a.eval Y).cells.size ≠ i.sz) := by simp [hs]
        rw [hp]
        simp only [Instr.storeAt, Instr.sureAddr, storeVar, Sem.run_bind, Sem.run_pure, Result.andThen_ok, tyi_size hi]
        rw [if_neg hne]
        rw [hvs]
        exact hrun
      have hY := h.ev Y
      cases hmv : fl.mv with
      | false =>
        rw [hmv] at hnew
        obtain ⟨k1, k2, k3⟩ := pvCells_rep (hY.bT .res) hnew
        refine hst id _ rfl (fun _ _ _ _ => rfl) (fun _ _ => rfl) rfl (by simpa using k1) (fun u hu => k2 u (by simpa using hu)) (fun j x u hx hu => ?_)
        have h2 := pvCells_rep (hY.bT (.b b)) hnew
        have h3 := h2.2.2 j x u hx (by simpa using hu)
        refine ⟨(.b b, 0, off + j), ?_, rfl⟩
        have hbc : x.bC = x := by
          have hCC : ∀ q : PV, q.bC.bC = q.bC := by intro q; cases q <;> rfl
          have : ∀ z, pvCells (PV.bT z) = some new → ∀ y ∈ new, y.bC = y := by
            intro z hz y hy
            cases z <;> simp only [PV.bT, PV.bV, pvCells, PV.bC, Option.some.injEq, reduceCtorEq] at hz <;> subst hz <;> first
              | (simp only [List.mem_singleton] at hy; subst hy; rfl)
              | (simp only [List.mem_map] at hy; obtain ⟨q, _, rfl⟩ := hy; exact hCC q)
          exact this _ hnew x (List.mem_of_getElem? hx)
        rw [← hbc]; exact h3.bC _
      | true =>
        rw [hmv] at hnew
        simp only [mvd, if_true] at hnew
        obtain ⟨k1, k2, k3⟩ := pvCells_rep hY hnew
        have hnotb : ∀ c, opLoc Y ≠ .b c := by intro c; cases Y <;> simp [opLoc]
        refine hst (fun p => if p.1 = opLoc Y then (.b b, 0, off + p.2.2) else p) _ rfl (fun t ht i j => ?_) (fun c j => ?_) (by cases Y <;> simp [qpos, opLoc]) (by simpa using k1) (fun u hu => k2 u (by simpa using hu)) (fun j x u hx hu => ?_)
        · have : Loc.t t ≠ opLoc Y := by
            intro e
            cases Y <;> simp [opLoc] at e
            subst e; exact ht (hts hmv _ rfl)
          simp [this]
        · have : Loc.b c ≠ opLoc Y := fun e => hnotb c e.symm
          simp [this]
        · exact ⟨(opLoc Y, 0, j), k3 j x u hx (by simpa using hu), by simp⟩
    · cases he
  · rename_i cs hev
    rw [hev] at hX
    obtain ⟨g, o, hp, hz⟩ := hX
    simp only [Option.bind_eq_some_iff] at he
    obtain ⟨i, hi, new, hnew, he⟩ := he
    split at he
    · rename_i hcond
      obtain ⟨hbe, hn, h0, hfit⟩ := hcond
      cases he
      have hBB := hBe hbe
      subst hBB
      simp only [hbe, if_true]
      have hY := (h.ev Y).bT .res
      obtain ⟨k1, k2, k3⟩ := pvCells_rep hY hnew
      have hsz : (a.eval Y).cells.toList.length = new.length := by simpa using k1
      obtain ⟨f1, f2⟩ := zfit_get hfit
      obtain ⟨w', hrun, hR⟩ := h.zstore (ts := ts) hz (vs := (a.eval Y).cells.toList) (by omega) (by omega) (fun j x hj hx => (f2 j (by omega)).2 x hx) (fun u hu => by
        refine ⟨k2 u (by simpa using hu), ?_⟩
        obtain ⟨j, hj, rfl⟩ := List.mem_iff_getElem.1 hu
        obtain ⟨y, hy, hy2⟩ := (f2 j (by omega)).1
        have := k3 j _ _ hy (by rw [← Array.getElem?_toList]; exact List.getElem?_eq_getElem hj)
        exact zplain_rep this hy2)
      refine ⟨w', G, ?_, hR⟩
      have hs : (a.eval Y).cells.size = i.sz := by rw [← hn]; exact k1
      have hne : ¬ ((a.eval Y).cells.size ≠ i.sz) := by simp [hs]
      rw [hp]
      simp only [Instr.storeAt, Instr.sureAddr, storeVar, Sem.run_bind, Sem.run_pure, Result.andThen_ok, tyi_size hi]
      rw [if_neg hne]
      exact hrun
    · cases he
  · cases he

theorem flat_rep {α : Type} (z : List α) : ∀ (n j : Nat) (x : α), (List.replicate n z).flatten[j]? = some x → z[j % z.length]? = some x
  | 0, j, x, h => by simp at h
  | n + 1, j, x, h => by
    simp only [List.replicate_succ, List.flatten_cons] at h
    by_cases hj : j < z.length
    · rw [List.getElem?_append_left hj] at h
      rw [Nat.mod_eq_of_lt hj]; exact h
    · rw [List.getElem?_append_right (by omega)] at h
      have := flat_rep z n _ x h
      rwa [Nat.mod_eq_sub_mod (by omega)]
theorem evMake_ok {P : Program} {F : Fr} {G : Gh} {st : St} {a : Act} {w : World} (h : Rel P F G st a w) {fl : AF} {d : Nat} (hd : d < F.nt) {t : TypeId} {X Y : Operand} {r : PV} {B B' : Bx} (hBe : fl.be = true → B = st.bx) (ts : List Nat)
    (he : evMake P fl t d (st.ev X) (st.ev Y) B = some (r, B')) :
    ∃ rv w' G', (Instr.makeSlice t (a.eval X) (a.eval Y)).run P w = .ok rv w' ∧ Rel P F G' (st.upd ts (some d) r (if fl.be = true then B' else st.bx)) (a.put (some d) rv) w' := by
  unfold evMake at he
  have hX := h.ev X
  have hY := h.ev Y
  split at he
  · rename_i k n k' m hx hy
    rw [hx] at hX; rw [hy] at hY
    obtain ⟨hX, -⟩ := hX
    obtain ⟨hY, -⟩ := hY
    simp only [Option.bind_eq_some_iff] at he
    obtain ⟨i, hi, e, hel, te, hte, he⟩ := he
    split at he
    · rename_i hc
      obtain ⟨hbe, hbn, rfl, h0, hb, hby, hzl, hsz, hj⟩ := hc
      simp only [Option.some.injEq, Prod.mk.injEq] at he
      obtain ⟨rfl, rfl⟩ := he
      have hBB := hBe hbe
      subst hBB
      have ht := tyi_el hi hel
      obtain ⟨i', td, k1, k2, k3, k4, k5, k6, k7, k8, k9, k10⟩ := tyi_spec hte
      cases hz : i'.zero with
      | none => rw [k9, hz] at hzl; simp at hzl; omega
      | some z =>
        have hzero : te.zero = z.cells.toList.map cpc := by rw [k9, hz]; rfl
        have hzs : z.cells.size = te.sz := by rw [hzero] at hzl; simpa using hzl
        have hone : ∀ u ∈ z.cells, u.oneCell' = true := by
          intro u hu
          have := List.all_eq_true.1 hj (cpc u) (by rw [hzero]; exact List.mem_map.2 ⟨u, by simpa using hu, rfl⟩)
          exact cpc_cell (by simpa using this)
        have hvX : a.eval X = .int k n := by generalize a.eval X = u at hX; cases hX; rfl
        have hvY : a.eval Y = .int k' n := by generalize a.eval Y = u at hY; cases hY; rfl
        have hrun := run_make (P := P) w t e i' z ht k1 hz k k' n n h0 (Int.le_refl _) (by rw [← k4]; exact hby) (by omega)
        rw [← k3] at hrun
        have hmc : ∀ (j : Nat) u, (madeCells z.cells (n.toNat * te.sz))[j]? = some u → z.cells[j % te.sz]? = some u := by
          intro j u hu
          have hjs : j % te.sz < z.cells.size := by rw [hzs]; exact Nat.mod_lt _ hsz
          unfold madeCells at hu
          rw [Array.getElem?_map] at hu
          obtain ⟨q, hq, rfl⟩ := Option.map_eq_some_iff.1 hu
          have hq' : q = j := by
            have hjl : j < n.toNat * te.sz := by
              have := (Array.getElem?_eq_some_iff.1 hq).1
              simpa using this
            rw [Array.getElem?_range, if_pos hjl] at hq
            exact (Option.some.inj hq).symm
          subst hq'
          rw [hzs, Array.getElem?_eq_getElem hjs]
          congr 1
          exact (getElem!_pos z.cells (q % te.sz) hjs).symm
        obtain ⟨G', hG'⟩ := h.newBox (d := d) hd hbn (cs := madeCells z.cells (n.toNat * te.sz)) (e := e) (cells := (List.replicate n.toNat te.zero).flatten) id ts (fun _ _ _ _ => rfl) (fun _ _ => rfl) rfl
          (by rw [size_madeCells]; simp [hzl]) (fun u hu => by
            obtain ⟨j, hj1, rfl⟩ := Array.mem_iff_getElem.1 hu
            exact hone _ (Array.mem_of_getElem? (hmc j _ (Array.getElem?_eq_getElem hj1)))) (fun j x u hx hu => ⟨(.b (.t d), 0, j), by
            have h1 := flat_rep te.zero _ j x hx
            rw [hzl, hzero, List.getElem?_map, Array.getElem?_toList, hmc j u hu] at h1
            simp at h1
            rw [← h1]; exact cpc_rep _ u, rfl⟩)
        have hp := hG'.tm d
        have hv0 : (a.put (some d) (.pointer (some ⟨w.heap.size, 0, none⟩))).tmps.getD d undef = .pointer (some ⟨w.heap.size, 0, none⟩) := by
          have hlt : d < a.tmps.size := by rw [h.nt]; exact hd
          simp [Act.put, Array.getD_eq_getD_getElem?, hlt]
        rw [hv0] at hp
        have hp' : RepT P G' (w.alloc (.cells (madeCells z.cells (n.toNat * te.sz)) e)) (.t d) (.ptr (.t d) 0) (.pointer (some ⟨w.heap.size, 0, none⟩)) := by
          have : (st.upd ts (some d) (.ptr (.t d) 0) (Bx.set st.bx (.t d) (List.replicate n.toNat te.zero).flatten)).tm d = .ptr (.t d) 0 := by simp [St.upd]
          rw [this] at hp; exact hp
        obtain ⟨hp1, hp2⟩ := hp'
        have hβ : G'.β (.t d) = w.heap.size := by injection hp1 with h1; injection h1 with h1; injection h1 with h1; exact h1.symm
        have hR := hG'.put1 [] (d := some d) (x := .rsl (.t d) e te.sz n.toNat) (v := .slice (some ⟨w.heap.size, 0, none⟩) n.toNat n.toNat) (fun d' e => by cases e; exact hd) (fun loc => ⟨by rw [hβ], hp2, by omega⟩)
        refine ⟨_, _, G', by rw [hvX, hvY]; exact hrun, ?_⟩
        rw [if_pos hbe]
        have e1 : (st.upd ts (some d) (.ptr (.t d) 0) (Bx.set st.bx (.t d) (List.replicate n.toNat te.zero).flatten)).upd [] (some d) (.rsl (.t d) e te.sz n.toNat) (Bx.set st.bx (.t d) (List.replicate n.toNat te.zero).flatten) =
            st.upd ts (some d) (.rsl (.t d) e te.sz n.toNat) (Bx.set st.bx (.t d) (List.replicate n.toNat te.zero).flatten) := by
          unfold St.upd
          congr 1
          funext t
          by_cases htd : some t = some d <;> simp [htd]
        have e2 : ∀ v, (a.put (some d) (.pointer (some ⟨w.heap.size, 0, none⟩))).put (some d) v = a.put (some d) v := by
          intro v; simp [Act.put]
        have hR' := hR
        rw [e2] at hR'
        exact e1 ▸ hR'
    · cases he
  · cases he

theorem ev1_sound {P : Program} {F : Fr} {G : Gh} {st : St} {a : Act} {w : World} (h : Rel P F G st a w) {fl : AF} {o : Oper} {v : PV} {B' : Bx} (hd : ∀ d', o.dst = some d' → d' < F.nt)
    (he : ev1 P fl o st.ev (vz fl st.bx) = some (v, B')) {K : Act → World → Prop} {Q : Exit → Act → World → Prop} (hK : ∀ a' w', (∃ G', Rel P F G' (st.after fl o v B') a' w') → K a' w') : o.wp P a w K Q := by
  have hbsub : ∀ b c, vz fl st.bx b = some c → st.bx b = some c := by
    intro b c hc; unfold vz at hc; split at hc
    · exact hc
    · cases hc
  generalize hBx : vz fl st.bx = B at he hbsub
  have hBeq : fl.be = true → B = st.bx := by intro h2; rw [← hBx]; simp [vz, h2]
  have hsame : (if fl.be = true then B else st.bx) = st.bx := by split <;> first | (rename_i hc; exact hBeq hc) | rfl
  -- a plain value
  have plain : ∀ (rv : Value), (execOp a.eval o).run P w = .ok (.value rv) w → B' = B → (∀ loc, RepT P G w loc v rv) → o.wp P a w K Q := by
    intro rv hrun hB hrep
    refine wp_value hrun (hK _ _ ⟨G, ?_⟩)
    unfold St.after
    rw [hB, hsame]
    exact h.put1 _ hd hrep
  -- a value that the same run gives at every place
  have plain2 : ∀ (S : Sem Value), (execOp a.eval o = do pure (.value (← S))) → B' = B → (∀ loc, ∃ rv, S.run P w = .ok rv w ∧ RepT P G w loc v rv) → o.wp P a w K Q := by
    intro S hS hB hrep
    obtain ⟨rv, hrun, _⟩ := hrep .res
    refine plain rv ?_ hB (fun loc => ?_)
    · rw [hS]; simp [hrun]
    · obtain ⟨rv', hrun', hr'⟩ := hrep loc
      rw [hrun] at hrun'; cases hrun'; exact hr'
  have hmvt : ∀ x, x ∈ o.op.operands.toList → fl.mv = true → ∀ t, x = Operand.tmp t → t ∈ stripsOf fl o := by
    intro x hx hmv t e
    subst e
    simp only [stripsOf, hmv, if_true]
    exact mem_tmpsOf.2 hx
  unfold ev1 at he
  split at he
  · -- move
    rename_i x hop
    simp only [Option.some.injEq, Prod.mk.injEq] at he
    obtain ⟨rfl, rfl⟩ := he
    obtain ⟨G', hG'⟩ := h.mvd fl.mv (ts := stripsOf fl o) x (hmvt x (by simp [hop, Op.operands])) hd
    exact wp_value (w' := w) (v := a.eval x) (by simp [execOp, hop]) (hK _ _ ⟨G', by unfold St.after; rw [hsame]; exact hG'⟩)
  · -- assign
    rename_i x hop
    simp only [Option.some.injEq, Prod.mk.injEq] at he
    obtain ⟨rfl, rfl⟩ := he
    obtain ⟨G', hG'⟩ := h.mvd fl.mv (ts := stripsOf fl o) x (hmvt x (by simp [hop, Op.operands])) hd
    exact wp_value (w' := w) (v := a.eval x) (by simp [execOp, hop]) (hK _ _ ⟨G', by unfold St.after; rw [hsame]; exact hG'⟩)
  · -- pick
    rename_i c x y hop
    split at he
    · rename_i b hb
      simp only [Option.some.injEq, Prod.mk.injEq] at he
      obtain ⟨rfl, rfl⟩ := he
      have hc := h.ev c
      rw [hb] at hc
      obtain ⟨hc, -⟩ := hc
      have hcv : a.eval c = .bool b := by generalize a.eval c = u at hc; cases hc; rfl
      refine plain (if b then a.eval x else a.eval y) ?_ rfl (fun loc => pick2_rep ((h.ev x).bT loc) ((h.ev y).bT loc))
      simp [execOp, hop, hcv, asBool]
    · cases he
  · -- alloc
    rename_i t hop
    simp only [Option.bind_eq_some_iff] at he
    obtain ⟨d, hdd, i, hi, he⟩ := he
    split at he
    · rename_i hc
      obtain ⟨hbe, hbn, hz0, hj⟩ := hc
      simp only [Option.some.injEq, Prod.mk.injEq] at he
      obtain ⟨rfl, rfl⟩ := he
      obtain ⟨i', td, k1, k2, k3, k4, k5, k6, k7, k8, k9, k10⟩ := tyi_spec hi
      have hBB := hBeq hbe
      subst hBB
      cases hzz : i'.zero with
      | none => rw [k9, hzz] at hz0; exact absurd rfl hz0
      | some z =>
        have hzero : i.zero = z.cells.toList.map cpc := by rw [k9, hzz]; rfl
        have hone : ∀ u ∈ z.cells, u.oneCell' = true := by
          intro u hu
          have := List.all_eq_true.1 hj (cpc u) (by rw [hzero]; exact List.mem_map.2 ⟨u, by simpa using hu, rfl⟩)
          exact cpc_cell (by simpa using this)
        have hrunA : (execOp a.eval o).run P w = .ok (.value (.pointer (some ⟨w.heap.size, 0, none⟩))) (w.alloc (.cells z.cells t)) := by
          simp [execOp, hop, Instr.alloc, zeroValue, typeInfo, k1, hzz, newVar, newRow]
        obtain ⟨G', hG'⟩ := h.newBox (d := d) (hd d hdd) hbn (cs := z.cells) (e := t) (cells := i.zero) id (stripsOf fl o) (fun _ _ _ _ => rfl) (fun _ _ => rfl) rfl (by rw [hzero]; simp) hone (fun j x u hx hu => ⟨(.b (.t d), 0, j), by
          rw [hzero, List.getElem?_map, Array.getElem?_toList, hu] at hx
          simp at hx; subst hx
          exact cpc_rep _ u, rfl⟩)
        exact wp_value hrunA (hK _ _ ⟨G', by unfold St.after; rw [if_pos hbe, hdd]; exact hG'⟩)
    · cases he
  · -- box
    rename_i t x hop
    simp only [Option.bind_eq_some_iff] at he
    obtain ⟨d, hdd, cells, hcells, he⟩ := he
    split at he
    · rename_i hc
      obtain ⟨hbe, hbn⟩ := hc
      simp only [Option.some.injEq, Prod.mk.injEq] at he
      obtain ⟨rfl, rfl⟩ := he
      have hBB := hBeq hbe
      subst hBB
      have hrunA : (execOp a.eval o).run P w = .ok (.value (.pointer (some ⟨w.heap.size, 0, none⟩))) (w.alloc (.cells (a.eval x).cells t)) := by
        simp [execOp, hop, Instr.box, newVar, newRow]
      have hX := h.ev x
      cases hmv : fl.mv with
      | false =>
        rw [hmv] at hcells
        obtain ⟨k1, k2, k3⟩ := pvCells_rep (hX.bT .res) hcells
        obtain ⟨G', hG'⟩ := h.newBox (d := d) (hd d hdd) hbn (cs := (a.eval x).cells) (e := t) (cells := cells) id (stripsOf fl o) (fun _ _ _ _ => rfl) (fun _ _ => rfl) rfl k1 k2 (fun j y u hy hu => ⟨(.b (.t d), 0, j), (pvCells_rep (hX.bT (.b (.t d))) hcells).2.2 j y u hy hu, rfl⟩)
        exact wp_value hrunA (hK _ _ ⟨G', by unfold St.after; rw [if_pos hbe, hdd]; exact hG'⟩)
      | true =>
        rw [hmv] at hcells
        simp only [mvd, if_true] at hcells
        obtain ⟨k1, k2, k3⟩ := pvCells_rep hX hcells
        have hnotb : ∀ c, opLoc x ≠ .b c := by intro c; cases x <;> simp [opLoc]
        obtain ⟨G', hG'⟩ := h.newBox (d := d) (hd d hdd) hbn (cs := (a.eval x).cells) (e := t) (cells := cells) (fun p => if p.1 = opLoc x then (.b (.t d), 0, p.2.2) else p) (stripsOf fl o)
          (fun t ht i j => by
            have : Loc.t t ≠ opLoc x := by
              intro e
              cases x <;> simp [opLoc] at e
              subst e; exact ht (hmvt _ (by simp [hop, Op.operands]) hmv _ rfl)
            simp [this])
          (fun c j => by
            have : Loc.b c ≠ opLoc x := fun e => hnotb c e.symm
            simp [this]) (by cases x <;> simp [qpos, opLoc]) k1 k2 (fun j y u hy hu => ⟨(opLoc x, 0, j), k3 j y u hy hu, by simp⟩)
        exact wp_value hrunA (hK _ _ ⟨G', by unfold St.after; rw [if_pos hbe, hdd]; exact hG'⟩)
    · cases he
  · -- build
    rename_i t parts hop
    simp only [Option.map_eq_some_iff, Prod.mk.injEq] at he
    obtain ⟨r, hr, rfl, rfl⟩ := he
    exact plain2 (Instr.build t (parts.map fun (i, x) => (i, a.eval x))) (by simp [execOp, hop]) rfl (fun loc => evBuild_ok h loc hr)
  · -- buildSlice
    rename_i t len parts hop
    split at he
    · rename_i hds
      obtain ⟨d, hdd⟩ := Option.isSome_iff_exists.1 hds
      simp only [Option.map_eq_some_iff, Prod.mk.injEq] at he
      obtain ⟨r, hr, rfl, rfl⟩ := he
      obtain ⟨rv, w', G', hrun, hR⟩ := evBuildSlice_ok h (hd d hdd) hr (stripsOf fl o)
      refine wp_value (w' := w') (v := rv) ?_ (hK _ _ ⟨G', by unfold St.after; rw [hsame, hdd]; exact hR⟩)
      have : execOp a.eval o = (do let q ← Instr.buildSlice t len (parts.map fun (i, x) => (i, a.eval x)); pure (Next.value q) : Sem Next) := by simp [execOp, hop]
      rw [this]; simp [hrun]
    · cases he
  · -- load
    rename_i t x hop
    obtain ⟨rv, G', hrun, hR⟩ := evLoad_ok h (ts := stripsOf fl o) (d := o.dst) hd hbsub hBeq he
    refine wp_value (w' := w) (v := rv) ?_ (hK _ _ ⟨G', hR⟩)
    simp [execOp, hop, hrun]
  · -- store
    rename_i t x y hop
    split at he
    · rename_i hdn
      simp only [Option.map_eq_some_iff, Prod.mk.injEq] at he
      obtain ⟨B1, hB1, rfl, rfl⟩ := he
      obtain ⟨w', G', hrun, hR⟩ := evStore_ok h (ts := stripsOf fl o) (hmvt y (by simp [hop, Op.operands])) hBeq hB1
      refine wp_skip' (w' := w') ?_ (hK _ _ ⟨G', by unfold St.after; rw [hdn]; exact hR⟩)
      simp [execOp, hop, hrun]
    · cases he
  · -- nilCheck
    rename_i x hop
    have hX := h.ev x
    split at he
    · rename_i b off hev
      simp only [Option.some.injEq, Prod.mk.injEq] at he
      obtain ⟨rfl, rfl⟩ := he
      rw [hev] at hX
      have hX' := hX
      obtain ⟨hp, hl⟩ := hX'
      refine plain (a.eval x) ?_ rfl (fun loc => ⟨hp, hl⟩)
      rw [hp]; simp [execOp, hop, hp]
    · rename_i cs hev
      simp only [Option.some.injEq, Prod.mk.injEq] at he
      obtain ⟨rfl, rfl⟩ := he
      rw [hev] at hX
      have hX' := hX
      obtain ⟨g, k, hp, hr⟩ := hX'
      refine plain (a.eval x) ?_ rfl (fun loc => ⟨g, k, hp, hr⟩)
      rw [hp]; simp [execOp, hop, hp]
    · cases he
  · -- binOp
    rename_i op t x y yt hop
    simp only [Option.map_eq_some_iff, Prod.mk.injEq] at he
    obtain ⟨r, hr, rfl, rfl⟩ := he
    exact plain2 (do eqGuard op t x y (a.eval x) (a.eval y); binOp op t (a.eval x) (a.eval y)) (by simp [execOp, hop]) rfl (fun loc => evBinO_ok loc x y (fun c hc => by rw [hc]; rfl) (h.ev x) (h.ev y) hr)
  · -- unOp
    rename_i op t x hop
    simp only [Option.map_eq_some_iff, Prod.mk.injEq] at he
    obtain ⟨r, hr, rfl, rfl⟩ := he
    exact plain2 (Op.unary op (a.eval x)) (by simp [execOp, hop]) rfl (fun loc => evUn_ok loc (h.ev x) hr)
  · -- convert
    rename_i s t x hop
    split at he
    · rename_i hs
      simp only [Option.map_eq_some_iff, Prod.mk.injEq] at he
      obtain ⟨r, hr, rfl, rfl⟩ := he
      exact plain2 (convert s t (a.eval x)) (by simp [execOp, hop]) rfl (fun loc => evConv2_ok loc hs (h.ev x) hr)
    · cases he
  · -- makeFunc
    rename_i fn first caps hop
    split at he
    · rename_i f
      split at he
      · rename_i hf
        simp only [Option.some.injEq, Prod.mk.injEq] at he
        obtain ⟨rfl, rfl⟩ := he
        obtain ⟨hf, hall⟩ := hf
        have hf' : first = #[] := by simpa using hf
        refine plain (.func (.func f) #[] (caps.map a.eval)) (by simp [execOp, hop, hf', Instr.makeFunc]) rfl (fun loc => ⟨caps.map a.eval, rfl, by simp, fun i x u hx hu => ?_⟩)
        rw [List.getElem?_map] at hx
        obtain ⟨c, hc, rfl⟩ := Option.map_eq_some_iff.1 hx
        rw [Array.getElem?_toList] at hc
        rw [Array.getElem?_map, hc] at hu
        simp at hu
        subst hu
        have hat := List.all_eq_true.1 hall c (by
          have := Array.mem_of_getElem? hc
          simpa using this)
        have hr := h.ev c
        generalize st.ev c = y at hr hat
        cases y <;> first | (simp [PV.bC, PV.isAt] at hat; done) | exact hr | exact ⟨OwnAt.data hr, rfl⟩ | exact RepC.bC (P := P) (p := (opLoc c, 0, 0)) (opLoc c, 0, 0) (x := .dp _) hr
      · cases he
    · cases he
  · -- slice
    rename_i t x lo hi mx hop
    split at he
    · rename_i hmx
      simp only [Option.map_eq_some_iff, Prod.mk.injEq] at he
      obtain ⟨r, hr, rfl, rfl⟩ := he
      have hmx' : mx = none := by cases mx <;> simp at hmx; rfl
      have hO : ∀ q : Option Operand, RepO P G w (q.map st.ev) (q.map a.eval) := by
        intro q; cases q with
        | none => trivial
        | some q => exact ⟨_, h.ev q⟩
      exact plain2 (Instr.sliceAt t (a.eval x) (lo.map a.eval) (hi.map a.eval) none) (by simp [execOp, hop, hmx']) rfl (fun loc => evSlice_ok loc (h.ev x) (hO lo) (hO hi) hr)
    · cases he
  · -- fieldAddr
    rename_i t x f hop
    simp only [Option.map_eq_some_iff, Prod.mk.injEq] at he
    obtain ⟨r, hr, rfl, rfl⟩ := he
    exact plain2 (Instr.fieldAt t (a.eval x) f) (by simp [execOp, hop]) rfl (fun loc => evFldAddr_ok loc (h.ev x) hr)
  · -- field
    rename_i t x f hop
    simp only [Option.map_eq_some_iff, Prod.mk.injEq] at he
    obtain ⟨r, hr, rfl, rfl⟩ := he
    exact plain2 (Instr.field t (a.eval x) f) (by simp [execOp, hop]) rfl (fun loc => evFld_ok loc (h.ev x) hr)
  · -- indexAddr
    rename_i t x i hop
    simp only [Option.map_eq_some_iff, Prod.mk.injEq] at he
    obtain ⟨r, hr, rfl, rfl⟩ := he
    exact plain2 (Instr.indexAt t (a.eval x) (a.eval i)) (by simp [execOp, hop]) rfl (fun loc => evIA_ok loc (h.ev x) (h.ev i) hr)
  · -- makeSlice
    rename_i t lo hi hop
    simp only [Option.bind_eq_some_iff] at he
    obtain ⟨d, hdd, he⟩ := he
    obtain ⟨rv, w', G', hrun, hR⟩ := evMake_ok h (hd d hdd) hBeq (stripsOf fl o) he
    refine wp_value (w' := w') (v := rv) ?_ (hK _ _ ⟨G', by unfold St.after; rw [hdd]; exact hR⟩)
    simp [execOp, hop, hrun]
  · -- index
    rename_i t x i hop
    simp only [Option.map_eq_some_iff, Prod.mk.injEq] at he
    obtain ⟨r, hr, rfl, rfl⟩ := he
    exact plain2 (Instr.index t (a.eval x) (a.eval i)) (by simp [execOp, hop]) rfl (fun loc => evIdx_ok loc (h.ev x) (h.ev i) hr)
  · -- extract
    rename_i x i hop
    have hX := h.ev x
    split at he
    · rename_i l hev
      simp only [Option.map_eq_some_iff, Prod.mk.injEq] at he
      obtain ⟨r, hr, rfl, rfl⟩ := he
      rw [hev] at hX
      obtain ⟨vs, hp, hsz, hrep⟩ := hX
      have hlt : i < vs.size := by rw [hsz]; exact (List.getElem?_eq_some_iff.1 hr).1
      have hvi : vs[i]? = some vs[i] := Array.getElem?_eq_getElem hlt
      have hV := hrep i r vs[i] hr hvi
      have hrunX : (execOp a.eval o).run P w = .ok (.value vs[i]) w := by simp [execOp, hop, hp, Instr.extract, hvi]
      cases hmv : fl.mv with
      | false =>
        refine plain vs[i] hrunX rfl (fun loc => ?_)
        rw [hmv]
        have h1 := hV.bV loc 0
        have h2 : RepT P G w loc r.bV vs[i] := RepV.toT h1
        cases r <;> first | exact h2 | (simp only [RepV, RepC] at hV)
      | true =>
        rw [hmv] at hK
        simp only [Bee.mvd, if_true] at hK
        cases hdd : o.dst with
        | none =>
          have := h.next (GStep.refl G w) (ts := stripsOf fl o) (d := none) (x := r) (v := vs[i]) (bx := st.bx) (fun t _ _ i j => rfl) (fun d' e => by cases e) (fun d' e => by cases e) h.hp h.sn
          exact wp_value hrunX (hK _ _ ⟨G, by unfold St.after; rw [hsame, hdd]; exact this⟩)
        | some d =>
          have hnotb : ∀ c, opLoc x ≠ .b c := by intro c; cases x <;> simp [opLoc]
          let f : Pos → Pos := fun p => if p.1 = opLoc x then (.t d, 0, p.2.2) else p
          have hfq : f qpos = qpos := by cases x <;> simp [f, qpos, opLoc]
          have hg := GStep.relabel G w f hfq
          have hR := h.next hg (ts := stripsOf fl o) (d := some d) (x := r) (v := vs[i]) (bx := st.bx) (fun t ht _ i j => by
              have : Loc.t t ≠ opLoc x := by
                intro e
                cases x <;> simp [opLoc] at e
                subst e; exact ht (hmvt _ (by simp [hop, Op.operands]) hmv _ rfl)
              simp [f, this]) (fun d' e => by
              cases e
              exact RepV.toT (hV.step hg (loc' := .t d) (i' := 0) (fun j => by simp [f]))) (fun d' e => by cases e; exact hd d hdd) (h.hp.relabel f (fun b j => by
                have : Loc.b b ≠ opLoc x := fun e => hnotb b e.symm
                simp [f, this]) hfq) (h.sn.relabel f)
          exact wp_value hrunX (hK _ _ ⟨_, by unfold St.after; rw [hsame, hdd]; exact hR⟩)
    · cases he
  · -- calls of builtins
    rename_i c hop
    split at he
    · rename_i x t hcal hargs htys
      simp only [Option.map_eq_some_iff, Prod.mk.injEq] at he
      obtain ⟨r, hr, rfl, rfl⟩ := he
      have e1 : c.args = #[x] := by apply Array.toList_inj.1; simpa using hargs
      have e2 : c.argTypes = #[t] := by apply Array.toList_inj.1; simpa using htys
      exact plain2 (Builtin.len_ #[t] o.type #[a.eval x]) (by simp [execOp, hop, resolve, invoke, builtin, hcal, e1, e2]) rfl (fun loc => evLen_ok loc (h.ev x) hr)
    · rename_i s x t t' hcal hargs htys
      split at he
      · rename_i hc
        obtain ⟨rfl, hmv, hds⟩ := hc
        obtain ⟨d, hdd⟩ := Option.isSome_iff_exists.1 hds
        simp only [Option.map_eq_some_iff, Prod.mk.injEq] at he
        obtain ⟨r, hr, rfl, rfl⟩ := he
        have e1 : c.args = #[s, x] := by apply Array.toList_inj.1; simpa using hargs
        have e2 : c.argTypes = #[t, t] := by apply Array.toList_inj.1; simpa using htys
        obtain ⟨rv, w', G', hrun, hR⟩ := evAppend_ok h (hd d hdd) (ty := o.type) hr
        have hst : stripsOf fl o = tmpsOf [s, x] := by simp [stripsOf, hmv, hop, Op.operands, Call.operands, hcal, e1]
        refine wp_value (w' := w') (v := rv) ?_ (hK _ _ ⟨G', by unfold St.after; rw [hsame, hdd, hst]; exact hR⟩)
        simp [execOp, hop, resolve, invoke, builtin, hcal, e1, e2, hrun]
      · cases he
    · rename_i x y t t' hcal hargs htys
      simp only [Option.map_eq_some_iff, Prod.mk.injEq] at he
      obtain ⟨r, hr, rfl, rfl⟩ := he
      have e1 : c.args = #[x, y] := by apply Array.toList_inj.1; simpa using hargs
      have e2 : c.argTypes = #[t, t'] := by apply Array.toList_inj.1; simpa using htys
      obtain ⟨rv, hrun, hrep⟩ := evMinMax_ok (t1 := t) (t2 := t') (ty := o.type) (h.ev x) (h.ev y) hr
      exact plain rv (by simp at hrun; simp [execOp, hop, resolve, invoke, builtin, hcal, e1, e2, hrun]) rfl hrep
    · rename_i x y t t' hcal hargs htys
      simp only [Option.map_eq_some_iff, Prod.mk.injEq] at he
      obtain ⟨r, hr, rfl, rfl⟩ := he
      have e1 : c.args = #[x, y] := by apply Array.toList_inj.1; simpa using hargs
      have e2 : c.argTypes = #[t, t'] := by apply Array.toList_inj.1; simpa using htys
      obtain ⟨rv, hrun, hrep⟩ := evMinMax_ok (t1 := t) (t2 := t') (ty := o.type) (h.ev x) (h.ev y) hr
      exact plain rv (by simp at hrun; simp [execOp, hop, resolve, invoke, builtin, hcal, e1, e2, hrun]) rfl hrep
    · cases he
  · cases he

end Go.Bee


namespace Go.Bee
set_option linter.unusedVariables false

theorem run_callFunc {P : Program} {f : Nat} (h : isFn P f = true) (args : Array Value) (w : World) : (callFunc f args).run P w = .ok (.enter f args) w := by
  unfold isFn at h
  split at h
  · rename_i fn hf
    simp only [Bool.and_eq_true, bne_iff_ne, ne_eq] at h
    have h2 : fn.body ≠ none := by intro hb; simp [hb] at h
    simp [callFunc, hf, h.1, h2]
  · cases h

def bxOf (bi : List (List PV)) : Bx := fun b => match b with | .a k => bi[k]? | .t _ => none
def BRet (P : Program) (f : Nat) (bi : List (List PV)) (args : List PV) (r : PV) (bo : List (List PV)) : Prop :=
  isFn P f = true ∧ bo.length = bi.length ∧ ∀ (G : Gh) (w : World) (vs : Array Value) (Wr : Nat → Prop), vs.size = args.length →
    (∀ (i : Nat) x u, args[i]? = some x → vs[i]? = some u → RepT P G w (.t i) x u) → Hp P G w (bxOf bi) →
    (∀ g p, G.own g = some p → Wr g) → (∀ b, G.live b → Wr (G.β b)) → (∀ g, G.fz g → g < w.heap.size ∧ ¬ Wr g) → (∀ g, g < w.heap.size → ¬ Wr g → G.fz g) → TabOk P G.fz w →
    Calls P f vs w fun e w' => ∃ v G', e = .returned v ∧ RepT P G' w' .res r v ∧ Hp P G' w' (bxOf bo) ∧ Ext G.im w G'.im w' Wr ∧ (∀ k, G'.β (.a k) = G.β (.a k)) ∧ (∀ g p, G'.own g = some p → w.heap.size ≤ g ∨ Wr g) ∧
      ∀ g, FreeB G w g → KindSame w w' g ∧ (∃ cs e, w'.heap[g]? = some (.cells cs e (0, 0))) ∧ G'.own g = none ∧ ∀ o, ¬ G'.im g o

def PV.pass1 : PV → Bool
  | .d _ => true
  | .nilS => true
  | .nn _ _ => true
  | .own _ _ _ => true
  | .und => true
  | .eptr _ => true
  | .efn _ => true
  | .dp _ => true
  | .junk => true
  | .er _ => true
  | .fn _ => true
  | _ => false
def PV.passable : PV → Bool
  | .agg l => l.all PV.pass1
  | x => x.pass1
def PV.gives1 : PV → Bool
  | .fn _ => false
  | .efn _ => false
  | .junk => false
  | x => x.pass1
def PV.gives2 : PV → Bool
  | .agg l => l.all PV.gives1
  | x => x.gives1
def PV.gives : PV → Bool
  | .tup l => l.all PV.gives2
  | x => x.gives2

structure PStep (G : Gh) (w : World) (G' : Gh) (w' : World) (kp : Pos → Pos → Prop) : Prop where
  keep : Keep G.im w G'.im w'
  own : ∀ g p q, G.own g = some p → kp p q → G'.own g = some q ∧ w'.heap[g]? = w.heap[g]? ∧ ∀ o, G'.im g o → G.im g o
def FzUp (P : Program) (G : Gh) (w : World) (G' : Gh) (w' : World) : Prop := (∀ g, G.fz g → G'.fz g) ∧ (∀ g, G.fz g → w'.heap[g]? = w.heap[g]?) ∧ w.heap.size ≤ w'.heap.size
theorem FnOk.fz {P : Program} {S : Nat → Nat → Prop} {fz fz' : Nat → Prop} {w : World} (hz : ∀ g, fz g → fz' g) {K : List PD → Option PD} {v : Value} (h : FnOk P S fz w K v) : FnOk P S fz' w K v := by
  obtain ⟨f, caps, hv, hf, h⟩ := h
  exact ⟨f, caps, hv, hf, fun xs r hK => ⟨(h xs r hK).1, fun S1 w1 hk1 hz1 => (h xs r hK).2 S1 w1 hk1 (fun g hg => hz1 g (hz g hg))⟩⟩
theorem OwnAt.pstep {G G' : Gh} {w w' : World} {kp : Pos → Pos → Prop} (h : PStep G w G' w' kp) {p q : Pos} (hp : kp p q) {e sz : Nat} {l : List PD} {v : Value}
    (hx : OwnAt G w p e sz l v) : OwnAt G' w' q e sz l v := by
  refine ⟨hx.1.keep h.keep, hx.2.imp (fun ⟨h1, h2⟩ => ⟨h1, fun hl g hg => ⟨(h.own g p q (h2 hl g hg).1 hp).1, by rw [(h.own g p q (h2 hl g hg).1 hp).2.1]; exact (h2 hl g hg).2⟩⟩) fun ⟨vs, ho, hu, hg⟩ => ⟨vs, ⟨ho.1, ?_⟩, hu, fun g hvg => ?_⟩⟩
  · rcases ho.2 with hn | ⟨g, cap, cur, rfl, hb, hgg, rest⟩
    · exact .inl hn
    · exact .inr ⟨g, cap, cur, rfl, hb, by rw [(h.own g p q (hg g rfl).1 hp).2.1]; exact hgg, rest⟩
  · obtain ⟨h1, h2, h3⟩ := hg g hvg
    obtain ⟨k1, k2, k3⟩ := h.own g p q h1 hp
    exact ⟨k1, fun i hi => (h.keep g i (h2 i hi)).1, fun i hi hc => h3 i hi (k3 i hc)⟩
theorem RepC.pstep {P : Program} {G G' : Gh} {w w' : World} {kp : Pos → Pos → Prop} (h : PStep G w G' w' kp) {p q : Pos} (hp : kp p q) {x : PV} {v : Value} (hx1 : x.pass1 = true) (hz : (∃ K, x = .fn K ∨ x = .efn K) → FzUp P G w G' w')
    (hx : RepC P G w p x v) : RepC P G' w' q x v := by
  cases x <;> simp only [PV.pass1, Bool.false_eq_true] at hx1 <;> simp only [RepC, RepAt] at hx ⊢
  case d x => exact ⟨hx.1.keep h.keep, hx.2⟩
  case nilS => exact hx
  case nn sz l => exact ⟨hx.1.keep h.keep, hx.2⟩
  case own e sz l => exact hx.pstep h hp
  case eptr cs => obtain ⟨g, o, hv, hr⟩ := hx; exact ⟨g, o, hv, hr.keep h.keep⟩
  case fn K => obtain ⟨h1, h2, h3⟩ := hz ⟨K, .inl rfl⟩; exact (hx.keep h.keep h2 h3).fz h1
  case efn K => obtain ⟨h1, h2, h3⟩ := hz ⟨K, .inr rfl⟩; obtain ⟨g, o, u, a1, a2, a3, a4⟩ := hx; exact ⟨g, o, u, a1, (h.keep g o a2).1, (h.keep g o a2).2.trans a3, (a4.keep h.keep h2 h3).fz h1⟩
  case dp x => exact ⟨hx.1.keep (fun b o ⟨h1, h2, cs, e, h3⟩ => ⟨⟨(h.keep b o h1).1, (h.own b p q h2 hp).1, cs, e, by rw [(h.own b p q h2 hp).2.1]; exact h3⟩, (h.keep b o h1).2⟩), hx.2⟩
  case und => exact hx
  case er b => exact hx
theorem RepV.pstep {P : Program} {G G' : Gh} {w w' : World} {kp : Pos → Pos → Prop} (h : PStep G w G' w' kp) {loc loc' : Loc} {i i' : Nat} (hp : ∀ j, kp (loc, i, j) (loc', i', j)) {x : PV} {v : Value} (hx1 : x.passable = true) (hz : FzUp P G w G' w')
    (hx : RepV P G w loc i x v) : RepV P G' w' loc' i' x v := by
  cases x
  case agg l =>
    obtain ⟨cs, hv, hl, h1, hr⟩ := hx
    exact ⟨cs, hv, hl, h1, fun j x u h1 h2 => (hr j x u h1 h2).pstep h (hp j) (List.all_eq_true.1 hx1 x (List.mem_of_getElem? h1)) (fun _ => hz)⟩
  all_goals (simp only [PV.passable] at hx1; exact RepC.pstep (P := P) (v := v) h (hp 0) hx1 (fun _ => hz) hx)
theorem RepV.pstepG {P : Program} {G G' : Gh} {w w' : World} {kp : Pos → Pos → Prop} (h : PStep G w G' w' kp) {loc loc' : Loc} {i i' : Nat} (hp : ∀ j, kp (loc, i, j) (loc', i', j)) {x : PV} {v : Value} (hx1 : x.gives2 = true)
    (hx : RepV P G w loc i x v) : RepV P G' w' loc' i' x v := by
  have g1 : ∀ y : PV, y.gives1 = true → y.pass1 = true ∧ ¬ ∃ K, y = .fn K ∨ y = .efn K := by
    intro y hy
    cases y <;> simp [PV.gives1, PV.pass1] at hy ⊢
  cases x
  case agg l =>
    obtain ⟨cs, hv, hl, h1, hr⟩ := hx
    refine ⟨cs, hv, hl, h1, fun j x u h1 h2 => ?_⟩
    obtain ⟨k1, k2⟩ := g1 x (List.all_eq_true.1 hx1 x (List.mem_of_getElem? h1))
    exact (hr j x u h1 h2).pstep h (hp j) k1 (fun e => absurd e k2)
  all_goals
    simp only [PV.gives2] at hx1
    obtain ⟨k1, k2⟩ := g1 _ hx1
    exact RepC.pstep (P := P) (v := v) h (hp 0) k1 (fun e => absurd e k2) hx
theorem RepT.pstepG {P : Program} {G G' : Gh} {w w' : World} {kp : Pos → Pos → Prop} (h : PStep G w G' w' kp) {loc loc' : Loc} (hp : ∀ i j, kp (loc, i, j) (loc', i, j)) {x : PV} {v : Value} (hx1 : x.gives = true)
    (hx : RepT P G w loc x v) : RepT P G' w' loc' x v := by
  cases x
  case tup l =>
    obtain ⟨vs, hv, hl, hr⟩ := hx
    exact ⟨vs, hv, hl, fun i x u h1 h2 => (hr i x u h1 h2).pstepG h (hp i) (List.all_eq_true.1 hx1 x (List.mem_of_getElem? h1))⟩
  all_goals (simp only [PV.gives] at hx1; exact RepV.pstepG (P := P) (v := v) h (hp 0) hx1 hx)
theorem RepT.toV {P : Program} {G : Gh} {w : World} {loc : Loc} {x : PV} {v : Value} (h : RepT P G w loc x v) (hx : x.passable = true) : RepV P G w loc 0 x v := by
  cases x <;> first | exact h | simp [PV.passable, PV.pass1] at hx

def ofPD : PD → PV
  | .agg cs => .agg (cs.map .d)
  | x => .d x
theorem ofPD_rep {P : Program} {G : Gh} {w : World} {loc : Loc} {x : PD} {v : Value} (h : RepD G.im w x v) : RepT P G w loc (ofPD x) v := by
  cases h
  case agg cs vs hl hs hr =>
    refine ⟨vs, rfl, by simpa using hl, fun u hu => ?_, fun j y u hy hu => ?_⟩
    · obtain ⟨j, hj, rfl⟩ := Array.mem_iff_getElem.1 hu
      have hj2 : j < cs.length := by omega
      exact (hr j cs[j] vs[j] (List.getElem?_eq_getElem hj2) (Array.getElem?_eq_getElem hj)).oneCell (hs _ (List.getElem_mem hj2))
    · rw [List.getElem?_map] at hy
      obtain ⟨z, hz, rfl⟩ := Option.map_eq_some_iff.1 hy
      exact ⟨hr j z u hz hu, hs z (List.mem_of_getElem? hz)⟩
  case bool b => exact ⟨.bool b, rfl⟩
  case int k n => exact ⟨.int k n, rfl⟩
  case str l hb => exact ⟨.str l hb, rfl⟩
  case nil sz => exact ⟨.nil sz, rfl⟩
  case sl sz l g o c vs hb hc hu hs hl hv hr => exact ⟨.sl sz l g o c vs hb hc hu hs hl hv hr, rfl⟩
  case emp sz a c => exact ⟨.emp sz a c, rfl⟩
theorem RepT.toC {P : Program} {G : Gh} {w : World} {loc : Loc} {x : PV} {v : Value} (h : RepT P G w loc x v) (ha : ∀ l, x ≠ .agg l) (ht : ∀ l, x ≠ .tup l) : RepC P G w (loc, 0, 0) x v := by
  cases x <;> first | exact h | exact absurd rfl (ha _) | exact absurd rfl (ht _)
theorem pd_RepD {P : Program} {G : Gh} {w : World} {loc : Loc} {x : PV} {v : Value} {y : PD} (h : RepT P G w loc x v) (hx : x.pd = some y) : RepD G.im w y v := by
  cases x
  case agg l =>
    simp only [PV.pd, Option.map_eq_some_iff] at hx
    obtain ⟨ys, hy, rfl⟩ := hx
    obtain ⟨cs, rfl, hsz, h1, hr⟩ := h
    obtain ⟨h2, h3⟩ := pdL_get hy
    refine .agg ys cs (by omega) (fun c hc => ?_) (fun i c u hc hu => ?_)
    · obtain ⟨i, hi, rfl⟩ := List.mem_iff_getElem.1 hc
      have hi2 : i < l.length := by omega
      have hi3 : i < cs.size := by omega
      exact (pdC_rep (hr i l[i] cs[i] (List.getElem?_eq_getElem hi2) (Array.getElem?_eq_getElem hi3)) (h3 i _ _ (List.getElem?_eq_getElem hi2) (List.getElem?_eq_getElem hi))).2
    · obtain ⟨hi, _⟩ := List.getElem?_eq_some_iff.1 hc
      have hi2 : i < l.length := by omega
      exact (pdC_rep (hr i l[i] u (List.getElem?_eq_getElem hi2) hu) (h3 i _ _ (List.getElem?_eq_getElem hi2) hc)).1
  case tup l => simp [PV.pd, PV.pdC] at hx
  all_goals (simp only [PV.pd] at hx; exact (pdC_rep (h.toC (by simp) (by simp)) hx).1)
theorem plain_rep {P : Program} {G : Gh} {w : World} {loc : Loc} {x : PD} {v : Value} (hp : x.plain = true) (h : RepT P G w loc (ofPD x) v) (S : Nat → Nat → Prop) (w' : World) : RepD S w' x v := by
  have one : ∀ (S : Nat → Nat → Prop) (y : PD) u, (match y with | .bool _ => true | .int _ _ => true | .str _ => true | _ => false) = true → RepD G.im w y u → RepD S w' y u := by
    intro S y u hy hr
    cases hr <;> simp at hy
    · exact .bool _
    · exact .int _ _
    · exact .str _ ‹_›
  cases x
  case agg cs =>
    obtain ⟨vs, rfl, hl, h1, hr⟩ := h
    have hl' : vs.size = cs.length := by simpa using hl
    refine .agg cs vs hl' (fun c hc => ?_) (fun i c u hc hu => ?_)
    · have := List.all_eq_true.1 hp c hc
      cases c <;> simp at this <;> rfl
    · refine one S c u (List.all_eq_true.1 hp c (List.mem_of_getElem? hc)) ?_
      exact (hr i (.d c) u (by rw [List.getElem?_map, hc]; rfl) hu).1
  case sl sz l => simp [PD.plain] at hp
  all_goals exact one S _ v hp h.1

def capOf (B : Bx) : PV → Option PV
  | .ptr b o => (B b).bind fun cells => (pdL cells).map fun ys => .eptr (ys.drop o)
  | .d x => some (.d x)
  | .nilS => some .nilS
  | .nn sz l => some (.nn sz l)
  | .eptr cs => some (.eptr cs)
  | _ => none
def capsOf (B : Bx) : List PV → Option (List PV)
  | [] => some []
  | x :: xs => (capOf B x).bind fun y => (capsOf B xs).map fun ys => y :: ys
def capBoxes (caps : List PV) : List BN := caps.filterMap fun | .ptr b _ => some b | _ => none
def CloOK0 (P : Program) (B : Bx) (f : Nat) (caps : List PV) (K : List PD → Option PD) : Prop :=
  ∃ cs, capsOf B caps = some cs ∧ isFn P f = true ∧ ∀ xs r, K xs = some r → r.plain = true ∧ BRet P f [] (xs.map ofPD ++ cs) (ofPD r) []
inductive CapR (P : Program) (B : Bx) : PV → PV → Prop
  | data (x y : PV) (h : capOf B x = some y) : CapR P B x y
  | fn (b : BN) (f : Nat) (caps : List PV) (K : List PD → Option PD) (hb : B b = some [.clo f caps]) (h : CloOK0 P B f caps K) : CapR P B (.ptr b 0) (.efn K)
inductive CapsR (P : Program) (B : Bx) : List PV → List PV → Prop
  | nil : CapsR P B [] []
  | cons (x y : PV) (xs ys : List PV) (h : CapR P B x y) (k : CapsR P B xs ys) : CapsR P B (x :: xs) (y :: ys)
def capAll (B : Bx) (caps : List PV) : List BN := caps.flatMap fun | .ptr b _ => b :: (match B b with | some [.clo _ caps'] => capBoxes caps' | _ => []) | _ => []
def CloOK (P : Program) (B : Bx) (f : Nat) (caps : List PV) (K : List PD → Option PD) : Prop :=
  ∃ cs, CapsR P B caps cs ∧ isFn P f = true ∧ ∀ xs r, K xs = some r → r.plain = true ∧ BRet P f [] (xs.map ofPD ++ cs) (ofPD r) []
theorem CapsR.of {P : Program} {B : Bx} : ∀ {caps cs : List PV}, capsOf B caps = some cs → CapsR P B caps cs
  | [], cs, h => by simp [capsOf] at h; subst h; exact .nil
  | x :: xs, cs, h => by
    simp only [capsOf, Option.bind_eq_some_iff, Option.map_eq_some_iff] at h
    obtain ⟨y, hy, zs, hz, rfl⟩ := h
    exact .cons _ _ _ _ (.data _ _ hy) (CapsR.of hz)
theorem CapsR.get {P : Program} {B : Bx} : ∀ {caps cs : List PV}, CapsR P B caps cs → cs.length = caps.length ∧ ∀ (i : Nat) x y, caps[i]? = some x → cs[i]? = some y → CapR P B x y
  | _, _, .nil => ⟨rfl, fun i x y h => by simp at h⟩
  | _, _, .cons x y xs ys h k => by
    obtain ⟨h1, h2⟩ := CapsR.get k
    refine ⟨by simp [h1], fun i a b ha hb => ?_⟩
    cases i with
    | zero => simp at ha hb; subst ha; subst hb; exact h
    | succ i => simp at ha hb; exact h2 i a b ha hb
theorem CloOK0.up {P : Program} {B : Bx} {f : Nat} {caps : List PV} {K : List PD → Option PD} (h : CloOK0 P B f caps K) : CloOK P B f caps K := by
  obtain ⟨cs, h1, h2⟩ := h
  exact ⟨cs, CapsR.of h1, h2⟩

theorem capsOf_get {B : Bx} : ∀ {l ys : List PV}, capsOf B l = some ys → ys.length = l.length ∧ ∀ (i : Nat) x y, l[i]? = some x → ys[i]? = some y → capOf B x = some y
  | [], ys, h => by simp [capsOf] at h; subst h; simp
  | x :: xs, ys, h => by
    simp only [capsOf, Option.bind_eq_some_iff, Option.map_eq_some_iff] at h
    obtain ⟨y, hy, zs, hz, rfl⟩ := h
    obtain ⟨h1, h2⟩ := capsOf_get hz
    refine ⟨by simp [h1], fun i a b ha hb => ?_⟩
    cases i with
    | zero => simp at ha hb; subst ha; subst hb; exact hy
    | succ i => simp at ha hb; exact h2 i a b ha hb

theorem CloOK0.fn {P : Program} {G : Gh} {w : World} {B B0 : Bx} (hp : Hp P G w B0) (hB : ∀ b c, B b = some c → B0 b = some c) {p : Pos} {f : Nat} {caps : List PV} {K : List PD → Option PD} {v : Value} (hv : RepC P G w p (.clo f caps) v) (h : CloOK0 P B f caps K)
    {fz : Nat → Prop} (hfz : ∀ b, b ∈ capBoxes caps → G.live b → fz (G.β b)) (htb : TabOk P fz w) : FnOk P G.im fz w K v := by
  obtain ⟨vs', rfl, hsz, hrep⟩ := hv
  obtain ⟨cs, hcs, hfn, hK⟩ := h
  obtain ⟨hcl, hcg⟩ := capsOf_get hcs
  refine ⟨f, vs', rfl, hfn, fun xs r hr => ⟨(hK xs r hr).1, fun S1 w1 hk1 hz1 hs1 hlt vs hvl hvr => ?_⟩⟩
  obtain ⟨hpl, -, -, hret⟩ := hK xs r hr
  let im1 : Nat → Nat → Prop := fun g o => S1 g o ∨ ∃ b, G.live b ∧ b ∈ capBoxes caps ∧ g = G.β b
  let G1 : Gh := { im := im1, β := G.β, live := fun _ => False, own := fun _ => none, fz := fun g => g < w1.heap.size }
  have hk : Keep G.im w im1 w1 := fun g o hg => ⟨.inl (hk1 g o hg).1, (hk1 g o hg).2⟩
  have hkS : Keep S1 w1 im1 w1 := fun g o hg => ⟨.inl hg, rfl⟩
  have hcalls := hret G1 w1 (vs ++ vs') (fun _ => False) (by simp [hvl, hsz, hcl]) (fun i x u hx hu => by
      by_cases hi : i < xs.length
      · rw [List.getElem?_append_left (by simpa using hi), List.getElem?_map] at hx
        obtain ⟨y, hy, rfl⟩ := Option.map_eq_some_iff.1 hx
        rw [Array.getElem?_append_left (by omega)] at hu
        exact ofPD_rep (G := G1) ((hvr i y u hy hu).keep hkS)
      · rw [List.getElem?_append_right (by simp; omega)] at hx
        rw [Array.getElem?_append_right (by omega)] at hu
        simp only [List.length_map] at hx
        rw [hvl] at hu
        have hi3 : i - xs.length < caps.length := by rw [← hcl]; exact (List.getElem?_eq_some_iff.1 hx).1
        have hc := hcg _ _ x (List.getElem?_eq_getElem hi3) hx
        have hr1 := hrep _ _ u (List.getElem?_eq_getElem hi3) hu
        have hmem : caps[i - xs.length] ∈ caps := List.getElem_mem hi3
        generalize caps[i - xs.length] = y at hc hr1 hmem
        cases y <;> simp only [capOf, reduceCtorEq, Option.some.injEq] at hc
        case d z => subst hc; exact ⟨hr1.1.keep hk, hr1.2⟩
        case nilS => subst hc; exact hr1
        case nn sz l => subst hc; exact ⟨hr1.1.keep hk, hr1.2⟩
        case eptr cs => subst hc; obtain ⟨g, o, e, hr2⟩ := hr1; exact ⟨g, o, e, hr2.keep hk⟩
        case ptr b o =>
          simp only [Option.bind_eq_some_iff, Option.map_eq_some_iff] at hc
          obtain ⟨cells, hcell, ys, hys, rfl⟩ := hc
          obtain ⟨rfl, hl⟩ := hr1
          have hmb : b ∈ capBoxes caps := List.mem_filterMap.2 ⟨_, hmem, rfl⟩
          have hblk := hz1 _ (hfz b hmb hl)
          obtain ⟨hys1, hys2⟩ := pdL_get hys
          obtain ⟨cells', e, h1, h2, h3, h4⟩ := hp.bx b cells (hB b cells hcell)
          have hrun : RepRun im1 w1 (G.β b) 0 ys := by
            refine ⟨cells'.toList.take ys.length, by simp; omega, fun y hy => ?_, fun j u hu => ?_, fun j y u hy hu => ?_⟩
            · obtain ⟨j, hj, rfl⟩ := List.mem_iff_getElem.1 hy
              have hj2 : j < cells.length := by omega
              have hj3 : j < cells'.size := by omega
              exact (pdC_rep (h4 j _ _ (List.getElem?_eq_getElem hj2) (Array.getElem?_eq_getElem hj3)) (hys2 j _ _ (List.getElem?_eq_getElem hj2) (List.getElem?_eq_getElem hj))).2
            · refine ⟨.inr ⟨b, hl, hmb, rfl⟩, ?_⟩
              rw [List.getElem?_take] at hu
              split at hu
              · simp only [World.cell?, Nat.zero_add, hblk, h1]
                simpa using hu
              · cases hu
            · have hj2 : j < cells.length := by rw [← hys1]; exact (List.getElem?_eq_some_iff.1 hy).1
              rw [List.getElem?_take_of_lt (by omega)] at hu
              exact (pdC_rep (h4 j _ u (List.getElem?_eq_getElem hj2) (by simpa using hu)) (hys2 j _ y (List.getElem?_eq_getElem hj2) hy)).1.keep hk
          have := hrun.drop o
          rw [Nat.zero_add] at this
          exact ⟨_, _, rfl, this⟩)
    ⟨fun b cells hb => by cases b <;> simp [bxOf] at hb, fun b => by cases b <;> simp [bxOf, G1], fun b b' hl => hl.elim, fun g o hg => by
      rcases hg with hg | ⟨b, hl, _, rfl⟩
      · exact hlt g o hg
      · obtain ⟨c, _, hbx⟩ := hp.box hl
        exact Nat.lt_of_lt_of_le hbx.lt hs1, fun g p hg => by simp [G1] at hg, fun b hl => hl.elim, fun b hl => hl.elim⟩
    (fun g p hg => by simp [G1] at hg) (fun b hl => hl.elim) (fun g hg => ⟨hg, id⟩) (fun g h1 _ => h1) (htb.mono hz1 (fun g _ h => Nat.lt_of_lt_of_le h hs1))
  refine hcalls.mono fun e w2 ⟨u, G2, he, hru, _, hext, _, _⟩ => ⟨u, he, ⟨hext.os, hext.tape, hext.output, hext.size, fun b hb _ => hext.old b hb (fun h => h), fun g o hg => ⟨hg, (hext.keep g o (.inl hg)).2⟩, fun g o hg => .inl hg⟩, plain_rep (hK xs r hr).1 hru S1 w2⟩

theorem CloOK.fn {P : Program} {G : Gh} {w : World} {B B0 : Bx} (hp : Hp P G w B0) (hB : ∀ b c, B b = some c → B0 b = some c) {p : Pos} {f : Nat} {caps : List PV} {K : List PD → Option PD} {v : Value} (hv : RepC P G w p (.clo f caps) v) (h : CloOK P B f caps K)
    {fz : Nat → Prop} (hfz : ∀ b, b ∈ capAll B caps → G.live b → fz (G.β b)) (htb : TabOk P fz w) : FnOk P G.im fz w K v := by
  obtain ⟨vs', rfl, hsz, hrep⟩ := hv
  obtain ⟨cs, hcs, hfn, hK⟩ := h
  obtain ⟨hcl, hcg⟩ := hcs.get
  refine ⟨f, vs', rfl, hfn, fun xs r hr => ⟨(hK xs r hr).1, fun S1 w1 hk1 hz1 hs1 hlt vs hvl hvr => ?_⟩⟩
  obtain ⟨hpl, -, -, hret⟩ := hK xs r hr
  let im1 : Nat → Nat → Prop := fun g o => S1 g o ∨ ∃ b, G.live b ∧ b ∈ capAll B caps ∧ g = G.β b
  let G1 : Gh := { im := im1, β := G.β, live := fun _ => False, own := fun _ => none, fz := fun g => g < w1.heap.size }
  let fz0 : Nat → Prop := fun g => ∃ b, G.live b ∧ b ∈ capAll B caps ∧ g = G.β b
  have hk : Keep G.im w im1 w1 := fun g o hg => ⟨.inl (hk1 g o hg).1, (hk1 g o hg).2⟩
  have hkS : Keep S1 w1 im1 w1 := fun g o hg => ⟨.inl hg, rfl⟩
  have hblt : ∀ b, G.live b → G.β b < w1.heap.size := fun b hl => by
    obtain ⟨c, _, hbx⟩ := hp.box hl
    exact Nat.lt_of_lt_of_le hbx.lt hs1
  have hcalls := hret G1 w1 (vs ++ vs') (fun _ => False) (by simp [hvl, hsz, hcl]) (fun i x u hx hu => by
      by_cases hi : i < xs.length
      · rw [List.getElem?_append_left (by simpa using hi), List.getElem?_map] at hx
        obtain ⟨y, hy, rfl⟩ := Option.map_eq_some_iff.1 hx
        rw [Array.getElem?_append_left (by omega)] at hu
        exact ofPD_rep (G := G1) ((hvr i y u hy hu).keep hkS)
      · rw [List.getElem?_append_right (by simp; omega)] at hx
        rw [Array.getElem?_append_right (by omega)] at hu
        simp only [List.length_map] at hx
        rw [hvl] at hu
        have hi3 : i - xs.length < caps.length := by rw [← hcl]; exact (List.getElem?_eq_some_iff.1 hx).1
        have hc := hcg _ _ x (List.getElem?_eq_getElem hi3) hx
        have hr1 := hrep _ _ u (List.getElem?_eq_getElem hi3) hu
        have hmem : caps[i - xs.length] ∈ caps := List.getElem_mem hi3
        generalize caps[i - xs.length] = y at hc hr1 hmem
        have hmb : ∀ b o, y = .ptr b o → b ∈ capAll B caps := fun b o e => by
          subst e
          exact List.mem_flatMap.2 ⟨_, hmem, List.mem_cons_self ..⟩
        cases hc with
        | data _ _ hc =>
        cases y <;> simp only [capOf, reduceCtorEq, Option.some.injEq] at hc
        case d z => subst hc; exact ⟨hr1.1.keep hk, hr1.2⟩
        case nilS => subst hc; exact hr1
        case nn sz l => subst hc; exact ⟨hr1.1.keep hk, hr1.2⟩
        case eptr cs => subst hc; obtain ⟨g, o, e, hr2⟩ := hr1; exact ⟨g, o, e, hr2.keep hk⟩
        case ptr b o =>
          simp only [Option.bind_eq_some_iff, Option.map_eq_some_iff] at hc
          obtain ⟨cells, hcell, ys, hys, rfl⟩ := hc
          obtain ⟨rfl, hl⟩ := hr1
          have hmb := hmb b o rfl
          have hblk := hz1 _ (hfz b hmb hl)
          obtain ⟨hys1, hys2⟩ := pdL_get hys
          obtain ⟨cells', e, h1, h2, h3, h4⟩ := hp.bx b cells (hB b cells hcell)
          have hrun : RepRun im1 w1 (G.β b) 0 ys := by
            refine ⟨cells'.toList.take ys.length, by simp; omega, fun y hy => ?_, fun j u hu => ?_, fun j y u hy hu => ?_⟩
            · obtain ⟨j, hj, rfl⟩ := List.mem_iff_getElem.1 hy
              have hj2 : j < cells.length := by omega
              have hj3 : j < cells'.size := by omega
              exact (pdC_rep (h4 j _ _ (List.getElem?_eq_getElem hj2) (Array.getElem?_eq_getElem hj3)) (hys2 j _ _ (List.getElem?_eq_getElem hj2) (List.getElem?_eq_getElem hj))).2
            · refine ⟨.inr ⟨b, hl, hmb, rfl⟩, ?_⟩
              rw [List.getElem?_take] at hu
              split at hu
              · simp only [World.cell?, Nat.zero_add, hblk, h1]
                simpa using hu
              · cases hu
            · have hj2 : j < cells.length := by rw [← hys1]; exact (List.getElem?_eq_some_iff.1 hy).1
              rw [List.getElem?_take_of_lt (by omega)] at hu
              exact (pdC_rep (h4 j _ u (List.getElem?_eq_getElem hj2) (by simpa using hu)) (hys2 j _ y (List.getElem?_eq_getElem hj2) hy)).1.keep hk
          have := hrun.drop o
          rw [Nat.zero_add] at this
          exact ⟨_, _, rfl, this⟩
        | fn b f' caps' K' hb hok =>
          obtain ⟨rfl, hl⟩ := hr1
          have hmb := hmb b 0 rfl
          have hblk := hz1 _ (hfz b hmb hl)
          obtain ⟨cells', e, h1, h2, h3, h4⟩ := hp.bx b _ (hB b _ hb)
          have h0 : 0 < cells'.size := by simp at h2; omega
          have hu0 := h4 0 _ cells'[0] rfl (Array.getElem?_eq_getElem h0)
          have hin : ∀ c, c ∈ capBoxes caps' → c ∈ capAll B caps := fun c hc => by
            refine List.mem_flatMap.2 ⟨_, hmem, List.mem_cons_of_mem _ ?_⟩
            rw [hb]; exact hc
          have hfo := CloOK0.fn hp hB (fz := fun g => fz0 g ∨ isTab P g) hu0 hok (fun c hc hl => .inl ⟨c, hl, hin c hc, rfl⟩) (fun x hx g hg => ⟨.inr ⟨x, hx, hg⟩, (htb x hx g hg).2⟩)
          refine ⟨G.β b, 0, cells'[0], rfl, .inr ⟨b, hl, hmb, rfl⟩, ?_, (hfo.keep hk (fun g hg => ?_) hs1).fz (fun g hg => ?_)⟩
          · simp only [World.cell?, hblk, h1]
            simp [h0]
          · rcases hg with ⟨c, hl, hc, rfl⟩ | ⟨x, hx, hg⟩
            · exact hz1 _ (hfz c hc hl)
            · exact hz1 _ (htb x hx g hg).1
          · rcases hg with ⟨c, hl, hc, rfl⟩ | ⟨x, hx, hg⟩
            · exact hblt c hl
            · exact Nat.lt_of_lt_of_le (TabHas.lt (htb x hx g hg).2 hg) hs1)
    ⟨fun b cells hb => by cases b <;> simp [bxOf] at hb, fun b => by cases b <;> simp [bxOf, G1], fun b b' hl => hl.elim, fun g o hg => by
      rcases hg with hg | ⟨b, hl, _, rfl⟩
      · exact hlt g o hg
      · exact hblt b hl, fun g p hg => by simp [G1] at hg, fun b hl => hl.elim, fun b hl => hl.elim⟩
    (fun g p hg => by simp [G1] at hg) (fun b hl => hl.elim) (fun g hg => ⟨hg, id⟩) (fun g h1 _ => h1) (htb.mono hz1 (fun g _ h => Nat.lt_of_lt_of_le h hs1))
  refine hcalls.mono fun e w2 ⟨u, G2, he, hru, _, hext, _, _⟩ => ⟨u, he, ⟨hext.os, hext.tape, hext.output, hext.size, fun b hb _ => hext.old b hb (fun h => h), fun g o hg => ⟨hg, (hext.keep g o (.inl hg)).2⟩, fun g o hg => .inl hg⟩, plain_rep (hK xs r hr).1 hru S1 w2⟩

end Go.Bee


namespace Go.Bee
set_option linter.unusedVariables false

inductive Pass (P : Program) (B : Bx) (mv : Bool) (nm : List BN) : PV → PV → Prop
  | val (x : PV) (h : x.passable = true) : Pass P B mv nm x (mvd mv x)
  | ptr (b : BN) (o k : Nat) (h : nm[k]? = some b) : Pass P B mv nm (.ptr b o) (.ptr (.a k) o)
  | rsv (b : BN) (sz n k : Nat) (h : nm[k]? = some b) : Pass P B mv nm (.rsv b sz n) (.rsv (.a k) sz n)
  | agr (x : PD) (b : BN) (sz n k : Nat) (h : nm[k]? = some b) : Pass P B mv nm (.agg [.d x, .rsv b sz n]) (.agg [.d x, .rsv (.a k) sz n])
  | fn (f : Nat) (caps : List PV) (K : List PD → Option PD) (h : CloOK P B f caps K) (hn : ∀ b ∈ capAll B caps, b ∉ nm) : Pass P B mv nm (.clo f caps) (.fn K)

def Bx.setAll (B : Bx) : List BN → List (List PV) → Bx
  | b :: nm, c :: bo => Bx.set (Bx.setAll B nm bo) b c
  | _, _ => B
theorem Bx.setAll_not {B : Bx} : ∀ {nm : List BN} {bo : List (List PV)} {b : BN}, b ∉ nm → B.setAll nm bo b = B b
  | [], _, b, h => rfl
  | c :: nm, [], b, h => rfl
  | c :: nm, x :: bo, b, h => by
    simp only [List.mem_cons, not_or] at h
    simp only [Bx.setAll, Bx.set, h.1, if_false]
    exact Bx.setAll_not h.2
theorem Bx.setAll_get {B : Bx} : ∀ {nm : List BN} {bo : List (List PV)} {b : BN} {k : Nat}, nm.Nodup → bo.length = nm.length → nm[k]? = some b → B.setAll nm bo b = bo[k]?
  | [], _, b, k, _, _, h => by simp at h
  | c :: nm, [], b, k, _, hl, h => by simp at hl
  | c :: nm, x :: bo, b, 0, hn, hl, h => by
    simp at h; subst h
    simp [Bx.setAll, Bx.set]
  | c :: nm, x :: bo, b, k + 1, hn, hl, h => by
    simp only [List.getElem?_cons_succ] at h ⊢
    have hne : b ≠ c := by
      rintro rfl
      exact (List.nodup_cons.1 hn).1 (List.mem_of_getElem? h)
    simp only [Bx.setAll, Bx.set, hne, if_false]
    exact Bx.setAll_get (List.nodup_cons.1 hn).2 (by simpa using hl) h

theorem RepC.pstepB {P : Program} {G G' : Gh} {w w' : World} {kp : Pos → Pos → Prop} (h : PStep G w G' w' kp) {p : Pos} (q : Pos) {x : PV} {v : Value} (hx1 : x.pass1 = true) (hz : FzUp P G w G' w')
    (hx : RepC P G w p x v) : RepC P G' w' q x.bC v := by
  cases x <;> simp only [PV.pass1, Bool.false_eq_true] at hx1 <;> simp only [RepC, RepAt, PV.bC] at hx ⊢
  case d x => exact ⟨hx.1.keep h.keep, hx.2⟩
  case nilS => exact hx
  case nn sz l => exact ⟨hx.1.keep h.keep, hx.2⟩
  case own e sz l => exact ⟨(OwnAt.data hx).keep h.keep, rfl⟩
  case eptr cs => obtain ⟨g, o, hv, hr⟩ := hx; exact ⟨g, o, hv, hr.keep h.keep⟩
  case fn K => obtain ⟨h1, h2, h3⟩ := hz; exact (hx.keep h.keep h2 h3).fz h1
  case efn K => obtain ⟨h1, h2, h3⟩ := hz; obtain ⟨g, o, u, a1, a2, a3, a4⟩ := hx; exact ⟨g, o, u, a1, (h.keep g o a2).1, (h.keep g o a2).2.trans a3, (a4.keep h.keep h2 h3).fz h1⟩
  case dp x => exact ⟨hx.1.keep ((Mine.im G w p).trans h.keep), hx.2⟩
  case und => exact hx
  case er b => exact hx
theorem RepT.pstepB {P : Program} {G G' : Gh} {w w' : World} {kp : Pos → Pos → Prop} (h : PStep G w G' w' kp) {loc : Loc} (loc' : Loc) {x : PV} {v : Value} (hx1 : x.passable = true) (hz : FzUp P G w G' w')
    (hx : RepT P G w loc x v) : RepT P G' w' loc' x.bT v := by
  cases x
  case agg l =>
    obtain ⟨cs, hv, hl, h1, hr⟩ := hx
    refine ⟨cs, hv, by simpa using hl, h1, fun j y u hy hu => ?_⟩
    rw [List.getElem?_map] at hy
    obtain ⟨z, hz', rfl⟩ := Option.map_eq_some_iff.1 hy
    exact (hr j z u hz' hu).pstepB h _ (List.all_eq_true.1 hx1 z (List.mem_of_getElem? hz')) hz
  case tup l => simp [PV.passable, PV.pass1] at hx1
  case own e sz l =>
    exact RepC.toT (RepC.pstepB (P := P) (v := v) h (loc', 0, 0) (x := .own e sz l) (p := (loc, 0, 0)) rfl hz hx) loc' rfl
  all_goals
    simp only [PV.passable] at hx1
    exact RepC.toT (RepC.pstepB (P := P) (v := v) h (loc', 0, 0) hx1 hz (hx.toC (by simp) (by simp))) loc' rfl
theorem cpv_bT (v : Value) : (cpv v).bT = cpv v := by
  unfold cpv cpc
  repeat' split
  all_goals rfl
theorem RepAt.bT {G : Gh} {w : World} {x : PV} {v : Value} (h : RepAt G w x v) : x.bT = x := by
  cases x <;> first | rfl | exact absurd h (by simp [RepAt])
theorem RepAt.toT {P : Program} {G : Gh} {w : World} {x : PV} {v : Value} (h : RepAt G w x v) (loc : Loc) : RepT P G w loc x v := by
  cases x <;> first | exact h | exact absurd h (by simp [RepAt])

def isValCall (o : Oper) (X : Operand) (xs : List Operand) : Prop := ∃ ts, o.op = .call { callee := .value X, args := xs.toArray, argTypes := ts }

structure CallStep (P : Program) (fl : AF) (o : Oper) (st : St) (v : PV) (B' : Bx) (X : Operand) (xs : List Operand) (f : Nat) (caps ys : List PV) (nm : List BN) (bi bo : List (List PV)) : Prop where
  call : isValCall o X xs
  clo : st.ev X = .clo f caps
  len : ys.length = xs.length + caps.length
  pass : ∀ (i : Nat) x y, (xs.map st.ev ++ caps)[i]? = some x → ys[i]? = some y → Pass P (vz fl st.bx) fl.mv nm x y
  nodup : fl.mv = true → (tmpsOf xs).Nodup
  names : nm.Nodup
  bl : bi.length = nm.length
  bin : ∀ (k : Nat) b, nm[k]? = some b → vz fl st.bx b = bi[k]?
  bip : ∀ cells : List PV, cells ∈ bi → cells.all PV.pass1 = true
  bop : ∀ cells : List PV, cells ∈ bo → cells.all PV.gives1 = true
  gives : v.gives = true
  ret : BRet P f bi ys v bo
  be : nm ≠ [] → fl.be = true
  out : B' = Bx.setAll (vz fl st.bx) nm bo

theorem nodup_inj {α : Type} {l : List α} (h : l.Nodup) {i j : Nat} {x : α} (hi : l[i]? = some x) (hj : l[j]? = some x) : i = j := by
  induction l generalizing i j with
  | nil => simp at hi
  | cons y l ih =>
    obtain ⟨h1, h2⟩ := List.nodup_cons.1 h
    cases i with
    | zero =>
      simp at hi
      cases j with
      | zero => rfl
      | succ j => simp at hj; subst hi; exact absurd (List.mem_of_getElem? hj) h1
    | succ i =>
      simp at hi
      cases j with
      | zero => simp at hj; subst hj; exact absurd (List.mem_of_getElem? hi) h1
      | succ j => simp at hj; rw [ih h2 hi hj]
theorem tmpsOf_get {xs : List Operand} (h : (tmpsOf xs).Nodup) {i j s : Nat} (hi : xs[i]? = some (.tmp s)) (hj : xs[j]? = some (.tmp s)) : i = j := by
  induction xs generalizing i j with
  | nil => simp at hi
  | cons x xs ih =>
    have hcons : ∀ t, x = .tmp t → tmpsOf (x :: xs) = t :: tmpsOf xs := by rintro t rfl; rfl
    cases i with
    | zero =>
      simp at hi
      cases j with
      | zero => rfl
      | succ j =>
        simp at hj
        rw [hcons s hi] at h
        exact absurd (mem_tmpsOf.2 (List.mem_of_getElem? hj)) (List.nodup_cons.1 h).1
    | succ i =>
      simp at hi
      cases j with
      | zero =>
        simp at hj
        rw [hcons s hj] at h
        exact absurd (mem_tmpsOf.2 (List.mem_of_getElem? hi)) (List.nodup_cons.1 h).1
      | succ j =>
        simp at hj
        have h' : (tmpsOf xs).Nodup := by
          cases x with
          | tmp t => rw [hcons t rfl] at h; exact (List.nodup_cons.1 h).2
          | const v => exact h
          | global g => exact h
          | func f => exact h
        rw [ih h' hi hj]

theorem callStep_sound {P : Program} {F : Fr} {G : Gh} {st : St} {a : Act} {w : World} (h : Rel P F G st a w) {fl : AF} {o : Oper} {v : PV} {B' : Bx} {X : Operand} {xs : List Operand} {f : Nat} {caps ys : List PV} {nm : List BN} {bi bo : List (List PV)}
    (hd : ∀ d', o.dst = some d' → d' < F.nt) (hc : CallStep P fl o st v B' X xs f caps ys nm bi bo) {K : Act → World → Prop} {Q : Exit → Act → World → Prop} (hK : ∀ a' w', (∃ G', Rel P F G' (st.after fl o v B') a' w') → K a' w') : o.wp P a w K Q := by
  have hbsub : ∀ b c, vz fl st.bx b = some c → st.bx b = some c := by
    intro b c hc; unfold vz at hc; split at hc
    · exact hc
    · cases hc
  obtain ⟨⟨tys, hop⟩, hclo, hlen, hpass, hnodup, hnames, hbl, hbi, hbip, hbop, hgives, hret, hbe, hout⟩ := hc
  have hBeq : fl.be = true → vz fl st.bx = st.bx := by intro h2; simp [vz, h2]
  generalize hBx : vz fl st.bx = B at *
  have hX := h.ev X
  rw [hclo] at hX
  obtain ⟨vs', hXv, hvs', hcapr⟩ := hX
  obtain ⟨hisfn, hbol, hret⟩ := hret
  -- the operands
  have hops : o.op.operands.toList = X :: xs := by simp [hop, Op.operands, Call.operands]
  -- which position becomes which
  let PM : Pos → Pos → Prop := fun p q => (∃ s i, p.1 = .t s ∧ fl.mv = true ∧ xs[i]? = some (.tmp s) ∧ q = (.t i, p.2)) ∨ (∃ b k, p.1 = .b b ∧ nm[k]? = some b ∧ q = (.b (.a k), p.2))
  have hPMf : ∀ p q q', PM p q → PM p q' → q = q' := by
    rintro p q q' (⟨s, i, h1, hmv, h2, rfl⟩ | ⟨b, k, h1, h2, rfl⟩) (⟨s', i', h1', hmv', h2', rfl⟩ | ⟨b', k', h1', h2', rfl⟩)
    · rw [h1] at h1'; cases h1'
      rw [tmpsOf_get (hnodup hmv) h2 h2']
    · rw [h1] at h1'; cases h1'
    · rw [h1] at h1'; cases h1'
    · rw [h1] at h1'; cases h1'
      rw [nodup_inj hnames h2 h2']
  have hnmlive : ∀ (k : Nat) b, nm[k]? = some b → G.live b ∧ ∃ cells, bi[k]? = some cells ∧ st.bx b = some cells := by
    intro k b hk
    have hkl : k < bi.length := by rw [hbl]; exact (List.getElem?_eq_some_iff.1 hk).1
    have h1 := hbi k b hk
    rw [List.getElem?_eq_getElem hkl] at h1
    have h2 := hbsub b _ h1
    exact ⟨(h.hp.live b).2 (by simp [h2]), _, List.getElem?_eq_getElem hkl, h2⟩
  let Wr : Nat → Prop := fun g => (∃ p q, G.own g = some p ∧ PM p q) ∨ ∃ (k : Nat) (b : BN), nm[k]? = some b ∧ g = G.β b
  let ownc : Nat → Option Pos := fun g => open Classical in if hg : ∃ q, ∃ p, G.own g = some p ∧ PM p q then some (Classical.choose hg) else none
  have hownc : ∀ g q, ownc g = some q ↔ ∃ p, G.own g = some p ∧ PM p q := by
    intro g q
    constructor
    · intro hq
      simp only [ownc] at hq
      split at hq
      · rename_i hg
        cases hq
        exact Classical.choose_spec hg
      · cases hq
    · rintro ⟨p, hp, hpq⟩
      have hg : ∃ q, ∃ p, G.own g = some p ∧ PM p q := ⟨q, p, hp, hpq⟩
      simp only [ownc, dif_pos hg]
      obtain ⟨p', hp', hpq'⟩ := Classical.choose_spec hg
      rw [hp] at hp'; cases hp'
      rw [hPMf p _ _ hpq' hpq]
  let Gc : Gh := { im := G.im, β := (fun c => match c with | .a k => (nm[k]?).elim 0 G.β | .t _ => 0), live := (fun c => match c with | .a k => k < nm.length | .t _ => False), own := ownc, fz := (fun g => g < w.heap.size ∧ ¬ Wr g) }
  have hβc : ∀ (k : Nat) b, nm[k]? = some b → Gc.β (.a k) = G.β b := by intro k b hk; simp [Gc, hk]
  have hps : PStep G w Gc w PM := ⟨Keep.refl _ _, fun g p q hg hpq => ⟨(hownc g q).2 ⟨p, hg, hpq⟩, rfl, fun _ h => h⟩⟩
  have hβlt : ∀ b, G.live b → G.β b < w.heap.size := fun b hl => by obtain ⟨c, _, hbx⟩ := h.hp.box hl; exact hbx.lt
  have hfz1 : ∀ g, G.fz g → g < w.heap.size ∧ ¬ Wr g := by
    intro g hg
    obtain ⟨h1, h2⟩ := h.sn.fz g hg
    have hs := h.sn.ext.size
    refine ⟨by omega, ?_⟩
    rintro (⟨p, q, hp, _⟩ | ⟨k, b, hk, rfl⟩)
    · rcases h.sn.own g p hp with h3 | h3
      · omega
      · exact h2 h3
    · rcases h.sn.box b (hnmlive k b hk).1 with h3 | h3
      · omega
      · exact h2 h3
  have htabc : TabOk P Gc.fz w := h.tab.mono (fun _ _ => rfl) (fun g h1 _ => hfz1 g h1)
  have hfz2 : ∀ b, G.live b → b ∉ nm → ¬ Wr (G.β b) := by
    intro b hl hb
    rintro (⟨p, q, hp, _⟩ | ⟨k, b', hk, he⟩)
    · rw [h.hp.boxown b hl] at hp; cases hp
    · have := h.hp.inj b b' hl (hnmlive k b' hk).1 he
      subst this
      exact hb (List.mem_of_getElem? hk)
  have hfz3 : ∀ o g, (o = none ∨ o = some qpos) → FreeO G w o g → ¬ Wr g := by
    rintro o g ho hf (⟨p, q, hp, hpq⟩ | ⟨k, b', hk, rfl⟩)
    · rw [hf.2.1] at hp
      rcases ho with rfl | rfl
      · cases hp
      · cases hp
        rcases hpq with ⟨s, i, h1, _⟩ | ⟨b, k, h1, _⟩ <;> cases h1
    · exact hf.2.2.1 b' (hnmlive k b' hk).1 rfl
  have hfu : FzUp P G w Gc w := ⟨hfz1, fun _ _ => rfl, Nat.le_refl _⟩
  -- the arguments
  have hargs : ∀ (i : Nat) y u, ys[i]? = some y → (xs.toArray.map a.eval ++ vs')[i]? = some u → RepT P Gc w (.t i) y u := by
    intro i y u hy hu
    have hil : i < xs.length + caps.length := by rw [← hlen]; exact (List.getElem?_eq_some_iff.1 hy).1
    by_cases hi : i < xs.length
    · have hx : (xs.map st.ev ++ caps)[i]? = some (st.ev xs[i]) := by
        rw [List.getElem?_append_left (by simpa using hi), List.getElem?_map, List.getElem?_eq_getElem hi]; rfl
      have hu' : u = a.eval xs[i] := by
        rw [Array.getElem?_append_left (by simpa using hi)] at hu
        simp [hi] at hu
        exact hu.symm
      subst hu'
      have hr := h.ev xs[i]
      have hpp := hpass i _ y hx hy
      generalize hxe : st.ev xs[i] = x at hr hpp
      cases hpp with
      | val _ hps1 =>
        cases hmv : fl.mv with
        | false => exact hr.pstepB hps _ hps1 hfu
        | true =>
          simp only [mvd, if_true]
          cases hXi : xs[i] with
          | tmp s =>
            rw [hXi] at hr
            have h1 := RepT.toV hr hps1
            have h2 := RepV.pstep hps (loc' := .t i) (i' := 0) (fun j => Or.inl ⟨s, i, rfl, hmv, by rw [← hXi]; exact List.getElem?_eq_getElem hi, rfl⟩) hps1 hfu h1
            exact h2.toT
          | const c =>
            rw [hXi] at hr hxe
            have : x.bT = x := by rw [← hxe]; exact cpv_bT c
            rw [← this]; exact hr.pstepB hps _ hps1 hfu
          | global g =>
            rw [hXi] at hr hxe
            have : x.bT = x := by rw [← hxe]; rfl
            rw [← this]; exact hr.pstepB hps _ hps1 hfu
          | func g =>
            rw [hXi] at hr hxe
            have : x.bT = x := by rw [← hxe]; rfl
            rw [← this]; exact hr.pstepB hps _ hps1 hfu
      | ptr b k' k hk =>
        obtain ⟨h1, h2⟩ := hr
        refine ⟨by rw [hβc k b hk]; exact h1, ?_⟩
        exact (List.getElem?_eq_some_iff.1 hk).1
      | rsv b sz n k hk =>
        obtain ⟨c, h1, h2, h3, h4⟩ := hr
        exact ⟨c, h1, by rw [hβc k b hk]; exact h2, (List.getElem?_eq_some_iff.1 hk).1, h4⟩
      | agr x b sz n k hk =>
        obtain ⟨cs, e1, e2, e3, e4⟩ := hr
        refine ⟨cs, e1, by simpa using e2, e3, fun j z q hz hq => ?_⟩
        match j, hz with
        | 0, hz =>
          simp at hz; subst hz
          exact e4 0 (.d x) q rfl hq
        | 1, hz =>
          simp at hz; subst hz
          obtain ⟨c, h1, h2, h3, h4⟩ := e4 1 (.rsv b sz n) q rfl hq
          exact ⟨c, h1, by rw [hβc k b hk]; exact h2, (List.getElem?_eq_some_iff.1 hk).1, h4⟩
        | j + 2, hz => simp at hz
      | fn f' caps' K' hok hn =>
        have := CloOK.fn (p := (opLoc xs[i], 0, 0)) h.hp hbsub hr hok (fz := Gc.fz) (fun b hb hl => ⟨hβlt b hl, hfz2 b hl (hn b hb)⟩) htabc
        exact this
    · have hic : i - xs.length < caps.length := by omega
      have hx : (xs.map st.ev ++ caps)[i]? = some caps[i - xs.length] := by
        rw [List.getElem?_append_right (by simp; omega)]
        simp [hic]
      have hu' : vs'[i - xs.length]? = some u := by
        rw [Array.getElem?_append_right (by simp; omega)] at hu
        simpa using hu
      have hr := hcapr _ _ u (List.getElem?_eq_getElem hic) hu'
      have hpp := hpass i _ y hx hy
      generalize caps[i - xs.length] = x at hr hpp
      cases hpp with
      | val _ hps1 =>
        have hb := hr.bT
        have hT : RepT P G w .res x u := hr.toT .res
        have h1 := hT.pstepB hps (.t i) hps1 hfu
        have hm : mvd fl.mv x = x.bT := by unfold mvd; split <;> simp [hb]
        rw [hm]; exact h1
      | ptr b k' k hk =>
        obtain ⟨h1, h2⟩ := hr
        exact ⟨by rw [hβc k b hk]; exact h1, (List.getElem?_eq_some_iff.1 hk).1⟩
      | rsv b sz n k hk => exact absurd hr (by simp [RepAt])
      | agr x b sz n k hk => exact absurd hr (by simp [RepAt])
      | fn f' caps' K' hok hn => exact absurd hr (by simp [RepAt])
  have hpc : Hp P Gc w (bxOf bi) := by
    refine ⟨fun b cells hb => ?_, fun b => ?_, fun b b' hl hl' he => ?_, h.hp.imlt, fun g q hg => ?_, fun b hl o => ?_, fun b hl => ?_⟩
    · cases b with
      | t n => simp [bxOf] at hb
      | a k =>
        simp only [bxOf] at hb
        have hkl : k < nm.length := by rw [← hbl]; exact (List.getElem?_eq_some_iff.1 hb).1
        obtain ⟨hl, cells', hc1, hc2⟩ := hnmlive k nm[k] (List.getElem?_eq_getElem hkl)
        rw [hb] at hc1; cases hc1
        obtain ⟨cs, e, h1, h2, h3, h4⟩ := h.hp.bx _ cells hc2
        refine ⟨cs, e, by rw [hβc k _ (List.getElem?_eq_getElem hkl)]; exact h1, h2, h3, fun j x u hx hu => ?_⟩
        exact (h4 j x u hx hu).pstep hps (Or.inr ⟨nm[k], k, rfl, List.getElem?_eq_getElem hkl, rfl⟩) (List.all_eq_true.1 (hbip cells (List.mem_of_getElem? hb)) x (List.mem_of_getElem? hx)) (fun _ => hfu)
    · cases b with
      | t n => simp [bxOf, Gc]
      | a k => simp [bxOf, Gc, ← hbl]
    · cases b with
      | t n => exact hl.elim
      | a k =>
        cases b' with
        | t n => exact hl'.elim
        | a k' =>
          have hk : k < nm.length := hl
          have hk' : k' < nm.length := hl'
          rw [hβc k _ (List.getElem?_eq_getElem hk), hβc k' _ (List.getElem?_eq_getElem hk')] at he
          have := h.hp.inj _ _ (hnmlive k _ (List.getElem?_eq_getElem hk)).1 (hnmlive k' _ (List.getElem?_eq_getElem hk')).1 he
          rw [nodup_inj hnames (List.getElem?_eq_getElem hk) (by rw [this]; exact List.getElem?_eq_getElem hk')]
    · obtain ⟨p, hp, _⟩ := (hownc g q).1 hg
      exact h.hp.ownlt g p hp
    · cases b with
      | t n => exact hl.elim
      | a k =>
        have hk : k < nm.length := hl
        rw [hβc k _ (List.getElem?_eq_getElem hk)]
        exact h.hp.boxim _ (hnmlive k _ (List.getElem?_eq_getElem hk)).1 o
    · cases b with
      | t n => exact hl.elim
      | a k =>
        have hk : k < nm.length := hl
        rw [hβc k _ (List.getElem?_eq_getElem hk)]
        have hno := h.hp.boxown _ (hnmlive k _ (List.getElem?_eq_getElem hk)).1
        cases hcase : Gc.own (G.β nm[k]) with
        | none => rfl
        | some q =>
          obtain ⟨p, hp, _⟩ := (hownc _ q).1 hcase
          rw [hno] at hp; cases hp
  have hcalls := hret Gc w (xs.toArray.map a.eval ++ vs') Wr (by simp [hlen, hvs']) hargs hpc (fun g q hg => by obtain ⟨p, hp, hpq⟩ := (hownc g q).1 hg; exact .inl ⟨p, q, hp, hpq⟩)
    (fun b hl => by
      cases b with
      | t n => exact hl.elim
      | a k =>
        have hk : k < nm.length := hl
        rw [hβc k _ (List.getElem?_eq_getElem hk)]
        exact .inr ⟨k, nm[k], List.getElem?_eq_getElem hk, rfl⟩) (fun g hg => hg) (fun g h1 h2 => ⟨h1, h2⟩) htabc
  have hrunX : (execOp a.eval o).run P w = .ok (.enter f (xs.toArray.map a.eval ++ vs')) w := by
    have := run_callFunc hisfn (xs.toArray.map a.eval ++ vs') w
    simp [execOp, hop, resolve, Deferred.ofValue, hXv, invoke]
    simpa using this
  unfold Oper.wp
  rw [hrunX]
  refine Calls.mono hcalls fun e w' hR => ?_
  obtain ⟨rv, G', rfl, hrv, hpG, hext, hβ', hown', -⟩ := hR
  -- the caller goes on
  let G2 : Gh := { im := G'.im, β := G.β, live := G.live, own := (fun g => match G'.own g with
      | some (.res, q) => o.dst.map fun d => (Loc.t d, q)
      | some (.b (.a k), q) => (nm[k]?).map fun b => (Loc.b b, q)
      | some _ => none
      | none => open Classical in if Wr g then none else G.own g), fz := G.fz }
  have hWrlt : ∀ g, Wr g → g < w.heap.size := by
    rintro g (⟨p, q, hp, _⟩ | ⟨k, b, hk, rfl⟩)
    · exact h.hp.ownlt g p hp
    · exact hβlt b (hnmlive k b hk).1
  have hsame : ∀ g, g < w.heap.size → ¬ Wr g → w'.heap[g]? = w.heap[g]? ∧ G2.own g = G.own g ∧ ∀ o, G'.im g o → G.im g o := by
    intro g hlt hnw
    refine ⟨hext.old g hlt hnw, ?_, fun o ho => ?_⟩
    · cases hg : G'.own g with
      | none => simp [G2, hg, hnw]
      | some p =>
        rcases hown' g p hg with h1 | h1
        · omega
        · exact absurd h1 hnw
    · rcases hext.new g o ho with h1 | h1 | h1
      · exact h1
      · omega
      · exact absurd h1 hnw
  have hg : GStep G w G2 w' (fun p q => p = q ∧ ¬ ∃ q', PM p q') := by
    refine ⟨hext.keep, fun b hl => ⟨hl, rfl⟩, rfl, fun g hg => hext.old g (hfz1 g hg).1 (hfz1 g hg).2, hext.size, fun g p q hgp hpq => ?_, fun o g ho hf => ?_⟩
    rotate_left
    · obtain ⟨h1, h2, h3⟩ := hsame g hf.lt (hfz3 o g ho hf)
      exact ⟨⟨by rw [h1]; exact hf.1, by rw [h2]; exact hf.2.1, hf.2.2.1, fun o ho => hf.2.2.2.1 o (h3 o ho), hf.2.2.2.2⟩, .heap h1⟩
    obtain ⟨rfl, hnp⟩ := hpq
    have hnw : ¬ Wr g := by
      rintro (⟨p', q', hp', hpq'⟩ | ⟨k, b, hk, rfl⟩)
      · rw [hgp] at hp'; cases hp'; exact hnp ⟨q', hpq'⟩
      · rw [h.hp.boxown b (hnmlive k b hk).1] at hgp; cases hgp
    obtain ⟨h1, h2, h3⟩ := hsame g (h.hp.ownlt g p hgp) hnw
    exact ⟨by rw [h2]; exact hgp, h1, h3⟩
  have hps2 : ∀ d, o.dst = some d → PStep G' w' G2 w' (fun p q => p.1 = .res ∧ q = (.t d, p.2)) := by
    intro d hdd
    refine ⟨Keep.refl _ _, fun g p q hgp hpq => ⟨?_, rfl, fun _ h => h⟩⟩
    obtain ⟨h1, rfl⟩ := hpq
    obtain ⟨pl, pr⟩ := p
    simp only at h1; subst h1
    simp [G2, hgp, hdd]
  have hps3 : PStep G' w' G2 w' (fun p q => ∃ (k : Nat) (b : BN), nm[k]? = some b ∧ p.1 = .b (.a k) ∧ q = (.b b, p.2)) := by
    refine ⟨Keep.refl _ _, fun g p q hgp hpq => ⟨?_, rfl, fun _ h => h⟩⟩
    obtain ⟨k, b, hk, h1, rfl⟩ := hpq
    obtain ⟨pl, pr⟩ := p
    simp only at h1; subst h1
    simp [G2, hgp, hk]
  have hβnot : ∀ b, G.live b → b ∉ nm → ¬ Wr (G.β b) := hfz2
  have hnewbx : ∀ b cells, (if fl.be = true then B' else st.bx) b = some cells → BoxAt P G2 w' b cells := by
    intro b cells hb
    have hb' : Bx.setAll st.bx nm bo b = some cells := by
      by_cases hbe' : fl.be = true
      · rw [if_pos hbe', hout, hBeq hbe'] at hb; exact hb
      · rw [if_neg hbe'] at hb
        have hnil : nm = [] := Classical.byContradiction fun hne => hbe' (hbe hne)
        rw [hnil]; exact hb
    by_cases hbn : b ∈ nm
    · obtain ⟨k, hk, hkb⟩ := List.mem_iff_getElem.1 hbn
      have hk? : nm[k]? = some b := by rw [List.getElem?_eq_getElem hk, hkb]
      rw [Bx.setAll_get hnames (by omega) hk?] at hb'
      obtain ⟨cs, e, h1, h2, h3, h4⟩ := hpG.bx (.a k) cells hb'
      refine ⟨cs, e, ?_, h2, h3, fun j x u hx hu => ?_⟩
      · rw [hβ' k, hβc k b hk?] at h1; exact h1
      · have hgv := List.all_eq_true.1 (hbop cells (List.mem_of_getElem? hb')) x (List.mem_of_getElem? hx)
        have g1 : x.pass1 = true ∧ ¬ ∃ K, x = .fn K ∨ x = .efn K := by
          cases x <;> simp [PV.gives1, PV.pass1] at hgv ⊢
        exact (h4 j x u hx hu).pstep hps3 ⟨k, b, hk?, rfl, rfl⟩ g1.1 (fun e => absurd e g1.2)
    · rw [Bx.setAll_not hbn] at hb'
      have hl := (h.hp.live b).2 (by simp [hb'])
      obtain ⟨h1, -, -⟩ := hsame (G.β b) (hβlt b hl) (hβnot b hl hbn)
      refine (h.hp.bx b cells hb').step hg hl (fun j => ⟨rfl, ?_⟩) h1
      rintro ⟨q', (⟨s, i, h2, _⟩ | ⟨b', k, h2, h3, _⟩)⟩
      · cases h2
      · cases h2; exact hbn (List.mem_of_getElem? h3)
  have hlive2 : ∀ b, G.live b ↔ ((if fl.be = true then B' else st.bx) b).isSome = true := by
    intro b
    have hb' : (if fl.be = true then B' else st.bx) b = Bx.setAll st.bx nm bo b := by
      by_cases hbe' : fl.be = true
      · rw [if_pos hbe', hout, hBeq hbe']
      · rw [if_neg hbe']
        have hnil : nm = [] := Classical.byContradiction fun hne => hbe' (hbe hne)
        rw [hnil]; rfl
    rw [hb']
    by_cases hbn : b ∈ nm
    · obtain ⟨k, hk, hkb⟩ := List.mem_iff_getElem.1 hbn
      have hk? : nm[k]? = some b := by rw [List.getElem?_eq_getElem hk, hkb]
      rw [Bx.setAll_get hnames (by omega) hk?, List.getElem?_eq_getElem (by omega)]
      simp [(hnmlive k b hk?).1]
    · rw [Bx.setAll_not hbn]; exact h.hp.live b
  refine hK _ _ ⟨G2, ?_⟩
  unfold St.after
  refine h.next hg (fun t ht htd i j => ⟨rfl, ?_⟩) (fun d' hdd => hrv.pstepG (hps2 d' hdd) (fun i j => ⟨rfl, rfl⟩) hgives) hd ?_ ?_
  · rintro ⟨q', (⟨s, i', h2, hmv, h3, _⟩ | ⟨b', k, h2, h3, _⟩)⟩
    · cases h2
      apply ht
      simp only [stripsOf, hmv, if_true, hops]
      exact mem_tmpsOf.2 (List.mem_cons_of_mem _ (List.mem_of_getElem? h3))
    · cases h2
  · refine ⟨hnewbx, hlive2, h.hp.inj, hpG.imlt, fun g p hgp => ?_, fun b hl k => ?_, fun b hl => ?_⟩
    · cases hgo : G'.own g with
      | some q => exact hpG.ownlt g q hgo
      | none =>
        simp only [G2, hgo] at hgp
        split at hgp
        · cases hgp
        · exact Nat.lt_of_lt_of_le (h.hp.ownlt g p hgp) hext.size
    · by_cases hbn : b ∈ nm
      · obtain ⟨q, hq, hqb⟩ := List.mem_iff_getElem.1 hbn
        have hk? : nm[q]? = some b := by rw [List.getElem?_eq_getElem hq, hqb]
        have hlq : G'.live (.a q) := (hpG.live _).2 (by simp [bxOf]; omega)
        have := hpG.boxim (.a q) hlq k
        rw [hβ' q, hβc q b hk?] at this
        exact this
      · intro him
        obtain ⟨-, -, h3⟩ := hsame (G.β b) (hβlt b hl) (hβnot b hl hbn)
        exact h.hp.boxim b hl k (h3 k him)
    · by_cases hbn : b ∈ nm
      · obtain ⟨q, hq, hqb⟩ := List.mem_iff_getElem.1 hbn
        have hk? : nm[q]? = some b := by rw [List.getElem?_eq_getElem hq, hqb]
        have hlq : G'.live (.a q) := (hpG.live _).2 (by simp [bxOf]; omega)
        have hno := hpG.boxown (.a q) hlq
        rw [hβ' q, hβc q b hk?] at hno
        have hw : Wr (G.β b) := .inr ⟨q, b, hk?, rfl⟩
        simp [G2, hno, hw]
      · obtain ⟨-, h2, -⟩ := hsame (G.β b) (hβlt b hl) (hβnot b hl hbn)
        rw [h2]; exact h.hp.boxown b hl
  · have hwWr : ∀ b, Wr b → F.w0.heap.size ≤ b ∨ F.Wr b := by
      rintro g (⟨p, q, hp, _⟩ | ⟨k, b, hk, rfl⟩)
      · exact h.sn.own g p hp
      · exact h.sn.box b (hnmlive k b hk).1
    refine ⟨h.sn.ext.trans hext hwWr, fun g p hgp => ?_, h.sn.box, h.sn.βa, h.sn.fz, h.sn.fzm⟩
    have hs := h.sn.ext.size
    cases hgo : G'.own g with
    | some q =>
      rcases hown' g q hgo with h1 | h1
      · left; omega
      · exact hwWr g h1
    | none =>
      simp only [G2, hgo] at hgp
      split at hgp
      · cases hgp
      · exact h.sn.own g p hgp

end Go.Bee

