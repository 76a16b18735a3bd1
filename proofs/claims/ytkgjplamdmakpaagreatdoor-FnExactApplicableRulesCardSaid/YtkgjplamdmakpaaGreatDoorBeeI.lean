/-
The logic's operations: a struct that is put together; what an operation comes to. No condition.
-/
import Derived.Test.YtkgjplamdmakpaaGreatDoorBeeH
namespace Go.Bee
set_option linter.unusedVariables false

def bfill (fl : List (Option (Nat × Nat × Bool))) : List PV → List (Nat × PV) → Option (List PV)
  | cells, [] => some cells
  | cells, (i, x) :: rest => (fl[i]?.getD none).bind fun q => (pvCells x.bT).bind fun new =>
      if new.length = q.2.1 ∧ q.1 + q.2.1 ≤ cells.length then bfill fl (cells.take q.1 ++ new ++ cells.drop (q.1 + q.2.1)) rest else none
def evBuild (P : Program) (t : TypeId) (parts : List (Nat × PV)) : Option PV :=
  (tyi P t).bind fun i => if i.fl.all (·.isSome) = true ∧ i.fl ≠ [] ∧ i.zero ≠ [] ∧ i.zero.all (fun x => !x.isJunk) = true then (bfill i.fl i.zero parts).map .agg else none

theorem bfill_ok {P : Program} {G : Gh} {w : World} {fl : List (Option (Nat × Nat × Bool))} {place : Nat → Option (Nat × Nat)} (hpl : ∀ i q, fl[i]?.getD none = some q → place i = some (q.1, q.2.1)) {f : Operand → PV} {g : Operand → Value}
    (hfg : ∀ x, ∃ loc, RepT P G w loc (f x) (g x)) : ∀ (parts : List (Nat × Operand)) (cells : List PV) (cs : List Value) (r : List PV), cs.length = cells.length → (∀ u ∈ cs, u.oneCell' = true) →
    (∀ (j : Nat) x u, cells[j]? = some x → cs[j]? = some u → ∀ p, RepC P G w p x u) → bfill fl cells (parts.map fun p => (p.1, f p.2)) = some r →
    ∃ rs : List Value, Instr.fill place cs.toArray (parts.map fun p => (p.1, g p.2)) = some rs.toArray ∧ rs.length = r.length ∧ (∀ u ∈ rs, u.oneCell' = true) ∧ ∀ (j : Nat) x u, r[j]? = some x → rs[j]? = some u → ∀ p, RepC P G w p x u
  | [], cells, cs, r, hl, h1, hr, he => by
    simp [bfill] at he
    subst he
    exact ⟨cs, by simp [Instr.fill], hl, h1, hr⟩
  | (i, x) :: ps, cells, cs, r, hl, h1, hr, he => by
    simp only [List.map_cons, bfill, Option.bind_eq_some_iff] at he
    obtain ⟨⟨off, sz, ag⟩, hq, new, hnew, he⟩ := he
    split at he
    · rename_i hc
      obtain ⟨hn, hf⟩ := hc
      simp only at hn hf he
      obtain ⟨loc, hx⟩ := hfg x
      have hb := hx.bT loc
      obtain ⟨k1, k2, k3⟩ := pvCells_rep hb hnew
      have hany : ∀ (j : Nat) y u, new[j]? = some y → (g x).cells[j]? = some u → ∀ p, RepC P G w p y u := by
        intro j y u hy hu p
        have h2 := (k3 j y u hy hu).bC p
        have h3 : y.bC = y := by
          have : ∀ z, pvCells (PV.bT z) = some new → ∀ y ∈ new, y.bC = y := by
            intro z hz y hy
            have hCC : ∀ q : PV, q.bC.bC = q.bC := by intro q; cases q <;> rfl
            cases z <;> simp only [PV.bT, PV.bV, pvCells, PV.bC, Option.some.injEq, reduceCtorEq] at hz <;> subst hz <;> first
              | (simp only [List.mem_singleton] at hy; subst hy; rfl)
              | (simp only [List.mem_map] at hy; obtain ⟨q, _, rfl⟩ := hy; exact hCC q)
          exact this _ hnew y (List.mem_of_getElem? hy)
        rwa [h3] at h2
      have hvl : (g x).cells.toList.length = new.length := by simpa using k1
      have := bfill_ok hpl hfg ps (cells.take off ++ new ++ cells.drop (off + sz)) (cs.take off ++ (g x).cells.toList ++ cs.drop (off + sz)) r (by simp only [List.length_append, List.length_take, List.length_drop, hl, hvl])
        (fun u hu => by
          simp only [List.mem_append] at hu
          rcases hu with (hu | hu) | hu
          · exact h1 u (List.mem_of_mem_take hu)
          · exact k2 u (by simpa using hu)
          · exact h1 u (List.mem_of_mem_drop hu))
        (fun j y u hy hu => by
          by_cases hj1 : j < off
          · rw [List.append_assoc, List.getElem?_append_left (by simp; omega), List.getElem?_take_of_lt hj1] at hy
            rw [List.append_assoc, List.getElem?_append_left (by simp; omega), List.getElem?_take_of_lt hj1] at hu
            exact hr j y u hy hu
          · by_cases hj2 : j < off + sz
            · rw [List.append_assoc, List.getElem?_append_right (by simp; omega), List.getElem?_append_left (by simp; omega)] at hy
              rw [List.append_assoc, List.getElem?_append_right (by simp; omega), List.getElem?_append_left (by simp; omega)] at hu
              have e1 : (cells.take off).length = off := by simp; omega
              have e2 : (cs.take off).length = off := by simp; omega
              rw [e1] at hy; rw [e2] at hu
              exact hany (j - off) y u hy (by simpa using hu)
            · rw [List.getElem?_append_right (by simp; omega), List.getElem?_drop] at hy
              rw [List.getElem?_append_right (by simp; omega), List.getElem?_drop] at hu
              have e1 : off + sz + (j - (cells.take off ++ new).length) = j := by simp; omega
              have e2 : off + sz + (j - (cs.take off ++ (g x).cells.toList).length) = j := by simp; omega
              rw [e1] at hy; rw [e2] at hu
              exact hr j y u hy hu) he
      obtain ⟨rs, q1, q2⟩ := this
      refine ⟨rs, ?_, q2⟩
      rw [List.map_cons, fill_one place cs.toArray i off sz (g x) _ (hpl i _ hq) (by rw [k1, hn]) (by simp; omega)]
      simpa using q1
    · cases he

theorem evBuild_ok {P : Program} {F : Fr} {G : Gh} {st : St} {a : Act} {w : World} (h : Rel P F G st a w) {t : TypeId} {parts : Array (Nat × Operand)} {r : PV} (loc : Loc)
    (he : evBuild P t (parts.toList.map fun p => (p.1, st.ev p.2)) = some r) : ∃ rv, (Instr.build t (parts.map fun (i, x) => (i, a.eval x))).run P w = .ok rv w ∧ RepT P G w loc r rv := by
  unfold evBuild at he
  simp only [Option.bind_eq_some_iff] at he
  obtain ⟨i, hi, he⟩ := he
  split at he
  · rename_i hc
    obtain ⟨hall, hne, hz0, hj⟩ := hc
    simp only [Option.map_eq_some_iff] at he
    obtain ⟨cells, hb, rfl⟩ := he
    obtain ⟨i', d, k1, k2, k3, k4, k5, k6, k7, k8, k9, k10⟩ := tyi_spec hi
    cases hzz : i'.zero with
    | none => rw [k9, hzz] at hz0; exact absurd rfl hz0
    | some z =>
      have hzero : i.zero = z.cells.toList.map cpc := by rw [k9, hzz]; rfl
      cases d <;> simp only at k10 <;> first | exact absurd k10 hne | skip
      rename_i fs
      -- the places
      have hplaces : ∀ (l : List Field), (l.map (fun f => match P.info? f.type, P.underlying f.type with
          | some i, some d => some (f.offset, i.size, match d with | .struct _ => true | .array _ _ => true | _ => false)
          | _, _ => none)).all (·.isSome) = true → ∃ places : List (Nat × Nat), l.mapM (fun f => (P.info? f.type).map fun i => (f.offset, i.size)) = some places ∧
          ∀ (j : Nat) q, ((l.map (fun f => match P.info? f.type, P.underlying f.type with
          | some i, some d => some (f.offset, i.size, match d with | .struct _ => true | .array _ _ => true | _ => false)
          | _, _ => none))[j]?).getD none = some q → places[j]? = some (q.1, q.2.1) := by
        intro l
        induction l with
        | nil => intro _; exact ⟨[], by simp, by simp⟩
        | cons f l ih =>
          intro hl
          simp only [List.map_cons, List.all_cons, Bool.and_eq_true] at hl
          obtain ⟨places, h1, h2⟩ := ih hl.2
          have hf := hl.1
          split at hf
          · rename_i i0 d0 e1 e2
            refine ⟨(f.offset, i0.size) :: places, by simp [List.mapM_cons, e1, h1], fun j q hq => ?_⟩
            cases j with
            | zero => simp [e1, e2] at hq; subst hq; simp
            | succ j => simp only [List.map_cons, List.getElem?_cons_succ] at hq ⊢; exact h2 j q hq
          · cases hf
      rw [k10] at hall hb
      obtain ⟨places, hp1, hp2⟩ := hplaces fs.toList hall
      rw [hzero] at hb hj
      have hone : ∀ u ∈ z.cells.toList, u.oneCell' = true := by
        intro u hu
        have := List.all_eq_true.1 hj (cpc u) (List.mem_map.2 ⟨u, hu, rfl⟩)
        exact cpc_cell (by simpa using this)
      obtain ⟨rs, q1, q2, q3, q4⟩ := bfill_ok (P := P) (G := G) (w := w) (place := fun x => places.toArray[x]?) (fun j q hq => by simpa using hp2 j q hq) (fun x => ⟨_, h.ev x⟩) parts.toList (z.cells.toList.map cpc) z.cells.toList cells (by simp) hone
        (fun j x u hx hu p => by
          rw [List.getElem?_map] at hx
          rw [hu] at hx
          simp at hx; subst hx
          exact cpc_rep p u) hb
      refine ⟨.agg rs.toArray, run_build w t _ _ ?_, ⟨rs.toArray, rfl, by simpa using q2, by simpa using q3, fun j x u hx hu => q4 j x u hx (by simpa using hu) _⟩⟩
      unfold Program.built
      simp only [k1, k2, hzz, hp1]
      rw [Array.toList_map]
      simpa using q1
  · cases he

end Go.Bee
