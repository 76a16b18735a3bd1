/- Chapter 23: the weight that a thesis lacks: the code, the model and their law. -/
import Derived.Test.YtkgjplamdmakpaaGreatDoorBeeSo
namespace Go.Bee
open Go
/-! What an argument may be read as. -/
theorem repSl {S : Nat → Nat → Prop} {w : World} {sz : Nat} {l l' : List PD} {v : Value} (hl : l'.length = l.length) (hu : ∀ e ∈ l', e.cells.length = sz) (hn : (flat l').length = (flat l).length)
    (hf : ∀ (i : Nat) x y, (flat l)[i]? = some x → (flat l')[i]? = some y → y.scalar = true ∧ ∀ u, RepD S w x u → RepD S w y u) (h : RepD S w (.sl sz l) v) : RepD S w (.sl sz l') v := by
  cases h with
  | nil => obtain rfl : l' = [] := List.length_eq_zero_iff.1 hl; exact .nil sz
  | emp _ a c => obtain rfl : l' = [] := List.length_eq_zero_iff.1 hl; exact .emp sz a c
  | sl _ _ g o c vs hb hc hu0 hs hvl hv hr =>
    rw [← hl]
    have hget : ∀ (i : Nat) y, (flat l')[i]? = some y → ∃ x, (flat l)[i]? = some x := fun i y hy => by
      have := (List.getElem?_eq_some_iff.1 hy).1
      exact ⟨_, List.getElem?_eq_getElem (by omega)⟩
    refine .sl sz l' g o c vs (by omega) (by omega) hu (fun y hy => ?_) (by omega) hv fun i y u hy hvu => ?_
    · obtain ⟨i, hi⟩ := List.mem_iff_getElem?.1 hy
      obtain ⟨x, hx⟩ := hget i y hi
      exact (hf i x y hx hi).1
    · obtain ⟨x, hx⟩ := hget i y hy
      exact (hf i x y hx hy).2 u (hr i x u hx hvu)
theorem CLe.d {x y : PD} (h : ∀ (S : Nat → Nat → Prop) (w : World) (v : Value), RepD S w x v → RepD S w y v ∧ (x.scalar = true → y.scalar = true)) : CLe (.d x) (.d y) := ⟨fun P G w p v hv => by
  obtain ⟨h1, h2⟩ := h _ _ _ hv.1
  exact ⟨h1, h2 hv.2⟩⟩
theorem PLe.agg3 {a a' b c : PV} (h : CLe a a') : PLe (.agg [b, a, c]) (.agg [b, a', c]) := ⟨fun P G w loc v hv => by
  obtain ⟨cs, e, hl, h1, hr⟩ := hv
  refine ⟨cs, e, hl, h1, fun j x u hx hu => ?_⟩
  match j, hx with
  | 0, hx => exact hr 0 x u hx hu
  | 1, hx => simp at hx; subst hx; exact h.c _ _ _ _ _ (hr 1 a u (by simp) hu)
  | 2, hx => exact hr 2 x u hx hu
  | n + 3, hx => simp at hx⟩
theorem BRet.arg1 {P : Program} {f : Nat} {bi bo : List (List PV)} {x y r : PV} (h : BRet P f bi [y] r bo) (hxy : PLe x y) : BRet P f bi [x] r bo :=
  ⟨h.1, h.2.1, fun G w vs Wr hs ha => h.2.2 G w vs Wr hs fun i z u hz hu => by
    match i, hz with
    | 0, hz => simp at hz; subst hz; exact hxy.t _ _ _ _ _ (ha 0 x u rfl hu)
    | n + 1, hz => simp at hz⟩
end Go.Bee
namespace Go.Bee.C23n
open Go Go.Bee Go.Proofs Go.Bee.Ty Go.Bee.C23
theorem bRu : ∀ (a : List UInt8) (b : Bool) (w : Int), evBuild Tryz.prog 36 [(2, .agg [.d (.str a), .d (.bool b)]), (3, .d (.int .i64 w))] = some (.agg [.nilS, .nilS, .d (.str a), .d (.bool b), .d (.int .i64 w)]) := fun a b w => by kernel_rfl
theorem sRu : ∀ (a : List UInt8) (b : Bool) (w : Int), evBuildSlice Tryz.prog 25 1 [(0, .agg [.nilS, .nilS, .d (.str a), .d (.bool b), .d (.int .i64 w)])] = some (.own 36 5 [.agg [.sl 0 [], .sl 0 [], .str a, .bool b, .int .i64 w]]) := fun a b w => by kernel_rfl
theorem tys : type_of% (And.intro Go.Bee.C23a.tys (And.intro bRu sRu)) := And.intro Go.Bee.C23a.tys (And.intro bRu sRu)
end Go.Bee.C23n
namespace Go.Bee.C23n
open Go Go.Bee Go.Proofs Go.Bee.Ty Go.Bee.C23 Go.Bee.C23s Go.Bee.C23a
set_option linter.unusedVariables false
set_option maxRecDepth 20000
attribute [local irreducible] Go.Bee.bwp vName
theorem allN_few (c : Cs) (h : head c = true) : (allN c).length ≤ 1000 := by
  simp only [head, Bool.and_eq_true, decide_eq_true_eq, List.all_eq_true] at h
  obtain ⟨⟨⟨⟨⟨h1, h2⟩, h3⟩, h4⟩, h5⟩, h6⟩ := h
  have hr : ∀ r ∈ c.rs, r.ps.length ≤ 4 ∧ r.es.length ≤ 4 := fun r hr => by
    have := h5 r hr
    simp only [ruOk, Bool.and_eq_true] at this
    have a := (thOk_all this.1.1.1).1
    have b := (thOk_all this.1.1.2).1
    omega
  have hf := (thOk_all h1).1
  have key : ∀ l : List Ru, (∀ r ∈ l, r.ps.length ≤ 4 ∧ r.es.length ≤ 4) → (l.flatMap ruN).length ≤ 9 * l.length := by
    intro l
    induction l with
    | nil => simp
    | cons r l ih =>
      intro h
      have a := h r (List.mem_cons_self ..)
      have b := ih fun x hx => h x (List.mem_cons_of_mem _ hx)
      rw [List.flatMap_cons, List.length_append, List.length_cons]
      simp only [ruN, nb, List.length_append, List.length_map, List.length_cons, List.length_nil]
      omega
  have := key c.rs hr
  rw [allN_eq, List.length_append, List.length_map]
  omega
def mr (t : Th) (w : Int) : Ru := ⟨[], [], t, w⟩
theorem more_mr (c : Cs) (t : Th) (w : Int) : more c t w = ⟨c.fs, c.rs ++ [mr t w], c.ss⟩ := rfl
theorem ru_scalar {rs : List Ru} : ∀ x ∈ flat (rs.map Ru.e), x.scalar = true := by
  intro x hx
  obtain ⟨y, hy, hxy⟩ := List.mem_flatMap.1 hx
  obtain ⟨r, _, rfl⟩ := List.mem_map.1 hy
  simp only [Ru.e, PD.cells, List.mem_cons, List.not_mem_nil, or_false] at hxy
  rcases hxy with rfl | rfl | rfl | rfl | rfl <;> rfl
theorem emp_any {S : Nat → Nat → Prop} {w : World} {a b : Nat} {v : Value} (h : RepD S w (.sl a []) v) : RepD S w (.sl b []) v := by
  generalize e : PD.sl a [] = x at h
  cases h <;> cases e
  · exact .nil b
  · rename_i g o c vs _ _ _ _ _ _ _
    exact .emp b ⟨g, o, none⟩ c
  · rename_i ad c; exact .emp b ad c
theorem mrLe (c : Cs) (t : Th) (w : Int) : PLe (.agg [.d (.sl 2 (c.fs.map Th.e)), .d (.sl 5 (c.rs.map Ru.e ++ [.agg [.sl 0 [], .sl 0 [], .str t.n, .bool t.g, .int .i64 w]])), .d (.sl 2 (c.ss.map Sd.e))])
    (.agg [.d (.sl 2 (c.fs.map Th.e)), .d (.sl 5 ((c.rs ++ [mr t w]).map Ru.e)), .d (.sl 2 (c.ss.map Sd.e))]) := by
  refine PLe.agg3 (CLe.d fun S w0 v h => ⟨?_, fun _ => rfl⟩)
  have hfl : ∀ (z : PD), z.cells.length = 5 → flat (c.rs.map Ru.e ++ [z]) = flat (c.rs.map Ru.e) ++ z.cells := fun z _ => by simp [flat]
  refine repSl (by simp) (fun e he => ?_) ?_ (fun i x y hx hy => ?_) h
  · obtain ⟨r, _, rfl⟩ := List.mem_map.1 he; rfl
  · rw [List.map_append, hfl _ rfl]
    show (flat (c.rs.map Ru.e ++ [(mr t w).e])).length = _
    rw [hfl _ rfl]; simp [mr, Ru.e, PD.cells]
  · rw [hfl _ rfl] at hx
    rw [List.map_append] at hy
    replace hy : (flat (c.rs.map Ru.e ++ [(mr t w).e]))[i]? = some y := hy
    rw [hfl _ rfl] at hy
    by_cases hi : i < (flat (c.rs.map Ru.e)).length
    · rw [List.getElem?_append_left hi] at hx hy
      rw [hx] at hy; cases hy
      exact ⟨ru_scalar x (List.mem_of_getElem? hx), fun _ h => h⟩
    · rw [List.getElem?_append_right (by omega)] at hx hy
      generalize i - (flat (c.rs.map Ru.e)).length = j at hx hy
      match j, hx, hy with
      | 0, hx, hy => simp [PD.cells, mr, Ru.e] at hx hy; subst hx; subst hy; exact ⟨rfl, fun _ h => emp_any h⟩
      | 1, hx, hy => simp [PD.cells, mr, Ru.e] at hx hy; subst hx; subst hy; exact ⟨rfl, fun _ h => emp_any h⟩
      | 2, hx, hy => simp [PD.cells, mr, Ru.e] at hx hy; subst hx; subst hy; exact ⟨rfl, fun _ h => h⟩
      | 3, hx, hy => simp [PD.cells, mr, Ru.e] at hx hy; subst hx; subst hy; exact ⟨rfl, fun _ h => h⟩
      | 4, hx, hy => simp [PD.cells, mr, Ru.e] at hx hy; subst hx; subst hy; exact ⟨rfl, fun _ h => h⟩
      | n + 5, hx, hy => simp [PD.cells] at hx
/-- The first weight from w on, of n, that serves. -/
def needF (p : Int → Bool) : Nat → Int → Int × Bool
  | 0, _ => (0, false)
  | n + 1, w => if p w = true then (w, true) else needF p n (w + 1)
def need (c : Cs) (t : Th) : Int × Bool :=
  if (head c && okI c && vName t.n) = true ∧ ¬ c.rs.length = 10 then (if (accI c).contains t = true then (0, true) else needF (fun w => (accI (more c t w)).contains t) 1000 1) else (0, false)
theorem cloneRule_b (l : List Ru) (hl : l.length ≤ 1048576) : BRet Tryz.prog 61 [] [.d (.sl 5 (l.map Ru.e))] (.own 36 5 (l.map Ru.e)) [] := by
  refine BRet.nil0 (by kernel_rfl) (fun h => ?_) ?_
  · rw [h]
    refine bofW Tryz.func61 ?_
    refine bgo ?_
    refine wk_of (Weak.nil_own 36 5 (t := 2) rfl) ?_
    refine bgo ?_
    trivial
  · refine bof Tryz.func61 ?_
    refine bgo ?_
    trivial
theorem NeededWeight_b (c : Cs) (t : Th) : BRet Tryz.prog 16 [] [.agg [.d (.sl 2 (c.fs.map Th.e)), .d (.sl 5 (c.rs.map Ru.e)), .d (.sl 2 (c.ss.map Sd.e))], .agg [.str t.n, .bool t.g]]
    (.tup [.int (need c t).1, .bool (need c t).2]) [] := by
  refine bof Tryz.func16 ?_
  have hno : ¬ ((head c && okI c && vName t.n) = true ∧ ¬ c.rs.length = 10) → need c t = (0, false) := fun h => if_neg h
  have hyes : ((head c && okI c && vName t.n) = true ∧ ¬ c.rs.length = 10) → need c t = (if (accI c).contains t = true then (0, true) else needF (fun w => (accI (more c t w)).contains t) 1000 1) := fun h => if_pos h
  generalize need c t = res at *
  refine bgo ?_
  refine b_call (IsValidCase_b c) rfl rfl rfl rfl ?_
  cases hv : head c && okI c
  · have := hno (by rw [hv]; simp)
    subst this
    refine bgo ?_
    trivial
  · have hf := head_fine hv
    have hh : head c = true := by simp only [Bool.and_eq_true] at hv; exact hv.1
    have hfew := allN_few c hh
    have hrl : c.rs.length ≤ 10 := by simp only [head, Bool.and_eq_true, decide_eq_true_eq] at hh; omega
    refine bgo ?_
    refine b_call (IsValidName_b t.n) rfl rfl rfl rfl ?_
    cases hn : vName t.n
    · have := hno (by rw [hv, hn]; simp)
      subst this
      refine bgo ?_
      trivial
    · have hne := vName_ne hn
      by_cases h10 : (c.rs.length : Int) = 10
      · have := hno (by simp; omega)
        subst this
        refine bgo ?_
        trivial
      · have hr := hyes ⟨by rw [hv, hn]; rfl, by omega⟩
        clear hno hyes
        refine bgo ?_
        refine b_call (acceptedTheses_b c hf) rfl rfl rfl rfl ?_
        refine bgo ?_
        refine b_call (containsTh_b (accI c) t) rfl rfl rfl rfl ?_
        cases ha : (accI c).contains t
        · rw [ha] at hr
          replace hr : needF (fun w => (accI (more c t w)).contains t) 1000 1 = res := hr.symm
          refine bgo ?_
          refine b_lp (ι := Nat × List PD) (fun i => [(2, .ptr (.t 2) 0), (3, .ptr (.t 3) 0), (6, .ptr (.t 6) 0), (7, .int (i.1 + 1))])
            (fun i => [(.t 2, [.d (.sl 2 (c.fs.map Th.e)), .d (.sl 5 (c.rs.map Ru.e)), .d (.sl 2 (c.ss.map Sd.e))]), (.t 3, [.str t.n, .bool t.g]), (.t 6, [.d (.sl 2 (c.fs.map Th.e)), .d (.sl 5 i.2), .d (.sl 2 (c.ss.map Sd.e))])])
            (fun i => i.1 ≤ 1000 ∧ needF (fun w => (accI (more c t w)).contains t) (1000 - i.1) (i.1 + 1) = res) (fun i => 1000 - i.1) (0, c.rs.map Ru.e) hs ⟨Nat.zero_le _, hr⟩ ?_
          clear hr
          rintro ⟨k, rs⟩ ⟨hk, hr⟩ I nx
          dsimp only at hk hr ⊢
          by_cases hlt : k < 1000
          · have hmf := more_fine hf t (k + 1) hne (by omega) (by omega) (by omega)
            have hacc := acceptedTheses_b (more c t (k + 1)) hmf
            rw [show 1000 - k = (1000 - (k + 1)) + 1 by omega] at hr
            unfold needF at hr
            rw [more_mr] at hacc hr
            generalize accI ⟨c.fs, c.rs ++ [mr t (k + 1)], c.ss⟩ = acc at *
            have hlt2 : (k : Int) + 1 ≤ 1000 := by omega
            refine bgo ?_
            refine b_call (cloneRule_b c.rs (by omega)) rfl rfl rfl rfl ?_
            refine bgo ?_
            refine ⟨rfl, ?_⟩
            refine b_call (hacc.arg1 (mrLe c t (k + 1))) rfl rfl rfl rfl ?_
            refine bgo ?_
            refine b_call (containsTh_b acc t) rfl rfl rfl rfl ?_
            cases hc : acc.contains t
            · rw [hc] at hr
              refine bgo ?_
              exact nx.go (k + 1, c.rs.map Ru.e ++ [.agg [.sl 0 [], .sl 0 [], .str t.n, .bool t.g, .int .i64 (k + 1)]]) ⟨hlt, by rw [if_neg (by decide)] at hr; exact hr⟩ (by dsimp only; omega) hs
            · rw [hc] at hr
              replace hr : ((k : Int) + 1, true) = res := hr
              subst hr
              refine bgo ?_
              trivial
          · have hk' : k = 1000 := by omega
            subst hk'
            replace hr : (0, false) = res := hr
            subst hr
            refine bgo ?_
            refine wk_rfl ?_
            refine bgo ?_
            trivial
        · rw [ha] at hr
          replace hr : res = (0, true) := hr
          subst hr
          refine bgo ?_
          trivial
theorem specNeededWeight_b (c : Cs) (t : Th) : BRet Tryz.prog 17 [] [.agg [.d (.sl 2 (c.fs.map Th.e)), .d (.sl 5 (c.rs.map Ru.e)), .d (.sl 2 (c.ss.map Sd.e))], .agg [.str t.n, .bool t.g]]
    (.tup [.int (need c t).1, .bool (need c t).2]) [] := by
  refine bof Tryz.func17 ?_
  have hno : ¬ ((head c && okI c && vName t.n) = true ∧ ¬ c.rs.length = 10) → need c t = (0, false) := fun h => if_neg h
  have hyes : ((head c && okI c && vName t.n) = true ∧ ¬ c.rs.length = 10) → need c t = (if (accI c).contains t = true then (0, true) else needF (fun w => (accI (more c t w)).contains t) 1000 1) := fun h => if_pos h
  generalize need c t = res at *
  refine bgo ?_
  refine b_call (good_b c) rfl rfl rfl rfl ?_
  cases hv : head c && okI c
  · have := hno (by rw [hv]; simp)
    subst this
    refine bgo ?_
    trivial
  · have hf := head_fine hv
    have hh : head c = true := by simp only [Bool.and_eq_true] at hv; exact hv.1
    have hfew := allN_few c hh
    have hrl : c.rs.length ≤ 10 := by simp only [head, Bool.and_eq_true, decide_eq_true_eq] at hh; omega
    refine bgo ?_
    refine b_call (l5Name_b t.n) rfl rfl rfl rfl ?_
    cases hn : vName t.n
    · have := hno (by rw [hv, hn]; simp)
      subst this
      refine bgo ?_
      trivial
    · have hne := vName_ne hn
      by_cases h10 : (c.rs.length : Int) = 10
      · have := hno (by simp; omega)
        subst this
        refine bgo ?_
        trivial
      · have hr := hyes ⟨by rw [hv, hn]; rfl, by omega⟩
        clear hno hyes
        refine bgo ?_
        refine b_call (accepted_b c hf) rfl rfl rfl rfl ?_
        refine bgo ?_
        refine b_call (l23Has_b (accI c) t) rfl rfl rfl rfl ?_
        cases ha : (accI c).contains t
        · rw [ha] at hr
          replace hr : needF (fun w => (accI (more c t w)).contains t) 1000 1 = res := hr.symm
          refine bgo ?_
          refine b_lp (ι := Nat × Unit) (fun i => [(2, .ptr (.t 2) 0), (3, .ptr (.t 3) 0), (6, .int (i.1 + 1))])
            (fun i => [(.t 2, [.d (.sl 2 (c.fs.map Th.e)), .d (.sl 5 (c.rs.map Ru.e)), .d (.sl 2 (c.ss.map Sd.e))]), (.t 3, [.str t.n, .bool t.g])])
            (fun i => i.1 ≤ 1000 ∧ needF (fun w => (accI (more c t w)).contains t) (1000 - i.1) (i.1 + 1) = res) (fun i => 1000 - i.1) (0, ()) hs ⟨Nat.zero_le _, hr⟩ ?_
          clear hr
          rintro ⟨k, rs⟩ ⟨hk, hr⟩ I nx
          dsimp only at hk hr ⊢
          by_cases hlt : k < 1000
          · have hmf := more_fine hf t (k + 1) hne (by omega) (by omega) (by omega)
            have hacc := accepted_b (more c t (k + 1)) hmf
            rw [show 1000 - k = (1000 - (k + 1)) + 1 by omega] at hr
            unfold needF at hr
            rw [more_mr] at hacc hr
            generalize accI ⟨c.fs, c.rs ++ [mr t (k + 1)], c.ss⟩ = acc at *
            have hlt2 : (k : Int) + 1 ≤ 1000 := by omega
            refine bgo ?_
            refine ⟨rfl, ?_⟩
            refine b_call (hacc.arg1 (mrLe c t (k + 1))) rfl rfl rfl rfl ?_
            refine bgo ?_
            refine b_call (l23Has_b acc t) rfl rfl rfl rfl ?_
            cases hc : acc.contains t
            · rw [hc] at hr
              refine bgo ?_
              exact nx.go (k + 1, ()) ⟨hlt, by rw [if_neg (by decide)] at hr; exact hr⟩ (by dsimp only; omega) hs
            · rw [hc] at hr
              replace hr : ((k : Int) + 1, true) = res := hr
              subst hr
              refine bgo ?_
              trivial
          · have hk' : k = 1000 := by omega
            subst hk'
            replace hr : (0, false) = res := hr
            subst hr
            refine bgo ?_
            refine wk_rfl ?_
            refine bgo ?_
            trivial
        · rw [ha] at hr
          replace hr : res = (0, true) := hr
          subst hr
          refine bgo ?_
          trivial
theorem lawNeeded_b (c : Cs) (t : Th) : BRet Tryz.prog 10 [] [.agg [.d (.sl 2 (c.fs.map Th.e)), .d (.sl 5 (c.rs.map Ru.e)), .d (.sl 2 (c.ss.map Sd.e))], .agg [.str t.n, .bool t.g]] (.bool true) [] := by
  refine bof Tryz.func10 ?_
  have hn := szCs_nice c 1048576 (by decide)
  refine bgo ?_
  refine b_call (szCase_b c 1048576 (by decide) (by decide)) rfl rfl rfl rfl ?_
  by_cases h : szCs c 1048576 < 0
  · refine bgo ?_
    trivial
  have ho := szCs_ok c (by omega)
  generalize szCs c 1048576 = x at *
  refine bgo ?_
  refine b_call (szThesis_b t x (by omega) (by omega)) rfl rfl rfl rfl ?_
  by_cases h2 : szTh t x < 0
  · refine bgo ?_
    trivial
  generalize szTh t x = y at *
  refine bgo ?_
  refine b_call (toCase_b c ho) rfl rfl rfl rfl ?_
  refine bgo ?_
  refine b_call (toThesis_b t) rfl rfl rfl rfl ?_
  refine bgo ?_
  refine b_call (specNeededWeight_b c t) rfl rfl rfl rfl ?_
  refine bgo ?_
  refine b_call (toCase_b c ho) rfl rfl rfl rfl ?_
  refine bgo ?_
  refine b_call (toThesis_b t) rfl rfl rfl rfl ?_
  refine bgo ?_
  refine b_call (NeededWeight_b c t) rfl rfl rfl rfl ?_
  generalize (need c t).1 = q
  cases (need c t).2
  all_goals
    refine bgo ?_
    refine b_call (toCase_b c ho) rfl rfl rfl rfl ?_
    refine bgo ?_
    refine b_call (eqCase_b c c) rfl rfl rfl rfl ?_
    rw [decide_eq_true rfl]
    refine bgo ?_
    trivial
end Go.Bee.C23n
