/-
A function's entry and its end; what may be forgotten. No condition.
-/
import Derived.Test.YtkgjplamdmakpaaGreatDoorBeeP
namespace Go.Bee
set_option linter.unusedVariables false

/-- Where a result stands, and what it is. -/
def resOf (st : St) : ResultVar → Option (Loc × PV)
  | .tmp t => some (.t t, st.tm t)
  | .cell a _ => match st.tm a with
    | .ptr (.t n) 0 => (st.bx (.t n)).map fun cells => (.b (.t n), .agg cells)
    | _ => none
def resAll (st : St) : List ResultVar → Option (List (Loc × PV))
  | [] => some []
  | r :: rs => (resOf st r).bind fun x => (resAll st rs).map fun xs => x :: xs
def resPV : List PV → PV
  | [x] => x
  | xs => .tup xs
def cellsFit (P : Program) (st : St) : List ResultVar → Bool
  | [] => true
  | .tmp _ :: rs => cellsFit P st rs
  | .cell a t :: rs => (match st.tm a with
    | .ptr (.t n) 0 => (match st.bx (.t n), tyi P t with | some cells, some i => i.agg && cells.length == i.sz | _, _ => false)
    | _ => false) && cellsFit P st rs
/-- The end of a function: r is given back, and bo is in the variables that were handed in. -/
def retK (P : Program) (rs : List ResultVar) (r : PV) (bo : List (List PV)) (st : St) : Prop :=
  ∃ xs, resAll st rs = some xs ∧ cellsFit P st rs = true ∧ (xs.map (·.1)).Nodup ∧ (xs.map (·.2)).all PV.gives2 = true ∧ resPV (xs.map (·.2)) = r ∧ (∀ k, st.bx (.a k) = bo[k]?) ∧ ∀ cells : List PV, cells ∈ bo → cells.all PV.gives1 = true
def endK (P : Program) (rs : List ResultVar) (r : PV) (bo : List (List PV)) : Ex → St → Prop
  | .normal => retK P rs r bo
  | .ret => retK P rs r bo
  | .exit _ => fun _ => False
def St.init (args : List PV) (bi : List (List PV)) : St := ⟨fun t => args.getD t .und, bxOf bi⟩

theorem resAll_get {st : St} : ∀ {rs : List ResultVar} {xs : List (Loc × PV)}, resAll st rs = some xs → xs.length = rs.length ∧ ∀ (i : Nat) r x, rs[i]? = some r → xs[i]? = some x → resOf st r = some x
  | [], xs, h => by simp [resAll] at h; subst h; simp
  | r :: rs, xs, h => by
    simp only [resAll, Option.bind_eq_some_iff, Option.map_eq_some_iff] at h
    obtain ⟨y, hy, zs, hz, rfl⟩ := h
    obtain ⟨h1, h2⟩ := resAll_get hz
    refine ⟨by simp [h1], fun i a b ha hb => ?_⟩
    cases i with
    | zero => simp at ha hb; subst ha; subst hb; exact hy
    | succ i => simp at ha hb; exact h2 i a b ha hb
theorem cellsFit_get {P : Program} {st : St} : ∀ {rs : List ResultVar}, cellsFit P st rs = true → ∀ (i : Nat) a t, rs[i]? = some (.cell a t) → ∃ n cells ti, st.tm a = .ptr (.t n) 0 ∧ st.bx (.t n) = some cells ∧ tyi P t = some ti ∧ ti.agg = true ∧ cells.length = ti.sz
  | [], h, i, a, t, hi => by simp at hi
  | .tmp u :: rs, h, i, a, t, hi => by
    cases i with
    | zero => simp at hi
    | succ i => simp at hi; exact cellsFit_get (rs := rs) h i a t hi
  | .cell b u :: rs, h, i, a, t, hi => by
    simp only [cellsFit, Bool.and_eq_true] at h
    cases i with
    | zero =>
      simp at hi
      obtain ⟨rfl, rfl⟩ := hi
      have h1 := h.1
      split at h1
      · rename_i n hn
        split at h1
        · rename_i cells ti hc hti
          simp only [Bool.and_eq_true, beq_iff_eq] at h1
          exact ⟨n, cells, ti, hn, hc, hti, h1.1, h1.2⟩
        · cases h1
      · cases h1
    | succ i => simp at hi; exact cellsFit_get (rs := rs) h.2 i a t hi

def resSem (tmps : Array Value) : ResultVar → Sem Value
  | .tmp t => pure (tmps.getD t undef)
  | .cell a t => do loadVar t (← asAddr (tmps.getD a undef))
theorem resSem_cell {P : Program} {w : World} {tmps : Array Value} {a : Nat} {t : TypeId} {g : Addr} {v : Value} (hp : tmps.getD a undef = .pointer (some g)) (h : (loadVar t g).run P w = .ok v w) : (resSem tmps (.cell a t)).run P w = .ok v w := by
  simp only [resSem, Sem.run_bind, hp, asAddr, Sem.run_pure, Result.andThen_ok, h]
theorem results_eq (fn : Func) (tmps : Array Value) : results fn tmps = (do let vs ← fn.results.mapM (resSem tmps); pure (if h : vs.size = 1 then vs[0] else .tuple vs)) := by
  unfold results
  have : (fun x : ResultVar => (match x with | .tmp t => pure (tmps.getD t undef) | .cell a t => do loadVar t (← asAddr (tmps.getD a undef)) : Sem Value)) = resSem tmps := by
    funext x; cases x <;> rfl
  rw [← this]
  rfl
theorem ret_sound {P : Program} {F : Fr} {G : Gh} {st : St} {a : Act} {w : World} (h : Rel P F G st a w) {fn : Func} {r : PV} {bo : List (List PV)} (hr : retK P fn.results.toList r bo st) :
    ∃ v G', (results fn a.tmps).run P w = .ok v w ∧ RepT P G' w .res r v ∧ Hp P G' w (bxOf bo) ∧ G'.im = G.im ∧ (∀ k, G'.β (.a k) = G.β (.a k)) ∧ (∀ g p, G'.own g = some p → ∃ q, G.own g = some q) := by
  obtain ⟨xs, hxs, hfit, hnd, hgv, rfl, hbo, hbg⟩ := hr
  obtain ⟨hl, hget⟩ := resAll_get hxs
  -- the values
  have hval : ∀ rs : List ResultVar, ∀ xs : List (Loc × PV), resAll st rs = some xs → cellsFit P st rs = true → ∃ vs : List Value, (rs.mapM (resSem a.tmps)).run P w = .ok vs w ∧ vs.length = xs.length ∧
      ∀ (i : Nat) x v, xs[i]? = some x → vs[i]? = some v → (∃ t, x.1 = .t t ∧ RepT P G w (.t t) x.2 v) ∨ (∃ n cells, x.1 = .b (.t n) ∧ x.2 = .agg cells ∧ ∃ cs : Array Value, v = .agg cs ∧ cs.size = cells.length ∧ (∀ u ∈ cs, u.oneCell' = true) ∧ ∀ (j : Nat) y u, cells[j]? = some y → cs[j]? = some u → RepC P G w (.b (.t n), 0, j) y u) := by
    intro rs
    induction rs with
    | nil => intro xs hx _; simp [resAll] at hx; subst hx; exact ⟨[], by simp, rfl, by simp⟩
    | cons rv rs ih =>
      intro xs hx hf
      simp only [resAll, Option.bind_eq_some_iff, Option.map_eq_some_iff] at hx
      obtain ⟨y, hy, zs, hz, rfl⟩ := hx
      cases rv with
      | tmp t =>
        obtain ⟨vs, h1, h2, h3⟩ := ih zs hz hf
        simp only [resOf, Option.some.injEq] at hy
        subst hy
        refine ⟨a.tmps.getD t undef :: vs, by simp only [List.mapM_cons, Sem.run_bind, resSem, Sem.run_pure, Result.andThen_ok, h1], by simp [h2], fun i x v hi hv => ?_⟩
        cases i with
        | zero => simp at hi hv; subst hi; subst hv; left; refine ⟨t, rfl, ?_⟩; have := h.tm t; simpa using this
        | succ i => simp at hi hv; exact h3 i x v hi hv
      | cell a' t =>
        have hf' := hf
        simp only [cellsFit, Bool.and_eq_true] at hf'
        obtain ⟨vs, h1, h2, h3⟩ := ih zs hz hf'.2
        obtain ⟨n, cells, ti, e1, e2, e3, e4, e5⟩ := cellsFit_get hf 0 a' t rfl
        simp only [resOf, e1, e2, Option.map_some, Option.some.injEq] at hy
        subst hy
        have hp := h.tm a'
        rw [e1] at hp
        obtain ⟨hp, hlv⟩ := hp
        have hbox := h.hp.bx _ cells e2
        obtain ⟨rv, hrun, hrep⟩ := run_loadBox hbox e3 (o := 0) (r := .agg cells) (by simp [bxRead, e4, ← e5])
        obtain ⟨-, cs, rfl, hsz, hone, hcr⟩ := hrep
        have hrun' : (loadVar t ⟨G.β (.t n), 0, none⟩).run P w = .ok (.agg cs) w := by simpa [Instr.loadAt, Instr.sureAddr] using hrun
        refine ⟨.agg cs :: vs, by simp only [List.mapM_cons, Sem.run_bind, resSem_cell hp hrun', Sem.run_pure, Result.andThen_ok, h1], by simp [h2], fun i x v hi hv => ?_⟩
        cases i with
        | zero =>
          simp at hi hv; subst hi; subst hv
          right
          refine ⟨n, cells, rfl, rfl, cs, rfl, hsz, hone, fun j y u hy hu => ?_⟩
          have := hcr j y u hy hu
          rwa [Nat.zero_add] at this
        | succ i => simp at hi hv; exact h3 i x v hi hv
  obtain ⟨vs, hrun, hvl, hrep⟩ := hval fn.results.toList xs hxs hfit
  -- whose own becomes the results'
  let f : Pos → Pos := fun p => open Classical in if hx : ∃ i : Nat, p.2.1 = 0 ∧ ∃ x, xs[i]? = some x ∧ x.1 = p.1 then (.res, Classical.choose hx, p.2.2) else p
  have hf : ∀ (i : Nat) x j, xs[i]? = some x → f (x.1, 0, j) = (.res, i, j) := by
    intro i x j hx
    have hex : ∃ i : Nat, (x.1, 0, j).2.1 = 0 ∧ ∃ y, xs[i]? = some y ∧ y.1 = ((x.1, 0, j) : Pos).1 := ⟨i, rfl, x, hx, rfl⟩
    have hspec := Classical.choose_spec hex
    obtain ⟨-, y, hy, hyx⟩ := hspec
    have : Classical.choose hex = i := by
      apply nodup_inj hnd (x := x.1)
      · rw [List.getElem?_map, hy]; simp at hyx; simp [hyx]
      · rw [List.getElem?_map, hx]; rfl
    have h1 : f (x.1, 0, j) = (.res, Classical.choose hex, j) := dif_pos hex
    rw [h1, this]
  have hfb : ∀ k j, f (.b (.a k), 0, j) = (.b (.a k), 0, j) := by
    intro k j
    have : ¬ ∃ i : Nat, ((.b (.a k), 0, j) : Pos).2.1 = 0 ∧ ∃ x, xs[i]? = some x ∧ x.1 = ((.b (.a k), 0, j) : Pos).1 := by
      rintro ⟨i, -, x, hx, he⟩
      have hv : i < vs.length := by rw [hvl]; exact (List.getElem?_eq_some_iff.1 hx).1
      rcases hrep i x vs[i] hx (List.getElem?_eq_getElem hv) with ⟨t, h1, _⟩ | ⟨n, cells, h1, _⟩
      · rw [h1] at he; simp at he
      · rw [h1] at he; simp at he
    simp only [f, dif_neg this]
  let G' : Gh := { im := G.im, β := G.β, live := (fun b => match b with | .a k => k < bo.length | .t _ => False), own := (fun g => (G.own g).map f), fz := G.fz }
  have hps : PStep G w G' w (fun p q => q = f p) := ⟨Keep.refl _ _, fun g p q hg e => ⟨by simp [G', hg, e], rfl, fun _ h => h⟩⟩
  have hlive : ∀ k, k < bo.length → G.live (.a k) := by
    intro k hk
    refine (h.hp.live _).2 ?_
    rw [hbo k, List.getElem?_eq_getElem hk]; rfl
  have hparts : ∀ (i : Nat) x v, xs[i]? = some x → vs[i]? = some v → RepV P G' w .res i x.2 v := by
    intro i x v hx hv
    have hgx : x.2.gives2 = true := by
      have := List.all_eq_true.1 hgv x.2 (List.mem_map.2 ⟨x, List.mem_of_getElem? hx, rfl⟩)
      exact this
    rcases hrep i x v hx hv with ⟨t, h1, h2⟩ | ⟨n, cells, h1, h2, cs, rfl, hsz, hone, hcr⟩
    · have h3 : RepV P G w (.t t) 0 x.2 v := h2.ofV (by intro l e; rw [e] at hgx; simp [PV.gives2, PV.gives1, PV.pass1] at hgx)
      exact h3.pstepG hps (fun j => by rw [← h1]; exact (hf i x j hx).symm) hgx
    · rw [h2] at hgx ⊢
      refine ⟨cs, rfl, hsz, hone, fun j y u hy hu => ?_⟩
      have hgy := List.all_eq_true.1 hgx y (List.mem_of_getElem? hy)
      have g1 : y.pass1 = true ∧ ¬ ∃ K, y = .fn K ∨ y = .efn K := by
        cases y <;> simp [PV.gives1, PV.pass1] at hgy ⊢
      exact (hcr j y u hy hu).pstep hps (by rw [← h1]; exact (hf i x j hx).symm) g1.1 (fun e => absurd e g1.2)
  have hres : ∃ v, (results fn a.tmps).run P w = .ok v w ∧ RepT P G' w .res (resPV (xs.map (·.2))) v := by
    have hrunA : (fn.results.mapM (resSem a.tmps)).run P w = .ok vs.toArray w := by
      rw [Array.mapM_eq_mapM_toList]
      simp only [Sem.run_map, hrun]
      rfl
    refine ⟨if hv : vs.toArray.size = 1 then vs.toArray[0] else .tuple vs.toArray, ?_, ?_⟩
    · rw [results_eq]
      simp only [Sem.run_bind, hrunA, Result.andThen_ok, Sem.run_pure]
    · by_cases h1 : vs.toArray.size = 1
      · rw [dif_pos h1]
        have hv1 : vs.length = 1 := by simpa using h1
        have hx1 : xs.length = 1 := by omega
        match xs, vs, hx1, hv1, hparts with
        | [x], [v], _, _, hparts => exact (hparts 0 x v rfl rfl).toT
      · rw [dif_neg h1]
        have hne : xs.length ≠ 1 := by intro e; apply h1; simp; omega
        have : resPV (xs.map (·.2)) = .tup (xs.map (·.2)) := by
          match xs, hne with
          | [], _ => rfl
          | [x], hne => simp at hne
          | x :: y :: zs, _ => rfl
        rw [this]
        refine ⟨vs.toArray, rfl, by simp [hvl], fun i y u hy hu => ?_⟩
        rw [List.getElem?_map] at hy
        obtain ⟨x, hx, rfl⟩ := Option.map_eq_some_iff.1 hy
        exact hparts i x u hx (by simpa using hu)
  obtain ⟨v, hv1, hv2⟩ := hres
  refine ⟨v, G', hv1, hv2, ⟨fun b cells hb => ?_, fun b => ?_, fun b b' hl hl' he => ?_, h.hp.imlt, fun g p hg => ?_, fun b hl o => ?_, fun b hl => ?_⟩, rfl, fun _ => rfl, fun g p hg => ?_⟩
  · cases b with
    | t n => simp [bxOf] at hb
    | a k =>
      simp only [bxOf] at hb
      have hst : st.bx (.a k) = some cells := by rw [hbo k]; exact hb
      obtain ⟨cs, e, h1, h2, h3, h4⟩ := h.hp.bx _ cells hst
      refine ⟨cs, e, h1, h2, h3, fun j y u hy hu => ?_⟩
      have hgy := List.all_eq_true.1 (hbg cells (List.mem_of_getElem? hb)) y (List.mem_of_getElem? hy)
      have g1 : y.pass1 = true ∧ ¬ ∃ K, y = .fn K ∨ y = .efn K := by
        cases y <;> simp [PV.gives1, PV.pass1] at hgy ⊢
      exact (h4 j y u hy hu).pstep hps (hfb k j).symm g1.1 (fun e => absurd e g1.2)
  · cases b with
    | t n => simp [bxOf, G']
    | a k => simp [bxOf, G']
  · cases b with
    | t n => exact hl.elim
    | a k =>
      cases b' with
      | t n => exact hl'.elim
      | a k' => exact h.hp.inj _ _ (hlive k hl) (hlive k' hl') he
  · simp only [G', Option.map_eq_some_iff] at hg
    obtain ⟨q, hq, _⟩ := hg
    exact h.hp.ownlt g q hq
  · cases b with
    | t n => exact hl.elim
    | a k => exact h.hp.boxim _ (hlive k hl) o
  · cases b with
    | t n => exact hl.elim
    | a k => simp [G', h.hp.boxown _ (hlive k hl)]
  · simp only [G', Option.map_eq_some_iff] at hg
    obtain ⟨q, hq, _⟩ := hg
    exact ⟨q, hq⟩

theorem BRet.of_bodyG {P : Program} (H : Nat → List Nat) (hm : P.follows .mixedOrders = true) {f : Nat} {fn : Func} {c : Code} (hf : P.funcs[f]? = some fn) (hb : fn.body = some c) (hn : (fn.name != "runtime.NumGoroutine") = true) (hd : cOk P H fn.ntmps c = true) {rs : List ResultVar} (hrs : fn.results = rs.toArray)
    {bi bo : List (List PV)} {args : List PV} {r : PV} (hl : bo.length = bi.length) (ha : args.length ≤ fn.ntmps) {Q : Ex → St → Prop} (hQn : ∀ s, Q .normal s → wk P (retK P rs r bo) s) (hQr : ∀ s, Q .ret s → wk P (retK P rs r bo) s) (hQe : ∀ i s, Q (.exit i) s → False) (h : bwp P H c Q (St.init args bi)) : BRet P f bi args r bo := by
  have hrs' : fn.results.toList = rs := by rw [hrs]
  rw [← hrs'] at hQn hQr
  refine ⟨by simp [isFn, hf, hb, hn], hl, fun G w vs Wr hvs hargs hp hown hbox hfz hfm => ?_⟩
  let F : Fr := ⟨fn.ntmps, G.im, w, Wr, fun k => G.β (.a k), FreeB G w⟩
  have hsz : (vs ++ Array.replicate (fn.ntmps - vs.size) undef).size = fn.ntmps := by simp; omega
  have hrel : Rel P F G (St.init args bi) { tmps := vs ++ Array.replicate (fn.ntmps - vs.size) undef, defers := [] } w := by
    refine ⟨fun t => ?_, hp, ⟨Ext.refl _ _ _, fun g p hg => .inr (hown g p hg), fun b hl => .inr (hbox b hl), fun k => rfl, hfz, hfm⟩, hsz, rfl, fun g hg => ⟨hg, .refl w g⟩⟩
    by_cases ht : t < args.length
    · have h1 : args[t]? = some args[t] := List.getElem?_eq_getElem ht
      have h2 : vs[t]? = some vs[t] := Array.getElem?_eq_getElem (by omega)
      have h3 : (vs ++ Array.replicate (fn.ntmps - vs.size) undef).getD t undef = vs[t] := by
        rw [Array.getD_eq_getD_getElem?, Array.getElem?_append_left (by omega), h2]; rfl
      have h4 : (St.init args bi).tm t = args[t] := by simp [St.init, h1]
      show RepT P G w (.t t) ((St.init args bi).tm t) ((vs ++ Array.replicate (fn.ntmps - vs.size) undef).getD t undef)
      rw [h3, h4]
      exact hargs t _ _ h1 h2
    · have h4 : (St.init args bi).tm t = .und := by simp [St.init, List.getElem?_eq_none (Nat.le_of_not_lt ht)]
      show RepT P G w (.t t) ((St.init args bi).tm t) ((vs ++ Array.replicate (fn.ntmps - vs.size) undef).getD t undef)
      rw [h4]
      show (vs ++ Array.replicate (fn.ntmps - vs.size) undef).getD t undef = undef
      rw [Array.getD_eq_getD_getElem?, Array.getElem?_append_right (by omega)]
      by_cases h5 : t - vs.size < fn.ntmps - vs.size
      · simp [h5]
      · simp [h5]
  refine calls_of_wp hf hb ?_
  refine wp_mono (bwp_sound (F := F) hm c _ G _ _ w hd h hrel) fun e a' w' he => ?_
  have hend : ∀ G1 s, Rel P F G1 s a' w' → wk P (retK P fn.results.toList r bo) s → a'.defers = [] ∧ ∃ v, (results fn a'.tmps).run P w' = .ok v w' ∧
      ∃ v' G', Ending.returned v = .returned v' ∧ RepT P G' w' .res r v' ∧ Hp P G' w' (bxOf bo) ∧ Ext G.im w G'.im w' Wr ∧ (∀ k, G'.β (.a k) = G.β (.a k)) ∧ (∀ g p, G'.own g = some p → w.heap.size ≤ g ∨ Wr g) ∧
      ∀ g, FreeB G w g → KindSame w w' g ∧ (∃ cs e, w'.heap[g]? = some (.cells cs e (0, 0))) ∧ G'.own g = none ∧ ∀ o, ¬ G'.im g o := by
    rintro G0 s0 hR0 ⟨s, hw, hk⟩
    obtain ⟨G1, hR⟩ := hw F G0 a' w' hR0
    obtain ⟨v, G', h1, h2, h3, h4, h5, h6⟩ := ret_sound hR hk
    refine ⟨hR.defers, v, h1, v, G', rfl, h2, h3, by rw [h4]; exact hR.sn.ext, fun k => by rw [h5 k]; exact hR.sn.βa k, fun g p hg => ?_, fun g hg => ?_⟩
    rotate_left
    · obtain ⟨hz1, hz2⟩ := hR.z g hg
      refine ⟨hz2, hz1.1, ?_, by rw [h4]; exact hz1.2.2.2.1⟩
      cases ho : G'.own g with
      | none => rfl
      | some p =>
        obtain ⟨q, hq⟩ := h6 g p ho
        rw [hz1.2.1] at hq; cases hq
    obtain ⟨q, hq⟩ := h6 g p hg
    exact hR.sn.own g q hq
  cases e with
  | normal => obtain ⟨G1, s, hR, hk⟩ := he; exact hend G1 s hR (hQn s hk)
  | ret => obtain ⟨G1, s, hR, hk⟩ := he; exact hend G1 s hR (hQr s hk)
  | exit id => obtain ⟨G1, s, hR, hk⟩ := he; exact (hQe id s hk).elim
  | goto l => exact he.elim
  | panic c => exact he.elim
  | outgrown => exact he.elim
/-- A function's text, walked in the logic. -/
theorem BRet.of_body {P : Program} (H : Nat → List Nat) (hm : P.follows .mixedOrders = true) {f : Nat} {fn : Func} {c : Code} (hf : P.funcs[f]? = some fn) (hb : fn.body = some c) (hn : (fn.name != "runtime.NumGoroutine") = true) (hd : cOk P H fn.ntmps c = true) {rs : List ResultVar} (hrs : fn.results = rs.toArray)
    {bi bo : List (List PV)} {args : List PV} {r : PV} (hl : bo.length = bi.length) (ha : args.length ≤ fn.ntmps) (h : bwp P H c (endK P rs r bo) (St.init args bi)) : BRet P f bi args r bo :=
  BRet.of_bodyG H hm hf hb hn hd hrs hl ha (fun s hs => ⟨s, fun F G a w hr => ⟨G, hr⟩, hs⟩) (fun s hs => ⟨s, fun F G a w hr => ⟨G, hr⟩, hs⟩) (fun i s hs => hs) h
def endW (P : Program) (rs : List ResultVar) (r : PV) (bo : List (List PV)) : Ex → St → Prop
  | .normal => wk P (retK P rs r bo)
  | .ret => wk P (retK P rs r bo)
  | .exit _ => fun _ => False
theorem BRet.of_bodyW {P : Program} (H : Nat → List Nat) (hm : P.follows .mixedOrders = true) {f : Nat} {fn : Func} {c : Code} (hf : P.funcs[f]? = some fn) (hb : fn.body = some c) (hn : (fn.name != "runtime.NumGoroutine") = true) (hd : cOk P H fn.ntmps c = true) {rs : List ResultVar} (hrs : fn.results = rs.toArray)
    {bi bo : List (List PV)} {args : List PV} {r : PV} (hl : bo.length = bi.length) (ha : args.length ≤ fn.ntmps) (h : bwp P H c (endW P rs r bo) (St.init args bi)) : BRet P f bi args r bo :=
  BRet.of_bodyG H hm hf hb hn hd hrs hl ha (fun s hs => hs) (fun s hs => hs) (fun i s hs => hs) h

end Go.Bee
