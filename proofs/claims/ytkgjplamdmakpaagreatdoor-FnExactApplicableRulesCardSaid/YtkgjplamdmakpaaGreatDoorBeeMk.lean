/-
States that are told in full: what a loop's round begins with. No condition.
-/
import Derived.Test.YtkgjplamdmakpaaGreatDoorBeeS
namespace Go.Bee
set_option linter.unusedVariables false

/-- Whatever is so, is so: of a slot, of a cell. -/
structure PLe (y x : PV) : Prop where
  t : ∀ (P : Program) (G : Gh) (w : World) (loc : Loc) (v : Value), RepT P G w loc y v → RepT P G w loc x v
structure CLe (y x : PV) : Prop where
  c : ∀ (P : Program) (G : Gh) (w : World) (p : Pos) (v : Value), RepC P G w p y v → RepC P G w p x v
theorem PLe.rfl {x : PV} : PLe x x := ⟨fun _ _ _ _ _ h => h⟩
theorem CLe.rfl {x : PV} : CLe x x := ⟨fun _ _ _ _ _ h => h⟩
theorem PLe.eq {y x : PV} (h : y = x) : PLe y x := h ▸ PLe.rfl
theorem CLe.eq {y x : PV} (h : y = x) : CLe y x := h ▸ CLe.rfl
theorem PLe.junk {y : PV} : PLe y .junk := ⟨fun _ _ _ _ _ _ => trivial⟩
theorem PLe.own {e sz : Nat} {l : List PD} : PLe (.own e sz l) (.d (.sl sz l)) := ⟨fun _ _ _ _ _ h => ⟨h.1, Eq.refl _⟩⟩
theorem PLe.dp {x : PD} : PLe (.dp x) (.d x) := ⟨fun P G w loc v h => RepC.bC (P := P) (p := (loc, 0, 0)) (loc, 0, 0) (x := .dp x) h⟩
theorem CLe.dp {x : PD} : CLe (.dp x) (.d x) := ⟨fun P G w p v h => RepC.bC (P := P) p (x := .dp x) h⟩
theorem PLe.nn {sz : Nat} {l : List PD} : PLe (.nn sz l) (.d (.sl sz l)) := ⟨fun _ _ _ _ _ h => ⟨h.1, Eq.refl _⟩⟩
theorem CLe.own {e sz : Nat} {l : List PD} : CLe (.own e sz l) (.d (.sl sz l)) := ⟨fun _ _ _ _ _ h => ⟨h.1, Eq.refl _⟩⟩
theorem PLe.nil {sz : Nat} : PLe .nilS (.d (.sl sz [])) := ⟨fun P G w loc v h => by
  obtain rfl : v = .slice none 0 0 := h
  exact ⟨.nil sz, Eq.refl _⟩⟩
theorem CLe.nil {sz : Nat} : CLe .nilS (.d (.sl sz [])) := ⟨fun P G w p v h => by
  obtain rfl : v = .slice none 0 0 := h
  exact ⟨.nil sz, Eq.refl _⟩⟩
theorem nil_ownAt {G : Gh} {w : World} {p : Pos} {e sz : Nat} : OwnAt G w p e sz [] (.slice none 0 0) :=
  ⟨.nil sz, .inl ⟨.inl (Eq.refl _), fun h => absurd (Eq.refl _) h⟩⟩
theorem PLe.nilO {e sz : Nat} : PLe .nilS (.own e sz []) := ⟨fun P G w loc v h => by
  obtain rfl : v = .slice none 0 0 := h
  exact nil_ownAt⟩
theorem CLe.nilO {e sz : Nat} : CLe .nilS (.own e sz []) := ⟨fun P G w p v h => by
  obtain rfl : v = .slice none 0 0 := h
  exact nil_ownAt⟩

def hasB (L : List BN) (b : BN) : Bool := L.any fun c => decide (c = b)
def okA (L : List BN) : PV → Bool
  | .ptr b _ => hasB L b
  | _ => true
def okC (L : List BN) : PV → Bool
  | .ptr b _ => hasB L b
  | .rsl b _ _ _ => hasB L b
  | .rsv b _ _ => hasB L b
  | .clo _ caps => caps.all (okA L)
  | _ => true
def okV (L : List BN) : PV → Bool
  | .agg l => l.all (okC L)
  | x => okC L x
def okT (L : List BN) : PV → Bool
  | .tup l => l.all (okV L)
  | x => okV L x
def Gh.lim (G : Gh) (L : List BN) : Gh := { G with live := fun c => hasB L c = true }
theorem okA_rep {G : Gh} {w : World} {L : List BN} {x : PV} {v : Value} (h : RepAt G w x v) (ho : okA L x = true) : RepAt (G.lim L) w x v := by
  cases x <;> first | exact h | exact ⟨h.1, ho⟩
theorem okC_rep {P : Program} {G : Gh} {w : World} {L : List BN} {p : Pos} {x : PV} {v : Value} (hL : ∀ b, hasB L b = true → G.live b) (h : RepC P G w p x v) (ho : okC L x = true) : RepC P (G.lim L) w p x v := by
  cases x
  case rsv b sz n => obtain ⟨k, h1, h2, h3, h4⟩ := h; exact ⟨k, h1, h2, ho, h4⟩
  case q x => exact ⟨h.1.keep fun b o hb => ⟨hb.less hL, rfl⟩, h.2⟩
  case zs x => exact ⟨h.1.keep fun g hg => ⟨hg.less hL, fun _ => rfl⟩, h.2⟩
  case zp x => obtain ⟨g, o, h1, h2⟩ := h; exact ⟨g, o, h1, h2.keep fun g hg => ⟨hg.less hL, fun _ => rfl⟩⟩
  case ptr b o => exact ⟨h.1, ho⟩
  case rsl b e sz n => exact ⟨h.1, ho, h.2.2⟩
  case clo f caps =>
    obtain ⟨vs, hv, hl, hr⟩ := h
    exact ⟨vs, hv, hl, fun i x u hx hu => okA_rep (hr i x u hx hu) (List.all_eq_true.1 ho x (List.mem_of_getElem? hx))⟩
  all_goals exact h
theorem okV_rep {P : Program} {G : Gh} {w : World} {L : List BN} {loc : Loc} {i : Nat} {x : PV} {v : Value} (hL : ∀ b, hasB L b = true → G.live b) (h : RepV P G w loc i x v) (ho : okV L x = true) : RepV P (G.lim L) w loc i x v := by
  cases x
  case agg l =>
    obtain ⟨cs, hv, hl, h1, hr⟩ := h
    exact ⟨cs, hv, hl, h1, fun j x u hx hu => okC_rep hL (hr j x u hx hu) (List.all_eq_true.1 ho x (List.mem_of_getElem? hx))⟩
  case d y => exact okC_rep (P := P) (G := G) (w := w) (L := L) (v := v) (p := (loc, i, 0)) (x := .d y) hL h ho
  case nilS => exact okC_rep (P := P) (G := G) (w := w) (L := L) (v := v) (p := (loc, i, 0)) (x := .nilS) hL h ho
  case nn sz l => exact okC_rep (P := P) (G := G) (w := w) (L := L) (v := v) (p := (loc, i, 0)) (x := .nn sz l) hL h ho
  case own e sz l => exact okC_rep (P := P) (G := G) (w := w) (L := L) (v := v) (p := (loc, i, 0)) (x := .own e sz l) hL h ho
  case ptr b o => exact okC_rep (P := P) (G := G) (w := w) (L := L) (v := v) (p := (loc, i, 0)) (x := .ptr b o) hL h ho
  case rsl b e sz n => exact okC_rep (P := P) (G := G) (w := w) (L := L) (v := v) (p := (loc, i, 0)) (x := .rsl b e sz n) hL h ho
  case eptr cs => exact okC_rep (P := P) (G := G) (w := w) (L := L) (v := v) (p := (loc, i, 0)) (x := .eptr cs) hL h ho
  case clo f caps => exact okC_rep (P := P) (G := G) (w := w) (L := L) (v := v) (p := (loc, i, 0)) (x := .clo f caps) hL h ho
  case fn K => exact okC_rep (P := P) (G := G) (w := w) (L := L) (v := v) (p := (loc, i, 0)) (x := .fn K) hL h ho
  case one => exact okC_rep (P := P) (G := G) (w := w) (L := L) (v := v) (p := (loc, i, 0)) (x := .one) hL h ho
  case efn K => exact okC_rep (P := P) (G := G) (w := w) (L := L) (v := v) (p := (loc, i, 0)) (x := .efn K) hL h ho
  case dp y => exact okC_rep (P := P) (G := G) (w := w) (L := L) (v := v) (p := (loc, i, 0)) (x := .dp y) hL h ho
  case rsv b sz n => exact okC_rep (P := P) (G := G) (w := w) (L := L) (v := v) (p := (loc, i, 0)) (x := .rsv b sz n) hL h ho
  case q y => exact okC_rep (P := P) (G := G) (w := w) (L := L) (v := v) (p := (loc, i, 0)) (x := .q y) hL h ho
  case zs y => exact okC_rep (P := P) (G := G) (w := w) (L := L) (v := v) (p := (loc, i, 0)) (x := .zs y) hL h ho
  case zp y => exact okC_rep (P := P) (G := G) (w := w) (L := L) (v := v) (p := (loc, i, 0)) (x := .zp y) hL h ho
  case junk => exact okC_rep (P := P) (G := G) (w := w) (L := L) (v := v) (p := (loc, i, 0)) (x := .junk) hL h ho
  case und => exact okC_rep (P := P) (G := G) (w := w) (L := L) (v := v) (p := (loc, i, 0)) (x := .und) hL h ho
  case tup l => exact okC_rep (P := P) (G := G) (w := w) (L := L) (v := v) (p := (loc, i, 0)) (x := .tup l) hL h ho
theorem okT_rep {P : Program} {G : Gh} {w : World} {L : List BN} {loc : Loc} {x : PV} {v : Value} (hL : ∀ b, hasB L b = true → G.live b) (h : RepT P G w loc x v) (ho : okT L x = true) : RepT P (G.lim L) w loc x v := by
  cases x
  case tup l =>
    obtain ⟨vs, hv, hl, hr⟩ := h
    exact ⟨vs, hv, hl, fun j x u hx hu => okV_rep hL (hr j x u hx hu) (List.all_eq_true.1 ho x (List.mem_of_getElem? hx))⟩
  case agg l => exact okV_rep (i := 0) (x := .agg l) hL h ho
  case d y => exact okC_rep (P := P) (G := G) (w := w) (L := L) (v := v) (p := (loc, 0, 0)) (x := .d y) hL h ho
  case nilS => exact okC_rep (P := P) (G := G) (w := w) (L := L) (v := v) (p := (loc, 0, 0)) (x := .nilS) hL h ho
  case nn sz l => exact okC_rep (P := P) (G := G) (w := w) (L := L) (v := v) (p := (loc, 0, 0)) (x := .nn sz l) hL h ho
  case own e sz l => exact okC_rep (P := P) (G := G) (w := w) (L := L) (v := v) (p := (loc, 0, 0)) (x := .own e sz l) hL h ho
  case ptr b o => exact okC_rep (P := P) (G := G) (w := w) (L := L) (v := v) (p := (loc, 0, 0)) (x := .ptr b o) hL h ho
  case rsl b e sz n => exact okC_rep (P := P) (G := G) (w := w) (L := L) (v := v) (p := (loc, 0, 0)) (x := .rsl b e sz n) hL h ho
  case eptr cs => exact okC_rep (P := P) (G := G) (w := w) (L := L) (v := v) (p := (loc, 0, 0)) (x := .eptr cs) hL h ho
  case clo f caps => exact okC_rep (P := P) (G := G) (w := w) (L := L) (v := v) (p := (loc, 0, 0)) (x := .clo f caps) hL h ho
  case fn K => exact okC_rep (P := P) (G := G) (w := w) (L := L) (v := v) (p := (loc, 0, 0)) (x := .fn K) hL h ho
  case one => exact okC_rep (P := P) (G := G) (w := w) (L := L) (v := v) (p := (loc, 0, 0)) (x := .one) hL h ho
  case efn K => exact okC_rep (P := P) (G := G) (w := w) (L := L) (v := v) (p := (loc, 0, 0)) (x := .efn K) hL h ho
  case dp y => exact okC_rep (P := P) (G := G) (w := w) (L := L) (v := v) (p := (loc, 0, 0)) (x := .dp y) hL h ho
  case rsv b sz n => exact okC_rep (P := P) (G := G) (w := w) (L := L) (v := v) (p := (loc, 0, 0)) (x := .rsv b sz n) hL h ho
  case q y => exact okC_rep (P := P) (G := G) (w := w) (L := L) (v := v) (p := (loc, 0, 0)) (x := .q y) hL h ho
  case zs y => exact okC_rep (P := P) (G := G) (w := w) (L := L) (v := v) (p := (loc, 0, 0)) (x := .zs y) hL h ho
  case zp y => exact okC_rep (P := P) (G := G) (w := w) (L := L) (v := v) (p := (loc, 0, 0)) (x := .zp y) hL h ho
  case junk => exact okC_rep (P := P) (G := G) (w := w) (L := L) (v := v) (p := (loc, 0, 0)) (x := .junk) hL h ho
  case und => exact okC_rep (P := P) (G := G) (w := w) (L := L) (v := v) (p := (loc, 0, 0)) (x := .und) hL h ho

def HasT (st : St) (L : List BN) : List (Nat × PV) → Prop
  | [] => True
  | q :: l => (PLe (st.tm q.1) q.2 ∧ okT L q.2 = true) ∧ HasT st L l
def HasC (L : List BN) : List PV → List PV → Prop
  | [], [] => True
  | y :: ys, x :: xs => (CLe y x ∧ okC L x = true) ∧ HasC L ys xs
  | _, _ => False
def HasB (st : St) (L : List BN) : List (BN × List PV) → Prop
  | [] => True
  | q :: l => (∃ cells, st.bx q.1 = some cells ∧ HasC L cells q.2) ∧ HasB st L l
/-- The state st is at least what is told. -/
def Has (st : St) (ts : List (Nat × PV)) (bs : List (BN × List PV)) : Prop := HasT st (bs.map (·.1)) ts ∧ HasB st (bs.map (·.1)) bs
theorem HasT.get {st : St} {L : List BN} : ∀ {ts : List (Nat × PV)}, HasT st L ts → ∀ t, look ts t = .junk ∨ (PLe (st.tm t) (look ts t) ∧ okT L (look ts t) = true)
  | [], _, t => .inl rfl
  | (m, x) :: l, h, t => by
    rw [look_c]
    split
    · rename_i e; subst e; exact .inr h.1
    · exact HasT.get h.2 t
theorem HasC.get {L : List BN} : ∀ {ys xs : List PV}, HasC L ys xs → ys.length = xs.length ∧ ∀ (j : Nat) x, xs[j]? = some x → ∃ y, ys[j]? = some y ∧ CLe y x ∧ okC L x = true
  | [], [], _ => ⟨rfl, fun j x h => by simp at h⟩
  | y :: ys, x :: xs, h => by
    obtain ⟨h1, h2⟩ := HasC.get h.2
    refine ⟨by simp [h1], fun j z hz => ?_⟩
    cases j with
    | zero => simp at hz; subst hz; exact ⟨y, rfl, h.1⟩
    | succ j => simp at hz; simpa using h2 j z hz
theorem HasC.same {L : List BN} : ∀ {xs : List PV}, xs.all (okC L) = true → HasC L xs xs
  | [], _ => trivial
  | x :: xs, h => by
    simp only [List.all_cons, Bool.and_eq_true] at h
    exact ⟨⟨CLe.rfl, h.1⟩, HasC.same h.2⟩
theorem HasC.of {L : List BN} {ys xs : List PV} (h : ys = xs) (ho : xs.all (okC L) = true) : HasC L ys xs := by
  subst h; exact HasC.same ho
theorem HasB.get {st : St} {L : List BN} : ∀ {bs : List (BN × List PV)}, HasB st L bs → ∀ b cells, lookB bs b = some cells → ∃ ys, st.bx b = some ys ∧ HasC L ys cells
  | [], _, b, cells, h => by simp [lookB] at h
  | (m, x) :: l, h, b, cells, hb => by
    rw [lookB_c] at hb
    split at hb
    · rename_i e; subst e; cases hb; exact h.1
    · exact HasB.get h.2 b cells hb
theorem lookB_has : ∀ (bs : List (BN × List PV)) (b : BN), (hasB (bs.map (·.1)) b = true) ↔ (lookB bs b).isSome = true
  | [], b => by simp [hasB, lookB]
  | (m, x) :: l, b => by
    have ih := lookB_has l b
    simp only [hasB] at ih
    rw [lookB_c]
    simp only [hasB, List.map_cons, List.any_cons, Bool.or_eq_true, decide_eq_true_eq, ih]
    by_cases e : b = m
    · simp [e]
    · simp only [if_neg e]
      exact ⟨fun h => h.elim (fun h => absurd h.symm e) id, .inr⟩
theorem Weak.mk {P : Program} {st : St} {ts : List (Nat × PV)} {bs : List (BN × List PV)} (h : Has st ts bs) : Weak P st (mk ts bs) := fun F G a w hr => by
  have hlive : ∀ b, hasB (bs.map (·.1)) b = true → G.live b := fun b hb => by
    obtain ⟨cells, hc⟩ := Option.isSome_iff_exists.1 ((lookB_has bs b).1 hb)
    obtain ⟨ys, hy, -⟩ := h.2.get b cells hc
    exact (hr.hp.live b).2 (by rw [hy]; rfl)
  let G' : Gh := G.lim (bs.map (·.1))
  refine ⟨G', ⟨fun t => ?_, ⟨fun b cells hc => ?_, fun b => lookB_has bs b, fun c c' hl hl' => hr.hp.inj c c' (hlive c hl) (hlive c' hl'), hr.hp.imlt, hr.hp.ownlt, fun c hl => hr.hp.boxim c (hlive c hl), fun c hl => hr.hp.boxown c (hlive c hl)⟩,
    ⟨hr.sn.ext, hr.sn.own, fun c hl => hr.sn.box c (hlive c hl), hr.sn.βa, hr.sn.fz, hr.sn.fzm⟩, hr.nt, hr.defers, fun g hg => ⟨(hr.z g hg).1.less hlive, (hr.z g hg).2⟩⟩⟩
  · show RepT P _ w _ (look ts t) _
    rcases h.1.get t with e | ⟨e1, e2⟩
    · rw [e]; trivial
    · exact okT_rep hlive (e1.t P G w _ _ (hr.tm t)) e2
  · obtain ⟨ys, hy, hcs⟩ := h.2.get b cells hc
    obtain ⟨hl, hg⟩ := hcs.get
    obtain ⟨cs, e, h1, h2, h3, h4⟩ := hr.hp.bx b ys hy
    refine ⟨cs, e, h1, hl ▸ h2, fun j u hj hu => h3 j u (hl ▸ hj) hu, fun j x u hx hu => ?_⟩
    obtain ⟨y, hyj, hle, hok⟩ := hg j x hx
    exact okC_rep hlive (hle.c P G w _ _ (h4 j y u hyj hu)) hok

/-- How a round hands over to the next one. -/
def Nxt {ι : Type} (P : Program) (T : ι → List (Nat × PV)) (B : ι → List (BN × List PV)) (J : ι → Prop) (μ : ι → Nat) (n : Nat) (I : Nat → St → Prop) : Prop :=
  ∀ i st, J i → μ i < n → Has st (T i) (B i) → ∃ m s', Weak P st s' ∧ m < n ∧ I m s'
theorem b_lp {ι : Type} {P : Program} {H : Nat → List Nat} {c : Code} {Q : Ex → St → Prop} {st : St} (T : ι → List (Nat × PV)) (B : ι → List (BN × List PV)) (J : ι → Prop) (μ : ι → Nat) (i : ι) (hs : Has st (T i) (B i)) (hj : J i)
    (hr : ∀ i, J i → ∀ I, Nxt P T B J μ (μ i) I → bwp P H c (loopK P I (μ i) Q) (mk (T i) (B i))) : bloop P (bwp P H c) Q st :=
  ⟨fun n s => ∃ i, n = μ i ∧ J i ∧ s = mk (T i) (B i), ⟨_, _, Weak.mk hs, i, rfl, hj, rfl⟩, fun n s ⟨i, hn, hj, hs⟩ => by
    subst hn; subst hs
    exact hr i hj _ fun i' st' hj' hlt hs' => ⟨_, _, Weak.mk hs', hlt, i', rfl, hj', rfl⟩⟩
theorem Nxt.go {ι : Type} {P : Program} {T : ι → List (Nat × PV)} {B : ι → List (BN × List PV)} {J : ι → Prop} {μ : ι → Nat} {n : Nat} {I : Nat → St → Prop} (h : Nxt P T B J μ n I) (i : ι) {st : St} (hj : J i) (hlt : μ i < n) (hs : Has st (T i) (B i)) :
    ∃ m s', Weak P st s' ∧ m < n ∧ I m s' := h i st hj hlt hs
/-- What the state holds, read off. -/
theorem hs {st : St} {ts : List (Nat × PV)} {bs : List (BN × List PV)} (h : Has st ts bs := by
  repeat' first | exact trivial | exact PLe.rfl | exact CLe.rfl | rfl | exact PLe.own | exact PLe.nil | exact PLe.nilO | exact PLe.nn | exact PLe.dp | exact CLe.dp | exact CLe.own | exact CLe.nil | exact CLe.nilO | refine ⟨_, rfl, ?_⟩ | refine And.intro ?_ ?_ | exact HasC.of rfl (by simp only [*]) | exact HasC.of (by simp only [*]) (by simp only [*]) | (refine PLe.eq ?_; simp [tm_put, tm_mk, look_c, look_n, tm_strip1, tm_sbx, bT_d, bT_own]; done) | (refine CLe.eq ?_; simp; done)) : Has st ts bs := h
/-- The slots alone. -/
theorem hsT {L : List BN} {st : St} {ts : List (Nat × PV)} (h : HasT st L ts := by
  repeat' first | exact trivial | exact PLe.rfl | exact CLe.rfl | rfl | exact PLe.own | exact PLe.nil | exact PLe.nilO | exact PLe.nn | exact PLe.dp | exact CLe.dp | exact CLe.own | exact CLe.nil | exact CLe.nilO | refine ⟨_, rfl, ?_⟩ | refine And.intro ?_ ?_ | exact HasC.of rfl (by simp only [*]) | exact HasC.of (by simp only [*]) (by simp only [*]) | (refine PLe.eq ?_; simp [tm_put, tm_mk, look_c, look_n, tm_strip1, tm_sbx, bT_d, bT_own]; done) | (refine CLe.eq ?_; simp; done)) : HasT st L ts := h
theorem wk_mk {P : Program} {K : St → Prop} {s : St} (ts : List (Nat × PV)) (bs : List (BN × List PV)) (hs : Has s ts bs) (h : K (mk ts bs)) : wk P K s := ⟨_, Weak.mk hs, h⟩
/-! A slice that was made and filled, in a state that is told in full. -/
theorem map_same {α : Type} {f : α → α} : ∀ {l : List α}, (∀ y ∈ l, f y = y) → l.map f = l
  | [], _ => rfl
  | a :: l, h => by rw [List.map_cons, h a (List.mem_cons_self ..), map_same fun y hy => h y (List.mem_cons_of_mem _ hy)]
theorem killC_ok {L : List BN} {b : BN} {x : PV} (h : okC L x = true) (hb : hasB L b = false) : x.killC b = x := by
  have hne : ∀ c, hasB L c = true → c ≠ b := fun c hc e => by rw [e, hb] at hc; cases hc
  cases x
  case ptr c o => simp only [PV.killC, if_neg (hne c h)]
  case rsl c e sz n => simp only [PV.killC, if_neg (hne c h)]
  case rsv c sz n => simp only [PV.killC, if_neg (hne c h)]
  case clo f caps =>
    simp only [PV.killC]
    rw [if_neg]
    intro ha
    obtain ⟨y, hy, hyb⟩ := List.any_eq_true.1 ha
    have := List.all_eq_true.1 h y hy
    cases y <;> simp at hyb
    exact hne _ this hyb
  all_goals rfl
theorem killV_ok {L : List BN} {b : BN} {x : PV} (h : okV L x = true) (hb : hasB L b = false) : x.killV b = x := by
  cases x
  case agg l =>
    simp only [PV.killV]
    congr 1
    exact map_same fun y hy => killC_ok (List.all_eq_true.1 h y hy) hb
  case ptr c o => exact killC_ok (L := L) (x := .ptr c o) h hb
  case rsl c e sz n => exact killC_ok (L := L) (x := .rsl c e sz n) h hb
  case rsv c sz n => exact killC_ok (L := L) (x := .rsv c sz n) h hb
  case clo f caps => exact killC_ok (L := L) (x := .clo f caps) h hb
  all_goals rfl
theorem kill_ok {L : List BN} {b : BN} {x : PV} (h : okT L x = true) (hb : hasB L b = false) : x.kill b = x := by
  cases x
  case tup l =>
    simp only [PV.kill]
    congr 1
    exact map_same fun y hy => killV_ok (List.all_eq_true.1 h y hy) hb
  case agg l => exact killV_ok (L := L) (x := .agg l) h hb
  case ptr c o => exact killV_ok (L := L) (x := .ptr c o) h hb
  case rsl c e sz n => exact killV_ok (L := L) (x := .rsl c e sz n) h hb
  case rsv c sz n => exact killV_ok (L := L) (x := .rsv c sz n) h hb
  case clo f caps => exact killV_ok (L := L) (x := .clo f caps) h hb
  all_goals rfl
theorem look_ok {L : List BN} {b : BN} : ∀ {ts : List (Nat × PV)}, ts.all (fun q => okT L q.2) = true → hasB L b = false → ∀ t, (look ts t).kill b = look ts t
  | [], _, _, _ => rfl
  | (m, x) :: l, h, hb, t => by
    simp only [List.all_cons, Bool.and_eq_true] at h
    rw [look_c]
    split
    · exact kill_ok h.1 hb
    · exact look_ok h.2 hb t
theorem lookB_ok {L : List BN} {b : BN} : ∀ {bs : List (BN × List PV)}, bs.all (fun q => q.2.all (okC L)) = true → hasB L b = false → ∀ c, (lookB bs c).map (fun cells => cells.map (PV.killC b)) = lookB bs c
  | [], _, _, _ => rfl
  | (m, x) :: l, h, hb, t => by
    simp only [List.all_cons, Bool.and_eq_true] at h
    rw [lookB_c]
    split
    · simp only [Option.map_some]
      rw [map_same fun y hy => killC_ok (List.all_eq_true.1 h.1 y hy) hb]
    · exact lookB_ok h.2 hb t
theorem wk_fz {P : Program} {K : St → Prop} {s : St} (t : Nat) (b : BN) (e sz n : Nat) (l : List PD) (ts : List (Nat × PV)) (bs : List (BN × List PV)) (hs : Has s ((t, .rsl b e sz n) :: ts) ((b, (flat l).map .d) :: bs)) (hl : l.length = n) (hu : ∀ x ∈ l, x.cells.length = sz)
    (h : K (mk ((t, .own e sz l) :: ts) bs)) (h1 : ts.all (fun q => okT (bs.map (·.1)) q.2) = true := by rfl) (h2 : bs.all (fun q => q.2.all (okC (bs.map (·.1)))) = true := by rfl) (h3 : hasB (bs.map (·.1)) b = false := by rfl) : wk P K s := by
  refine ⟨_, Weak.trans (Weak.mk hs) (Weak.freeze (t := t) (b := b) (e := e) (sz := sz) (n := n) (l := l) (by rw [tm_mk, look_c, if_pos rfl]) (by rw [bx_mk, lookB_c, if_pos rfl]) hl hu), ?_⟩
  have e1 : ((mk ((t, .rsl b e sz n) :: ts) ((b, (flat l).map .d) :: bs)).drop b).put t (.own e sz l) = mk ((t, .own e sz l) :: ts) bs := by
    unfold mk St.drop St.put
    simp only [St.mk.injEq]
    refine ⟨funext fun k => ?_, funext fun c => ?_⟩
    · by_cases hk : k = t
      · rw [if_pos hk, look_c, if_pos hk]
      · rw [if_neg hk, look_c, look_c, if_neg hk, if_neg hk, look_ok h1 h3]
    · split
      · rename_i hc
        subst hc
        cases hq : lookB bs c with
        | none => rfl
        | some q => have := (lookB_has bs c).2 (by rw [hq]; rfl); rw [h3] at this; cases this
      · rename_i hc
        rw [lookB_c, if_neg hc, lookB_ok h2 h3]
  rw [e1]; exact h
end Go.Bee
