/- Chapter 23: accepted theses, as both reckon them; orders of changed cases. -/
import Derived.Test.YtkgjplamdmakpaaGreatDoorBeePu
namespace Go.Bee.C23s
open Go Go.Bee Go.Bee.Ty Go.Bee.C23
set_option linter.unusedVariables false
def opp (t : Th) : Th := ⟨t.n, !t.g⟩
def appl (acc : List Th) (r : Ru) : Bool := !(r.ps.any fun t => !acc.contains t) && !(r.es.any fun t => acc.contains t)
def wtF (acc : List Th) (t : Th) (m : Int) (r : Ru) : Int := if (decide (r.c = t) && appl acc r) = true then max m r.wt else m
def wt (c : Cs) (acc : List Th) (t : Th) : Int := c.rs.foldl (wtF acc t) 0
def kindF (n : List UInt8) (k : Int) (s : Sd) : Int := if s.n = n then s.k else k
def kindI (c : Cs) (n : List UInt8) : Int := c.ss.foldl (kindF n) 2
def kindS (c : Cs) (n : List UInt8) : Int := match c.ss.find? fun s => s.n == n with
  | some s => s.k
  | none => 2
def conv (k p q : Int) : Bool := if p = 0 then false else if k = 1 then true else if k = 2 then decide (p > q) else if k = 3 then decide (p ≥ 500) && decide (p - q ≥ 200) else decide (p ≥ 500) && decide (p - q ≥ 200) && decide (q < 100)
def meets (k p q : Int) : Bool := if k = 1 then decide (p > 0) else if k = 2 then decide (p > 0) && decide (p > q) else if k = 3 then decide (p ≥ 500) && decide (p - q ≥ 200) else decide (p ≥ 500) && decide (p - q ≥ 200) && decide (q < 100)
theorem conv_meets (k p q : Int) (hp : 0 ≤ p) : conv k p q = meets k p q := by
  unfold conv meets
  by_cases h : p = 0
  · subst h
    simp
  · have h2 : p > 0 := by omega
    simp [h, h2]
def convI (c : Cs) (acc : List Th) (t : Th) : Bool := conv (kindI c t.n) (wt c acc t) (wt c acc (opp t))
def takesI (c : Cs) (acc : List Th) (t : Th) : Bool := c.fs.contains t || (!(c.fs.contains t || c.fs.contains (opp t)) && convI c acc t && !convI c acc (opp t))
def stepI (c : Cs) (out : List Th) (n : List UInt8) : List Th := if takesI c out ⟨n, false⟩ = true then out ++ [⟨n, false⟩] else if takesI c out ⟨n, true⟩ = true then out ++ [⟨n, true⟩] else out
def accI (c : Cs) : List Th := match order c with
  | none => []
  | some o => o.foldl (stepI c) []
def stepS (c : Cs) (out : List Th) (n : List UInt8) : List Th :=
  if c.fs.contains ⟨n, false⟩ = true then out ++ [⟨n, false⟩] else if c.fs.contains ⟨n, true⟩ = true then out ++ [⟨n, true⟩] else
  if meets (kindS c n) (wt c out ⟨n, false⟩) (wt c out ⟨n, true⟩) && !meets (kindS c n) (wt c out ⟨n, true⟩) (wt c out ⟨n, false⟩) then out ++ [⟨n, false⟩] else
  if meets (kindS c n) (wt c out ⟨n, true⟩) (wt c out ⟨n, false⟩) && !meets (kindS c n) (wt c out ⟨n, false⟩) (wt c out ⟨n, true⟩) then out ++ [⟨n, true⟩] else out
def accS (c : Cs) : List Th := (orderS c).foldl (stepS c) []
theorem wt_in {c : Cs} (h : ∀ r ∈ c.rs, 1 ≤ r.wt ∧ r.wt ≤ 1000) (acc : List Th) (t : Th) : 0 ≤ wt c acc t ∧ wt c acc t ≤ 1000 := by
  have key : ∀ (l : List Ru) (m : Int), (∀ r ∈ l, 1 ≤ r.wt ∧ r.wt ≤ 1000) → 0 ≤ m → m ≤ 1000 → 0 ≤ l.foldl (wtF acc t) m ∧ l.foldl (wtF acc t) m ≤ 1000 := by
    intro l
    induction l with
    | nil => intro m _ h1 h2; exact ⟨h1, h2⟩
    | cons r l ih =>
      intro m hl h1 h2
      have hr := hl r (List.mem_cons_self ..)
      rw [List.foldl_cons]
      refine ih _ (fun x hx => hl x (List.mem_cons_of_mem _ hx)) ?_ ?_ <;> unfold wtF <;> split <;> omega
  exact key c.rs 0 h (Int.le_refl _) (by decide)
theorem kind_eq {c : Cs} (h : sdOk c.ss = true) (n : List UInt8) : kindI c n = kindS c n := by
  have hlt : ∀ i j (hj : j < c.ss.length) (hij : i < j), c.ss[i].n < c.ss[j].n := by
    intro i j
    induction j with
    | zero => intro hj hij; omega
    | succ j ih =>
      intro hj hij
      have h1 := List.all_eq_true.1 h (j + 1) (List.mem_range.2 hj)
      rw [sdOk1_at hj] at h1
      simp only [Bool.and_eq_true, Bool.or_eq_true, decide_eq_true_eq] at h1
      have h2 : c.ss[j].n < c.ss[j + 1].n := (less_iff _ _).1 (h1.2.resolve_left (by omega))
      rcases Nat.lt_or_ge i j with h3 | h3
      · exact lt_tr (ih (by omega) h3) h2
      · have : i = j := by omega
        subst this; exact h2
  have hne : c.ss.Pairwise fun a b => a.n ≠ b.n := List.pairwise_iff_getElem.2 fun i j hi hj hij e => by
    have := hlt i j hj hij
    rw [e] at this
    exact lt_irr _ this
  unfold kindI kindS
  have key : ∀ (l : List Sd) (d : Int), (l.Pairwise fun a b => a.n ≠ b.n) → l.foldl (kindF n) d = match l.find? fun s => s.n == n with | some s => s.k | none => d := by
    intro l
    induction l with
    | nil => intro d _; rfl
    | cons a l ih =>
      intro d hp
      have hp2 := List.pairwise_cons.1 hp
      rw [List.foldl_cons, List.find?_cons, ih _ hp2.2]
      by_cases e : a.n = n
      · have hno : l.find? (fun s => s.n == n) = none := List.find?_eq_none.2 fun x hx => by
          have := hp2.1 x hx
          rw [e] at this
          simpa using fun h => this h.symm
        have h1 : (a.n == n) = true := by simpa using e
        rw [hno, h1]
        simp [kindF, e]
      · have h1 : (a.n == n) = false := by simpa using e
        rw [h1]
        simp only [kindF, if_neg e]
  exact key c.ss 2 hne
theorem opp_opp (t : Th) : opp (opp t) = t := by cases t; simp [opp]
theorem step_eq {c : Cs} (h1 : sdOk c.ss = true) (h2 : ∀ r ∈ c.rs, 1 ≤ r.wt ∧ r.wt ≤ 1000) (out : List Th) (n : List UInt8) : stepI c out n = stepS c out n := by
  have hc : ∀ t : Th, convI c out t = meets (kindS c t.n) (wt c out t) (wt c out (opp t)) := fun t => by
    unfold convI
    rw [conv_meets _ _ _ (wt_in h2 out t).1, kind_eq h1]
  unfold stepI stepS takesI
  rw [hc ⟨n, false⟩, hc ⟨n, true⟩, show opp ⟨n, false⟩ = ⟨n, true⟩ from rfl, show opp ⟨n, true⟩ = ⟨n, false⟩ from rfl, hc ⟨n, false⟩, hc ⟨n, true⟩,
    show opp ⟨n, false⟩ = ⟨n, true⟩ from rfl, show opp ⟨n, true⟩ = ⟨n, false⟩ from rfl]
  generalize c.fs.contains (⟨n, false⟩ : Th) = a
  generalize c.fs.contains (⟨n, true⟩ : Th) = b
  generalize meets (kindS c n) (wt c out ⟨n, false⟩) (wt c out ⟨n, true⟩) = x
  generalize meets (kindS c n) (wt c out ⟨n, true⟩) (wt c out ⟨n, false⟩) = y
  cases a <;> cases b <;> cases x <;> cases y <;> rfl
/-- What is asked of a case so that both come to the same. -/
structure Fine (c : Cs) : Prop where
  ru : ∀ r ∈ c.rs, RuOk r
  n : (allN c).length ≤ 1048576
  ne : ∀ x ∈ allN c, x ≠ []
  ss : sdOk c.ss = true
  wt : ∀ r ∈ c.rs, 1 ≤ r.wt ∧ r.wt ≤ 1000
  ord : (order c).isSome = true
theorem order_fine {c : Cs} (h : ∀ x ∈ allN c, x ≠ []) : (okI c = okS c) ∧ ∀ o, order c = some o → orderS c = o := by
  have hne : ∀ x ∈ names2 c, x ≠ [] := fun x hx => h x ((names2_mem c x).1 hx)
  have hg := go_eq (c := c) hne (names2 c).length []
  unfold okI okS order orderS
  rw [names_eq]
  simp only [List.length_nil, Nat.zero_add] at hg
  cases ho : goO c (names2 c) (names2 c).length [] with
  | none =>
    have := hg.2 ho
    refine ⟨?_, fun o e => by cases e⟩
    have h2 : ((goS c (names2 c) (names2 c).length []).length == (names2 c).length) = false := by simp; omega
    rw [h2]; rfl
  | some o =>
    obtain ⟨a, b⟩ := hg.1 o ho
    refine ⟨?_, fun o' e => by cases e; exact a⟩
    rw [a, b]; simp
theorem acc_eq {c : Cs} (h : Fine c) : accI c = accS c := by
  obtain ⟨o, ho⟩ := Option.isSome_iff_exists.1 h.ord
  unfold accI accS
  rw [ho, (order_fine h.ne).2 o ho]
  show o.foldl (stepI c) [] = o.foldl (stepS c) []
  rw [show stepI c = stepS c from funext fun out => funext fun n => step_eq h.ss h.wt out n]
theorem head_fine {c : Cs} (h : (head c && okI c) = true) : Fine c := by
  simp only [Bool.and_eq_true] at h
  have hl := allN_len c h.1
  have hn := head_names h.1
  have h1 := h.1
  simp only [head, Bool.and_eq_true, List.all_eq_true] at h1
  refine ⟨hl.1, hl.2, fun x hx => vName_ne (hn x hx), h1.2, fun r hr => ?_, h.2⟩
  have := h1.1.2 r hr
  simp only [ruOk, inB, Bool.and_eq_true, decide_eq_true_eq] at this
  omega
/-! Orders: there is one exactly if the names can be told so that each comes after those it depends on. -/
def Topo (c : Cs) (names o : List Tx) : Prop := (∀ x ∈ names, x ∈ o) ∧ ∀ pre x post, o = pre ++ x :: post → ∀ r ∈ c.rs, r.c.n = x → ∀ y ∈ nb r, y ∈ pre
theorem ready_iff (c : Cs) (out : List Tx) (x : Tx) : ready c out x = true ↔ x ∉ out ∧ ∀ r ∈ c.rs, r.c.n = x → ∀ y ∈ nb r, y ∈ out := by
  unfold ready
  simp only [Bool.and_eq_true, Bool.not_eq_true', List.any_eq_false, waits, Bool.and_eq_true, beq_iff_eq, List.any_eq_true, not_and, not_exists, Bool.not_eq_true', List.contains_iff_mem]
  constructor
  · rintro ⟨h1, h2⟩
    refine ⟨by simpa using h1, fun r hr e y hy => ?_⟩
    have := h2 r hr e y hy
    simpa using this
  · rintro ⟨h1, h2⟩
    exact ⟨by simpa using h1, fun r hr e y hy => by simpa using h2 r hr e y hy⟩
theorem left_one {names out : List Tx} (hnd : names.Nodup) {x : Tx} (hx : x ∈ names) (ho : x ∉ out) : left names (out ++ [x]) + 1 = left names out := by
  unfold left
  induction names with
  | nil => cases hx
  | cons a l ih =>
    have hn := List.nodup_cons.1 hnd
    by_cases e : a = x
    · subst e
      have hsame : (l.filter fun y => !(out ++ [a]).contains y) = l.filter fun y => !out.contains y := by
        refine List.filter_congr fun y hy => ?_
        have : y ≠ a := fun e => hn.1 (e ▸ hy)
        simp [this]
      rw [List.filter_cons, List.filter_cons, if_neg (by simp), if_pos (by simpa using ho), hsame]
      rfl
    · have hx2 : x ∈ l := (List.mem_cons.1 hx).resolve_left fun h => e h.symm
      have := ih hn.2 hx2
      rw [List.filter_cons, List.filter_cons]
      by_cases h : a ∈ out
      · rw [if_neg (by simp [h]), if_neg (by simp [h])]; exact this
      · rw [if_pos (by simp [h, e]), if_pos (by simpa using h)]
        simp only [List.length_cons]; omega
theorem left_mem {names out : List Tx} {n : Nat} (h : left names out = n + 1) : ∃ x ∈ names, x ∉ out := by
  unfold left at h
  have hne : (names.filter fun x => !out.contains x) ≠ [] := fun e => by rw [e] at h; cases h
  obtain ⟨x, hx⟩ := List.exists_mem_of_ne_nil _ hne
  obtain ⟨h1, h2⟩ := List.mem_filter.1 hx
  exact ⟨x, h1, by simpa using h2⟩
/-- The first item of o that has p, and what comes ahead of it. -/
theorem first_of {p : Tx → Prop} [DecidablePred p] : ∀ (o : List Tx), (∃ x ∈ o, p x) → ∃ pre x post, o = pre ++ x :: post ∧ p x ∧ ∀ y ∈ pre, ¬ p y
  | [], h => by obtain ⟨x, hx, _⟩ := h; cases hx
  | a :: o, h => by
    by_cases ha : p a
    · exact ⟨[], a, o, rfl, ha, by simp⟩
    · obtain ⟨x, hx, hp⟩ := h
      have hx2 : x ∈ o := (List.mem_cons.1 hx).resolve_left fun e => ha (e ▸ hp)
      obtain ⟨pre, z, post, h1, h2, h3⟩ := first_of o ⟨x, hx2, hp⟩
      refine ⟨a :: pre, z, post, by rw [h1]; rfl, h2, fun y hy => ?_⟩
      rcases List.mem_cons.1 hy with e | e
      · rw [e]; exact ha
      · exact h3 y e
theorem topo_go {c : Cs} {names o : List Tx} (hnd : names.Nodup) (hN : ∀ r ∈ c.rs, ∀ y ∈ nb r, y ∈ names) (ht : Topo c names o) : ∀ (n : Nat) (out : List Tx), left names out = n → (goO c names n out).isSome = true
  | 0, out, _ => rfl
  | n + 1, out, hl => by
    obtain ⟨x, hx, hxo⟩ := left_mem hl
    obtain ⟨pre, z, post, h1, ⟨h2, h3⟩, h4⟩ := first_of (p := fun x => x ∈ names ∧ x ∉ out) o ⟨x, ht.1 x hx, hx, hxo⟩
    have hz : ready c out z = true := (ready_iff c out z).2 ⟨h3, fun r hr e y hy => by
      have hp := ht.2 pre z post h1 r hr e y hy
      have := h4 y hp
      exact Classical.byContradiction fun hno => this ⟨hN r hr y hy, hno⟩⟩
    unfold goO
    have hf : (names.find? (ready c out)).isSome = true := by
      rw [List.find?_isSome]; exact ⟨z, h2, hz⟩
    obtain ⟨q, hq⟩ := Option.isSome_iff_exists.1 hf
    rw [hq]
    have hq1 := List.mem_of_find?_eq_some hq
    have hq2 := (ready_iff c out q).1 (List.find?_some hq)
    have := left_one hnd hq1 hq2.1
    exact topo_go hnd hN ht n (out ++ [q]) (by omega)
theorem go_topo {c : Cs} {names : List Tx} (hnd : names.Nodup) : ∀ (n : Nat) (out o : List Tx), left names out = n → (∀ pre x post, out = pre ++ x :: post → ∀ r ∈ c.rs, r.c.n = x → ∀ y ∈ nb r, y ∈ pre) → goO c names n out = some o → Topo c names o
  | 0, out, o, hl, hp, h => by
    simp only [goO, Option.some.injEq] at h
    subst h
    refine ⟨fun x hx => ?_, hp⟩
    unfold left at hl
    have := List.filter_eq_nil_iff.1 (List.length_eq_zero_iff.1 hl) x hx
    simpa using this
  | n + 1, out, o, hl, hp, h => by
    unfold goO at h
    cases hq : names.find? (ready c out) with
    | none => rw [hq] at h; cases h
    | some q =>
      rw [hq] at h
      have hq1 := List.mem_of_find?_eq_some hq
      have hq2 := (ready_iff c out q).1 (List.find?_some hq)
      have := left_one hnd hq1 hq2.1
      refine go_topo hnd n (out ++ [q]) o (by omega) (fun pre x post e r hr ex y hy => ?_) h
      rcases List.eq_nil_or_concat post with hpo | ⟨post', z, hpo⟩
      · subst hpo
        obtain ⟨e1, e2⟩ := List.append_inj' e rfl
        have e3 : q = x := by simpa using e2
        rw [← e1]
        exact hq2.2 r hr (by rw [e3]; exact ex) y hy
      · subst hpo
        rw [List.concat_eq_append, ← List.cons_append, ← List.append_assoc] at e
        obtain ⟨e1, e2⟩ := List.append_inj' e rfl
        exact hp pre x post' e1 r hr ex y hy
theorem str_nodup {l : List Tx} (h : Str l) : l.Nodup := h.imp fun hlt e => by rw [e] at hlt; exact lt_irr _ hlt
theorem left_all (names : List Tx) : left names [] = names.length := by
  unfold left
  rw [List.filter_eq_self.2 (by simp)]
theorem order_iff (c : Cs) : (order c).isSome = true ↔ ∃ o, Topo c (names2 c) o := by
  unfold order
  rw [names_eq]
  have hnd := str_nodup (names2_str c)
  constructor
  · intro h
    obtain ⟨o, ho⟩ := Option.isSome_iff_exists.1 h
    exact ⟨o, go_topo hnd _ [] o (left_all _) (fun pre x post e => by simp at e) ho⟩
  · rintro ⟨o, ho⟩
    refine topo_go hnd (fun r hr y hy => ?_) ho _ [] (left_all _)
    rw [names2_mem, allN_eq, List.mem_append]
    exact .inr (List.mem_flatMap.2 ⟨r, hr, by unfold ruN; exact List.mem_append_left _ hy⟩)
/-- A rule more, without premises. -/
def more (c : Cs) (t : Th) (w : Int) : Cs := ⟨c.fs, c.rs ++ [⟨[], [], t, w⟩], c.ss⟩
theorem more_names (c : Cs) (t : Th) (w : Int) (x : Tx) : x ∈ allN (more c t w) ↔ x ∈ allN c ∨ x = t.n := by
  rw [allN_eq, allN_eq, List.mem_append, List.mem_append]
  simp only [more, List.flatMap_append, List.mem_append, List.flatMap_cons, List.flatMap_nil, ruN, nb, List.append_nil, List.map_nil, List.nil_append, List.mem_singleton, or_assoc]
theorem more_order {c : Cs} (t : Th) (w : Int) (h : (order c).isSome = true) : (order (more c t w)).isSome = true := by
  rw [order_iff] at h ⊢
  obtain ⟨o, h1, h2⟩ := h
  have hr : ∀ r ∈ (more c t w).rs, r ∈ c.rs ∨ nb r = [] := fun r hr => by
    rcases List.mem_append.1 hr with h | h
    · exact .inl h
    · rw [List.mem_singleton.1 h]; exact .inr rfl
  by_cases hin : t.n ∈ names2 c
  · refine ⟨o, fun x hx => ?_, fun pre x post e r hrm ex y hy => ?_⟩
    · rw [names2_mem, more_names, ← names2_mem] at hx
      rcases hx with hx | hx
      · exact h1 x hx
      · rw [hx]; exact h1 _ hin
    · rcases hr r hrm with h | h
      · exact h2 pre x post e r h ex y hy
      · rw [h] at hy; cases hy
  · refine ⟨t.n :: o, fun x hx => ?_, fun pre x post e r hrm ex y hy => ?_⟩
    · rw [names2_mem, more_names, ← names2_mem] at hx
      rcases hx with hx | hx
      · exact List.mem_cons_of_mem _ (h1 x hx)
      · rw [hx]; exact List.mem_cons_self ..
    · rcases hr r hrm with h | h
      · cases pre with
        | nil =>
          simp only [List.nil_append, List.cons.injEq] at e
          refine absurd ?_ hin
          rw [names2_mem, allN_eq, List.mem_append, e.1, ← ex]
          exact .inr (List.mem_flatMap.2 ⟨r, h, by unfold ruN; exact List.mem_append_right _ (List.mem_singleton.2 rfl)⟩)
        | cons a pre =>
          simp only [List.cons_append, List.cons.injEq] at e
          exact List.mem_cons_of_mem _ (h2 pre x post e.2 r h ex y hy)
      · rw [h] at hy; cases hy
/-- Fewer facts. -/
def less (c : Cs) (fs : List Th) : Cs := ⟨fs, c.rs, c.ss⟩
theorem less_order {c : Cs} {fs : List Th} (hs : ∀ t ∈ fs, t ∈ c.fs) (h : (order c).isSome = true) : (order (less c fs)).isSome = true := by
  rw [order_iff] at h ⊢
  obtain ⟨o, h1, h2⟩ := h
  refine ⟨o, fun x hx => h1 x ?_, h2⟩
  rw [names2_mem, allN_eq, List.mem_append] at hx ⊢
  refine hx.imp (fun hx => ?_) id
  obtain ⟨t, ht, rfl⟩ := List.mem_map.1 hx
  exact List.mem_map.2 ⟨t, hs t ht, rfl⟩
theorem more_fine {c : Cs} (h : Fine c) (t : Th) (w : Int) (ht : t.n ≠ []) (h1 : 1 ≤ w) (h2 : w ≤ 1000) (hl : (allN c).length ≤ 1000000) : Fine (more c t w) := by
  refine ⟨fun r hr => ?_, ?_, fun x hx => ?_, h.ss, fun r hr => ?_, more_order t w h.ord⟩
  · rcases List.mem_append.1 hr with h' | h'
    · exact h.ru r h'
    · rw [List.mem_singleton.1 h']; exact ⟨Nat.zero_le _, Nat.zero_le _⟩
  · have e : (allN (more c t w)).length = (allN c).length + 1 := by
      rw [allN_eq, allN_eq]
      simp [more, ruN, nb]; omega
    omega
  · rcases (more_names c t w x).1 hx with h' | h'
    · exact h.ne x h'
    · rw [h']; exact ht
  · rcases List.mem_append.1 hr with h' | h'
    · exact h.wt r h'
    · rw [List.mem_singleton.1 h']; exact ⟨h1, h2⟩
theorem less_fine {c : Cs} (h : Fine c) {fs : List Th} (hs : ∀ t ∈ fs, t ∈ c.fs) (hl : fs.length ≤ c.fs.length) : Fine (less c fs) := by
  refine ⟨h.ru, ?_, fun x hx => ?_, h.ss, h.wt, less_order hs h.ord⟩
  · have h2 := h.n
    rw [allN_eq, List.length_append, List.length_map] at h2 ⊢
    simp only [less]; omega
  · rw [allN_eq, List.mem_append] at hx
    refine h.ne x ?_
    rw [allN_eq, List.mem_append]
    refine hx.imp (fun hx => ?_) id
    obtain ⟨t, ht, rfl⟩ := List.mem_map.1 hx
    exact List.mem_map.2 ⟨t, hs t ht, rfl⟩
end Go.Bee.C23s
