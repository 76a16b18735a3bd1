/- Chapter 23: both orders come to the same. -/
import Derived.Test.YtkgjplamdmakpaaGreatDoorBeeOs
namespace Go.Bee.C23s
open Go Go.Bee Go.Bee.Ty Go.Bee.C23
set_option linter.unusedVariables false
abbrev Tx := List UInt8
theorem less_iff : ∀ a b : Tx, Op.bytesLess a b = true ↔ a < b
  | [], [] => by simp [Op.bytesLess]
  | [], _ :: _ => by simp [Op.bytesLess]
  | _ :: _, [] => by simp [Op.bytesLess]
  | a :: x, b :: y => by
    have ih := less_iff x y
    simp only [Op.bytesLess, List.cons_lt_cons_iff, Bool.or_eq_true, Bool.and_eq_true, decide_eq_true_eq, beq_iff_eq, ih]
def Str (l : List Tx) : Prop := l.Pairwise (· < ·)
theorem lt_irr (a : Tx) : ¬ a < a := List.lt_irrefl a
theorem lt_tr {a b c : Tx} (h : a < b) (k : b < c) : a < c := List.lt_trans h k
theorem lt_tot (a b : Tx) (h : ¬ a < b) (k : a ≠ b) : b < a := by
  have h1 := less_lt b a
  have h2 : Op.bytesLess a b = false := by
    cases e : Op.bytesLess a b
    · rfl
    · exact absurd ((less_iff a b).1 e) h
  rw [h2] at h1
  have h3 : (b == a) = false := by simpa using fun e => k e.symm
  rw [h3, Bool.or_false] at h1
  exact (less_iff b a).1 h1
/-- A strictly ascending list is told by its members. -/
theorem Str.eq : ∀ {l m : List Tx}, Str l → Str m → (∀ x, x ∈ l ↔ x ∈ m) → l = m
  | [], [], _, _, _ => rfl
  | [], b :: m, _, _, h => by have := (h b).2 (List.mem_cons_self ..); cases this
  | a :: l, [], _, _, h => by have := (h a).1 (List.mem_cons_self ..); cases this
  | a :: l, b :: m, h1, h2, h => by
    have p1 := List.pairwise_cons.1 h1
    have p2 := List.pairwise_cons.1 h2
    have e : a = b := by
      rcases List.mem_cons.1 ((h a).1 (List.mem_cons_self ..)) with e | e
      · exact e
      · rcases List.mem_cons.1 ((h b).2 (List.mem_cons_self ..)) with e2 | e2
        · exact e2.symm
        · exact absurd (lt_tr (p1.1 b e2) (p2.1 a e)) (lt_irr a)
    subst e
    congr 1
    refine Str.eq p1.2 p2.2 fun x => ⟨fun hx => ?_, fun hx => ?_⟩
    · rcases List.mem_cons.1 ((h x).1 (List.mem_cons_of_mem _ hx)) with e | e
      · subst e; exact absurd (p1.1 _ hx) (lt_irr _)
      · exact e
    · rcases List.mem_cons.1 ((h x).2 (List.mem_cons_of_mem _ hx)) with e | e
      · subst e; exact absurd (p2.1 _ hx) (lt_irr _)
      · exact e
theorem put_cons (a s : Tx) (l : List Tx) : put (a :: l) s = if a < s then a :: put l s else if a = s then a :: l else s :: a :: l := by
  by_cases h : a < s
  · have e : pos s (a :: l) = pos s l + 1 := by simp [pos, (less_iff a s).2 h]
    rw [if_pos h]
    unfold put
    rw [e]
    simp only [List.getElem?_cons_succ, List.take_succ_cons, List.drop_succ_cons, List.cons_append]
    split <;> rfl
  · have e : pos s (a :: l) = 0 := by
      have : Op.bytesLess a s = false := by
        cases e : Op.bytesLess a s
        · rfl
        · exact absurd ((less_iff a s).1 e) h
      simp [pos, this]
    rw [if_neg h]
    unfold put
    rw [e]
    simp
theorem put_mem (s x : Tx) : ∀ l : List Tx, x ∈ put l s ↔ x = s ∨ x ∈ l
  | [] => by simp [put, pos]
  | a :: l => by
    have ih := put_mem s x l
    rw [put_cons]
    split
    · rw [List.mem_cons, ih, List.mem_cons]
      constructor
      · rintro (h | h | h) <;> simp [h]
      · rintro (h | h | h) <;> simp [h]
    · split
      · rename_i h; subst h; simp
      · simp [List.mem_cons]
theorem put_str (s : Tx) : ∀ l : List Tx, Str l → Str (put l s)
  | [], _ => by simp [put, pos, Str]
  | a :: l, h => by
    have p := List.pairwise_cons.1 h
    have ih := put_str s l p.2
    rw [put_cons]
    split
    · rename_i hlt
      refine List.pairwise_cons.2 ⟨fun x hx => ?_, ih⟩
      rcases (put_mem s x l).1 hx with e | e
      · rw [e]; exact hlt
      · exact p.1 x e
    · split
      · exact h
      · rename_i h1 h2
        have h3 := lt_tot a s h1 h2
        refine List.pairwise_cons.2 ⟨fun x hx => ?_, h⟩
        rcases List.mem_cons.1 hx with e | e
        · rw [e]; exact h3
        · exact lt_tr h3 (p.1 x e)
theorem putT_str : ∀ (l : List Th) (o : List Tx), Str o → Str (putT o l)
  | [], o, h => h
  | t :: l, o, h => putT_str l (put o t.n) (put_str t.n o h)
theorem putT_mem (x : Tx) : ∀ (l : List Th) (o : List Tx), x ∈ putT o l ↔ x ∈ o ∨ x ∈ l.map Th.n
  | [], o => by simp [putT]
  | t :: l, o => by
    show x ∈ putT (put o t.n) l ↔ _
    rw [putT_mem x l, put_mem, List.map_cons, List.mem_cons]
    constructor
    · rintro ((h | h) | h) <;> simp [h]
    · rintro (h | h | h) <;> simp [h]
theorem putR_str (o : List Tx) (r : Ru) (h : Str o) : Str (putR o r) := putT_str _ _ (putT_str _ _ (put_str _ _ h))
theorem putR_mem (x : Tx) (o : List Tx) (r : Ru) : x ∈ putR o r ↔ x ∈ o ∨ x ∈ ruN r := by
  unfold putR ruN nb
  rw [putT_mem, putT_mem, put_mem]
  simp only [List.mem_append, List.map_append, List.mem_singleton, List.mem_cons, List.not_mem_nil, or_false]
  constructor
  · rintro (((h | h) | h) | h) <;> simp only [h, true_or, or_true]
  · rintro (h | (h | h) | h) <;> simp only [h, true_or, or_true]
theorem putRs_str : ∀ (l : List Ru) (o : List Tx), Str o → Str (l.foldl putR o)
  | [], o, h => h
  | r :: l, o, h => putRs_str l (putR o r) (putR_str o r h)
theorem putRs_mem (x : Tx) : ∀ (l : List Ru) (o : List Tx), x ∈ l.foldl putR o ↔ x ∈ o ∨ x ∈ l.flatMap ruN
  | [], o => by simp
  | r :: l, o => by
    rw [List.foldl_cons, putRs_mem x l, putR_mem, List.flatMap_cons, List.mem_append, or_assoc]
theorem names2_str (c : Cs) : Str (names2 c) := putRs_str _ _ (putT_str _ _ List.Pairwise.nil)
theorem names2_mem (c : Cs) (x : Tx) : x ∈ names2 c ↔ x ∈ allN c := by
  unfold names2
  rw [putRs_mem, putT_mem, allN_eq, List.mem_append]
  simp
theorem compact_up (d : List Tx) (hd : d.Pairwise (· ≤ ·)) : ∀ m, m ≤ d.length → Str (Lib.compactUpTo d.toArray m) ∧ ∀ x, x ∈ Lib.compactUpTo d.toArray m ↔ x ∈ d.take m
  | 0, _ => by simp [Lib.compactUpTo, Str]
  | m + 1, hm => by
    obtain ⟨h1, h2⟩ := compact_up d hd m (by omega)
    rw [Lib.compactUpTo_succ, List.take_succ_eq_append_getElem (by omega)]
    have e : d.toArray[m]! = d[m] := by rw [getElem!_pos _ m (by simp; omega)]; simp
    rw [e]
    cases m with
    | zero => simp [Lib.compactUpTo, Lib.keeps, Str]
    | succ j =>
      have e2 : d.toArray[j]! = d[j] := by rw [getElem!_pos _ j (by simp; omega)]; simp
      have hle : ∀ x ∈ d.take (j + 1), x ≤ d[j] := fun x hx => by
        obtain ⟨i, hi, rfl⟩ := List.mem_take_iff_getElem.1 hx
        rcases Nat.lt_or_ge i j with h | h
        · exact List.pairwise_iff_getElem.1 hd i j (by omega) (by omega) h
        · have : i = j := by omega
          subst this; exact List.le_refl _
      have hstep : d[j] ≤ d[j + 1] := List.pairwise_iff_getElem.1 hd j (j + 1) (by omega) (by omega) (by omega)
      by_cases hk : d[j + 1] = d[j]
      · have : Lib.keeps d.toArray (j + 1) = false := by simp [Lib.keeps, e, e2, hk]
        rw [this]
        simp only [Bool.false_eq_true, if_false, List.append_nil]
        refine ⟨h1, fun x => ?_⟩
        rw [h2, List.mem_append]
        constructor
        · exact .inl
        · rintro (h | h)
          · exact h
          · rw [List.mem_singleton.1 h, hk]; exact List.mem_take_iff_getElem.2 ⟨j, by omega, rfl⟩
      · have : Lib.keeps d.toArray (j + 1) = true := by simp [Lib.keeps, e, e2, hk]
        rw [this]
        simp only [if_true]
        have hlt : d[j] < d[j + 1] := lt_tot _ _ (fun h => hstep h) hk
        refine ⟨List.pairwise_append.2 ⟨h1, by simp, fun a ha b hb => ?_⟩, fun x => ?_⟩
        · rw [List.mem_singleton.1 hb]
          have := hle a ((h2 a).1 ha)
          by_cases hq : a = d[j]
          · rw [hq]; exact hlt
          · exact lt_tr (lt_tot _ _ (fun h => this h) (fun e => hq e.symm)) hlt
        · rw [List.mem_append, h2, List.mem_append]
theorem srt_str (zs : List Tx) : Str (srt zs) ∧ ∀ x, x ∈ srt zs ↔ x ∈ zs := by
  have hp : (zs.mergeSort fun x y => decide (x ≤ y)).Pairwise (· ≤ ·) := by
    have := List.pairwise_mergeSort (le := fun x y : Tx => decide (x ≤ y)) (fun a b c h1 h2 => by simp only [decide_eq_true_eq] at *; exact List.le_trans h1 h2) (fun a b => by simp only [Bool.or_eq_true, decide_eq_true_eq]; exact List.le_total a b) zs
    exact this.imp fun h => by simpa using h
  have := compact_up _ hp _ (Nat.le_refl _)
  refine ⟨this.1, fun x => ?_⟩
  have h2 := this.2 x
  rw [List.take_length] at h2
  exact h2.trans List.mem_mergeSort
theorem names_eq (c : Cs) : srt (allN c) = names2 c := Str.eq (srt_str _).1 (names2_str c) fun x => by rw [(srt_str _).2, names2_mem]
theorem ready_ne {c : Cs} {names out : List Tx} (h : ∀ x ∈ names, x ≠ []) : names.find? (readyS c out) = names.find? (ready c out) := by
  induction names with
  | nil => rfl
  | cons a l ih =>
    rw [List.find?_cons, List.find?_cons]
    have : readyS c out a = ready c out a := by
      have := h a (List.mem_cons_self ..)
      unfold readyS
      cases a with
      | nil => exact absurd rfl this
      | cons b t => simp
    rw [this, ih fun x hx => h x (List.mem_cons_of_mem _ hx)]
theorem go_eq {c : Cs} {names : List Tx} (h : ∀ x ∈ names, x ≠ []) : ∀ (n : Nat) (out : List Tx), (∀ o, goO c names n out = some o → goS c names n out = o ∧ o.length = out.length + n) ∧ (goO c names n out = none → (goS c names n out).length < out.length + n)
  | 0, out => ⟨fun o ho => by simp [goO] at ho; subst ho; exact ⟨rfl, rfl⟩, fun ho => by simp [goO] at ho⟩
  | n + 1, out => by
    unfold goO goS
    rw [ready_ne h]
    cases names.find? (ready c out) with
    | none => exact ⟨fun o ho => by simp at ho, fun _ => by dsimp only; omega⟩
    | some x =>
      dsimp only
      obtain ⟨h1, h2⟩ := go_eq h n (out ++ [x])
      simp only [List.length_append, List.length_cons, List.length_nil] at h1 h2
      exact ⟨fun o ho => by obtain ⟨a, b⟩ := h1 o ho; exact ⟨a, by omega⟩, fun ho => by have := h2 ho; omega⟩
theorem vName_ne {s : Tx} (h : vName s = true) : s ≠ [] := fun e => by subst e; simp [vName, headOk] at h
theorem head_names {c : Cs} (h : head c = true) : ∀ x ∈ allN c, vName x = true := by
  simp only [head, Bool.and_eq_true, List.all_eq_true] at h
  obtain ⟨⟨⟨⟨⟨h1, h2⟩, h3⟩, h4⟩, h5⟩, h6⟩ := h
  intro x hx
  rw [allN_eq, List.mem_append] at hx
  rcases hx with hx | hx
  · obtain ⟨t, ht, rfl⟩ := List.mem_map.1 hx
    exact (thOk_all h1).2 t ht
  · obtain ⟨r, hr, hx⟩ := List.mem_flatMap.1 hx
    have := h5 r hr
    simp only [ruOk, Bool.and_eq_true] at this
    simp only [ruN, nb, List.mem_append, List.map_append, List.mem_map, List.mem_singleton, List.mem_cons, List.not_mem_nil, or_false] at hx
    rcases hx with (⟨t, ht, rfl⟩ | ⟨t, ht, rfl⟩) | rfl
    · exact (thOk_all this.1.1.1).2 t ht
    · exact (thOk_all this.1.1.2).2 t ht
    · exact this.1.2
theorem order_eq (c : Cs) (h : head c = true) : okI c = okS c ∧ ∀ o, order c = some o → orderS c = o := by
  have hne : ∀ x ∈ names2 c, x ≠ [] := fun x hx => vName_ne (head_names h x ((names2_mem c x).1 hx))
  have hg := go_eq (c := c) hne (names2 c).length []
  unfold okI okS order orderS
  rw [names_eq]
  simp only [List.length_nil, Nat.zero_add] at hg
  cases ho : goO c (names2 c) (names2 c).length [] with
  | none =>
    have := hg.2 ho
    refine ⟨?_, fun o e => by cases e⟩
    have h2 : ((goS c (names2 c) (names2 c).length []).length == (names2 c).length) = false := by simp; omega
    rw [h2]; rfl
  | some o =>
    obtain ⟨a, b⟩ := hg.1 o ho
    refine ⟨?_, fun o' e => by cases e; exact a⟩
    rw [a, b]; simp
theorem valid_eq (c : Cs) : (head c && okI c) = (head c && okS c) := by
  cases h : head c
  · rfl
  · rw [(order_eq c h).1]
end Go.Bee.C23s
