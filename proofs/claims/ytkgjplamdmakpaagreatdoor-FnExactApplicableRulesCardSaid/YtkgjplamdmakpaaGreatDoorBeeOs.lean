/- Chapter 23: the order of decisions and a valid case, as the model reckons them. -/
import Derived.Test.YtkgjplamdmakpaaGreatDoorBeeVc
namespace Go.Bee.C23s
open Go Go.Bee Go.Proofs Go.Bee.Ty Go.Bee.C23
set_option linter.unusedVariables false
set_option maxRecDepth 20000
attribute [local irreducible] Go.Bee.bwp vName
def readyS (c : Cs) (out : List (List UInt8)) (x : List UInt8) : Bool := ready c out x && !x.isEmpty
def goS (c : Cs) (names : List (List UInt8)) : Nat → List (List UInt8) → List (List UInt8)
  | 0, out => out
  | n + 1, out => match names.find? (readyS c out) with
    | none => out
    | some x => goS c names n (out ++ [x])
def orderS (c : Cs) : List (List UInt8) := goS c (names2 c) (names2 c).length []
def left (names out : List (List UInt8)) : Nat := (names.filter fun x => !out.contains x).length
theorem left_go {names out : List (List UInt8)} {x : List UInt8} (hx : x ∈ names) (ho : out.contains x = false) : left names (out ++ [x]) < left names out := by
  unfold left
  induction names with
  | nil => simp at hx
  | cons a l ih =>
    have hle : (l.filter fun y => !(out ++ [x]).contains y).length ≤ (l.filter fun y => !out.contains y).length := by
      have : (l.filter fun y => !(out ++ [x]).contains y) = (l.filter fun y => !out.contains y).filter fun y => !(out ++ [x]).contains y := by
        rw [List.filter_filter]
        congr 1
        funext y
        simp
        intro h1 h2; exact h1
      rw [this]; exact List.length_filter_le _ _
    rw [List.filter_cons, List.filter_cons]
    by_cases e : a = x
    · subst e
      rw [if_neg (by simp), if_pos (by simpa using ho)]
      simp only [List.length_cons]; omega
    · have ih := ih ((List.mem_cons.1 hx).resolve_left fun h => e h.symm)
      by_cases h : out.contains a = true
      · rw [if_neg (by simp at h; simp [h]), if_neg (by simp at h; simp [h])]; exact ih
      · have h2 : (out ++ [x]).contains a = false := by
          simp at h ⊢
          exact ⟨h, e⟩
        rw [if_pos (by rw [h2]; rfl), if_pos (by simpa using h)]
        simp only [List.length_cons]; omega
theorem left_none {c : Cs} {names out : List (List UInt8)} (h : left names out = 0) : names.find? (readyS c out) = none := by
  rw [List.find?_eq_none]
  intro x hx
  have h0 := List.length_eq_zero_iff.1 h
  have := List.filter_eq_nil_iff.1 h0 x hx
  simp at this
  simp [readyS, ready, this]
theorem goS_fix {c : Cs} {names : List (List UInt8)} : ∀ (n : Nat) (out : List (List UInt8)), names.find? (readyS c out) = none → goS c names n out = out
  | 0, out, _ => rfl
  | n + 1, out, h => by simp [goS, h]
theorem idx_step1 {p : List UInt8 → Bool} {l : List (List UInt8)} {k : Nat} (hk : k < l.length) : (l.drop k).find? p = if p l[k] = true then some l[k] else (l.drop (k + 1)).find? p := by
  rw [List.drop_eq_getElem_cons hk, List.find?_cons]
  cases p l[k] <;> simp
theorem l23Order_b (c : Cs) (hN : (allN c).length ≤ 1048576) (h : ∀ r ∈ c.rs, RuOk r) (hn : (names2 c).length ≤ 1048576) : BRet Tryz.prog 70 [] [.agg [.d (.sl 2 (c.fs.map Th.e)), .d (.sl 5 (c.rs.map Ru.e)), .d (.sl 2 (c.ss.map Sd.e))]] (.own 9 1 ((orderS c).map .str)) [] := by
  refine bofW Tryz.func70 ?_
  refine bgo ?_
  refine b_call (l23Names_b c hN h) rfl rfl rfl rfl ?_
  generalize ho : orderS c = res
  unfold orderS at ho
  generalize names2 c = names at ho hn ⊢
  refine bgo ?_
  refine b_lp (ι := Nat × List (List UInt8)) (fun i => [(1, .ptr (.t 1) 0), (3, .d (.sl 1 (names.map .str))), (4, .own 9 1 (i.2.map .str))]) (fun _ => [(.t 1, [.d (.sl 2 (c.fs.map Th.e)), .d (.sl 5 (c.rs.map Ru.e)), .d (.sl 2 (c.ss.map Sd.e))])])
    (fun i => goS c names i.1 i.2 = res ∧ left names i.2 ≤ i.1 ∧ i.1 + i.2.length ≤ names.length) (fun i => i.1) (names.length, []) hs ⟨ho, List.length_filter_le _ _, by simp⟩ ?_
  clear ho
  rintro ⟨m, out⟩ ⟨hgo, hlf, hlen⟩ I nx
  dsimp only at hgo hlf hlen ⊢
  have hout : out.length ≤ 1048576 := by omega
  refine bgo ?_
  refine b_lp (ι := Nat × List UInt8) (fun i => [(1, .ptr (.t 1) 0), (3, .d (.sl 1 (names.map .str))), (4, .own 9 1 (out.map .str)), (5, .str i.2), (6, .int i.1)]) (fun _ => [(.t 1, [.d (.sl 2 (c.fs.map Th.e)), .d (.sl 5 (c.rs.map Ru.e)), .d (.sl 2 (c.ss.map Sd.e))])])
    (fun i => i.1 ≤ names.length ∧ ((i.2 = [] ∧ (names.drop i.1).find? (readyS c out) = names.find? (readyS c out)) ∨ (i.2 ≠ [] ∧ names.find? (readyS c out) = some i.2))) (fun i => names.length - i.1) (0, []) hs ⟨Nat.zero_le _, .inl ⟨rfl, rfl⟩⟩ ?_
  rintro ⟨k, x⟩ ⟨hk, hj⟩ I2 nx2
  dsimp only at hk hj ⊢
  rcases hj with ⟨rfl, hj⟩ | ⟨hx0, hj⟩
  · by_cases hlt : k < names.length
    · have hx : names[k]? = some names[k] := List.getElem?_eq_getElem hlt
      rw [idx_step1 hlt] at hj
      clear nx hgo hlf hlen
      refine bgo ?_
      refine b_call (l5Has_b out names[k]) rfl rfl rfl rfl ?_
      cases q1 : out.contains names[k]
      · refine bgo ?_
        refine b_call (l23Ready_b c h names[k] out) rfl rfl rfl rfl ?_
        cases q2 : !c.rs.any (waits out names[k])
        · have hr : readyS c out names[k] = false := by simp only [readyS, ready, q1, q2, Bool.and_false, Bool.false_and]
          rw [hr] at hj
          clear hr
          refine bgo ?_
          exact nx2.go (k + 1, []) ⟨hlt, .inl ⟨rfl, hj⟩⟩ (by dsimp only; omega) hs
        · have hr : readyS c out names[k] = !names[k].isEmpty := by simp only [readyS, ready, q1, q2, Bool.not_false, Bool.true_and]
          rw [hr] at hj
          clear hr
          refine bgo ?_
          refine nx2.go (k + 1, names[k]) ⟨hlt, ?_⟩ (by dsimp only; omega) hs
          dsimp only
          by_cases he : names[k] = []
          · rw [he] at hj ⊢; exact .inl ⟨rfl, hj⟩
          · exact .inr ⟨he, by rw [← hj, if_pos (by simpa using he)]⟩
      · have hr : readyS c out names[k] = false := by simp only [readyS, ready, q1, Bool.not_true, Bool.false_and]
        rw [hr] at hj
        clear hr
        refine bgo ?_
        exact nx2.go (k + 1, []) ⟨hlt, .inl ⟨rfl, hj⟩⟩ (by dsimp only; omega) hs
    · have hk' : k = names.length := by omega
      subst hk'
      rw [List.drop_length] at hj
      have hres : goS c names m out = out := goS_fix m out hj.symm
      rw [hres] at hgo
      clear hj hres nx2
      subst hgo
      refine bgo ?_
      refine wk_rfl ?_
      refine bgo ?_
      refine wk_rfl ?_
      refine bgo ?_
      trivial
  · have hxe : (x == []) = false := by simpa using hx0
    have hm : m ≠ 0 := fun e => by subst e; rw [left_none (by omega)] at hj; cases hj
    obtain ⟨m', rfl⟩ : ∃ m', m = m' + 1 := ⟨m - 1, by omega⟩
    have hg2 : goS c names m' (out ++ [x]) = res := by rw [← hgo]; simp [goS, hj]
    have hmem : x ∈ names := List.mem_of_find?_eq_some hj
    have hrd : readyS c out x = true := List.find?_some hj
    have hnc : out.contains x = false := by simp only [readyS, ready, Bool.and_eq_true, Bool.not_eq_true'] at hrd; exact hrd.1.1
    have hl2 := left_go hmem hnc
    clear hgo hj hrd hmem hnc nx2
    refine bgo ?_
    refine ⟨fun _ => ?_, fun _ => ?_⟩
    all_goals
      refine wk_mk [(1, .ptr (.t 1) 0), (3, .d (.sl 1 (names.map .str))), (4, .own 9 1 (out.map .str)), (5, .str x)] [(.t 1, [.d (.sl 2 (c.fs.map Th.e)), .d (.sl 5 (c.rs.map Ru.e)), .d (.sl 2 (c.ss.map Sd.e))])] hs ?_
      refine bgo ?_
      exact nx.go (m', out ++ [x]) ⟨hg2, by dsimp only; omega, by simp; omega⟩ (by dsimp only; omega) hs
theorem put_le (c : Cs) (hN : (allN c).length ≤ 1048576) : (names2 c).length ≤ 1048576 := by
  have h1 := putRs_len c.rs (putT [] c.fs)
  have h2 := putT_len c.fs []
  rw [allN_eq, List.length_append, List.length_map] at hN
  unfold names2
  simp only [List.length_nil] at h2
  omega
def okS (c : Cs) : Bool := (orderS c).length == (names2 c).length
theorem goS_len (c : Cs) (names : List (List UInt8)) : ∀ (n : Nat) (out : List (List UInt8)), (goS c names n out).length ≤ out.length + n
  | 0, out => Nat.le_refl _
  | n + 1, out => by
    unfold goS
    split
    · omega
    · have := goS_len c names n (out ++ [‹_›])
      simp at this; omega
theorem l23Good_b (c : Cs) : BRet Tryz.prog 62 [] [.agg [.d (.sl 2 (c.fs.map Th.e)), .d (.sl 5 (c.rs.map Ru.e)), .d (.sl 2 (c.ss.map Sd.e))]] (.bool (head c && okS c)) [] := by
  refine BRet.alen 0 0 (by kernel_rfl) rfl rfl fun hl0 => ?_
  refine BRet.alen 0 1 (by kernel_rfl) rfl rfl fun hl1 => ?_
  refine BRet.alen 0 2 (by kernel_rfl) rfl rfl fun hl2 => ?_
  refine bof Tryz.func62 ?_
  simp only [List.length_map] at hl0 hl1 hl2
  have hbad : head c = false → (head c && okS c) = false := fun h => by rw [h]; rfl
  have hgood : head c = true → (head c && okS c) = okS c := fun h => by rw [h]; rfl
  generalize (head c && okS c) = res at *
  refine bgo ?_
  refine b_call (l23Theses_b _ _) rfl rfl rfl rfl ?_
  cases h1 : thOk c.fs 12
  · rw [hbad (by simp [head, h1])]
    clear hgood hbad
    refine bgo ?_
    trivial
  by_cases h2 : (c.rs.length : Int) > 10
  · rw [hbad (by simp only [head, decide_eq_false (show ¬ (c.rs.length : Int) ≤ 10 by omega), Bool.and_false, Bool.false_and])]
    clear hgood hbad
    refine bgo ?_
    trivial
  by_cases h3 : (c.ss.length : Int) > 12
  · rw [hbad (by simp only [head, decide_eq_false (show ¬ (c.ss.length : Int) ≤ 12 by omega), Bool.and_false, Bool.false_and])]
    clear hgood hbad
    refine bgo ?_
    trivial
  have hh : head c = (nd c.fs && c.rs.all ruOk && sdOk c.ss) := by
    unfold head; rw [h1, decide_eq_true (show (c.rs.length : Int) ≤ 10 by omega), decide_eq_true (show (c.ss.length : Int) ≤ 12 by omega)]; simp only [Bool.true_and]
  have hal := allN_len c
  rw [hh] at hbad hgood hal
  clear hh h1
  refine bgo ?_
  refine b_lp (ι := Nat) (fun k => [(1, .ptr (.t 1) 0), (3, .int k)]) (fun _ => [(.t 1, [.d (.sl 2 (c.fs.map Th.e)), .d (.sl 5 (c.rs.map Ru.e)), .d (.sl 2 (c.ss.map Sd.e))])])
    (fun k => k ≤ c.fs.length ∧ rall (nd1 c.fs) k = true) (fun k => c.fs.length - k) 0 hs ⟨Nat.zero_le _, rfl⟩ ?_
  rintro k ⟨hk, hj⟩ I nx
  by_cases hlt : k < c.fs.length
  · have hx : c.fs[k]? = some c.fs[k] := List.getElem?_eq_getElem hlt
    have hp := nd1_at hlt
    have hstep := rall_step (p := nd1 c.fs) (k := k) hj
    have hb2 : nd1 c.fs k = false → res = false := fun h => hbad (by unfold nd; rw [rall_bad hlt h]; rfl)
    clear hgood hal hj hbad
    rw [hp] at hstep hb2
    clear hp
    refine bgo ?_
    refine b_lp (ι := Nat) (fun j => [(1, .ptr (.t 1) 0), (3, .int k), (4, .int j)]) (fun _ => [(.t 1, [.d (.sl 2 (c.fs.map Th.e)), .d (.sl 5 (c.rs.map Ru.e)), .d (.sl 2 (c.ss.map Sd.e))])])
      (fun j => j ≤ k ∧ ((c.fs.take j).any fun o => o.n == c.fs[k].n) = false) (fun j => k - j) 0 hs ⟨Nat.zero_le _, rfl⟩ ?_
    rintro j ⟨hjk, hj⟩ I2 nx2
    by_cases hjt : j < k
    · have hy : c.fs[j]? = some c.fs[j] := List.getElem?_eq_getElem (by omega)
      clear hstep
      by_cases he : c.fs[j].n = c.fs[k].n
      · have : res = false := hb2 (by
          have : ((c.fs.take k).any fun o => o.n == c.fs[k].n) = true := List.any_eq_true.2 ⟨c.fs[j], List.mem_take_iff_getElem.2 ⟨j, by omega, rfl⟩, by simp [he]⟩
          rw [this]; rfl)
        subst this
        clear hb2 hj
        refine bgo ?_
        trivial
      · have hj2 : ((c.fs.take (j + 1)).any fun o => o.n == c.fs[k].n) = false := by
          rw [List.take_succ_eq_append_getElem (by omega), List.any_append, hj]; simp [he]
        clear hb2 hj
        refine bgo ?_
        exact nx2.go (j + 1) ⟨hjt, hj2⟩ (by omega) hs
    · have hjk' : j = k := by omega
      subst hjk'
      have := hstep (by rw [hj]; rfl)
      clear hstep hb2 hj nx2
      refine bgo ?_
      refine wk_rfl ?_
      refine bgo ?_
      exact nx.go (j + 1) ⟨hlt, this⟩ (by omega) hs
  have hk' : k = c.fs.length := by omega
  subst hk'
  have hnd : nd c.fs = true := hj
  rw [hnd, Bool.true_and] at hbad hgood hal
  clear hj hnd hlt hk nx
  refine bgo ?_
  refine wk_rfl ?_
  refine bgo ?_
  refine b_lp (ι := Nat) (fun k => [(1, .ptr (.t 1) 0), (5, .int k)]) (fun _ => [(.t 1, [.d (.sl 2 (c.fs.map Th.e)), .d (.sl 5 (c.rs.map Ru.e)), .d (.sl 2 (c.ss.map Sd.e))])])
    (fun k => k ≤ c.rs.length ∧ (c.rs.take k).all ruOk = true) (fun k => c.rs.length - k) 0 hs ⟨Nat.zero_le _, rfl⟩ ?_
  clear I
  rintro k ⟨hk, hj⟩ I nx
  by_cases hlt : k < c.rs.length
  · have hx : c.rs[k]? = some c.rs[k] := List.getElem?_eq_getElem hlt
    have hstep := all_step (p := ruOk) hlt hj
    have hb2 : ruOk c.rs[k] = false → res = false := fun h => hbad (by rw [all_bad hlt h]; rfl)
    clear hgood hal hj hbad
    refine bgo ?_
    refine b_call (l23Theses_b _ _) rfl rfl rfl rfl ?_
    cases q1 : thOk c.rs[k].ps 4
    · rw [hb2 (by simp [ruOk, q1])]
      clear hstep hb2
      refine bgo ?_
      trivial
    refine bgo ?_
    refine b_call (l23Theses_b _ _) rfl rfl rfl rfl ?_
    cases q2 : thOk c.rs[k].es 4
    · rw [hb2 (by simp [ruOk, q2])]
      clear hstep hb2
      refine bgo ?_
      trivial
    refine bgo ?_
    refine b_call (l5Name_b _) rfl rfl rfl rfl ?_
    cases q3 : vName c.rs[k].c.n
    · rw [hb2 (by simp [ruOk, q3])]
      clear hstep hb2
      refine bgo ?_
      trivial
    refine bgo ?_
    refine b_call (l1In_b _ _ _) rfl rfl rfl rfl ?_
    cases q4 : inB c.rs[k].wt 1 1000
    · rw [hb2 (by simp [ruOk, q4])]
      clear hstep hb2
      refine bgo ?_
      trivial
    have := hstep (by simp [ruOk, q1, q2, q3, q4])
    clear hstep hb2
    refine bgo ?_
    exact nx.go (k + 1) ⟨hlt, this⟩ (by omega) hs
  have hk' : k = c.rs.length := by omega
  subst hk'
  rw [List.take_length] at hj
  rw [hj, Bool.true_and] at hbad hgood hal
  clear hj hlt hk nx
  refine bgo ?_
  refine wk_rfl ?_
  refine bgo ?_
  refine b_lp (ι := Nat) (fun k => [(1, .ptr (.t 1) 0), (7, .int k)]) (fun _ => [(.t 1, [.d (.sl 2 (c.fs.map Th.e)), .d (.sl 5 (c.rs.map Ru.e)), .d (.sl 2 (c.ss.map Sd.e))])])
    (fun k => k ≤ c.ss.length ∧ rall (sdOk1 c.ss) k = true) (fun k => c.ss.length - k) 0 hs ⟨Nat.zero_le _, rfl⟩ ?_
  clear I
  rintro k ⟨hk, hj⟩ I nx
  by_cases hlt : k < c.ss.length
  · have hx : c.ss[k]? = some c.ss[k] := List.getElem?_eq_getElem hlt
    have hp := sdOk1_at hlt
    have hstep := rall_step (p := sdOk1 c.ss) (k := k) hj
    have hb2 : sdOk1 c.ss k = false → res = false := fun h => hbad (by unfold sdOk; rw [rall_bad hlt h])
    clear hgood hal hj hbad
    refine bgo ?_
    refine b_call (l5Name_b _) rfl rfl rfl rfl ?_
    cases q1 : vName c.ss[k].n
    · rw [hb2 (by rw [hp, q1]; rfl)]
      clear hstep hb2 hp
      refine bgo ?_
      trivial
    refine bgo ?_
    refine b_call (l1In_b _ _ _) rfl rfl rfl rfl ?_
    cases q2 : inB c.ss[k].k 1 4
    · rw [hb2 (by rw [hp, q1, q2]; rfl)]
      clear hstep hb2 hp
      refine bgo ?_
      trivial
    rw [q1, q2] at hp
    cases k with
    | zero =>
      have := hstep (by rw [hp]; rfl)
      clear hstep hb2 hp
      refine bgo ?_
      exact nx.go 1 ⟨hlt, this⟩ (by omega) hs
    | succ j =>
      have hp2 : sdOk1 c.ss (j + 1) = Op.bytesLess c.ss[j].n c.ss[j + 1].n := by rw [hp]; simp
      have hy : c.ss[j]? = some c.ss[j] := List.getElem?_eq_getElem (by omega)
      have e0 : ((j + 1 : Nat) : Int) > 0 := by omega
      have e1 : ((j + 1 : Nat) : Int) - 1 = j := by omega
      cases q3 : Op.bytesLess c.ss[j].n c.ss[j + 1].n
      · rw [hb2 (by rw [hp2, q3])]
        clear hstep hb2 hp hp2
        refine bgo ?_
        trivial
      · have := hstep (by rw [hp2, q3])
        clear hstep hb2 hp hp2
        refine bgo ?_
        exact nx.go (j + 2) ⟨hlt, this⟩ (by omega) hs
  have hk' : k = c.ss.length := by omega
  subst hk'
  have hsd : sdOk c.ss = true := hj
  have hres := hgood hsd
  obtain ⟨hr, hN⟩ := hal hsd
  subst hres
  clear hj hsd hlt hk nx hbad hgood hal
  have hn2 := put_le c hN
  have hol : (orderS c).length ≤ 1048576 := by
    have := goS_len c (names2 c) (names2 c).length []
    unfold orderS; simp at this; omega
  refine bgo ?_
  refine wk_rfl ?_
  refine bgo ?_
  refine b_call (l23Order_b c hN hr hn2) rfl rfl rfl rfl ?_
  refine bgo ?_
  refine b_call (l23Names_b c hN hr) rfl rfl rfl rfl ?_
  refine bgo ?_
  have : (((orderS c).length : Int) == ((names2 c).length : Int)) = okS c := by
    unfold okS
    rw [Bool.eq_iff_iff]; simp; omega
  rw [this]
end Go.Bee.C23s
