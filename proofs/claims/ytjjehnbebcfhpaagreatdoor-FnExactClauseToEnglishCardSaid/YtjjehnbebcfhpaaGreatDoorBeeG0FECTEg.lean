/-
The logic and the walks, part 7. No condition.
-/
import Derived.Test.YtjjehnbebcfhpaaGreatDoorBeeG0FECTEf
/- Contracts: the English of a clause, the law. -/
namespace Go.Bee.C24x
open Go Go.Bee Go.Proofs Go.Bee.Ty Go.Bee.C23 Go.Bee.C23s Go.Bee.Da Go.Bee.C24 Go.Bee.C24c Go.Bee.C24d Go.Bee.C24n Go.Bee.Cn
set_option linter.unusedVariables false
set_option maxRecDepth 20000
attribute [local irreducible] Go.Bee.bwp
theorem decimal_b (n : Int) (h0 : 0 ≤ n) (h1 : n ≤ 1000000000) : BRet Tryz.prog 61 [] [.int n] (.str (num n)) [] := by
  have hi := itoaN_b n h0 (by omega)
  generalize num n = t at *
  refine bof Tryz.func61 ?_
  refine bgo ?_
  refine b_call hi rfl rfl rfl rfl ?_
  refine bgo ?_
  trivial
/-- What a valid contract's clause is. -/
structure ClF (ps : List Tx) (x : Cl) : Prop where
  id : x.id.length ≤ 8
  a : x.a.length ≤ 8
  rp : x.rp.length ≤ 8
  k : 1 ≤ x.k ∧ x.k ≤ 4
  k3 : x.k = 3 → x.rp = []
  p : 0 ≤ x.p ∧ x.p < ps.length
  o : 0 ≤ x.o ∧ x.o < ps.length
  nm8 : ∀ q ∈ ps, q.length ≤ 8
  pl : ps.length ≤ 4
  w : forms x.w = true ∧ x.w.size ≤ 15
  am : 0 ≤ x.am ∧ x.am ≤ 1000000
  wi : 0 ≤ x.wi ∧ x.wi ≤ 400
theorem find_eq (l : List Cl) (s : Tx) (m : Nat) (h : find l s = m) : ∃ y, l[m]? = some y ∧ y.id = s := by
  unfold find at h
  rcases idx_find (fun x : Cl => x.id == s) l 0 with ⟨h1, -⟩ | ⟨i, h1, h2, h3⟩
  · rw [h1] at h; omega
  · rw [h1] at h
    obtain rfl : i = m := by omega
    rw [List.getElem?_eq_getElem h2] at h3
    have := List.find?_some h3.symm
    exact ⟨_, List.getElem?_eq_getElem h2, by simpa using this⟩
theorem ClF.of {c : Ct} (h : ctOk c = true) {i : Nat} {x : Cl} (hx : c.cs[i]? = some x) : ClF c.ps x := by
  unfold ctOk at h
  simp only [Bool.and_eq_true] at h
  obtain ⟨⟨⟨h1, h2⟩, h3⟩, h4⟩ := h
  have hc := cls_at h3 hx
  have hc0 := hc
  unfold clOk at hc
  simp only [Bool.and_eq_true, decide_eq_true_eq] at hc
  obtain ⟨⟨⟨⟨⟨⟨q1, q2⟩, q3⟩, q4⟩, ⟨⟨⟨q5, q6⟩, q7⟩, q8⟩⟩, ⟨⟨q9, q10⟩, q11⟩⟩, q12⟩ := hc
  unfold inB at q4 q5 q6 q9 q10
  simp only [Bool.and_eq_true, decide_eq_true_eq] at q4 q5 q6 q9 q10
  have hpl : c.ps.length ≤ 4 := by
    have h5 := h1
    unfold parOk inB at h5
    simp only [Bool.and_eq_true, decide_eq_true_eq] at h5
    omega
  have hrp : x.rp.length ≤ 8 ∧ (x.k = 3 → x.rp = []) := by
    unfold repOk at q12
    by_cases hr : x.rp = []
    · rw [hr]; exact ⟨by simp, fun _ => rfl⟩
    · have he : x.rp.isEmpty = false := by cases hh : x.rp <;> simp_all
      rw [he, Bool.false_or] at q12
      simp only [Bool.and_eq_true, decide_eq_true_eq] at q12
      obtain ⟨⟨⟨r1, r2⟩, r3⟩, r4⟩ := q12
      refine ⟨?_, fun hk => absurd hk r1⟩
      rcases find_in c.cs x.rp with hm | ⟨m, hm, -⟩
      · omega
      · obtain ⟨y, hy, hye⟩ := find_eq c.cs x.rp m hm
        have hyc := cls_at h3 hy
        unfold clOk at hyc
        simp only [Bool.and_eq_true] at hyc
        rw [← hye]
        exact (vName_len hyc.1.1.1.1.1.1).2
  refine ⟨(vName_len q1).2, (vName_len q3).2, hrp.1, by omega, hrp.2, by omega, by omega, fun q hq => ?_, hpl, okCd_in q8, by omega, by omega⟩
  obtain ⟨j, hj, rfl⟩ := List.mem_iff_getElem.1 hq
  have := parOk_name h1 hj
  rw [List.getD_eq_getElem?_getD, List.getElem?_eq_getElem hj] at this
  exact (vName_len this).2
set_option maxHeartbeats 4000000 in
theorem clauseEnglish_b (ps : List Tx) (x : Cl) (h : ClF ps x) (p o : Nat) (hp : x.p = p) (ho : x.o = o) : BRet Tryz.prog 28 [] [.d (.sl 1 (ps.map .str)), .agg [.str x.id, .int x.k, .int x.p, .str x.a, .int x.o, .int x.am, .int x.w.op, .str x.w.nm, .int x.w.dy, .d (.sl 4 (x.w.ps.map Cd.e)), .int x.wi, .str x.rp]] (.str (clE (ps.getD p []) (ps.getD o []) x)) [] := by
  obtain ⟨b1, b2, b3, b4, b5, b6, b7, b8, b9, b10, b11, b12⟩ := h
  have hpl : p < ps.length := by omega
  have hol : o < ps.length := by omega
  have hxp : ps[p]? = some (ps.getD p []) := by simp [hpl]
  have hxo : ps[o]? = some (ps.getD o []) := by simp [hol]
  have hP : (ps.getD p []).length ≤ 8 := b8 _ (List.mem_of_getElem? hxp)
  have hO : (ps.getD o []).length ≤ 8 := b8 _ (List.mem_of_getElem? hxo)
  have hcd := conditionEnglish_b x.w b10.1 b10.2
  have hel := eng_len x.w b10.1
  have hea : (eng x.w).length ≤ 450 := by omega
  have ham := amountText_b x.am b11.1 (by omega)
  have hal := amtN_len b11.1 (by omega)
  have hwi := decimal_b x.wi b12.1 (by omega)
  have hwl := num_le (n := x.wi) b12.1 (by omega)
  clear b8 b10 hel b6 b7 b12
  generalize ps.getD p [] = P at *
  generalize ps.getD o [] = O at *
  obtain ⟨r, hr⟩ : ∃ r, Go.RowKit.Hid (clE P O x = r) := ⟨_, rfl⟩
  rw [hr.out]
  have hpb : (p : Int) ≤ 4 ∧ (o : Int) ≤ 4 := by omega
  obtain ⟨kk, hkk⟩ : ∃ kk, Go.RowKit.Hid (x.k = kk) := ⟨_, rfl⟩
  rcases (by omega : x.k = 1 ∨ x.k = 2 ∨ x.k = 3 ∨ x.k = 4) with hk | hk | hk | hk
  · have g1 : (x.k == 1) = true := by rw [hk]; rfl
    have g2 : (x.k == 2) = false := by rw [hk]; rfl
    have g3 : (x.k == 3) = false := by rw [hk]; rfl
    have g4 : (x.k == 4) = false := by rw [hk]; rfl
    have n2 : ¬ x.k = 2 := by omega
    have n3 : ¬ x.k = 3 := by omega
    have n4 : ¬ x.k = 4 := by omega
    replace hk : Go.RowKit.Hid (x.k = 1) := hk
    clear b4 b5
    by_cases hrp : x.rp = []
    · have rp1 : (x.rp == []) = true := by rw [beq_iff_eq]; exact hrp
      have rp2 : (x.rp != []) = false := by rw [hrp]; rfl
      replace hrp : Go.RowKit.Hid (x.rp = []) := hrp
      by_cases hamb : x.am > 0
      · refine bof Tryz.func28 ?_
        refine bgo ?_
        repeat (refine ifK (by omega) ?_; refine bgo ?_)
        refine b_call hcd rfl rfl rfl rfl ?_
        refine bgo ?_
        repeat (refine ifK (by omega) ?_; refine bgo ?_)
        refine b_call ham rfl rfl rfl rfl ?_
        refine bgo ?_
        repeat (refine ifK (by omega) ?_; refine bgo ?_)
        refine b_call hwi rfl rfl rfl rfl ?_
        refine bgo ?_
        repeat (refine ifK (by omega) ?_; refine bgo ?_)
        first
          | trivial
          | (rw [← hr.out]; simp [clE, hk.out, hrp.out, hamb])
      · refine bof Tryz.func28 ?_
        refine bgo ?_
        repeat (refine ifK (by omega) ?_; refine bgo ?_)
        refine b_call hcd rfl rfl rfl rfl ?_
        refine bgo ?_
        repeat (refine ifK (by omega) ?_; refine bgo ?_)
        refine b_call hwi rfl rfl rfl rfl ?_
        refine bgo ?_
        repeat (refine ifK (by omega) ?_; refine bgo ?_)
        first
          | trivial
          | (rw [← hr.out]; simp [clE, hk.out, hrp.out, hamb])
    · have rp1 : (x.rp == []) = false := by rw [beq_eq_false_iff_ne]; exact hrp
      have rp2 : (x.rp != []) = true := by rw [bne_iff_ne]; exact hrp
      replace hrp : Go.RowKit.Hid (¬ x.rp = []) := hrp
      by_cases hamb : x.am > 0
      · refine bof Tryz.func28 ?_
        refine bgo ?_
        repeat (refine ifK (by omega) ?_; refine bgo ?_)
        refine b_call hcd rfl rfl rfl rfl ?_
        refine bgo ?_
        repeat (refine ifK (by omega) ?_; refine bgo ?_)
        refine b_call ham rfl rfl rfl rfl ?_
        refine bgo ?_
        repeat (refine ifK (by omega) ?_; refine bgo ?_)
        refine b_call hwi rfl rfl rfl rfl ?_
        refine bgo ?_
        repeat (refine ifK (by omega) ?_; refine bgo ?_)
        first
          | trivial
          | (rw [← hr.out]; simp [clE, hk.out, hrp.out, hamb])
      · refine bof Tryz.func28 ?_
        refine bgo ?_
        repeat (refine ifK (by omega) ?_; refine bgo ?_)
        refine b_call hcd rfl rfl rfl rfl ?_
        refine bgo ?_
        repeat (refine ifK (by omega) ?_; refine bgo ?_)
        refine b_call hwi rfl rfl rfl rfl ?_
        refine bgo ?_
        repeat (refine ifK (by omega) ?_; refine bgo ?_)
        first
          | trivial
          | (rw [← hr.out]; simp [clE, hk.out, hrp.out, hamb])
  · have g1 : (x.k == 1) = false := by rw [hk]; rfl
    have g2 : (x.k == 2) = true := by rw [hk]; rfl
    have g3 : (x.k == 3) = false := by rw [hk]; rfl
    have g4 : (x.k == 4) = false := by rw [hk]; rfl
    have n1 : ¬ x.k = 1 := by omega
    have n3 : ¬ x.k = 3 := by omega
    have n4 : ¬ x.k = 4 := by omega
    replace hk : Go.RowKit.Hid (x.k = 2) := hk
    clear b4 b5
    by_cases hrp : x.rp = []
    · have rp1 : (x.rp == []) = true := by rw [beq_iff_eq]; exact hrp
      have rp2 : (x.rp != []) = false := by rw [hrp]; rfl
      replace hrp : Go.RowKit.Hid (x.rp = []) := hrp
      refine bof Tryz.func28 ?_
      refine bgo ?_
      repeat (refine ifK (by omega) ?_; refine bgo ?_)
      refine b_call hcd rfl rfl rfl rfl ?_
      refine bgo ?_
      repeat (refine ifK (by omega) ?_; refine bgo ?_)
      first
        | trivial
        | (rw [← hr.out]; simp [clE, hk.out, hrp.out])
    · have rp1 : (x.rp == []) = false := by rw [beq_eq_false_iff_ne]; exact hrp
      have rp2 : (x.rp != []) = true := by rw [bne_iff_ne]; exact hrp
      replace hrp : Go.RowKit.Hid (¬ x.rp = []) := hrp
      refine bof Tryz.func28 ?_
      refine bgo ?_
      repeat (refine ifK (by omega) ?_; refine bgo ?_)
      refine b_call hcd rfl rfl rfl rfl ?_
      refine bgo ?_
      repeat (refine ifK (by omega) ?_; refine bgo ?_)
      first
        | trivial
        | (rw [← hr.out]; simp [clE, hk.out, hrp.out])
  · have g1 : (x.k == 1) = false := by rw [hk]; rfl
    have g2 : (x.k == 2) = false := by rw [hk]; rfl
    have g3 : (x.k == 3) = true := by rw [hk]; rfl
    have g4 : (x.k == 4) = false := by rw [hk]; rfl
    have n1 : ¬ x.k = 1 := by omega
    have n2 : ¬ x.k = 2 := by omega
    have n4 : ¬ x.k = 4 := by omega
    replace hk : Go.RowKit.Hid (x.k = 3) := hk
    have hrp := b5 hk.out
    have rp1 : (x.rp == []) = true := by rw [beq_iff_eq]; exact hrp
    have rp2 : (x.rp != []) = false := by rw [hrp]; rfl
    replace hrp : Go.RowKit.Hid (x.rp = []) := hrp
    clear b4 b5
    refine bof Tryz.func28 ?_
    refine bgo ?_
    repeat (refine ifK (by omega) ?_; refine bgo ?_)
    refine b_call hcd rfl rfl rfl rfl ?_
    refine bgo ?_
    repeat (refine ifK (by omega) ?_; refine bgo ?_)
    first
      | trivial
      | (rw [← hr.out]; simp [clE, hk.out, hrp.out])
  · have g1 : (x.k == 1) = false := by rw [hk]; rfl
    have g2 : (x.k == 2) = false := by rw [hk]; rfl
    have g3 : (x.k == 3) = false := by rw [hk]; rfl
    have g4 : (x.k == 4) = true := by rw [hk]; rfl
    have n1 : ¬ x.k = 1 := by omega
    have n2 : ¬ x.k = 2 := by omega
    have n3 : ¬ x.k = 3 := by omega
    replace hk : Go.RowKit.Hid (x.k = 4) := hk
    clear b4 b5
    by_cases hrp : x.rp = []
    · have rp1 : (x.rp == []) = true := by rw [beq_iff_eq]; exact hrp
      have rp2 : (x.rp != []) = false := by rw [hrp]; rfl
      replace hrp : Go.RowKit.Hid (x.rp = []) := hrp
      refine bof Tryz.func28 ?_
      refine bgo ?_
      repeat (refine ifK (by omega) ?_; refine bgo ?_)
      refine b_call hcd rfl rfl rfl rfl ?_
      refine bgo ?_
      repeat (refine ifK (by omega) ?_; refine bgo ?_)
      first
        | trivial
        | (rw [← hr.out]; simp [clE, hk.out, hrp.out])
    · have rp1 : (x.rp == []) = false := by rw [beq_eq_false_iff_ne]; exact hrp
      have rp2 : (x.rp != []) = true := by rw [bne_iff_ne]; exact hrp
      replace hrp : Go.RowKit.Hid (¬ x.rp = []) := hrp
      refine bof Tryz.func28 ?_
      refine bgo ?_
      repeat (refine ifK (by omega) ?_; refine bgo ?_)
      refine b_call hcd rfl rfl rfl rfl ?_
      refine bgo ?_
      repeat (refine ifK (by omega) ?_; refine bgo ?_)
      first
        | trivial
        | (rw [← hr.out]; simp [clE, hk.out, hrp.out])
set_option maxHeartbeats 4000000 in
theorem l24Clause_b (c : Ct) (i : Nat) (x : Cl) (hx : c.cs[i]? = some x) (h : ClF c.ps x) (p o : Nat) (hp : x.p = p) (ho : x.o = o) : BRet Tryz.prog 23 [] [.agg [.d (.sl 1 (c.ps.map .str)), .d (.sl 12 (c.cs.map Cl.e))], .int i] (.str (clE (c.ps.getD p []) (c.ps.getD o []) x)) [] := by
  have hi : i < c.cs.length := (List.getElem?_eq_some_iff.1 hx).1
  refine BRet.alen 0 1 (by kernel_rfl) rfl rfl fun hl1 => ?_
  rw [List.length_map] at hl1
  obtain ⟨ps, hps⟩ : ∃ ps, Go.RowKit.Hid (c.ps = ps) := ⟨_, rfl⟩
  rw [hps.out] at h ⊢
  clear hps
  generalize c.cs = cs at *
  obtain ⟨b1, b2, b3, b4, b5, b6, b7, b8, b9, b10, b11, b12⟩ := h
  have hpl : p < ps.length := by omega
  have hol : o < ps.length := by omega
  have hxp : ps[p]? = some (ps.getD p []) := by simp [hpl]
  have hxo : ps[o]? = some (ps.getD o []) := by simp [hol]
  have hP : (ps.getD p []).length ≤ 8 := b8 _ (List.mem_of_getElem? hxp)
  have hO : (ps.getD o []).length ≤ 8 := b8 _ (List.mem_of_getElem? hxo)
  have hcd := l24Condition_b x.w b10.1 b10.2
  have hel := eng_len x.w b10.1
  have hea : (eng x.w).length ≤ 450 := by omega
  have ham := l2Format_b x.am b11.1 (by omega)
  have hal := amtN_len b11.1 (by omega)
  have hwi := l1Num_b x.wi b12.1 (by omega)
  have hwl := num_le (n := x.wi) b12.1 (by omega)
  clear b8 b10 hel b6 b7 b12
  generalize ps.getD p [] = P at *
  generalize ps.getD o [] = O at *
  obtain ⟨r, hr⟩ : ∃ r, Go.RowKit.Hid (clE P O x = r) := ⟨_, rfl⟩
  rw [hr.out]
  have hpb : (p : Int) ≤ 4 ∧ (o : Int) ≤ 4 := by omega
  obtain ⟨kk, hkk⟩ : ∃ kk, Go.RowKit.Hid (x.k = kk) := ⟨_, rfl⟩
  rcases (by omega : x.k = 1 ∨ x.k = 2 ∨ x.k = 3 ∨ x.k = 4) with hk | hk | hk | hk
  · have g1 : (x.k == 1) = true := by rw [hk]; rfl
    have g2 : (x.k == 2) = false := by rw [hk]; rfl
    have g3 : (x.k == 3) = false := by rw [hk]; rfl
    have g4 : (x.k == 4) = false := by rw [hk]; rfl
    have n2 : ¬ x.k = 2 := by omega
    have n3 : ¬ x.k = 3 := by omega
    have n4 : ¬ x.k = 4 := by omega
    replace hk : Go.RowKit.Hid (x.k = 1) := hk
    clear b4 b5
    by_cases hrp : x.rp = []
    · have rp1 : (x.rp == []) = true := by rw [beq_iff_eq]; exact hrp
      have rp2 : (x.rp != []) = false := by rw [hrp]; rfl
      replace hrp : Go.RowKit.Hid (x.rp = []) := hrp
      by_cases hamb : x.am > 0
      · refine bof Tryz.func23 ?_
        refine bgo ?_
        repeat (refine ifK (by omega) ?_; refine bgo ?_)
        refine b_call hcd rfl rfl rfl rfl ?_
        refine bgo ?_
        repeat (refine ifK (by omega) ?_; refine bgo ?_)
        refine b_call ham rfl rfl rfl rfl ?_
        refine bgo ?_
        repeat (refine ifK (by omega) ?_; refine bgo ?_)
        refine b_call hwi rfl rfl rfl rfl ?_
        refine bgo ?_
        repeat (refine ifK (by omega) ?_; refine bgo ?_)
        first
          | trivial
          | (rw [← hr.out]; simp [clE, hk.out, hrp.out, hamb])
      · refine bof Tryz.func23 ?_
        refine bgo ?_
        repeat (refine ifK (by omega) ?_; refine bgo ?_)
        refine b_call hcd rfl rfl rfl rfl ?_
        refine bgo ?_
        repeat (refine ifK (by omega) ?_; refine bgo ?_)
        refine b_call hwi rfl rfl rfl rfl ?_
        refine bgo ?_
        repeat (refine ifK (by omega) ?_; refine bgo ?_)
        first
          | trivial
          | (rw [← hr.out]; simp [clE, hk.out, hrp.out, hamb])
    · have rp1 : (x.rp == []) = false := by rw [beq_eq_false_iff_ne]; exact hrp
      have rp2 : (x.rp != []) = true := by rw [bne_iff_ne]; exact hrp
      replace hrp : Go.RowKit.Hid (¬ x.rp = []) := hrp
      by_cases hamb : x.am > 0
      · refine bof Tryz.func23 ?_
        refine bgo ?_
        repeat (refine ifK (by omega) ?_; refine bgo ?_)
        refine b_call hcd rfl rfl rfl rfl ?_
        refine bgo ?_
        repeat (refine ifK (by omega) ?_; refine bgo ?_)
        refine b_call ham rfl rfl rfl rfl ?_
        refine bgo ?_
        repeat (refine ifK (by omega) ?_; refine bgo ?_)
        refine b_call hwi rfl rfl rfl rfl ?_
        refine bgo ?_
        repeat (refine ifK (by omega) ?_; refine bgo ?_)
        first
          | trivial
          | (rw [← hr.out]; simp [clE, hk.out, hrp.out, hamb])
      · refine bof Tryz.func23 ?_
        refine bgo ?_
        repeat (refine ifK (by omega) ?_; refine bgo ?_)
        refine b_call hcd rfl rfl rfl rfl ?_
        refine bgo ?_
        repeat (refine ifK (by omega) ?_; refine bgo ?_)
        refine b_call hwi rfl rfl rfl rfl ?_
        refine bgo ?_
        repeat (refine ifK (by omega) ?_; refine bgo ?_)
        first
          | trivial
          | (rw [← hr.out]; simp [clE, hk.out, hrp.out, hamb])
  · have g1 : (x.k == 1) = false := by rw [hk]; rfl
    have g2 : (x.k == 2) = true := by rw [hk]; rfl
    have g3 : (x.k == 3) = false := by rw [hk]; rfl
    have g4 : (x.k == 4) = false := by rw [hk]; rfl
    have n1 : ¬ x.k = 1 := by omega
    have n3 : ¬ x.k = 3 := by omega
    have n4 : ¬ x.k = 4 := by omega
    replace hk : Go.RowKit.Hid (x.k = 2) := hk
    clear b4 b5
    by_cases hrp : x.rp = []
    · have rp1 : (x.rp == []) = true := by rw [beq_iff_eq]; exact hrp
      have rp2 : (x.rp != []) = false := by rw [hrp]; rfl
      replace hrp : Go.RowKit.Hid (x.rp = []) := hrp
      refine bof Tryz.func23 ?_
      refine bgo ?_
      repeat (refine ifK (by omega) ?_; refine bgo ?_)
      refine b_call hcd rfl rfl rfl rfl ?_
      refine bgo ?_
      repeat (refine ifK (by omega) ?_; refine bgo ?_)
      first
        | trivial
        | (rw [← hr.out]; simp [clE, hk.out, hrp.out])
    · have rp1 : (x.rp == []) = false := by rw [beq_eq_false_iff_ne]; exact hrp
      have rp2 : (x.rp != []) = true := by rw [bne_iff_ne]; exact hrp
      replace hrp : Go.RowKit.Hid (¬ x.rp = []) := hrp
      refine bof Tryz.func23 ?_
      refine bgo ?_
      repeat (refine ifK (by omega) ?_; refine bgo ?_)
      refine b_call hcd rfl rfl rfl rfl ?_
      refine bgo ?_
      repeat (refine ifK (by omega) ?_; refine bgo ?_)
      first
        | trivial
        | (rw [← hr.out]; simp [clE, hk.out, hrp.out])
  · have g1 : (x.k == 1) = false := by rw [hk]; rfl
    have g2 : (x.k == 2) = false := by rw [hk]; rfl
    have g3 : (x.k == 3) = true := by rw [hk]; rfl
    have g4 : (x.k == 4) = false := by rw [hk]; rfl
    have n1 : ¬ x.k = 1 := by omega
    have n2 : ¬ x.k = 2 := by omega
    have n4 : ¬ x.k = 4 := by omega
    replace hk : Go.RowKit.Hid (x.k = 3) := hk
    have hrp := b5 hk.out
    have rp1 : (x.rp == []) = true := by rw [beq_iff_eq]; exact hrp
    have rp2 : (x.rp != []) = false := by rw [hrp]; rfl
    replace hrp : Go.RowKit.Hid (x.rp = []) := hrp
    clear b4 b5
    refine bof Tryz.func23 ?_
    refine bgo ?_
    repeat (refine ifK (by omega) ?_; refine bgo ?_)
    refine b_call hcd rfl rfl rfl rfl ?_
    refine bgo ?_
    repeat (refine ifK (by omega) ?_; refine bgo ?_)
    first
      | trivial
      | (rw [← hr.out]; simp [clE, hk.out, hrp.out])
  · have g1 : (x.k == 1) = false := by rw [hk]; rfl
    have g2 : (x.k == 2) = false := by rw [hk]; rfl
    have g3 : (x.k == 3) = false := by rw [hk]; rfl
    have g4 : (x.k == 4) = true := by rw [hk]; rfl
    have n1 : ¬ x.k = 1 := by omega
    have n2 : ¬ x.k = 2 := by omega
    have n3 : ¬ x.k = 3 := by omega
    replace hk : Go.RowKit.Hid (x.k = 4) := hk
    clear b4 b5
    by_cases hrp : x.rp = []
    · have rp1 : (x.rp == []) = true := by rw [beq_iff_eq]; exact hrp
      have rp2 : (x.rp != []) = false := by rw [hrp]; rfl
      replace hrp : Go.RowKit.Hid (x.rp = []) := hrp
      refine bof Tryz.func23 ?_
      refine bgo ?_
      repeat (refine ifK (by omega) ?_; refine bgo ?_)
      refine b_call hcd rfl rfl rfl rfl ?_
      refine bgo ?_
      repeat (refine ifK (by omega) ?_; refine bgo ?_)
      first
        | trivial
        | (rw [← hr.out]; simp [clE, hk.out, hrp.out])
    · have rp1 : (x.rp == []) = false := by rw [beq_eq_false_iff_ne]; exact hrp
      have rp2 : (x.rp != []) = true := by rw [bne_iff_ne]; exact hrp
      replace hrp : Go.RowKit.Hid (¬ x.rp = []) := hrp
      refine bof Tryz.func23 ?_
      refine bgo ?_
      repeat (refine ifK (by omega) ?_; refine bgo ?_)
      refine b_call hcd rfl rfl rfl rfl ?_
      refine bgo ?_
      repeat (refine ifK (by omega) ?_; refine bgo ?_)
      first
        | trivial
        | (rw [← hr.out]; simp [clE, hk.out, hrp.out])
def clR (c : Ct) (i : Int) : Tx := if (ctOk c && inB i 0 (c.cs.length - 1)) = true then (match c.cs[i.toNat]? with | some x => clE (c.ps.getD x.p.toNat []) (c.ps.getD x.o.toNat []) x | none => []) else []
theorem clR_at {c : Ct} (h : ctOk c = true) {i : Int} (hi : inB i 0 (c.cs.length - 1) = true) : ∃ (j : Nat) (x : Cl) (p o : Nat), i = j ∧ c.cs[j]? = some x ∧ x.p = p ∧ x.o = o ∧ ClF c.ps x ∧ clR c i = clE (c.ps.getD p []) (c.ps.getD o []) x := by
  have h0 := hi
  unfold inB at h0
  simp only [Bool.and_eq_true, decide_eq_true_eq] at h0
  obtain ⟨j, rfl⟩ : ∃ j : Nat, i = j := ⟨i.toNat, by omega⟩
  have hj : j < c.cs.length := by omega
  have hx := List.getElem?_eq_getElem hj
  have hf := ClF.of h hx
  refine ⟨j, c.cs[j], c.cs[j].p.toNat, c.cs[j].o.toNat, rfl, hx, by have := hf.p; omega, by have := hf.o; omega, hf, ?_⟩
  unfold clR
  rw [h, hi, show (true && true) = true from rfl, if_pos rfl, Int.toNat_natCast, hx]
theorem ClauseToEnglish_b (c : Ct) (i : Int) : BRet Tryz.prog 9 [] [.agg [.d (.sl 1 (c.ps.map .str)), .d (.sl 12 (c.cs.map Cl.e))], .int i] (.tup [.str (clR c i), .bool (ctOk c && inB i 0 (c.cs.length - 1))]) [] := by
  refine BRet.alen 0 1 (by kernel_rfl) rfl rfl fun hl => ?_
  rw [List.length_map] at hl
  have hv := IsValidContract_b c
  have hin := within_b i 0 (c.cs.length - 1)
  refine bof Tryz.func9 ?_
  cases h1 : ctOk c
  · rw [h1] at hv
    have hR : clR c i = [] := by unfold clR; rw [h1]; rfl
    rw [hR]
    refine bgo ?_
    refine b_call hv rfl rfl rfl rfl ?_
    refine bgo ?_
    trivial
  rw [h1] at hv
  cases h2 : inB i 0 (c.cs.length - 1)
  · rw [h2] at hin
    have hR : clR c i = [] := by unfold clR; rw [h1, h2]; rfl
    rw [hR]
    refine bgo ?_
    refine b_call hv rfl rfl rfl rfl ?_
    refine bgo ?_
    refine b_call hin rfl rfl rfl rfl ?_
    refine bgo ?_
    trivial
  rw [h2] at hin
  obtain ⟨j, x, p, o, rfl, hx, hp, ho, hf, hR⟩ := clR_at h1 h2
  have he := clauseEnglish_b c.ps x hf p o hp ho
  rw [← hR] at he
  generalize clR c j = r at *
  have hj : j < c.cs.length := (List.getElem?_eq_some_iff.1 hx).1
  clear hR hf hp ho h1 h2
  refine bgo ?_
  refine b_call hv rfl rfl rfl rfl ?_
  refine bgo ?_
  refine b_call hin rfl rfl rfl rfl ?_
  refine bgo ?_
  refine b_call he rfl rfl rfl rfl ?_
  refine bgo ?_
  trivial
theorem specClauseToEnglish_b (c : Ct) (i : Int) (hsz : ∀ x ∈ c.cs, x.w.size ≤ 1048577) : BRet Tryz.prog 7 [] [.agg [.d (.sl 1 (c.ps.map .str)), .d (.sl 12 (c.cs.map Cl.e))], .int i] (.tup [.str (clR c i), .bool (ctOk c && inB i 0 (c.cs.length - 1))]) [] := by
  refine BRet.alen 0 1 (by kernel_rfl) rfl rfl fun hl => ?_
  rw [List.length_map] at hl
  have hv := l6Good_b c hsz
  have hin := l1In_b i 0 (c.cs.length - 1)
  clear hsz
  refine bof Tryz.func7 ?_
  cases h1 : ctOk c
  · rw [h1] at hv
    have hR : clR c i = [] := by unfold clR; rw [h1]; rfl
    rw [hR]
    refine bgo ?_
    refine b_call hv rfl rfl rfl rfl ?_
    refine bgo ?_
    trivial
  rw [h1] at hv
  cases h2 : inB i 0 (c.cs.length - 1)
  · rw [h2] at hin
    have hR : clR c i = [] := by unfold clR; rw [h1, h2]; rfl
    rw [hR]
    refine bgo ?_
    refine b_call hv rfl rfl rfl rfl ?_
    refine bgo ?_
    refine b_call hin rfl rfl rfl rfl ?_
    refine bgo ?_
    trivial
  rw [h2] at hin
  obtain ⟨j, x, p, o, rfl, hx, hp, ho, hf, hR⟩ := clR_at h1 h2
  have he := l24Clause_b c j x hx hf p o hp ho
  rw [← hR] at he
  generalize clR c j = r at *
  clear hR hf hp ho h1 h2
  refine bgo ?_
  refine b_call hv rfl rfl rfl rfl ?_
  refine bgo ?_
  refine b_call hin rfl rfl rfl rfl ?_
  refine bgo ?_
  refine b_call he rfl rfl rfl rfl ?_
  refine bgo ?_
  trivial
theorem lawClause_b (c : Ct) (i : Int) : BRet Tryz.prog 3 [] [.agg [.d (.sl 1 (c.ps.map .str)), .d (.sl 12 (c.cs.map Cl.e))], .int i] (.bool true) [] := by
  have h1 := szContract_b c 1048576 (by decide) (by decide)
  have h2 := szCt_ok c 1048576 (by decide) (by decide)
  have h3 := fun h => specClauseToEnglish_b c i h
  have h4 := ClauseToEnglish_b c i
  have h5 := fun h => toContract_b c h
  have h6 := eqContract_s c
  generalize clR c i = r at *
  generalize (ctOk c && inB i 0 (c.cs.length - 1)) = ok at *
  generalize szCt c 1048576 = z at *
  refine bof Tryz.func3 ?_
  by_cases hz : z < 0
  · clear h2 h3 h5
    refine bgo ?_
    refine b_call h1 rfl rfl rfl rfl ?_
    refine bgo ?_
    trivial
  · have hN := h2 (by omega)
    have h3 := h3 hN.2.2
    have h5 := h5 hN
    clear h2 hN
    refine bgo ?_
    refine b_call h1 rfl rfl rfl rfl ?_
    refine bgo ?_
    refine b_call h5 rfl rfl rfl rfl ?_
    refine bgo ?_
    refine b_call h3 rfl rfl rfl rfl ?_
    refine bgo ?_
    refine b_call h5 rfl rfl rfl rfl ?_
    refine bgo ?_
    refine b_call h4 rfl rfl rfl rfl ?_
    refine bgo ?_
    refine b_call h5 rfl rfl rfl rfl ?_
    refine bgo ?_
    refine b_call h6 rfl rfl rfl rfl ?_
    refine bgo ?_
    trivial
theorem opnCl (n : Nat) : OpnN Tryz.prog 85 Cl.e (fun _ => True) n := by
  refine (opn_struct (n := n) (len := 12) (fun y : List UInt8 × Int × Int × List UInt8 × Int × Int × Cd × Int × List UInt8 => (⟨y.1, y.2.1, y.2.2.1, y.2.2.2.1, y.2.2.2.2.1, y.2.2.2.2.2.1, y.2.2.2.2.2.2.1, y.2.2.2.2.2.2.2.1, y.2.2.2.2.2.2.2.2⟩ : Cl)) Tryz.underlying85 (by kernel_rfl) ?_
    (fun m hm => opnS_cons (off2 := 1) rfl ?_ (opn_str Tryz.underlying9 m) (opnS_cons (off2 := 2) rfl ?_ (opn_int Tryz.underlying3 m) (opnS_cons (off2 := 3) rfl ?_ (opn_int Tryz.underlying3 m) (opnS_cons (off2 := 4) rfl ?_ (opn_str Tryz.underlying9 m)
      (opnS_cons (off2 := 5) rfl ?_ (opn_int Tryz.underlying3 m) (opnS_cons (off2 := 6) rfl ?_ (opn_int Tryz.underlying3 m) (opnS_cons (off2 := 10) rfl ?_ (opnCdN m) (opnS_cons (off2 := 11) rfl ?_ (opn_int Tryz.underlying3 m) (opnS_one rfl ?_ (opn_str Tryz.underlying9 m))))))))))).imp fun _ _ => trivial
  · intro y
    show [PD.str y.1, .int .i64 y.2.1, .int .i64 y.2.2.1, .str y.2.2.2.1, .int .i64 y.2.2.2.2.1, .int .i64 y.2.2.2.2.2.1, .int .i64 y.2.2.2.2.2.2.1.op, .str y.2.2.2.2.2.2.1.nm, .int .i64 y.2.2.2.2.2.2.1.dy, .sl 4 (y.2.2.2.2.2.2.1.ps.map Cd.e), .int .i64 y.2.2.2.2.2.2.2.1, .str y.2.2.2.2.2.2.2.2] = _
    rw [Cd.e_eq]; rfl
  all_goals kernel_rfl
theorem opnCt : Opn Tryz.prog 25 (fun c : Ct => .agg [.sl 1 (c.ps.map .str), .sl 12 (c.cs.map Cl.e)]) (fun _ => True) := fun n => by
  refine (opn_struct (n := n) (len := 2) (fun y : List Tx × List Cl => (⟨y.1, y.2⟩ : Ct)) Tryz.underlying25 (by kernel_rfl) ?_
    (fun m hm => opnS_cons (off2 := 1) rfl ?_ (opnTxs m) (opnS_one rfl ?_ (opn_slice (sz := 12) Tryz.underlying23 (by kernel_rfl) (by decide) (of_decide_eq_true (by kernel_rfl)) (fun k _ => opnCl k))))).imp fun _ _ => trivial
  · intro _; rfl
  · kernel_rfl
  · kernel_rfl
end Go.Bee.C24x
