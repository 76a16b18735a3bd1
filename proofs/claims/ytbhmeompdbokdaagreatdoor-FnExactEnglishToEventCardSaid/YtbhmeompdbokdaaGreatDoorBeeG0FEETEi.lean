/-
The logic and the walks, part 9. No condition.
-/
import Derived.Test.YtbhmeompdbokdaaGreatDoorBeeG0FEETEh
import Derived.Lib.IndexAny
namespace Go.Bee.C24r
open Go Go.Bee Go.Proofs Go.Bee.Ty Go.Bee.C23 Go.Bee.C23s Go.Bee.Da Go.Bee.C24 Go.Bee.C24c Go.Bee.C24d
theorem ifErr : isIf Tryz.prog 95 = true := by kernel_rfl
theorem bDt0 : ∀ (a b c : Int), evBuild Tryz.prog 111 [(0, .d (.int .i64 a)), (1, .d (.int .i64 b)), (2, .d (.int .i64 c))] = some (.agg [.d (.int .i64 a), .d (.int .i64 b), .d (.int .i64 c)]) := fun a b c => by kernel_rfl
theorem cvI : ∀ (k : IntKind) (n : Int), evConv Tryz.prog 3 (.d (.int k n)) = some (.d (.int .i64 (IntKind.i64.wrap n))) := fun k n => by kernel_rfl
theorem tys : type_of% (And.intro Go.Bee.C24d.tys (And.intro ifErr (And.intro bDt0 cvI))) := And.intro Go.Bee.C24d.tys (And.intro ifErr (And.intro bDt0 cvI))
end Go.Bee.C24r
namespace Go.Bee.C24r
open Go Go.Bee Go.Proofs Go.Bee.Ty Go.Bee.C23 Go.Bee.C23s Go.Bee.Da Go.Bee.C24 Go.Bee.C24c Go.Bee.C24d
set_option linter.unusedVariables false
set_option maxRecDepth 20000
attribute [local irreducible] Go.Bee.bwp
theorem okDt_eq (y m d : Int) : okDt y m d = (inB y 2000 2099 && inB m 1 12 && inB d 1 (mlen y m)) := by
  unfold okDt inB
  rw [Bool.eq_iff_iff]
  simp only [Bool.and_eq_true, decide_eq_true_eq]
  omega
theorem IsValidDate_b (y m d : Int) : BRet Tryz.prog 95 [] [.agg [.int y, .int m, .int d]] (.bool (okDt y m d)) [] := by
  have h1 := within_b y 2000 2099
  have h2 := within_b m 1 12
  have h3 := within_b d 1 (mlen y m)
  have h4 := daysIn_b y m
  rw [okDt_eq]
  refine bof Tryz.func95 ?_
  generalize inB d 1 (mlen y m) = c3 at *
  generalize mlen y m = q at *
  cases e1 : inB y 2000 2099
  · rw [e1] at h1
    refine bgo ?_
    refine b_call h1 rfl rfl rfl rfl ?_
    refine bgo ?_
    trivial
  rw [e1] at h1
  cases e2 : inB m 1 12
  · rw [e2] at h2
    refine bgo ?_
    refine b_call h1 rfl rfl rfl rfl ?_
    refine bgo ?_
    refine b_call h2 rfl rfl rfl rfl ?_
    refine bgo ?_
    trivial
  rw [e2] at h2
  refine bgo ?_
  refine b_call h1 rfl rfl rfl rfl ?_
  refine bgo ?_
  refine b_call h2 rfl rfl rfl rfl ?_
  refine bgo ?_
  refine b_call h4 rfl rfl rfl rfl ?_
  refine bgo ?_
  refine b_call h3 rfl rfl rfl rfl ?_
  refine bgo ?_
  trivial
theorem l3Valid_b (y m d : Int) : BRet Tryz.prog 104 [] [.agg [.int y, .int m, .int d]] (.bool (okDt y m d)) [] := by
  have h1 := l1In_b y 2000 2099
  have h2 := l1In_b m 1 12
  have h3 := l1In_b d 1 (mlen y m)
  have h4 := l3Length_b y m
  rw [okDt_eq]
  refine bof Tryz.func104 ?_
  generalize inB d 1 (mlen y m) = c3 at *
  generalize mlen y m = q at *
  cases e1 : inB y 2000 2099
  · rw [e1] at h1
    refine bgo ?_
    refine b_call h1 rfl rfl rfl rfl ?_
    refine bgo ?_
    trivial
  rw [e1] at h1
  cases e2 : inB m 1 12
  · rw [e2] at h2
    refine bgo ?_
    refine b_call h1 rfl rfl rfl rfl ?_
    refine bgo ?_
    refine b_call h2 rfl rfl rfl rfl ?_
    refine bgo ?_
    trivial
  rw [e2] at h2
  refine bgo ?_
  refine b_call h1 rfl rfl rfl rfl ?_
  refine bgo ?_
  refine b_call h2 rfl rfl rfl rfl ?_
  refine bgo ?_
  refine b_call h4 rfl rfl rfl rfl ?_
  refine bgo ?_
  refine b_call h3 rfl rfl rfl rfl ?_
  refine bgo ?_
  trivial
theorem dayOf_b (y m d : Int) (k j : Nat) (hy : y = 2000 + k) (hm : m = j + 1) (hk : k ≤ 200) (hj : j ≤ 20) (hd : 0 ≤ d ∧ d ≤ 100) : BRet Tryz.prog 97 [] [.agg [.int y, .int m, .int d]] (.int (ycum k + mcum y j + d - 1)) [] := by
  refine bof Tryz.func97 ?_
  have hy2 : 2000 ≤ y ∧ y ≤ 2200 := by omega
  have hm2 : 1 ≤ m ∧ m ≤ 21 := by omega
  have hy' : Go.RowKit.Hid (y = 2000 + k) := hy
  have hm' : Go.RowKit.Hid (m = j + 1) := hm
  clear hy hm
  obtain ⟨r, hr⟩ : ∃ r, Go.RowKit.Hid (ycum k + mcum y j + d - 1 = r) := ⟨_, rfl⟩
  rw [hr.out]
  refine bgo ?_
  refine b_lp (ι := Nat × Int × Int) (fun i => [(1, .ptr (.t 1) 0), (3, .int i.2.2), (4, .int i.2.1)]) (fun _ => [(.t 1, [.int y, .int m, .int d])]) (fun i => i.1 ≤ k ∧ i.2.1 = 2000 + i.1 ∧ i.2.2 = d - 1 + ycum i.1) (fun i => k - i.1) (0, 2000, d - 1) hs ⟨Nat.zero_le _, rfl, by dsimp only; rw [ycum_eq 0]; omega⟩ ?_
  rintro ⟨i, yi, t⟩ ⟨hi, hyi, ht⟩ I nx
  dsimp only at hi hyi ht ⊢
  have hyy := hy'.out
  have hyb := ycum_in i
  by_cases hlt : yi < y
  · have hyl := ylen_in yi
    have hij : i + 1 ≤ k := by omega
    have hn : Go.RowKit.Hid (t + ylen yi = d - 1 + ycum ((i + 1 : Nat) : Int)) := by
      show _ = _
      rw [show ((i + 1 : Nat) : Int) = (i : Int) + 1 by omega, ycum_succ, ht, ← hyi]; omega
    have hyi2 : Go.RowKit.Hid (yi + 1 = 2000 + ((i + 1 : Nat) : Int)) := by show _ = _; omega
    have hcl := daysOf_b yi
    generalize ylen yi = q at *
    have htb : -10 ≤ t ∧ t ≤ 1000000 := by omega
    have hyi3 : 2000 ≤ yi ∧ yi ≤ 2300 := by omega
    clear hyi hyy ht hyb
    refine bgo ?_
    refine b_call hcl rfl rfl rfl rfl ?_
    refine bgo ?_
    exact nx.go (i + 1, yi + 1, t + q) ⟨hij, hyi2.out, hn.out⟩ (by dsimp only; omega) hs
  · have hik : i = k := by omega
    subst hik
    have htb : -10 ≤ t ∧ t ≤ 100000 := by omega
    have ht' : Go.RowKit.Hid (t = d - 1 + ycum i) := ht
    clear hyi hyy ht nx hyb
    refine bgo ?_
    refine wk_rfl ?_
    refine bgo ?_
    refine b_lp (ι := Nat × Int × Int) (fun i => [(1, .ptr (.t 1) 0), (3, .int i.2.2), (5, .int i.2.1)]) (fun _ => [(.t 1, [.int y, .int m, .int d])]) (fun i => i.1 ≤ j ∧ i.2.1 = i.1 + 1 ∧ i.2.2 = t + mcum y i.1) (fun i => j - i.1) (0, 1, t) hs ⟨Nat.zero_le _, rfl, by dsimp only; rw [mcum]; omega⟩ ?_
    clear hlt hi
    rintro ⟨a, mi, u⟩ ⟨ha, hmi, hu⟩ I nx
    dsimp only at ha hmi hu ⊢
    have hmm := hm'.out
    by_cases hlt : mi < m
    · have hml := mlen_in y mi
      have hmc := mcum_in y a
      have hn : Go.RowKit.Hid (u + mlen y mi = t + mcum y (a + 1)) := by show _ = _; rw [hu, mcum, hmi]; omega
      have hcl := daysIn_b y mi
      generalize mlen y mi = q at *
      generalize mcum y a = mc at *
      have hij : a + 1 ≤ j := by omega
      have hmi2 : Go.RowKit.Hid (mi + 1 = ((a + 1 : Nat) : Int) + 1) := by show _ = _; omega
      have hub : -100 ≤ u ∧ u ≤ 1000000 := by omega
      have hmi3 : 0 ≤ mi ∧ mi ≤ 100 := by omega
      clear hmi hmm hu
      refine bgo ?_
      refine b_call hcl rfl rfl rfl rfl ?_
      refine bgo ?_
      exact nx.go (a + 1, mi + 1, u + q) ⟨hij, hmi2.out, hn.out⟩ (by dsimp only; omega) hs
    · have hak : a = j := by omega
      subst hak
      obtain rfl : r = u := by rw [← hr.out, hu, ht'.out]; omega
      clear hmi hmm hu nx
      refine bgo ?_
      refine wk_rfl ?_
      refine bgo ?_
      trivial
theorem dayOf_ok {y m d : Int} (h : okDt y m d = true) : BRet Tryz.prog 97 [] [.agg [.int y, .int m, .int d]] (.int (dayN y m d)) [] := by
  unfold okDt at h
  rw [decide_eq_true_eq] at h
  have hml := mlen_in y m
  have := dayOf_b y m d (y - 2000).toNat (m - 1).toNat (by omega) (by omega) (by omega) (by omega) (by omega)
  rw [show (((y - 2000).toNat : Nat) : Int) = y - 2000 by omega] at this
  exact this
theorem l3Day_ok {y m d : Int} (h : okDt y m d = true) : BRet Tryz.prog 105 [] [.agg [.int y, .int m, .int d]] (.int (dayN y m d)) [] := by
  unfold okDt at h
  rw [decide_eq_true_eq] at h
  have hml := mlen_in y m
  have := l3Day_b y m d (y - 2000).toNat (m - 1).toNat (by omega) (by omega) (by omega) (by omega) (by omega)
  rw [show (((y - 2000).toNat : Nat) : Int) = y - 2000 by omega] at this
  exact this
def dV (o : Option Int) : Int := o.getD 0
theorem ParseDate_b (s : Tx) : BRet Tryz.prog 40 [] [.str s] (.tup [.int (dV (iDate s)), .bool (iDate s).isSome]) [] := by
  refine BRet.slen 0 (by kernel_rfl) rfl fun hl => ?_
  obtain ⟨o, ho⟩ : ∃ o, Go.RowKit.Hid (iDate s = o) := ⟨_, rfl⟩
  rw [ho.out]
  refine bof Tryz.func40 ?_
  by_cases hlen : (s.length : Int) = 10
  rotate_left
  · obtain rfl : o = none := by rw [← ho.out]; unfold iDate; rw [if_neg (by omega)]
    have q : ((s.length : Int) != 10) = true := by rw [bne_iff_ne]; exact hlen
    clear hlen
    refine bgo ?_
    trivial
  have q : ((s.length : Int) != 10) = false := by rw [hlen]; rfl
  have hln : s.length = 10 := by omega
  have t1 : (s.take 4).length = 4 := by simp; omega
  have t2 : ((s.drop 5).take 2).length = 2 := by simp; omega
  have t3 : (s.drop 8).length = 2 := by simp; omega
  have a1 := atoi_b (s.take 4)
  have a2 := atoi_b ((s.drop 5).take 2)
  have a3 := atoi_b (s.drop 8)
  rw [(at_short (by omega)).1, (at_short (by omega)).2] at a1 a2 a3
  replace ho : Go.RowKit.Hid (dt3 s (Lib.atoi (s.take 4)) (Lib.atoi ((s.drop 5).take 2)) (Lib.atoi (s.drop 8)) = o) := by show _ = o; rw [← ho.out]; unfold iDate; rw [if_pos hln]
  have b1 : 4 ≤ s.length := by omega
  have b2 : 5 ≤ 7 ∧ 7 ≤ s.length := by omega
  have b3 : 8 ≤ s.length := by omega
  clear t1 t2 t3 hlen
  replace hln : Go.RowKit.Hid (s.length = 10) := hln
  generalize Lib.atoi (s.take 4) = A at *
  generalize Lib.atoi ((s.drop 5).take 2) = B at *
  generalize Lib.atoi (s.drop 8) = C at *
  rw [show (s.drop 5).take 2 = (s.take 7).drop 5 from List.take_drop] at a2
  cases A with
  | none =>
    obtain rfl : o = none := by rw [← ho.out]; cases B <;> cases C <;> rfl
    refine bgo ?_
    refine b_call a1 rfl rfl rfl rfl ?_
    refine bgo ?_
    refine b_call a2 rfl rfl rfl rfl ?_
    refine bgo ?_
    refine b_call a3 rfl rfl rfl rfl ?_
    refine bgo ?_
    trivial
  | some y =>
  cases B with
  | none =>
    obtain rfl : o = none := by rw [← ho.out]; cases C <;> rfl
    refine bgo ?_
    refine b_call a1 rfl rfl rfl rfl ?_
    refine bgo ?_
    refine b_call a2 rfl rfl rfl rfl ?_
    refine bgo ?_
    refine b_call a3 rfl rfl rfl rfl ?_
    refine bgo ?_
    trivial
  | some m =>
  cases C with
  | none =>
    obtain rfl : o = none := by rw [← ho.out]; rfl
    refine bgo ?_
    refine b_call a1 rfl rfl rfl rfl ?_
    refine bgo ?_
    refine b_call a2 rfl rfl rfl rfl ?_
    refine bgo ?_
    refine b_call a3 rfl rfl rfl rfl ?_
    refine bgo ?_
    trivial
  | some d =>
  have hv := IsValidDate_b y m d
  have e1 : dt3 s (some y) (some m) (some d) = if okDt y m d = true then (if dateT (dayN y m d) = s then some (dayN y m d) else none) else none := rfl
  rw [e1] at ho
  clear e1
  cases hk : okDt y m d
  · obtain rfl : o = none := by rw [← ho.out, hk]; rfl
    rw [hk] at hv
    refine bgo ?_
    refine b_call a1 rfl rfl rfl rfl ?_
    refine bgo ?_
    refine b_call a2 rfl rfl rfl rfl ?_
    refine bgo ?_
    refine b_call a3 rfl rfl rfl rfl ?_
    refine bgo ?_
    refine b_call hv rfl rfl rfl rfl ?_
    refine bgo ?_
    trivial
  have hd := dayOf_ok hk
  have hdn := dayN_in hk
  have ht := dateText_b (dayN y m d) hdn.1 hdn.2
  rw [hk] at hv
  rw [hk, if_pos rfl] at ho
  clear hdn hk
  generalize dayN y m d = n at *
  generalize dateT n = T at *
  by_cases he : T = s
  · obtain rfl : o = some n := by rw [← ho.out, if_pos he]
    subst he
    refine bgo ?_
    refine b_call a1 rfl rfl rfl rfl ?_
    refine bgo ?_
    refine b_call a2 rfl rfl rfl rfl ?_
    refine bgo ?_
    refine b_call a3 rfl rfl rfl rfl ?_
    refine bgo ?_
    refine b_call hv rfl rfl rfl rfl ?_
    refine bgo ?_
    refine b_call hd rfl rfl rfl rfl ?_
    refine bgo ?_
    refine b_call ht rfl rfl rfl rfl ?_
    refine bgo ?_
    refine b_call hd rfl rfl rfl rfl ?_
    refine bgo ?_
    trivial
  · obtain rfl : o = none := by rw [← ho.out, if_neg he]
    refine bgo ?_
    refine b_call a1 rfl rfl rfl rfl ?_
    refine bgo ?_
    refine b_call a2 rfl rfl rfl rfl ?_
    refine bgo ?_
    refine b_call a3 rfl rfl rfl rfl ?_
    refine bgo ?_
    refine b_call hv rfl rfl rfl rfl ?_
    refine bgo ?_
    refine b_call hd rfl rfl rfl rfl ?_
    refine bgo ?_
    refine b_call ht rfl rfl rfl rfl ?_
    refine bgo ?_
    trivial
theorem u8_wrap {n : Int} (h0 : 0 ≤ n) (h1 : n < 256) : IntKind.u8.wrap n = n := by
  simp only [IntKind.wrap]
  simp [IntKind.bits, IntKind.signed]
  omega
theorem l3Digits_b (s : Tx) (hl : s.length ≤ 10) : BRet Tryz.prog 103 [] [.str s] (.int (digN 0 s)) [] := by
  obtain ⟨r, hr⟩ : ∃ r, Go.RowKit.Hid (digN 0 s = r) := ⟨_, rfl⟩
  rw [hr.out]
  refine bof Tryz.func103 ?_
  refine bgo ?_
  refine b_lp (ι := Nat × Int) (fun i => [(0, .str s), (3, .int i.2), (4, .int i.1)]) (fun _ => []) (fun i => i.1 ≤ s.length ∧ digN i.2 (s.drop i.1) = r ∧ 0 ≤ i.2 ∧ i.2 < 10 ^ i.1) (fun i => s.length - i.1) (0, 0) hs ⟨Nat.zero_le _, hr.out, by decide, by decide⟩ ?_
  clear hr
  rintro ⟨k, a⟩ ⟨hk, hj, ha0, ha1⟩ I nx
  dsimp only at hk hj ha0 ha1 ⊢
  have hp : (10 : Int) ^ k ≤ 10 ^ 10 := by
    have : (10 : Nat) ^ k ≤ 10 ^ 10 := Nat.pow_le_pow_right (by decide) (by omega)
    exact_mod_cast this
  have hab : a < 10000000000 := Int.lt_of_lt_of_le ha1 (Int.le_trans hp (by decide))
  by_cases hlt : k < s.length
  · have hx : s[k]? = some s[k] := List.getElem?_eq_getElem hlt
    have hb : s[k].toNat < 256 := UInt8.toNat_lt _
    rw [List.drop_eq_getElem_cons hlt, digN] at hj
    generalize s[k] = x at *
    have hst : 0 ≤ 10 * a + ((x.toNat : Int) - 48) ∧ 10 * a + ((x.toNat : Int) - 48) < 10 ^ (k + 1) ∨ ¬ (48 ≤ x.toNat ∧ x.toNat ≤ 57) := by
      by_cases hd : 48 ≤ x.toNat ∧ x.toNat ≤ 57
      · refine .inl ⟨by omega, ?_⟩
        rw [Int.pow_succ]; omega
      · exact .inr hd
    clear hp ha1
    by_cases h1 : (x.toNat : Int) < 48
    · rw [if_neg (by omega)] at hj
      subst hj
      clear hst
      refine bgo ?_
      trivial
    by_cases h2 : (x.toNat : Int) > 57
    · rw [if_neg (by omega)] at hj
      subst hj
      clear hst
      refine bgo ?_
      trivial
    rw [if_pos (by omega)] at hj
    rcases hst with ⟨hst1, hst2⟩ | hst
    rotate_left
    · omega
    have hju : Go.RowKit.Hid (digN (10 * a + ((x.toNat : Int) - 48)) (s.drop (k + 1)) = r) := hj
    have hst2 : Go.RowKit.Hid (10 * a + ((x.toNat : Int) - 48) < 10 ^ (k + 1)) := hst2
    have hw := u8_wrap (n := (x.toNat : Int) - 48) (by omega) (by omega)
    have hxb : 0 ≤ (x.toNat : Int) - 48 ∧ (x.toNat : Int) - 48 ≤ 9 := by omega
    clear hj
    refine bgo ?_
    exact nx.go (k + 1, 10 * a + ((x.toNat : Int) - 48)) ⟨hlt, hju.out, hst1, hst2.out⟩ (by dsimp only; omega) hs
  · have hk' : k = s.length := by omega
    subst hk'
    rw [List.drop_length, digN] at hj
    subst hj
    clear hp ha1
    refine bgo ?_
    refine wk_rfl ?_
    refine bgo ?_
    trivial
theorem u8_45 (c : UInt8) : (c.toNat : Int) = 45 ↔ c = 45 := by
  constructor
  · intro h
    have h2 : c.toNat = (45 : UInt8).toNat := by show c.toNat = 45; omega
    exact UInt8.toNat_inj.1 h2
  · rintro rfl; rfl
theorem specParseDate_b (s : Tx) : BRet Tryz.prog 50 [] [.str s] (.tup [.int (dV (sDate s)), .bool (sDate s).isSome]) [] := by
  refine BRet.slen 0 (by kernel_rfl) rfl fun hl => ?_
  obtain ⟨o, ho⟩ : ∃ o, Go.RowKit.Hid (sDate s = o) := ⟨_, rfl⟩
  rw [ho.out]
  refine bof Tryz.func50 ?_
  by_cases hlen : (s.length : Int) = 10
  rotate_left
  · obtain rfl : o = none := by rw [← ho.out]; unfold sDate; rw [if_neg (by omega)]
    have q : ((s.length : Int) != 10) = true := by rw [bne_iff_ne]; exact hlen
    clear hlen
    refine bgo ?_
    trivial
  have q : ((s.length : Int) != 10) = false := by rw [hlen]; rfl
  have hln : s.length = 10 := by omega
  have x4 : s[4]? = some s[4] := List.getElem?_eq_getElem (by omega)
  have x7 : s[7]? = some s[7] := List.getElem?_eq_getElem (by omega)
  have t1 : (s.take 4).length = 4 := by simp; omega
  have t2 : ((s.drop 5).take 2).length = 2 := by simp; omega
  have t3 : (s.drop 8).length = 2 := by simp; omega
  have a1 := l3Digits_b (s.take 4) (by omega)
  have a2 := l3Digits_b ((s.drop 5).take 2) (by omega)
  have a3 := l3Digits_b (s.drop 8) (by omega)
  have b1 : 4 ≤ s.length := by omega
  have b2 : 5 ≤ 7 ∧ 7 ≤ s.length := by omega
  have b3 : 8 ≤ s.length := by omega
  have l4 : (4 : Int) < s.length := by omega
  have l7 : (7 : Int) < s.length := by omega
  unfold sDate at ho
  generalize digN 0 (s.take 4) = y at *
  generalize digN 0 ((s.drop 5).take 2) = m at *
  generalize digN 0 (s.drop 8) = d at *
  rw [show (s.drop 5).take 2 = (s.take 7).drop 5 from List.take_drop] at a2
  have hv := l3Valid_b y m d
  rw [x4, x7] at ho
  generalize s[4] = c4 at *
  generalize s[7] = c7 at *
  clear t1 t2 t3 hlen
  have e4 := u8_45
  by_cases h4 : c4 = 45
  rotate_left
  · obtain rfl : o = none := by rw [← ho.out, if_neg]; rintro ⟨-, h, -⟩; exact h4 (Option.some.inj h)
    have g4 : ((c4.toNat : Int) != 45) = true := by rw [bne_iff_ne]; exact fun h => h4 ((e4 c4).1 h)
    clear hln e4
    refine bgo ?_
    trivial
  have g4 : ((c4.toNat : Int) != 45) = false := by rw [h4]; rfl
  by_cases h7 : c7 = 45
  rotate_left
  · obtain rfl : o = none := by rw [← ho.out, if_neg]; rintro ⟨-, -, h⟩; exact h7 (Option.some.inj h)
    have g7 : ((c7.toNat : Int) != 45) = true := by rw [bne_iff_ne]; exact fun h => h7 ((e4 c7).1 h)
    clear hln e4 h4
    refine bgo ?_
    trivial
  have g7 : ((c7.toNat : Int) != 45) = false := by rw [h7]; rfl
  rw [if_pos ⟨hln, by rw [h4], by rw [h7]⟩] at ho
  clear hln e4 h4 h7
  cases hk : okDt y m d
  · obtain rfl : o = none := by rw [← ho.out, hk]; rfl
    rw [hk] at hv
    refine bgo ?_
    refine b_call a1 rfl rfl rfl rfl ?_
    refine bgo ?_
    refine b_call a2 rfl rfl rfl rfl ?_
    refine bgo ?_
    refine b_call a3 rfl rfl rfl rfl ?_
    refine bgo ?_
    refine ⟨rfl, rfl, ?_⟩
    refine b_call hv rfl rfl rfl rfl ?_
    refine bgo ?_
    trivial
  have hd := l3Day_ok hk
  rw [hk] at hv
  obtain rfl : o = some (dayN y m d) := by rw [← ho.out, hk]; rfl
  clear hk
  generalize dayN y m d = n at *
  refine bgo ?_
  refine b_call a1 rfl rfl rfl rfl ?_
  refine bgo ?_
  refine b_call a2 rfl rfl rfl rfl ?_
  refine bgo ?_
  refine b_call a3 rfl rfl rfl rfl ?_
  refine bgo ?_
  refine ⟨rfl, rfl, ?_⟩
  refine b_call hv rfl rfl rfl rfl ?_
  refine bgo ?_
  refine b_call hd rfl rfl rfl rfl ?_
  refine bgo ?_
  trivial
end Go.Bee.C24r


namespace Go.Bee.C24r
open Go Go.Bee Go.Proofs Go.Bee.Ty Go.Bee.C23 Go.Bee.C23s Go.Bee.Da Go.Bee.C24 Go.Bee.C24c Go.Bee.C24d
set_option linter.unusedVariables false
set_option maxRecDepth 20000
attribute [local irreducible] Go.Bee.bwp
theorem amtT_neg {x : Int} (h : x < 0) : amtT x = [45] ++ num (-x / 100) ++ [46] ++ two (-x % 100) := by
  unfold amtT absI
  rw [if_pos h, if_pos h]
theorem amountTextN_b (x : Int) (h0 : x < 0) (h1 : -1000000000 ≤ x) : BRet Tryz.prog 101 [] [.int x] (.str (amtT x)) [] := by
  rw [amtT_neg h0]
  have hsz := size_b x (by omega)
  have ha : absI x = -x := by unfold absI; rw [if_pos h0]
  rw [ha] at hsz
  have hi := itoaN_b (-x / 100) (by omega) (by omega)
  have hp := paddedTwo_b (-x % 100) (by omega) (by omega)
  have h2 := num_le (n := -x / 100) (by omega) (by omega)
  have h3 := two_len (n := -x % 100) (by omega) (by omega)
  have hq : (-x).tdiv 100 = -x / 100 := Int.tdiv_eq_ediv_of_nonneg (by omega)
  have hr : (-x).tmod 100 = -x % 100 := Int.tmod_eq_emod_of_nonneg (by omega)
  have hz : ¬ ((100 : Int) = 0) := by decide
  generalize num (-x / 100) = t at *
  generalize two (-x % 100) = u at *
  have hb0 : 1 + t.length ≤ 140737488355328 := by omega
  have hb1 : 1 + t.length + 1 ≤ 140737488355328 := by omega
  have hb2 : 1 + t.length + 1 + 2 ≤ 140737488355328 := by omega
  have hb3 : t.length + 1 ≤ 140737488355328 := by omega
  have hb4 : t.length + 1 + 1 ≤ 140737488355328 := by omega
  have hb5 : t.length + 1 + 1 + 2 ≤ 140737488355328 := by omega
  have hqb : 0 ≤ -x / 100 ∧ -x / 100 ≤ 10000000 := by omega
  have hrb : 0 ≤ -x % 100 ∧ -x % 100 < 100 := by omega
  have hyb : 0 ≤ -x ∧ -x ≤ 1000000000 := by omega
  generalize -x / 100 = q at *
  generalize -x % 100 = r at *
  generalize -x = y at *
  clear ha h1
  refine bof Tryz.func101 ?_
  refine bgo ?_
  refine b_call hsz rfl rfl rfl rfl ?_
  refine bgo ?_
  refine b_call hi rfl rfl rfl rfl ?_
  refine bgo ?_
  refine b_call hsz rfl rfl rfl rfl ?_
  refine bgo ?_
  refine b_call hp rfl rfl rfl rfl ?_
  refine bgo ?_
  trivial
theorem amountTextZ_b (x : Int) (h0 : -1000000000 ≤ x) (h1 : x ≤ 1000000000) : BRet Tryz.prog 101 [] [.int x] (.str (amtT x)) [] := by
  by_cases h : x < 0
  · exact amountTextN_b x h h0
  · rw [← amtN_T (by omega)]; exact amountText_b x (by omega) h1
theorem l2FormatN_b (x : Int) (h0 : x < 0) (h1 : -1000000000 ≤ x) : BRet Tryz.prog 112 [] [.int x] (.str (amtT x)) [] := by
  rw [amtT_neg h0, show -x = 0 - x by omega]
  have hi := l1Num_b ((0 - x) / 100) (by omega) (by omega)
  have hp := l1Num_b ((0 - x) % 100) (by omega) (by omega)
  have h2 := num_le (n := (0 - x) / 100) (by omega) (by omega)
  have h3 := num_le (n := (0 - x) % 100) (by omega) (by omega)
  have hq : (0 - x).tdiv 100 = (0 - x) / 100 := Int.tdiv_eq_ediv_of_nonneg (by omega)
  have hr : (0 - x).tmod 100 = (0 - x) % 100 := Int.tmod_eq_emod_of_nonneg (by omega)
  have hz : ¬ ((100 : Int) = 0) := by decide
  unfold two
  have hqb : 0 ≤ (0 - x) / 100 ∧ (0 - x) / 100 ≤ 10000000 := by omega
  have hrb : 0 ≤ (0 - x) % 100 ∧ (0 - x) % 100 < 100 := by omega
  have hyb : 0 ≤ 0 - x ∧ 0 - x ≤ 1000000000 := by omega
  generalize num ((0 - x) / 100) = t at *
  generalize num ((0 - x) % 100) = u at *
  have hb0 : 1 + t.length ≤ 140737488355328 := by omega
  have hb1 : t.length + 1 ≤ 140737488355328 := by omega
  have hb3 : t.length + 1 + 1 ≤ 140737488355328 := by omega
  have hb5 : t.length + 1 + 1 + 1 ≤ 140737488355328 := by omega
  have hb2 : t.length + 1 + 1 + u.length ≤ 140737488355328 := by omega
  have hb4 : t.length + 1 + 1 + 1 + u.length ≤ 140737488355328 := by omega
  generalize (0 - x) / 100 = q at *
  generalize (0 - x) % 100 = r at *
  generalize hneg : 0 - x = y at *
  clear h1
  refine bof Tryz.func112 ?_
  by_cases h : r < 10
  · rw [if_pos h]
    rw [show [45] ++ t ++ [46] ++ 48 :: u = [45] ++ t ++ [46] ++ [48] ++ u by simp]
    refine bgo ?_
    refine b_call hi rfl rfl rfl rfl ?_
    refine bgo ?_
    refine b_call hp rfl rfl rfl rfl ?_
    refine bgo ?_
    trivial
  · rw [if_neg h]
    refine bgo ?_
    refine b_call hi rfl rfl rfl rfl ?_
    refine bgo ?_
    refine b_call hp rfl rfl rfl rfl ?_
    refine bgo ?_
    trivial
theorem l2FormatZ_b (x : Int) (h0 : -1000000000 ≤ x) (h1 : x ≤ 1000000000) : BRet Tryz.prog 112 [] [.int x] (.str (amtT x)) [] := by
  by_cases h : x < 0
  · exact l2FormatN_b x h h0
  · rw [← amtN_T (by omega)]; exact l2Format_b x (by omega) h1
theorem isAmount_b (x : Int) : BRet Tryz.prog 100 [] [.int x] (.bool (inB x (-1000000000) 1000000000)) [] := by
  refine bof Tryz.func100 ?_
  refine bgo ?_
  refine b_call (within_b _ _ _) rfl rfl rfl rfl ?_
  refine bgo ?_
  trivial
theorem l2AmountZ_b (x : Int) : BRet Tryz.prog 147 [] [.int x] (.bool (inB x (-1000000000) 1000000000)) [] := by
  refine bof Tryz.func147 ?_
  refine bgo ?_
  refine b_call (l1In_b _ _ _) rfl rfl rfl rfl ?_
  refine bgo ?_
  trivial
theorem inB_iff {x a b : Int} : inB x a b = true ↔ a ≤ x ∧ x ≤ b := by
  unfold inB
  simp only [Bool.and_eq_true, decide_eq_true_eq]
theorem inB_not {x a b : Int} (h : inB x a b = false) : ¬ (a ≤ x ∧ x ≤ b) := fun k => by rw [inB_iff.2 k] at h; cases h
def ia2 (s : Tx) : Lib.NumEnd Int → Option Int
  | .ok x => if (-1000000000 ≤ x ∧ x ≤ 1000000000) then (if amtT x = s then some x else none) else none
  | _ => none
theorem iAmt_eq (s : Tx) : iAmt s = ia2 s (Lib.atoiAll (rep1 s)) := by
  unfold iAmt ia2
  cases Lib.atoiAll (rep1 s) <;> rfl
theorem ParseAmount_b (s : Tx) (hl : s.length ≤ 1048576) : BRet Tryz.prog 45 [] [.str s] (.tup [.int (dV (iAmt s)), .bool (iAmt s).isSome]) [] := by
  rw [iAmt_eq]
  have h1 := replace_b s hl
  have h2 := atoi_b (rep1 s)
  unfold atV atE at h2
  obtain ⟨o, ho⟩ : ∃ o, Go.RowKit.Hid (ia2 s (Lib.atoiAll (rep1 s)) = o) := ⟨_, rfl⟩
  rw [ho.out]
  generalize Lib.atoiSat (rep1 s) = sat at *
  generalize Lib.atoiAll (rep1 s) = e at *
  generalize rep1 s = u at *
  refine bof Tryz.func45 ?_
  rcases e with x | _ | _
  rotate_left
  · obtain rfl : o = none := ho.out.symm
    dsimp only at h2
    refine bgo ?_
    refine b_call h1 rfl rfl rfl rfl ?_
    refine bgo ?_
    refine b_call h2 rfl rfl rfl rfl ?_
    refine bgo ?_
    trivial
  · obtain rfl : o = none := ho.out.symm
    dsimp only at h2
    refine bgo ?_
    refine b_call h1 rfl rfl rfl rfl ?_
    refine bgo ?_
    refine b_call h2 rfl rfl rfl rfl ?_
    refine bgo ?_
    trivial
  · dsimp only at h2
    have h3 := isAmount_b x
    cases hk : inB x (-1000000000) 1000000000
    · obtain rfl : o = none := by rw [← ho.out, ia2, if_neg (inB_not hk)]
      rw [hk] at h3
      refine bgo ?_
      refine b_call h1 rfl rfl rfl rfl ?_
      refine bgo ?_
      refine b_call h2 rfl rfl rfl rfl ?_
      refine bgo ?_
      refine b_call h3 rfl rfl rfl rfl ?_
      refine bgo ?_
      trivial
    rw [hk] at h3
    have hx := inB_iff.1 hk
    have h4 := amountTextZ_b x hx.1 hx.2
    rw [ia2, if_pos hx] at ho
    clear hk hx
    generalize amtT x = T at *
    by_cases he : T = s
    · obtain rfl : o = some x := by rw [← ho.out, if_pos he]
      subst he
      refine bgo ?_
      refine b_call h1 rfl rfl rfl rfl ?_
      refine bgo ?_
      refine b_call h2 rfl rfl rfl rfl ?_
      refine bgo ?_
      refine b_call h3 rfl rfl rfl rfl ?_
      refine bgo ?_
      refine b_call h4 rfl rfl rfl rfl ?_
      refine bgo ?_
      trivial
    · obtain rfl : o = none := by rw [← ho.out, if_neg he]
      refine bgo ?_
      refine b_call h1 rfl rfl rfl rfl ?_
      refine bgo ?_
      refine b_call h2 rfl rfl rfl rfl ?_
      refine bgo ?_
      refine b_call h3 rfl rfl rfl rfl ?_
      refine bgo ?_
      refine b_call h4 rfl rfl rfl rfl ?_
      refine bgo ?_
      trivial
theorem u8_46 (c : UInt8) : (c.toNat : Int) = 46 ↔ c = 46 := by
  constructor
  · intro h
    have h2 : c.toNat = (46 : UInt8).toNat := by show c.toNat = 46; omega
    exact UInt8.toNat_inj.1 h2
  · rintro rfl; rfl
theorem specParseAmount_b (s : Tx) : BRet Tryz.prog 108 [] [.str s] (.tup [.int (dV (sAmt s)), .bool (sAmt s).isSome]) [] := by
  refine BRet.slen 0 (by kernel_rfl) rfl fun hl => ?_
  obtain ⟨o, ho⟩ : ∃ o, Go.RowKit.Hid (sAmt s = o) := ⟨_, rfl⟩
  rw [ho.out]
  have hin := l1In_b (s.length : Int) 4 12
  refine bof Tryz.func108 ?_
  cases hlen : inB (s.length : Int) 4 12
  · obtain rfl : o = none := by
      have := inB_not hlen
      rw [← ho.out]; unfold sAmt; rw [if_neg (by omega)]
    rw [hlen] at hin
    refine bgo ?_
    refine b_call hin rfl rfl rfl rfl ?_
    refine bgo ?_
    trivial
  have hln := inB_iff.1 hlen
  rw [hlen] at hin
  clear hlen
  have hl4 : 4 ≤ s.length := by omega
  have hl12 : s.length ≤ 12 := by omega
  unfold sAmt at ho
  rw [if_pos ⟨hl4, hl12⟩] at ho
  obtain ⟨L, hL⟩ : ∃ L, Go.RowKit.Hid (amL true 0 s = L) := ⟨_, rfl⟩
  rw [hL.out] at ho
  clear hln hl
  refine bgo ?_
  refine b_call hin rfl rfl rfl rfl ?_
  refine bgo ?_
  refine b_lp (ι := Nat × Int) (fun i => [(0, .str s), (4, .int i.2), (5, .int i.1)]) (fun _ => []) (fun i => i.1 ≤ s.length ∧ amL (decide (i.1 = 0)) i.2 (s.drop i.1) = L ∧ 0 ≤ i.2 ∧ i.2 < 10 ^ i.1) (fun i => s.length - i.1) (0, 0) hs ⟨Nat.zero_le _, hL.out, by decide, by decide⟩ ?_
  clear hL hin
  rintro ⟨k, a⟩ ⟨hk, hj, ha0, ha1⟩ I nx
  dsimp only at hk hj ha0 ha1 ⊢
  have hp : (10 : Int) ^ k ≤ 10 ^ 12 := by
    have : (10 : Nat) ^ k ≤ 10 ^ 12 := Nat.pow_le_pow_right (by decide) (by omega)
    exact_mod_cast this
  have hab : a < 1000000000000 := Int.lt_of_lt_of_le ha1 (Int.le_trans hp (by decide))
  have hpw : (10 : Int) ^ k ≤ 10 ^ (k + 1) := by rw [Int.pow_succ]; omega
  by_cases hlt : k < s.length
  · have hx : s[k]? = some s[k] := List.getElem?_eq_getElem hlt
    have hb : s[k].toNat < 256 := UInt8.toNat_lt _
    rw [List.drop_eq_getElem_cons hlt, amL] at hj
    generalize s[k] = x at *
    have hd0 : decide (k + 1 = 0) = false := by simp
    by_cases h1 : (x.toNat : Int) ≥ 48
    · by_cases h2 : (x.toNat : Int) ≤ 57
      · rw [if_pos (by omega)] at hj
        have hst1 : 0 ≤ 10 * a + ((x.toNat : Int) - 48) := by omega
        have hst2 : Go.RowKit.Hid (10 * a + ((x.toNat : Int) - 48) < 10 ^ (k + 1)) := by show _ < _; rw [Int.pow_succ]; omega
        have hju : Go.RowKit.Hid (amL (decide (k + 1 = 0)) (10 * a + ((x.toNat : Int) - 48)) (s.drop (k + 1)) = L) := by show _ = L; rw [hd0]; exact hj
        have hw := u8_wrap (n := (x.toNat : Int) - 48) (by omega) (by omega)
        have hxb : 0 ≤ (x.toNat : Int) - 48 ∧ (x.toNat : Int) - 48 ≤ 9 := by omega
        clear hj hp ha1 hpw hd0
        refine bgo ?_
        exact nx.go (k + 1, 10 * a + ((x.toNat : Int) - 48)) ⟨hlt, hju.out, hst1, hst2.out⟩ (by dsimp only; omega) hs
      · rw [if_neg (by omega), if_neg (by rintro (h | ⟨h, -⟩) <;> (subst h; exact h2 (by decide)))] at hj
        subst hj
        obtain rfl : o = none := ho.out.symm
        have g1 : ((x.toNat : Int) != 46) = true := by rw [bne_iff_ne]; omega
        have g2 : ((x.toNat : Int) != 45) = true := by rw [bne_iff_ne]; omega
        clear hp ha1 hpw hd0
        refine bgo ?_
        trivial
    · rw [if_neg (by omega)] at hj
      by_cases h46 : x = 46
      · rw [if_pos (.inl h46)] at hj
        have g1 : ((x.toNat : Int) != 46) = false := by rw [h46]; rfl
        have hju : Go.RowKit.Hid (amL (decide (k + 1 = 0)) a (s.drop (k + 1)) = L) := by show _ = L; rw [hd0]; exact hj
        have hst2 : Go.RowKit.Hid (a < 10 ^ (k + 1)) := by show _ < _; omega
        clear hj hp ha1 hpw hd0 h46
        refine bgo ?_
        exact nx.go (k + 1, a) ⟨hlt, hju.out, ha0, hst2.out⟩ (by dsimp only; omega) hs
      have g1 : ((x.toNat : Int) != 46) = true := by rw [bne_iff_ne]; exact fun h => h46 ((u8_46 x).1 h)
      by_cases h45 : x = 45
      · have g2 : ((x.toNat : Int) != 45) = false := by rw [h45]; rfl
        by_cases hk0 : (k : Int) > 0
        · rw [if_neg (by rintro (h | ⟨-, h⟩); exact h46 h; exact absurd (of_decide_eq_true h) (by omega))] at hj
          subst hj
          obtain rfl : o = none := ho.out.symm
          clear hp ha1 hpw hd0 h46 h45
          refine bgo ?_
          trivial
        · rw [if_pos (.inr ⟨h45, decide_eq_true (by omega)⟩)] at hj
          have hju : Go.RowKit.Hid (amL (decide (k + 1 = 0)) a (s.drop (k + 1)) = L) := by show _ = L; rw [hd0]; exact hj
          have hst2 : Go.RowKit.Hid (a < 10 ^ (k + 1)) := by show _ < _; omega
          clear hj hp ha1 hpw hd0 h46 h45
          refine bgo ?_
          exact nx.go (k + 1, a) ⟨hlt, hju.out, ha0, hst2.out⟩ (by dsimp only; omega) hs
      · rw [if_neg (by rintro (h | ⟨h, -⟩); exact h46 h; exact h45 h)] at hj
        subst hj
        obtain rfl : o = none := ho.out.symm
        have g2 : ((x.toNat : Int) != 45) = true := by rw [bne_iff_ne]; exact fun h => h45 ((u8_45 x).1 h)
        clear hp ha1 hpw hd0 h46 h45
        refine bgo ?_
        trivial
  · have hk' : k = s.length := by omega
    subst hk'
    rw [List.drop_length, amL] at hj
    subst hj
    have hx : s[0]? = some s[0] := List.getElem?_eq_getElem (by omega)
    have l0 : (0 : Int) < s.length := by omega
    rw [sAm2] at ho
    have hsg : sgn s a = if s[0] = 45 then 0 - a else a := by
      unfold sgn
      rw [hx]
      by_cases h : s[0] = 45
      · rw [if_pos h, if_pos (by rw [h])]; omega
      · rw [if_neg h, if_neg fun k => h (Option.some.inj k)]
    generalize s[0] = c at *
    obtain ⟨z, hz⟩ : ∃ z, Go.RowKit.Hid (sgn s a = z) := ⟨_, rfl⟩
    rw [hz.out] at ho hsg
    have hzb : -1000000000000 ≤ z ∧ z ≤ 1000000000000 := by rw [hsg]; split <;> omega
    have ham := l2AmountZ_b z
    have htx := fun h1 h2 => l2FormatZ_b z h1 h2
    clear hp ha1 hpw nx hk hz
    by_cases hc : c = 45
    · rw [if_pos hc] at hsg
      have g3 : ((c.toNat : Int) == 45) = true := by rw [hc]; rfl
      have hzz : 0 - a = z := hsg.symm
      clear hc hsg
      cases hk : inB z (-1000000000) 1000000000
      · obtain rfl : o = none := by rw [← ho.out, if_neg fun h => inB_not hk h.1]
        rw [hk] at ham
        clear htx hk
        refine bgo ?_
        refine wk_rfl ?_
        refine bgo ?_
        refine b_call ham rfl rfl rfl rfl ?_
        refine bgo ?_
        trivial
      rw [hk] at ham
      have hx2 := inB_iff.1 hk
      have htx := htx hx2.1 hx2.2
      clear hk
      generalize hT : amtT z = T at *
      by_cases he : T = s
      · obtain rfl : o = some z := by rw [← ho.out, if_pos ⟨hx2, he⟩]
        subst he
        clear hT
        refine bgo ?_
        refine wk_rfl ?_
        refine bgo ?_
        refine b_call ham rfl rfl rfl rfl ?_
        refine bgo ?_
        refine b_call htx rfl rfl rfl rfl ?_
        refine bgo ?_
        trivial
      · obtain rfl : o = none := by rw [← ho.out, if_neg fun h => he h.2]
        clear hT
        refine bgo ?_
        refine wk_rfl ?_
        refine bgo ?_
        refine b_call ham rfl rfl rfl rfl ?_
        refine bgo ?_
        refine b_call htx rfl rfl rfl rfl ?_
        refine bgo ?_
        trivial
    · rw [if_neg hc] at hsg
      have g3 : ((c.toNat : Int) == 45) = false := by rw [beq_eq_false_iff_ne]; exact fun h => hc ((u8_45 c).1 h)
      clear hc
      subst hsg
      cases hk : inB z (-1000000000) 1000000000
      · obtain rfl : o = none := by rw [← ho.out, if_neg fun h => inB_not hk h.1]
        rw [hk] at ham
        clear htx hk
        refine bgo ?_
        refine wk_rfl ?_
        refine bgo ?_
        refine b_call ham rfl rfl rfl rfl ?_
        refine bgo ?_
        trivial
      rw [hk] at ham
      have hx2 := inB_iff.1 hk
      have htx := htx hx2.1 hx2.2
      clear hk
      generalize hT : amtT z = T at *
      by_cases he : T = s
      · obtain rfl : o = some z := by rw [← ho.out, if_pos ⟨hx2, he⟩]
        subst he
        clear hT
        refine bgo ?_
        refine wk_rfl ?_
        refine bgo ?_
        refine b_call ham rfl rfl rfl rfl ?_
        refine bgo ?_
        refine b_call htx rfl rfl rfl rfl ?_
        refine bgo ?_
        trivial
      · obtain rfl : o = none := by rw [← ho.out, if_neg fun h => he h.2]
        clear hT
        refine bgo ?_
        refine wk_rfl ?_
        refine bgo ?_
        refine b_call ham rfl rfl rfl rfl ?_
        refine bgo ?_
        refine b_call htx rfl rfl rfl rfl ?_
        refine bgo ?_
        trivial
end Go.Bee.C24r


namespace Go.Bee.C24r
open Go Go.Bee Go.Proofs Go.Bee.Ty Go.Bee.C23 Go.Bee.C23s Go.Bee.Da Go.Bee.C24 Go.Bee.C24c Go.Bee.C24d
set_option linter.unusedVariables false
set_option maxRecDepth 20000
theorem bofp {f : Nat} {fn : Func} {c : Code} {rs : List ResultVar} {args : List PV} {r : PV} {ci co : List PV} (hf : Tryz.prog.funcs[f]? = some fn) (h : bwp Tryz.prog (fun _ => []) c (endK Tryz.prog rs r [co]) (St.init args [ci])) (hb : fn.body = some c := by exact rfl) (hrs : fn.results = rs.toArray := by exact rfl)
    (hn : (fn.name != "runtime.NumGoroutine") = true := by kernel_rfl) (hd : cOk Tryz.prog (fun _ => []) fn.ntmps c = true := by kernel_rfl) (ha : args.length ≤ fn.ntmps := by exact Nat.le_of_ble_eq_true rfl) : BRet Tryz.prog f [ci] args r [co] :=
  BRet.of_body (fun _ => []) mixed hf hb hn hd hrs rfl ha h
attribute [local irreducible] Go.Bee.bwp
abbrev wrC (ws : List Tx) (f : Bool) : List PV := [.d (.sl 1 (ws.map .str)), .bool f]
theorem ret_0p {P : Program} {st : St} {c : List PV} (hb : st.bx (.a 0) = some c) (hk : ∀ k, st.bx (.a (k + 1)) = none) (hc : c.all PV.gives1 = true) : retK P [] (.tup []) [c] st := by
  refine ⟨[], by simp [resAll], by simp [cellsFit], by simp, by simp, by simp [resPV], fun k => ?_, by simpa using hc⟩
  cases k with
  | zero => simpa using hb
  | succ k => simpa using hk k
def tkW (ws : List Tx) (w : Tx) : Bool := decide (ws.head? = some w)
def tkR (ws : List Tx) (w : Tx) : List Tx := if tkW ws w = true then ws.tail else ws
end Go.Bee.C24r


namespace Go.Bee.C24r
open Go Go.Bee Go.Proofs Go.Bee.Ty
theorem bEv0 : evBuild Tryz.prog 25 [] = some (.agg [.d (.int .i64 0), .d (.int .i64 0), .d (.str []), .d (.int .i64 0)]) := by kernel_rfl
theorem bWr : ∀ (x : PD) (l : List PD), evBuild Tryz.prog 58 [(0, .own 9 1 (x :: l))] = some (.agg [.d (.sl 1 (x :: l)), .d (.bool false)]) := fun x l => by kernel_rfl
end Go.Bee.C24r
namespace Go.Bee.C24s
theorem tys : type_of% (And.intro Go.Bee.C24r.tys (And.intro Go.Bee.C24r.bEv0 Go.Bee.C24r.bWr)) := And.intro Go.Bee.C24r.tys (And.intro Go.Bee.C24r.bEv0 Go.Bee.C24r.bWr)
end Go.Bee.C24s
namespace Go.Bee.C24s
open Go Go.Bee Go.Proofs Go.Bee.Ty Go.Bee.C23 Go.Bee.C23s Go.Bee.Da Go.Bee.C24 Go.Bee.C24c Go.Bee.C24d Go.Bee.C24r
set_option linter.unusedVariables false
set_option maxRecDepth 20000
attribute [local irreducible] Go.Bee.bwp
def rdE (s : Tx) (l : List Tx) (q : Ev4 × Bool) : Option Ev4 := if parOk l = true then finE txE s l q else none
def ev0 (o : Option Ev4) : Ev4 := o.getD ⟨0, 0, [], 0⟩
end Go.Bee.C24s


namespace Go.Bee.C24s
open Go Go.Bee Go.Proofs Go.Bee.Ty Go.Bee.C23 Go.Bee.C23s Go.Bee.Da Go.Bee.C24 Go.Bee.C24c Go.Bee.C24d Go.Bee.C24r
set_option linter.unusedVariables false
set_option maxRecDepth 20000
attribute [local irreducible] Go.Bee.bwp
abbrev rdC (s : Tx) (q : Nat × Bool) : List PV := [.str s, .int q.1, .bool q.2]
theorem beq_dec (x y : Tx) : (x == y) = decide (x = y) := by rw [Bool.eq_iff_iff]; simp
theorem l5Starts_b (s w : Tx) (k : Nat) (hsl : s.length ≤ 1048576) (hw : w.length ≤ 1048576) (hk : k ≤ s.length) : BRet Tryz.prog 107 [] [.str s, .int k, .str w] (.bool (decide (k + w.length ≤ s.length) && decide ((s.drop k).take w.length = w))) [] := by
  rw [List.take_drop]
  refine bof Tryz.func107 ?_
  have hb : (k : Int) + w.length ≤ 4000000 := by omega
  by_cases h : (k : Int) + w.length ≤ s.length
  · have h1 : k + w.length ≤ s.length := by omega
    rw [decide_eq_true h1, Bool.true_and]
    have hc : (k : Int) ≤ (k : Int) + w.length := by omega
    have hn : ((k : Int) + w.length).toNat = k + w.length := by omega
    refine bgo ?_
    exact congrArg PV.bool (beq_dec _ _)
  · have h1 : ¬ k + w.length ≤ s.length := by omega
    rw [decide_eq_false h1, Bool.false_and]
    refine bgo ?_
    trivial
theorem take_b (s w : Tx) (q : Nat × Bool) (hsl : s.length ≤ 1048576) (hw : w.length ≤ 1048576) (hk : q.1 ≤ s.length) : BRet Tryz.prog 53 [rdC s q] [.ptr (.a 0) 0, .str w] (.bool (tkS s w q)) [rdC s (tkQ s w q)] := by
  obtain ⟨k, bad⟩ := q
  have h1 := l5Starts_b s w k hsl hw hk
  have hb : (k : Int) + w.length ≤ 4000000 := by dsimp only at hk; omega
  have hq : tkQ s w (k, bad) = if tkS s w (k, bad) = true then (k + w.length, bad) else (k, bad) := rfl
  have ht : tkS s w (k, bad) = (!bad && (decide (k + w.length ≤ s.length) && decide ((s.drop k).take w.length = w))) := by unfold tkS; rw [Bool.and_assoc]
  rw [hq, ht]
  clear hq ht
  refine bofp Tryz.func53 ?_
  generalize (decide (k + w.length ≤ s.length) && decide ((s.drop k).take w.length = w)) = b at *
  cases bad
  · cases b
    · refine bgo ?_
      refine b_call h1 rfl rfl rfl rfl ?_
      refine bgo ?_
      exact ret_1p rfl rfl rfl (fun k => rfl) rfl
    · simp only [Bool.not_false, Bool.true_and, if_true]
      refine bgo ?_
      refine b_call h1 rfl rfl rfl rfl ?_
      refine bgo ?_
      exact ret_1p rfl rfl rfl (fun k => rfl) rfl
  · simp only [Bool.not_true, Bool.false_and, Bool.false_eq_true, if_false]
    refine bgo ?_
    exact ret_1p rfl rfl rfl (fun k => rfl) rfl
theorem tkQ_le (s w : Tx) (q : Nat × Bool) (hk : q.1 ≤ s.length) : (tkQ s w q).1 ≤ s.length := by
  unfold tkQ
  split
  · rename_i h
    unfold tkS at h
    simp only [Bool.and_eq_true, decide_eq_true_eq] at h
    exact h.1.2
  · exact hk
theorem wtS_eq (s w : Tx) (q : Nat × Bool) : wtS s w q = if tkS s w q = true then tkQ s w q else (q.1, true) := by
  unfold wtS tkQ
  split
  · rfl
  · rfl
theorem wtS_le (s w : Tx) (q : Nat × Bool) (hk : q.1 ≤ s.length) : (wtS s w q).1 ≤ s.length := by
  rw [wtS_eq]
  split
  · exact tkQ_le s w q hk
  · exact hk
theorem want_b (s w : Tx) (q : Nat × Bool) (hsl : s.length ≤ 1048576) (hw : w.length ≤ 1048576) (hk : q.1 ≤ s.length) : BRet Tryz.prog 49 [rdC s q] [.ptr (.a 0) 0, .str w] (.tup []) [rdC s (wtS s w q)] := by
  have h1 := take_b s w q hsl hw hk
  have hn : tkS s w q = false → tkQ s w q = q := fun h => by unfold tkQ; rw [if_neg (by rw [h]; simp)]
  rw [wtS_eq]
  refine bofp Tryz.func49 ?_
  generalize tkS s w q = b at *
  cases b
  · rw [hn rfl] at h1
    clear hn
    rw [if_neg (by simp)]
    refine bgo ?_
    refine b_callp h1 rfl rfl rfl rfl rfl rfl rfl rfl rfl rfl ?_
    refine bgo ?_
    exact ret_0p rfl (fun k => rfl) rfl
  · clear hn
    rw [if_pos rfl]
    generalize tkQ s w q = q2 at *
    refine bgo ?_
    refine b_callp h1 rfl rfl rfl rfl rfl rfl rfl rfl rfl rfl ?_
    refine bgo ?_
    exact ret_0p rfl (fun k => rfl) rfl
theorem tw_pre {α : Type} (p : α → Bool) : ∀ l : List α, l.take (l.takeWhile p).length = l.takeWhile p
  | [] => rfl
  | a :: l => by
    rw [List.takeWhile_cons]
    split
    · rw [List.length_cons, List.take_succ_cons, tw_pre p l]
    · rfl
theorem tw_len {α : Type} (p : α → Bool) (l : List α) : (l.takeWhile p).length ≤ l.length := by
  have := congrArg List.length (tw_pre p l)
  rw [List.length_take] at this
  omega
theorem bEv2 : ∀ (d p : Int), evBuild Tryz.prog 25 [(0, .d (.int .i64 d)), (1, .d (.int .i64 p))] = some (.agg [.d (.int .i64 d), .d (.int .i64 p), .d (.str []), .d (.int .i64 0)]) := fun d p => by kernel_rfl
theorem bRd : ∀ (s : Tx) (k : Int) (b : Bool), evBuild Tryz.prog 69 [(0, .d (.str s)), (1, .d (.int .i64 k)), (2, .d (.bool b))] = some (.agg [.d (.str s), .d (.int .i64 k), .d (.bool b)]) := fun s k b => by kernel_rfl
end Go.Bee.C24s
namespace Go.Bee.C24t
theorem tys : type_of% (And.intro Go.Bee.C24s.tys (And.intro Go.Bee.C24s.bEv2 Go.Bee.C24s.bRd)) := And.intro Go.Bee.C24s.tys (And.intro Go.Bee.C24s.bEv2 Go.Bee.C24s.bRd)
end Go.Bee.C24t
namespace Go.Bee.C24t
open Go Go.Bee Go.Proofs Go.Bee.Ty Go.Bee.C23 Go.Bee.C23s Go.Bee.Da Go.Bee.C24 Go.Bee.C24c Go.Bee.C24d Go.Bee.C24r Go.Bee.C24s
set_option linter.unusedVariables false
set_option maxRecDepth 20000
attribute [local irreducible] Go.Bee.bwp
theorem ptR_nn (l : List Tx) (w : Tx) : 0 ≤ ptR l w := by unfold ptR; split <;> omega
end Go.Bee.C24t


namespace Go.Bee.C24e
open Go Go.Bee Go.Proofs Go.Bee.Ty Go.Bee.C23 Go.Bee.C23s Go.Bee.Da Go.Bee.C24 Go.Bee.C24c Go.Bee.C24d Go.Bee.C24r Go.Bee.C24s Go.Bee.C24t
set_option linter.unusedVariables false
set_option maxRecDepth 20000
def t_On : Tx := [79, 110, 32]
def t_cs : Tx := [44, 32]
def t_did : Tx := [32, 100, 105, 100, 32]
def t_paid : Tx := [32, 97, 110, 100, 32, 112, 97, 105, 100, 32]
def txT (l : List Tx) (e : Ev4) : Tx := evT e.d (l.getD e.p.toNat []) e.a e.am
theorem evT_eq (d : Int) (p a : Tx) (am : Int) : evT d p a am = t_On ++ (dateT d ++ (t_cs ++ (p ++ (t_did ++ (a ++ ((if am > 0 then t_paid ++ amtN am else []) ++ [46])))))) := by
  unfold evT evB t_On t_cs t_did t_paid
  split <;> simp only [List.append_assoc, List.nil_append]
theorem finG_no {tx : List Tx → Ev4 → Tx} {s : Tx} {l : List Tx} {e : Ev4} {F : Bool} (h : F = true ∨ okE l e = false ∨ tx l e ≠ s) : finE tx s l (e, F) = none := by
  unfold finE
  rw [if_neg]
  intro k
  simp only [Bool.and_eq_true, decide_eq_true_eq, Bool.not_eq_true'] at k
  rcases h with h | h | h
  · rw [h] at k; cases k.1.1
  · rw [h] at k; cases k.1.2
  · exact h k.2
theorem finG_yes {tx : List Tx → Ev4 → Tx} {s : Tx} {l : List Tx} {e : Ev4} {F : Bool} (h1 : F = false) (h2 : okE l e = true) (h3 : tx l e = s) : finE tx s l (e, F) = some e := by
  unfold finE
  rw [if_pos]
  simp [h1, h2, h3]
theorem finG_all {tx : List Tx → Ev4 → Tx} {s : Tx} {l : List Tx} {e : Ev4} {F : Bool} {o : Option Ev4} (h : finE tx s l (e, F) = o) : (F = true → o = none) ∧ (F = false → okE l e = false → o = none) ∧ (F = false → okE l e = true → tx l e ≠ s → o = none) ∧ (F = false → okE l e = true → tx l e = s → o = some e) :=
  ⟨fun k => by rw [← h]; exact finG_no (.inl k), fun _ k => by rw [← h]; exact finG_no (.inr (.inl k)), fun _ _ k => by rw [← h]; exact finG_no (.inr (.inr k)), fun k1 k2 k3 => by rw [← h]; exact finG_yes k1 k2 k3⟩
def pfx (r w : Tx) : Bool := decide (r.take w.length = w)
def cut (r w : Tx) : Tx := if pfx r w = true then r.drop w.length else r
def notIn (cs : Tx) (b : UInt8) : Bool := !cs.contains b
def upW (cs r : Tx) : Tx := r.takeWhile (notIn cs)
def upR (cs r : Tx) : Tx := r.drop (upW cs r).length
def trimD (r : Tx) : Tx := if r.getLast? = some 46 then r.dropLast else r
theorem pfx_app (w y : Tx) : pfx (w ++ y) w = true := by unfold pfx; rw [List.take_append_of_le_length (Nat.le_refl _), List.take_length]; simp
theorem cut_app (w y : Tx) : cut (w ++ y) w = y := by unfold cut; rw [if_pos (pfx_app w y)]; simp
theorem upW_app {cs w y : Tx} (hw : ∀ b ∈ w, notIn cs b = true) (hy : y = [] ∨ ∃ c t, y = c :: t ∧ notIn cs c = false) : upW cs (w ++ y) = w := takeWhile_app w y hw hy
theorem upR_app {cs w y : Tx} (hw : ∀ b ∈ w, notIn cs b = true) (hy : y = [] ∨ ∃ c t, y = c :: t ∧ notIn cs c = false) : upR cs (w ++ y) = y := by unfold upR; rw [upW_app hw hy]; simp
def iRdT (s : Tx) (l : List Tx) : Ev4 × Bool :=
  let r1 := cut s t_On
  let r2 := upR [44] r1
  let r3 := cut r2 t_cs
  let f2 := !pfx r2 t_cs || (!pfx s t_On || false)
  let i := idx (fun x => upW [32, 44] r3 == x) l 0
  let f3 := f2 || decide (i < 0)
  let r4 := upR [32, 44] r3
  let r5 := cut r4 t_did
  let f4 := !pfx r4 t_did || f3
  let r6 := upR [32, 46] r5
  (⟨dV (iDate (upW [44] r1)), max 0 i, upW [32, 46] r5, if pfx r6 t_paid = true then dV (iAmt (trimD (cut r6 t_paid))) else 0⟩, f4)
theorem sg_not {b : UInt8} (h : sg b = true) : notIn [32, 44] b = true ∧ notIn [32, 46] b = true ∧ notIn [44] b = true := by
  obtain ⟨h1, h2, h3⟩ := sg_ne h
  unfold notIn
  simp [h1, h2, h3]
theorem iRdT_ok {l : List Tx} (hl : parOk l = true) {e : Ev4} (h : okE l e = true) : iRdT (txT l e) l = (e, false) := by
  obtain ⟨⟨d0, d1⟩, ⟨p0, p1⟩, ha, ⟨m0, m1⟩, hp⟩ := ev_parts hl h
  have hx : idx (fun x => l.getD e.p.toNat [] == x) l 0 = e.p := by
    rw [par_idx hl p1 _ fun x => by rw [Bool.eq_iff_iff, beq_iff_eq, decide_eq_true_eq]; exact eq_comm]; omega
  have n1 : ∀ b ∈ dateT e.d, notIn [44] b = true := fun b hb => by
    have := (dateT_ne d0 d1 b hb).2
    unfold notIn; simp [this]
  have n2 : ∀ b ∈ l.getD e.p.toNat [], notIn [32, 44] b = true := fun b hb => (sg_not (vName_sg hp b hb)).1
  have n4 : ∀ b ∈ e.a, notIn [32, 46] b = true := fun b hb => (sg_not (vName_sg ha b hb)).2.1
  have hd := iDate_date d0 d1
  have hm : iAmt (amtN e.am) = some e.am := by rw [amtN_T m0]; exact iAmt_amt m0 (by omega)
  have hmx : max 0 e.p = e.p := by omega
  have hpn : ¬ e.p < 0 := by omega
  unfold txT
  rw [evT_eq]
  generalize hP : l.getD e.p.toNat [] = P at *
  have c1 : (t_cs ++ (P ++ (t_did ++ (e.a ++ ((if e.am > 0 then t_paid ++ amtN e.am else []) ++ [46]))))) = [] ∨ ∃ c t, (t_cs ++ (P ++ (t_did ++ (e.a ++ ((if e.am > 0 then t_paid ++ amtN e.am else []) ++ [46]))))) = c :: t ∧ notIn [44] c = false := .inr ⟨44, _, rfl, by decide⟩
  have c2 : (t_did ++ (e.a ++ ((if e.am > 0 then t_paid ++ amtN e.am else []) ++ [46]))) = [] ∨ ∃ c t, (t_did ++ (e.a ++ ((if e.am > 0 then t_paid ++ amtN e.am else []) ++ [46]))) = c :: t ∧ notIn [32, 44] c = false := .inr ⟨32, _, rfl, by decide⟩
  unfold iRdT
  dsimp only
  rw [cut_app, pfx_app, upR_app n1 c1, upW_app n1 c1, cut_app, pfx_app, upR_app n2 c2, upW_app n2 c2, cut_app, pfx_app, hx, hd, hmx, decide_eq_false hpn]
  by_cases hpos : e.am > 0
  · rw [if_pos hpos]
    have c3 : (t_paid ++ amtN e.am ++ [46]) = [] ∨ ∃ c t, (t_paid ++ amtN e.am ++ [46]) = c :: t ∧ notIn [32, 46] c = false := .inr ⟨32, _, rfl, by decide⟩
    rw [upR_app n4 c3, upW_app n4 c3, List.append_assoc, pfx_app, cut_app, if_pos rfl]
    have ht : trimD (amtN e.am ++ [46]) = amtN e.am := by unfold trimD; simp
    rw [ht, hm]
    rfl
  · have h0 : e.am = 0 := by omega
    rw [if_neg hpos, List.nil_append]
    have c3 : ([46] : Tx) = [] ∨ ∃ c t, ([46] : Tx) = c :: t ∧ notIn [32, 46] c = false := .inr ⟨46, _, rfl, by decide⟩
    rw [upR_app n4 c3, upW_app n4 c3, if_neg (by decide), ← h0]
    rfl
def plT (s : Tx) (q : Nat × Bool) : Tx := if q.2 = true then [] else (s.drop q.1).takeWhile sg
def plS (s : Tx) (q : Nat × Bool) : Nat × Bool := (q.1 + (plT s q).length, q.2)
def naS (s : Tx) (l : List Tx) (q : Nat × Bool) : Nat × Bool := ((plS s q).1, q.2 || decide (ptI l (plT s q) < 0))
def isDg (b : UInt8) : Bool := decide (48 ≤ b.toNat ∧ b.toNat ≤ 57)
def moT (s : Tx) (q : Nat × Bool) : Tx := if q.2 = true then [] else (s.drop q.1).takeWhile isDg
def moX (s : Tx) (q : Nat × Bool) : Bool := q.2 || decide (q.1 + (moT s q).length + 3 > s.length)
def moW (s : Tx) (q : Nat × Bool) : Tx := (s.drop q.1).take ((moT s q).length + 3)
def moS (s : Tx) (q : Nat × Bool) : Nat × Bool := if moX s q = true then (q.1 + (moT s q).length, true) else (q.1 + (moT s q).length + 3, (sAmt (moW s q)).isNone)
def moR (s : Tx) (q : Nat × Bool) : Int := if moX s q = true then 0 else dV (sAmt (moW s q))
def sRdT (s : Tx) (l : List Tx) : Ev4 × Bool :=
  if ¬ (14 ≤ s.length ∧ s.length ≤ 4000) then (⟨0, 0, [], 0⟩, true) else
    let q1 := wtS s t_On (0, false)
    let o := sDate ((s.drop 3).take 10)
    let q2 := wtS s t_cs (13, q1.2 || !o.isSome)
    let q3 := wtS s t_did (naS s l q2)
    let q4 := plS s q3
    let b5 := tkS s t_paid q4
    let q5 := tkQ s t_paid q4
    let q7 := wtS s [46] (if b5 = true then moS s q5 else q5)
    (⟨dV o, ptR l (plT s q2), plT s q3, if b5 = true then moR s q5 else 0⟩, q7.2 || decide (q7.1 ≠ s.length))
theorem pl_ok {s x w y : Tx} (hs : s = x ++ (w ++ y)) (hw : ∀ b ∈ w, sg b = true) (hy : y = [] ∨ ∃ c t, y = c :: t ∧ sg c = false) : plT s (x.length, false) = w ∧ plS s (x.length, false) = ((x ++ w).length, false) := by
  have h : plT s (x.length, false) = w := by
    subst hs
    unfold plT
    rw [if_neg (by simp), drop_x, takeWhile_app w y hw hy]
  exact ⟨h, by unfold plS; rw [h, List.length_append]⟩
theorem sRdT_ok {l : List Tx} (hl : parOk l = true) {e : Ev4} (h : okE l e = true) : sRdT (txT l e) l = (e, false) := by
  obtain ⟨⟨d0, d1⟩, ⟨p0, p1⟩, ha, ⟨m0, m1⟩, hp⟩ := ev_parts hl h
  have hx : ptI l (l.getD e.p.toNat []) = e.p := by
    unfold ptI
    rw [par_idx hl p1 _ fun x => by rw [Bool.eq_iff_iff, beq_iff_eq, decide_eq_true_eq]]; omega
  have w2 : ∀ b ∈ l.getD e.p.toNat [], sg b = true := vName_sg hp
  have w4 : ∀ b ∈ e.a, sg b = true := vName_sg ha
  have v2 := vName_len hp
  have v4 := vName_len ha
  have dl : (dateT e.d).length = 10 := (dateT_cut d0 d1).1
  have hd := sDate_date d0 d1
  have hm := sAmt_amt m0 (by omega)
  have sp : sg 32 = false := by decide
  have sd : sg 46 = false := by decide
  have ml : (amtN e.am).length ≤ 30 := amtN_len m0 (by omega)
  unfold txT
  rw [evT_eq]
  generalize hP : l.getD e.p.toNat [] = P at *
  generalize hQ : (if e.am > 0 then t_paid ++ amtN e.am else []) = Q
  have hQl : Q.length ≤ 40 := by
    rw [← hQ]
    split
    · rw [List.length_append]; show 10 + _ ≤ 40; omega
    · exact Nat.zero_le _
  have hQ0 : Q ++ [46] = [] ∨ ∃ c t, Q ++ [46] = c :: t ∧ sg c = false := by
    rw [← hQ]
    split
    · exact .inr ⟨32, _, rfl, sp⟩
    · exact .inr ⟨46, _, rfl, sd⟩
  obtain ⟨s, hs⟩ : ∃ s, s = t_On ++ (dateT e.d ++ (t_cs ++ (P ++ (t_did ++ (e.a ++ (Q ++ [46])))))) := ⟨_, rfl⟩
  rw [← hs]
  have s0 : s = [] ++ (t_On ++ (dateT e.d ++ (t_cs ++ (P ++ (t_did ++ (e.a ++ (Q ++ [46]))))))) := hs
  have s1 : s = (t_On ++ dateT e.d) ++ (t_cs ++ (P ++ (t_did ++ (e.a ++ (Q ++ [46]))))) := by rw [hs]; simp only [List.append_assoc]
  have s2 : s = (t_On ++ dateT e.d ++ t_cs) ++ (P ++ (t_did ++ (e.a ++ (Q ++ [46])))) := by rw [hs]; simp only [List.append_assoc]
  have s3 : s = (t_On ++ dateT e.d ++ t_cs ++ P) ++ (t_did ++ (e.a ++ (Q ++ [46]))) := by rw [hs]; simp only [List.append_assoc]
  have s4 : s = (t_On ++ dateT e.d ++ t_cs ++ P ++ t_did) ++ (e.a ++ (Q ++ [46])) := by rw [hs]; simp only [List.append_assoc]
  have hlen : 14 ≤ s.length ∧ s.length ≤ 4000 := by
    rw [hs]
    simp only [List.length_append, dl, List.length_cons, List.length_nil]
    have : t_On.length = 3 ∧ t_cs.length = 2 ∧ t_did.length = 5 := ⟨rfl, rfl, rfl⟩
    omega
  have k0 : (s.drop 3).take 10 = dateT e.d := by
    rw [hs]
    show (dateT e.d ++ (t_cs ++ (P ++ (t_did ++ (e.a ++ (Q ++ [46])))))).take 10 = _
    rw [← dl, List.take_append_of_le_length (Nat.le_refl _), List.take_length]
  have q1 : wtS s t_On (0, false) = (([] ++ t_On).length, false) := wt_ok s0
  have q2 : wtS s t_cs (13, false) = ((t_On ++ dateT e.d ++ t_cs).length, false) := by
    have := wt_ok s1
    rwa [show (t_On ++ dateT e.d).length = 13 by rw [List.length_append, dl]; rfl] at this
  have y2 : (t_did ++ (e.a ++ (Q ++ [46]))) = [] ∨ ∃ c t, (t_did ++ (e.a ++ (Q ++ [46]))) = c :: t ∧ sg c = false := .inr ⟨32, _, rfl, sp⟩
  obtain ⟨t2, u2⟩ := pl_ok s2 w2 y2
  have q3 : naS s l ((t_On ++ dateT e.d ++ t_cs).length, false) = ((t_On ++ dateT e.d ++ t_cs ++ P).length, false) := by
    unfold naS
    rw [u2, t2, hx, decide_eq_false (show ¬ e.p < 0 by omega)]; rfl
  have q4 := wt_ok s3
  obtain ⟨t4, u4⟩ := pl_ok s4 w4 hQ0
  have hpt : ptR l P = e.p := by unfold ptR; rw [hx, if_neg (by omega)]
  unfold sRdT
  rw [if_neg (by simpa using hlen), k0, hd]
  simp only [Option.isSome_some, Bool.not_true]
  rw [q1]
  simp only [Bool.or_false]
  rw [q2, q3, q4, t2, t4, u4, hpt]
  have fin : ∀ x : Tx, s = x ++ [46] → ((wtS s [46] (x.length, false)).2 || decide ((wtS s [46] (x.length, false)).1 ≠ s.length)) = false := fun x hx => by
    have := wt_ok (s := s) (x := x) (w := [46]) (y := []) (by rw [hx]; rfl)
    rw [this, ← hx]; simp
  by_cases hpos : e.am > 0
  · rw [if_pos hpos] at hQ
    have s5 : s = (t_On ++ dateT e.d ++ t_cs ++ P ++ t_did ++ e.a) ++ (t_paid ++ (amtN e.am ++ [46])) := by rw [hs, ← hQ]; simp only [List.append_assoc]
    have s6 : s = (t_On ++ dateT e.d ++ t_cs ++ P ++ t_did ++ e.a ++ t_paid) ++ (amtN e.am ++ [46]) := by rw [hs, ← hQ]; simp only [List.append_assoc]
    rw [tk_ok s5, tq_ok s5]
    simp only [if_true]
    obtain ⟨X, hX⟩ : ∃ X, X = t_On ++ dateT e.d ++ t_cs ++ P ++ t_did ++ e.a ++ t_paid := ⟨_, rfl⟩
    rw [← hX] at s6 ⊢
    have hmo : moT s (X.length, false) = num (e.am / 100) := by
      unfold moT
      rw [if_neg (by simp), s6, drop_x]
      have : amtN e.am ++ [46] = num (e.am / 100) ++ ([46] ++ two (e.am % 100) ++ [46]) := by unfold amtN; simp only [List.append_assoc]
      rw [this]
      refine takeWhile_app _ _ (fun b hb => ?_) (.inr ⟨46, _, rfl, by decide⟩)
      unfold isDg
      exact decide_eq_true (dig_all (decFrom_num (e.am / 100) 0) b hb)
    have hal : (amtN e.am).length = (num (e.am / 100)).length + 3 := by
      unfold amtN
      rw [List.length_append, List.length_append, two_len2 (by omega) (by omega)]; rfl
    have hsl : s.length = X.length + (amtN e.am).length + 1 := by rw [s6]; simp only [List.length_append, List.length_cons, List.length_nil]; omega
    have hmx : moX s (X.length, false) = false := by
      unfold moX
      rw [hmo]
      dsimp only
      rw [decide_eq_false (by omega)]; rfl
    have hmw : moW s (X.length, false) = amtN e.am := by
      unfold moW
      rw [hmo, ← hal]
      dsimp only
      rw [s6, drop_x, List.take_append_of_le_length (Nat.le_refl _), List.take_length]
    have hms : moS s (X.length, false) = ((X ++ amtN e.am).length, false) := by
      unfold moS
      rw [hmx, hmw, hmo, hm]
      simp only [Bool.false_eq_true, if_false, Option.isNone_some, List.length_append, hal]
      rw [Nat.add_assoc]
    have hmr : moR s (X.length, false) = e.am := by
      unfold moR
      rw [hmx, hmw, hm]; rfl
    rw [hms, hmr, fin (X ++ amtN e.am) (by rw [s6, List.append_assoc])]
    rfl
  · rw [if_neg hpos] at hQ
    have h0 : e.am = 0 := by omega
    have s7 : s = (t_On ++ dateT e.d ++ t_cs ++ P ++ t_did ++ e.a) ++ [46] := by rw [hs, ← hQ]; simp only [List.append_assoc, List.nil_append]
    have hk : tkS s t_paid ((t_On ++ dateT e.d ++ t_cs ++ P ++ t_did ++ e.a).length, false) = false := by
      unfold tkS
      have : s.length = (t_On ++ dateT e.d ++ t_cs ++ P ++ t_did ++ e.a).length + 1 := by rw [s7]; simp only [List.length_append, List.length_cons, List.length_nil]
      have h2 : ¬ ((t_On ++ dateT e.d ++ t_cs ++ P ++ t_did ++ e.a).length + t_paid.length ≤ s.length) := by
        have : t_paid.length = 10 := rfl
        omega
      dsimp only
      rw [decide_eq_false h2]; simp
    have hkq : tkQ s t_paid ((t_On ++ dateT e.d ++ t_cs ++ P ++ t_did ++ e.a).length, false) = ((t_On ++ dateT e.d ++ t_cs ++ P ++ t_did ++ e.a).length, false) := by unfold tkQ; rw [hk]; rfl
    rw [hk, hkq]
    simp only [Bool.false_eq_true, if_false]
    rw [fin _ s7, ← h0]
    rfl
end Go.Bee.C24e


namespace Go.Bee.C24e
open Go Go.Bee Go.Proofs Go.Bee.Ty Go.Bee.C23 Go.Bee.C23s Go.Bee.Da Go.Bee.C24 Go.Bee.C24c Go.Bee.C24d Go.Bee.C24r Go.Bee.C24s Go.Bee.C24t
theorem bCr : ∀ s : Tx, evBuild Tryz.prog 73 [(0, .d (.str s))] = some (.agg [.d (.str s), .d (.int .i64 0), .d (.bool false)]) := fun s => by kernel_rfl
theorem tys : type_of% (And.intro Go.Bee.C24t.tys bCr) := And.intro Go.Bee.C24t.tys bCr
end Go.Bee.C24e
namespace Go.Bee.C24e
open Go Go.Bee Go.Proofs Go.Bee.Ty Go.Bee.C23 Go.Bee.C23s Go.Bee.Da Go.Bee.C24 Go.Bee.C24c Go.Bee.C24d Go.Bee.C24r Go.Bee.C24s Go.Bee.C24t
set_option linter.unusedVariables false
set_option maxRecDepth 20000
attribute [local irreducible] Go.Bee.bwp
theorem hasPrefix_b (r w : Tx) (hr : r.length ≤ 1048576) (hw : w.length ≤ 1048576) : BRet Tryz.prog 181 [] [.str r, .str w] (.bool (pfx r w)) [] := by
  refine bof Tryz.func181 ?_
  by_cases h : (r.length : Int) ≥ w.length
  · have hp : pfx r w = (r.take w.length == w) := by unfold pfx; exact (beq_dec _ _).symm
    rw [hp]
    have hc : w.length ≤ r.length := by omega
    clear hp
    refine bgo ?_
    trivial
  · have hp : pfx r w = false := by
      unfold pfx
      rw [decide_eq_false]
      intro k
      have := congrArg List.length k
      rw [List.length_take] at this
      omega
    rw [hp]
    clear hp
    refine bgo ?_
    trivial
theorem cutPrefix0_b (r w : Tx) (hr : r.length ≤ 1048576) (hw : w.length ≤ 1048576) : BRet Tryz.prog 155 [] [.str r, .str w] (.tup [.str (cut r w), .bool (pfx r w)]) [] := by
  have h1 := hasPrefix_b r w hr hw
  have hc : cut r w = if pfx r w = true then r.drop w.length else r := rfl
  have hl : pfx r w = true → w.length ≤ r.length := fun h => by
    unfold pfx at h
    have := congrArg List.length (of_decide_eq_true h)
    rw [List.length_take] at this
    omega
  rw [hc]
  clear hc
  refine bof Tryz.func155 ?_
  generalize pfx r w = b at *
  cases b
  · clear hl
    rw [if_neg (by simp)]
    refine bgo ?_
    refine b_call h1 rfl rfl rfl rfl ?_
    refine bgo ?_
    trivial
  · have hl := hl rfl
    rw [if_pos rfl]
    refine bgo ?_
    refine b_call h1 rfl rfl rfl rfl ?_
    refine bgo ?_
    trivial
theorem cutPrefix_b (r w : Tx) (hr : r.length ≤ 1048576) (hw : w.length ≤ 1048576) : BRet Tryz.prog 114 [] [.str r, .str w] (.tup [.str (cut r w), .bool (pfx r w)]) [] := by
  have h1 := cutPrefix0_b r w hr hw
  refine bof Tryz.func114 ?_
  refine bgo ?_
  refine b_call h1 rfl rfl rfl rfl ?_
  refine bgo ?_
  trivial
theorem trim_cases (r : Tx) : (r = [] ∧ trimD r = []) ∨ ∃ t b, r = t ++ [b] ∧ trimD r = if b = 46 then t else r := by
  rcases List.eq_nil_or_concat r with rfl | ⟨t, b, rfl⟩
  · exact .inl ⟨rfl, rfl⟩
  · refine .inr ⟨t, b, by simp, ?_⟩
    unfold trimD
    simp
theorem hasSuffix_b (t : Tx) (b : UInt8) (hr : t.length ≤ 1048576) : BRet Tryz.prog 156 [] [.str (t ++ [b]), .str [46]] (.bool (decide (b = 46))) [] := by
  refine bof Tryz.func156 ?_
  have hl : (t ++ [b]).length = t.length + 1 := by simp
  have hd : (t ++ [b]).drop t.length = [b] := by simp
  have he : ([b] == [46]) = decide (b = 46) := by rw [Bool.eq_iff_iff]; simp
  generalize t ++ [b] = r at *
  generalize decide (b = 46) = bb at *
  have hge : (r.length : Int) ≥ 1 := by omega
  have hsub : (r.length : Int) - 1 = t.length := by omega
  have hle : t.length ≤ r.length := by omega
  have hln : Go.RowKit.Hid (r.length = t.length + 1) := hl
  have hrb : r.length ≤ 2000000 := by omega
  clear hl
  refine bgo ?_
  trivial
theorem trimSuffix_b (r : Tx) (hr : r.length ≤ 1048576) : BRet Tryz.prog 61 [] [.str r, .str [46]] (.str (trimD r)) [] := by
  have key : BRet Tryz.prog 115 [] [.str r, .str [46]] (.str (trimD r)) [] := by
    rcases trim_cases r with ⟨rfl, e⟩ | ⟨t, b, rfl, e⟩
    · rw [e]
      have h1 : BRet Tryz.prog 156 [] [.str [], .str [46]] (.bool false) [] := by
        refine bof Tryz.func156 ?_
        have h01 : ¬ ((0 : Int) ≥ 1) := by decide
        refine bgo ?_
        trivial
      refine bof Tryz.func115 ?_
      refine bgo ?_
      refine b_call h1 rfl rfl rfl rfl ?_
      refine bgo ?_
      trivial
    · rw [e]
      have hl : (t ++ [b]).length = t.length + 1 := by simp
      have h1 := hasSuffix_b t b (by omega)
      have hd : (t ++ [b]).take t.length = t := by simp
      refine bof Tryz.func115 ?_
      generalize t ++ [b] = r at *
      have hsub : (r.length : Int) - 1 = t.length := by omega
      have hle : t.length ≤ r.length := by omega
      have hrb : r.length ≤ 2000000 := by omega
      clear hl
      by_cases h : b = 46
      · rw [if_pos h]
        rw [decide_eq_true h] at h1
        clear h e
        refine bgo ?_
        refine b_call h1 rfl rfl rfl rfl ?_
        refine bgo ?_
        trivial
      · rw [if_neg h]
        rw [decide_eq_false h] at h1
        clear h e
        refine bgo ?_
        refine b_call h1 rfl rfl rfl rfl ?_
        refine bgo ?_
        trivial
  refine bof Tryz.func61 ?_
  refine bgo ?_
  refine b_call key rfl rfl rfl rfl ?_
  refine bgo ?_
  trivial
theorem trimD_len (r : Tx) : (trimD r).length ≤ r.length := by
  unfold trimD
  split
  · rw [List.length_dropLast]; omega
  · exact Nat.le_refl _
def IdxA (cs r : Tx) : Prop := BRet Tryz.prog 113 [] [.str r, .str cs] (.int (Lib.indexAny r cs)) []
theorem idxA_cases (cs : Tx) : ∀ r : Tx, (Lib.indexAny r cs = -1 ∧ (upW cs r).length = r.length) ∨ (Lib.indexAny r cs = ((upW cs r).length : Nat) ∧ (upW cs r).length ≤ r.length)
  | [] => .inl ⟨rfl, rfl⟩
  | b :: l => by
    rw [Lib.indexAny]
    unfold upW
    rw [List.takeWhile_cons]
    by_cases h : cs.contains b = true
    · have hn : notIn cs b = false := by unfold notIn; rw [h]; rfl
      rw [if_pos h, hn]
      exact .inr ⟨rfl, Nat.zero_le _⟩
    · have hn : notIn cs b = true := by unfold notIn; simpa using h
      rw [if_neg h, hn, if_pos rfl]
      have ih := idxA_cases cs l
      unfold upW at ih
      rcases ih with ⟨h1, h2⟩ | ⟨h1, h2⟩
      · rw [h1]; exact .inl ⟨by simp, by simp [h2]⟩
      · rw [h1]
        refine .inr ⟨?_, by simp only [List.length_cons]; omega⟩
        have : ¬ (((l.takeWhile (notIn cs)).length : Int) == -1) = true := by simp
        rw [if_neg this]
        simp
abbrev crC (r : Tx) (f : Bool) : List PV := [.str r, .int 0, .bool f]
theorem cut_len (r w : Tx) : (cut r w).length ≤ r.length := by unfold cut; split <;> simp
theorem upR_len (cs r : Tx) : (upR cs r).length ≤ r.length := by unfold upR; simp
theorem upW_take (cs r : Tx) : r.take (upW cs r).length = upW cs r := tw_pre _ r
theorem upW_len (cs r : Tx) : (upW cs r).length ≤ r.length := tw_len _ r
theorem ctake_b (r : Tx) (f : Bool) (w : Tx) (hr : r.length ≤ 1048576) (hw : w.length ≤ 1048576) : BRet Tryz.prog 60 [crC r f] [.ptr (.a 0) 0, .str w] (.bool (pfx r w)) [crC (cut r w) f] := by
  have h1 := cutPrefix_b r w hr hw
  have hc : pfx r w = false → cut r w = r := fun h => by unfold cut; rw [h]; rfl
  refine bofp Tryz.func60 ?_
  generalize cut r w = c at *
  generalize pfx r w = b at *
  cases b
  · obtain rfl := hc rfl
    refine bgo ?_
    refine b_call h1 rfl rfl rfl rfl ?_
    refine bgo ?_
    exact ret_1p rfl rfl rfl (fun k => rfl) rfl
  · clear hc
    refine bgo ?_
    refine b_call h1 rfl rfl rfl rfl ?_
    refine bgo ?_
    exact ret_1p rfl rfl rfl (fun k => rfl) rfl
theorem cneed_b (r : Tx) (f : Bool) (w : Tx) (hr : r.length ≤ 1048576) (hw : w.length ≤ 1048576) : BRet Tryz.prog 57 [crC r f] [.ptr (.a 0) 0, .str w] (.tup []) [crC (cut r w) (!pfx r w || f)] := by
  have h1 := ctake_b r f w hr hw
  refine bofp Tryz.func57 ?_
  generalize cut r w = c at *
  generalize pfx r w = b at *
  cases b
  · refine bgo ?_
    refine b_callp h1 rfl rfl rfl rfl rfl rfl rfl rfl rfl rfl ?_
    refine bgo ?_
    exact ret_0p rfl (fun k => rfl) rfl
  · refine bgo ?_
    refine b_callp h1 rfl rfl rfl rfl rfl rfl rfl rfl rfl rfl ?_
    refine bgo ?_
    exact ret_0p rfl (fun k => rfl) rfl
theorem cupTo_b (r : Tx) (f : Bool) (cs : Tx) (hr : r.length ≤ 1048576) (hI : IdxA cs r) : BRet Tryz.prog 58 [crC r f] [.ptr (.a 0) 0, .str cs] (.str (upW cs r)) [crC (upR cs r) f] := by
  have h1 : BRet Tryz.prog 113 [] [.str r, .str cs] (.int (Lib.indexAny r cs)) [] := hI
  have hx := idxA_cases cs r
  have ht := upW_take cs r
  have hle := upW_len cs r
  have hR : upR cs r = r.drop (upW cs r).length := rfl
  rw [hR]
  clear hR hI
  refine bofp Tryz.func58 ?_
  generalize upW cs r = W at *
  generalize Lib.indexAny r cs = n at *
  rcases hx with ⟨rfl, h2⟩ | ⟨rfl, -⟩
  · have e1 : r.take r.length = W := by rw [← h2]; exact ht
    have e2 : r.drop W.length = r.drop r.length := by rw [h2]
    rw [e2]
    rw [List.take_length] at e1
    subst e1
    clear ht h2 e2
    refine bgo ?_
    refine b_call h1 rfl rfl rfl rfl ?_
    refine bgo ?_
    first
      | exact ret_1p rfl rfl rfl (fun k => rfl) rfl
      | (simp only [List.take_length]; exact ret_1p rfl rfl rfl (fun k => rfl) rfl)
  · have hn : ¬ ((W.length : Int) < 0) := by omega
    refine bgo ?_
    refine b_call h1 rfl rfl rfl rfl ?_
    refine bgo ?_
    exact ret_1p rfl rfl rfl (fun k => rfl) rfl
theorem cparty_b (r : Tx) (f : Bool) (l : List Tx) (hr : r.length ≤ 1048576) (hI : IdxA [32, 44] r) : BRet Tryz.prog 59 [crC r f] [.ptr (.a 0) 0, .d (.sl 1 (l.map .str))] (.int (max 0 (idx (fun x => upW [32, 44] r == x) l 0))) [crC (upR [32, 44] r) (f || decide (idx (fun x => upW [32, 44] r == x) l 0 < 0))] := by
  have h1 := cupTo_b r f [32, 44] hr hI
  have h2 := indexStr_b l (upW [32, 44] r)
  refine bofp Tryz.func59 ?_
  generalize idx (fun x => upW [32, 44] r == x) l 0 = i at *
  generalize upW [32, 44] r = hd at *
  generalize upR [32, 44] r = tl at *
  cases f
  · by_cases hi : i < 0
    · refine bgo ?_
      refine b_callp h1 rfl rfl rfl rfl rfl rfl rfl rfl rfl rfl ?_
      refine bgo ?_
      refine b_call h2 rfl rfl rfl rfl ?_
      refine bgo ?_
      exact ret_1p rfl rfl rfl (fun k => rfl) rfl
    · refine bgo ?_
      refine b_callp h1 rfl rfl rfl rfl rfl rfl rfl rfl rfl rfl ?_
      refine bgo ?_
      refine b_call h2 rfl rfl rfl rfl ?_
      refine bgo ?_
      exact ret_1p rfl rfl rfl (fun k => rfl) rfl
  · refine bgo ?_
    refine b_callp h1 rfl rfl rfl rfl rfl rfl rfl rfl rfl rfl ?_
    refine bgo ?_
    refine b_call h2 rfl rfl rfl rfl ?_
    refine bgo ?_
    exact ret_1p rfl rfl rfl (fun k => rfl) rfl
def rdT (s : Tx) (l : List Tx) (q : Ev4 × Bool) : Option Ev4 := if parOk l = true then finE txT s l q else none
theorem EnglishToEvent_b (s : Tx) (l : List Tx) (hl : s.length ≤ 1048576) (hI : ∀ cs ∈ ([[44], [32, 44], [32, 46]] : List Tx), ∀ r : Tx, r.length ≤ 1048576 → IdxA cs r) : BRet Tryz.prog 15 [] [.str s, .d (.sl 1 (l.map .str))]
    (.tup [.agg [.int (ev0 (rdT s l (iRdT s l))).d, .int (ev0 (rdT s l (iRdT s l))).p, .str (ev0 (rdT s l (iRdT s l))).a, .int (ev0 (rdT s l (iRdT s l))).am], .bool (rdT s l (iRdT s l)).isSome]) [] := by
  have hp := areParties_b l
  obtain ⟨o, ho⟩ : ∃ o, Go.RowKit.Hid (rdT s l (iRdT s l) = o) := ⟨_, rfl⟩
  rw [ho.out]
  refine bof Tryz.func15 ?_
  cases hk : parOk l
  · obtain rfl : o = none := by rw [← ho.out]; unfold rdT; rw [hk]; rfl
    rw [hk] at hp
    refine bgo ?_
    refine b_call hp rfl rfl rfl rfl ?_
    refine bgo ?_
    exact ret_ct rfl rfl rfl ty25 rfl rfl rfl rfl rfl (fun k => rfl)
  rw [hk] at hp
  replace ho : Go.RowKit.Hid (finE txT s l (iRdT s l) = o) := by show _ = o; rw [← ho.out]; unfold rdT; rw [if_pos hk]
  unfold iRdT at ho
  dsimp only at ho
  have hpl : 2 ≤ l.length ∧ l.length ≤ 4 := by
    unfold parOk inB at hk
    simp only [Bool.and_eq_true, decide_eq_true_eq] at hk
    omega
  have h1 := cneed_b s false t_On hl (by decide)
  have l1 : (cut s t_On).length ≤ 1048576 := Nat.le_trans (cut_len _ _) hl
  generalize cut s t_On = r1 at *
  generalize (!pfx s t_On || false) = f1 at *
  have h2 := cupTo_b r1 f1 [44] l1 (hI [44] (by simp) r1 l1)
  have l2 : (upR [44] r1).length ≤ 1048576 := Nat.le_trans (upR_len _ _) l1
  have h3 := ParseDate_b (upW [44] r1)
  generalize upW [44] r1 = w1 at *
  generalize dV (iDate w1) = D at *
  generalize (iDate w1).isSome = D2 at *
  generalize upR [44] r1 = r2 at *
  have h4 := cneed_b r2 f1 t_cs l2 (by decide)
  have l3 : (cut r2 t_cs).length ≤ 1048576 := Nat.le_trans (cut_len _ _) l2
  generalize (!pfx r2 t_cs || f1) = f2 at *
  generalize cut r2 t_cs = r3 at *
  have h5 := cparty_b r3 f2 l l3 (hI [32, 44] (by simp) r3 l3)
  have l4 : (upR [32, 44] r3).length ≤ 1048576 := Nat.le_trans (upR_len _ _) l3
  have hq0 : 0 ≤ max 0 (idx (fun x => upW [32, 44] r3 == x) l 0) := by omega
  generalize max 0 (idx (fun x => upW [32, 44] r3 == x) l 0) = P at *
  generalize (f2 || decide (idx (fun x => upW [32, 44] r3 == x) l 0 < 0)) = f3 at *
  generalize upR [32, 44] r3 = r4 at *
  have h6 := cneed_b r4 f3 t_did l4 (by decide)
  have l5 : (cut r4 t_did).length ≤ 1048576 := Nat.le_trans (cut_len _ _) l4
  generalize (!pfx r4 t_did || f3) = f4 at *
  generalize cut r4 t_did = r5 at *
  have h7 := cupTo_b r5 f4 [32, 46] l5 (hI [32, 46] (by simp) r5 l5)
  have l6 : (upR [32, 46] r5).length ≤ 1048576 := Nat.le_trans (upR_len _ _) l5
  generalize upW [32, 46] r5 = A at *
  generalize upR [32, 46] r5 = r6 at *
  have h8 := ctake_b r6 f4 t_paid l6 (by decide)
  have l7 : (cut r6 t_paid).length ≤ 1048576 := Nat.le_trans (cut_len _ _) l6
  generalize cut r6 t_paid = r7 at *
  have h9 := trimSuffix_b r7 l7
  have h10 := ParseAmount_b (trimD r7) (Nat.le_trans (trimD_len _) l7)
  generalize trimD r7 = w7 at *
  generalize dV (iAmt w7) = M at *
  generalize (iAmt w7).isSome = M2 at *
  generalize pfx r6 t_paid = b5 at *
  have hlb : l.length ≤ 140737488355328 := by omega
  have hisE := fun M => isEvent_b D P A M l.length (by omega) (by omega)
  clear hI
  refine bgo ?_
  refine b_call hp rfl rfl rfl rfl ?_
  refine bgo ?_
  refine b_callp h1 rfl rfl rfl rfl rfl rfl rfl rfl rfl rfl ?_
  refine bgo ?_
  refine b_callp h2 rfl rfl rfl rfl rfl rfl rfl rfl rfl rfl ?_
  refine bgo ?_
  refine b_call h3 rfl rfl rfl rfl ?_
  refine bgo ?_
  refine b_callp h4 rfl rfl rfl rfl rfl rfl rfl rfl rfl rfl ?_
  refine bgo ?_
  refine b_callp h5 rfl rfl rfl rfl rfl rfl rfl rfl rfl rfl ?_
  refine bgo ?_
  refine b_callp h6 rfl rfl rfl rfl rfl rfl rfl rfl rfl rfl ?_
  refine bgo ?_
  refine b_callp h7 rfl rfl rfl rfl rfl rfl rfl rfl rfl rfl ?_
  refine bgo ?_
  refine b_callp h8 rfl rfl rfl rfl rfl rfl rfl rfl rfl rfl ?_
  clear h1 h2 h3 h4 h5 h6 h7 h8 l1 l2 l3 l4 l5 l6 hp
  cases b5
  · simp only [Bool.false_eq_true, if_false] at ho
    have fin := finG_all ho.out
    have hisE := hisE 0
    clear ho
    change BRet Tryz.prog 46 [] _ (.bool (okE l ⟨D, P, A, 0⟩)) [] at hisE
    clear h9 h10
    cases f4
    rotate_left
    · obtain rfl := fin.1 rfl
      refine bgo ?_
      exact ret_ct rfl rfl rfl ty25 rfl rfl rfl rfl rfl (fun k => rfl)
    cases hok : okE l ⟨D, P, A, 0⟩
    · obtain rfl := fin.2.1 rfl hok
      rw [hok] at hisE
      refine bgo ?_
      refine b_call hisE rfl rfl rfl rfl ?_
      refine bgo ?_
      exact ret_ct rfl rfl rfl ty25 rfl rfl rfl rfl rfl (fun k => rfl)
    rw [hok] at hisE
    obtain ⟨k, rfl⟩ : ∃ k : Nat, P = k := ⟨P.toNat, by omega⟩
    have htx := eventEnglish_b D k A 0 l hk hok
    have e1 : txT l ⟨D, k, A, 0⟩ = evT D (l.getD k []) A 0 := rfl
    rw [e1] at fin
    generalize evT D (l.getD k []) A 0 = T at *
    clear e1
    by_cases he : T = s
    · obtain rfl := fin.2.2.2 rfl hok he
      clear fin
      subst he
      refine bgo ?_
      refine b_call hisE rfl rfl rfl rfl ?_
      refine bgo ?_
      refine b_call htx rfl rfl rfl rfl ?_
      refine bgo ?_
      exact ret_ct rfl rfl rfl ty25 rfl rfl rfl rfl rfl (fun k => rfl)
    · obtain rfl := fin.2.2.1 rfl hok he
      clear fin
      refine bgo ?_
      refine b_call hisE rfl rfl rfl rfl ?_
      refine bgo ?_
      refine b_call htx rfl rfl rfl rfl ?_
      refine bgo ?_
      exact ret_ct rfl rfl rfl ty25 rfl rfl rfl rfl rfl (fun k => rfl)
  · simp only [if_true] at ho
    have fin := finG_all ho.out
    have hisE := hisE M
    clear ho
    change BRet Tryz.prog 46 [] _ (.bool (okE l ⟨D, P, A, M⟩)) [] at hisE
    refine bgo ?_
    refine b_call h9 rfl rfl rfl rfl ?_
    refine bgo ?_
    refine b_call h10 rfl rfl rfl rfl ?_
    cases f4
    rotate_left
    · obtain rfl := fin.1 rfl
      refine bgo ?_
      exact ret_ct rfl rfl rfl ty25 rfl rfl rfl rfl rfl (fun k => rfl)
    cases hok : okE l ⟨D, P, A, M⟩
    · obtain rfl := fin.2.1 rfl hok
      rw [hok] at hisE
      refine bgo ?_
      refine b_call hisE rfl rfl rfl rfl ?_
      refine bgo ?_
      exact ret_ct rfl rfl rfl ty25 rfl rfl rfl rfl rfl (fun k => rfl)
    rw [hok] at hisE
    obtain ⟨k, rfl⟩ : ∃ k : Nat, P = k := ⟨P.toNat, by omega⟩
    have htx := eventEnglish_b D k A M l hk hok
    have e1 : txT l ⟨D, k, A, M⟩ = evT D (l.getD k []) A M := rfl
    rw [e1] at fin
    generalize evT D (l.getD k []) A M = T at *
    clear e1
    by_cases he : T = s
    · obtain rfl := fin.2.2.2 rfl hok he
      clear fin
      subst he
      refine bgo ?_
      refine b_call hisE rfl rfl rfl rfl ?_
      refine bgo ?_
      refine b_call htx rfl rfl rfl rfl ?_
      refine bgo ?_
      exact ret_ct rfl rfl rfl ty25 rfl rfl rfl rfl rfl (fun k => rfl)
    · obtain rfl := fin.2.2.1 rfl hok he
      clear fin
      refine bgo ?_
      refine b_call hisE rfl rfl rfl rfl ?_
      refine bgo ?_
      refine b_call htx rfl rfl rfl rfl ?_
      refine bgo ?_
      exact ret_ct rfl rfl rfl ty25 rfl rfl rfl rfl rfl (fun k => rfl)
end Go.Bee.C24e


namespace Go.Bee.C24f
open Go Go.Bee Go.Proofs Go.Bee.Ty Go.Bee.C23 Go.Bee.C23s Go.Bee.Da Go.Bee.C24 Go.Bee.C24c Go.Bee.C24d Go.Bee.C24r Go.Bee.C24s Go.Bee.C24t Go.Bee.C24e
theorem bRd1 : ∀ s : Tx, evBuild Tryz.prog 69 [(0, .d (.str s))] = some (.agg [.d (.str s), .d (.int .i64 0), .d (.bool false)]) := fun s => by kernel_rfl
theorem tys : type_of% (And.intro Go.Bee.C24e.tys bRd1) := And.intro Go.Bee.C24e.tys bRd1
end Go.Bee.C24f
namespace Go.Bee.C24f
open Go Go.Bee Go.Proofs Go.Bee.Ty Go.Bee.C23 Go.Bee.C23s Go.Bee.Da Go.Bee.C24 Go.Bee.C24c Go.Bee.C24d Go.Bee.C24r Go.Bee.C24s Go.Bee.C24t Go.Bee.C24e
set_option linter.unusedVariables false
set_option maxRecDepth 20000
attribute [local irreducible] Go.Bee.bwp
theorem plain_b (s : Tx) (q : Nat × Bool) (hsl : s.length ≤ 1048576) (hk : q.1 ≤ s.length) : BRet Tryz.prog 52 [rdC s q] [.ptr (.a 0) 0] (.str (plT s q)) [rdC s (plS s q)] := by
  obtain ⟨k, bad⟩ := q
  dsimp only at hk
  have hkb : (k : Int) ≤ 1048576 := by omega
  refine bofp Tryz.func52 ?_
  cases bad
  rotate_left
  · have e1 : plT s (k, true) = [] := rfl
    have e2 : plS s (k, true) = (k, true) := rfl
    rw [e1, e2]
    have hz : (s.take k).drop k = [] := by rw [List.drop_eq_nil_of_le]; simp; omega
    have hc : k ≤ s.length := hk
    refine bgo ?_
    refine b_lp (ι := Unit) (fun _ => [(0, .ptr (.a 0) 0), (3, .int k)]) (fun _ => [(.a 0, [.str s, .int k, .bool true])]) (fun _ => True) (fun _ => 0) () hs trivial ?_
    rintro - - I nx
    refine bgo ?_
    refine wk_rfl ?_
    refine bgo ?_
    exact ret_1p rfl rfl rfl (fun k => rfl) rfl
  · obtain ⟨W, hW⟩ : ∃ W, Go.RowKit.Hid ((s.drop k).takeWhile sg = W) := ⟨_, rfl⟩
    have e1 : plT s (k, false) = W := hW.out
    have e2 : plS s (k, false) = (k + W.length, false) := by unfold plS; rw [e1]
    have hpre : Go.RowKit.Hid ((s.drop k).take W.length = W) := by show _ = W; rw [← hW.out]; exact tw_pre sg _
    have hWl : k + W.length ≤ s.length := by
      have := tw_len sg (s.drop k)
      have h2 : ((s.drop k).takeWhile sg).length = W.length := congrArg List.length hW.out
      rw [List.length_drop] at this
      omega
    rw [e1, e2]
    clear e1 e2
    refine bgo ?_
    refine b_lp (ι := Nat) (fun _ => [(0, .ptr (.a 0) 0), (3, .int k)]) (fun i => [(.a 0, [.str s, .int i, .bool false])]) (fun i => k ≤ i ∧ i ≤ k + W.length ∧ (s.drop i).takeWhile sg = W.drop (i - k)) (fun i => s.length - i) k hs ⟨Nat.le_refl _, Nat.le_add_right _ _, by rw [Nat.sub_self]; exact hW.out⟩ ?_
    clear hW
    rintro i ⟨hi0, hi1, hj⟩ I nx
    have hib : (i : Int) + 1 ≤ 2097152 := by omega
    by_cases hlt : i < s.length
    · have hx : s[i]? = some s[i] := List.getElem?_eq_getElem hlt
      have hlti : (i : Int) < s.length := by omega
      rw [List.drop_eq_getElem_cons hlt, List.takeWhile_cons] at hj
      have hsg := l5Sign_b s[i]
      generalize s[i] = x at *
      cases hsv : sg x
      rotate_left
      · rw [if_pos hsv] at hj
        have hne : i - k < W.length := by
          rcases Nat.lt_or_ge (i - k) W.length with h | h
          · exact h
          · rw [List.drop_eq_nil_of_le h] at hj; cases hj
        rw [List.drop_eq_getElem_cons hne] at hj
        have hju : Go.RowKit.Hid ((s.drop (i + 1)).takeWhile sg = W.drop (i + 1 - k)) := by show _ = _; rw [(List.cons.inj hj).2]; congr 1; omega
        have hin : i + 1 ≤ k + W.length := by omega
        have hi2 : k ≤ i + 1 := by omega
        rw [hsv] at hsg
        clear hj hne hpre hsv
        refine bgo ?_
        refine b_call hsg rfl rfl rfl rfl ?_
        refine bgo ?_
        exact nx.go (i + 1) ⟨hi2, hin, hju.out⟩ (by omega) hs
      · rw [if_neg (by rw [hsv]; simp)] at hj
        have hEQ : i = k + W.length := by
          rcases Nat.lt_or_ge (i - k) W.length with h | h
          · rw [List.drop_eq_getElem_cons h] at hj; cases hj
          · omega
        rw [hsv] at hsg
        clear hj hsv nx
        have hp2 : (s.take (k + W.length)).drop k = W := by rw [← List.take_drop]; exact hpre.out
        have hle : k ≤ k + W.length := by omega
        have hle2 : (k : Int) ≤ ((k + W.length : Nat) : Int) := by omega
        subst hEQ
        generalize k + W.length = m at *
        clear hpre
        refine bgo ?_
        refine b_call hsg rfl rfl rfl rfl ?_
        refine bgo ?_
        refine wk_rfl ?_
        refine bgo ?_
        exact ret_1p rfl rfl rfl (fun k => rfl) rfl
    · have hEQ : i = k + W.length := by omega
      clear hj nx
      have hp2 : (s.take (k + W.length)).drop k = W := by rw [← List.take_drop]; exact hpre.out
      have hle : k ≤ k + W.length := by omega
      have hle2 : (k : Int) ≤ ((k + W.length : Nat) : Int) := by omega
      subst hEQ
      generalize k + W.length = m at *
      clear hpre
      refine bgo ?_
      refine wk_rfl ?_
      refine bgo ?_
      exact ret_1p rfl rfl rfl (fun k => rfl) rfl
theorem plS_le (s : Tx) (q : Nat × Bool) (hk : q.1 ≤ s.length) : (plS s q).1 ≤ s.length := by
  unfold plS plT
  dsimp only
  split
  · exact hk
  · have := tw_len sg (s.drop q.1)
    rw [List.length_drop] at this
    omega
theorem named_b (s : Tx) (q : Nat × Bool) (l : List Tx) (hsl : s.length ≤ 1048576) (hk : q.1 ≤ s.length) (hlb : l.length ≤ 4) : BRet Tryz.prog 51 [rdC s q] [.ptr (.a 0) 0, .d (.sl 1 (l.map .str))] (.int (ptR l (plT s q))) [rdC s (naS s l q)] := by
  have h1 := plain_b s q hsl hk
  have hS : naS s l q = ((plS s q).1, (plS s q).2 || decide (ptI l (plT s q) < 0)) := rfl
  rw [hS]
  clear hS
  refine bofp Tryz.func51 ?_
  generalize plT s q = w at *
  generalize plS s q = q2 at *
  obtain ⟨k2, b2⟩ := q2
  obtain ⟨r, hr⟩ : ∃ r, Go.RowKit.Hid (ptI l w = r) := ⟨_, rfl⟩
  have hR : ptR l w = if r < 0 then 0 else r := by unfold ptR; rw [hr.out]
  rw [hR, hr.out]
  clear hR
  dsimp only
  refine bgo ?_
  refine b_callp h1 rfl rfl rfl rfl rfl rfl rfl rfl rfl rfl ?_
  refine bgo ?_
  refine b_lp (ι := Nat × Unit) (fun i => [(0, .ptr (.a 0) 0), (1, .d (.sl 1 (l.map .str))), (5, .str w), (6, .int i.1)]) (fun _ => [(.a 0, [.str s, .int k2, .bool b2])]) (fun i => i.1 ≤ l.length ∧ idx (fun x => x == w) (l.drop i.1) i.1 = r) (fun i => l.length - i.1) (0, ()) hs ⟨Nat.zero_le _, hr.out⟩ ?_
  clear hr
  rintro ⟨i, u⟩ ⟨hi, hj⟩ I nx
  dsimp only at hi hj ⊢
  by_cases hlt : i < l.length
  · have hx : l[i]? = some l[i] := List.getElem?_eq_getElem hlt
    have hb : (i : Int) + 1 ≤ 100 := by omega
    rw [idx_step hlt] at hj
    generalize l[i] = x at *
    by_cases he : x = w
    · subst he
      rw [if_pos (by simp)] at hj
      subst hj
      have hn : ¬ ((i : Int) < 0) := by omega
      rw [if_neg hn, decide_eq_false hn, Bool.or_false]
      refine bgo ?_
      exact ret_1p rfl rfl rfl (fun k => rfl) rfl
    · rw [if_neg (by simpa using he)] at hj
      have hju : Go.RowKit.Hid (idx (fun x => x == w) (l.drop (i + 1)) (i + 1) = r) := hj
      have q1 : (x == w) = false := by rw [beq_eq_false_iff_ne]; exact he
      clear hj
      refine bgo ?_
      exact nx.go (i + 1, ()) ⟨hlt, hju.out⟩ (by dsimp only; omega) hs
  · have hk' : i = l.length := by omega
    subst hk'
    rw [List.drop_length, idx] at hj
    subst hj
    rw [if_pos (by decide), decide_eq_true (by decide), Bool.or_true]
    clear nx
    refine bgo ?_
    refine wk_rfl ?_
    refine bgo ?_
    exact ret_1p rfl rfl rfl (fun k => rfl) rfl
theorem naS_le (s : Tx) (l : List Tx) (q : Nat × Bool) (hk : q.1 ≤ s.length) : (naS s l q).1 ≤ s.length := plS_le s q hk
theorem mo_len (s : Tx) (q : Nat × Bool) (hk : q.1 ≤ s.length) : q.1 + (moT s q).length ≤ s.length := by
  unfold moT
  split
  · exact hk
  · have := tw_len isDg (s.drop q.1)
    rw [List.length_drop] at this
    omega
theorem moS_le (s : Tx) (q : Nat × Bool) (hk : q.1 ≤ s.length) : (moS s q).1 ≤ s.length := by
  have := mo_len s q hk
  unfold moS
  split
  · exact this
  · rename_i h
    unfold moX at h
    simp only [Bool.or_eq_true, decide_eq_true_eq, not_or] at h
    dsimp only
    omega
set_option maxHeartbeats 4000000 in
theorem money_b (s : Tx) (q : Nat × Bool) (hsl : s.length ≤ 1048576) (hk : q.1 ≤ s.length) : BRet Tryz.prog 54 [rdC s q] [.ptr (.a 0) 0] (.int (moR s q)) [rdC s (moS s q)] := by
  obtain ⟨k, bad⟩ := q
  dsimp only at hk
  have hkb : (k : Int) ≤ 1048576 := by omega
  refine bofp Tryz.func54 ?_
  cases bad
  rotate_left
  · have e1 : moR s (k, true) = 0 := rfl
    have e2 : moS s (k, true) = (k, true) := rfl
    rw [e1, e2]
    refine bgo ?_
    refine b_lp (ι := Unit) (fun _ => [(0, .ptr (.a 0) 0), (3, .int k)]) (fun _ => [(.a 0, [.str s, .int k, .bool true])]) (fun _ => True) (fun _ => 0) () hs trivial ?_
    rintro - - I nx
    refine bgo ?_
    refine wk_rfl ?_
    refine bgo ?_
    exact ret_1p rfl rfl rfl (fun k => rfl) rfl
  · obtain ⟨W, hW⟩ : ∃ W, Go.RowKit.Hid ((s.drop k).takeWhile isDg = W) := ⟨_, rfl⟩
    have hmT : moT s (k, false) = W := hW.out
    have hWl : k + W.length ≤ s.length := by have := mo_len s (k, false) hk; rw [hmT] at this; exact this
    refine bgo ?_
    refine b_lp (ι := Nat) (fun _ => [(0, .ptr (.a 0) 0), (3, .int k)]) (fun i => [(.a 0, [.str s, .int i, .bool false])]) (fun i => k ≤ i ∧ i ≤ k + W.length ∧ (s.drop i).takeWhile isDg = W.drop (i - k)) (fun i => s.length - i) k hs ⟨Nat.le_refl _, Nat.le_add_right _ _, by rw [Nat.sub_self]; exact hW.out⟩ ?_
    clear hW
    rintro i ⟨hi0, hi1, hj⟩ I nx
    have hib : (i : Int) + 1 ≤ 2097152 := by omega
    by_cases hlt : i < s.length
    · have hx : s[i]? = some s[i] := List.getElem?_eq_getElem hlt
      have hlti : (i : Int) < s.length := by omega
      rw [List.drop_eq_getElem_cons hlt, List.takeWhile_cons] at hj
      generalize s[i] = x at *
      by_cases hd : isDg x = true
      · rw [if_pos hd] at hj
        have hne : i - k < W.length := by
          rcases Nat.lt_or_ge (i - k) W.length with h | h
          · exact h
          · rw [List.drop_eq_nil_of_le h] at hj; cases hj
        rw [List.drop_eq_getElem_cons hne] at hj
        have hju : Go.RowKit.Hid ((s.drop (i + 1)).takeWhile isDg = W.drop (i + 1 - k)) := by show _ = _; rw [(List.cons.inj hj).2]; congr 1; omega
        have hin : i + 1 ≤ k + W.length := by omega
        have hi2 : k ≤ i + 1 := by omega
        have hd2 := of_decide_eq_true hd
        have g1 : (x.toNat : Int) ≥ 48 := by omega
        have g2 : (x.toNat : Int) ≤ 57 := by omega
        clear hj hne hd hd2 hmT
        refine bgo ?_
        exact nx.go (i + 1) ⟨hi2, hin, hju.out⟩ (by omega) hs
      · rw [if_neg hd] at hj
        have hEQ : i = k + W.length := by
          rcases Nat.lt_or_ge (i - k) W.length with h | h
          · rw [List.drop_eq_getElem_cons h] at hj; cases hj
          · omega
        have hd2 : ¬ (48 ≤ x.toNat ∧ x.toNat ≤ 57) := fun h => hd (decide_eq_true h)
        clear hj hd nx
        by_cases g1 : (x.toNat : Int) ≥ 48
        · have g2 : ¬ ((x.toNat : Int) ≤ 57) := by omega
          clear hd2
          subst hEQ
          by_cases h3 : ((k + W.length : Nat) : Int) + 3 > s.length
          · have hX : moX s (k, false) = true := by unfold moX; rw [hmT]; simp; omega
            have hS : moS s (k, false) = (k + W.length, true) := by unfold moS; rw [if_pos hX, hmT]
            have hR : moR s (k, false) = 0 := by unfold moR; rw [if_pos hX]
            rw [hS, hR]
            clear hX hS hR hmT
            generalize k + W.length = m at *
            refine bgo ?_
            refine wk_rfl ?_
            refine bgo ?_
            exact ret_1p rfl rfl rfl (fun k => rfl) rfl
          · have hX : moX s (k, false) = false := by unfold moX; rw [hmT]; simp; omega
            have hS : moS s (k, false) = (k + W.length + 3, (sAmt (moW s (k, false))).isNone) := by unfold moS; rw [if_neg (by rw [hX]; simp), hmT]
            have hR : moR s (k, false) = dV (sAmt (moW s (k, false))) := by unfold moR; rw [if_neg (by rw [hX]; simp)]
            have hw : (s.take (k + W.length + 3)).drop k = moW s (k, false) := by unfold moW; rw [hmT]; dsimp only; rw [List.take_drop, Nat.add_assoc]
            have hpa := specParseAmount_b (moW s (k, false))
            rw [hS, hR]
            clear hX hS hR hmT
            generalize moW s (k, false) = w at *
            generalize dV (sAmt w) = M at *
            have hsn : (sAmt w).isNone = !(sAmt w).isSome := by cases sAmt w <;> rfl
            rw [hsn]
            clear hsn
            generalize (sAmt w).isSome = ok at *
            have hle : k ≤ k + W.length + 3 := by omega
            have hle2 : (k : Int) ≤ ((k + W.length : Nat) : Int) + 3 := by omega
            have hm3 : k + W.length + 3 ≤ s.length := by omega
            have hc3 : (((k + W.length : Nat) : Int) + 3).toNat = k + W.length + 3 := by omega
            generalize k + W.length = m at *
            cases ok
            · refine bgo ?_
              refine wk_rfl ?_
              refine bgo ?_
              refine b_call hpa rfl rfl rfl rfl ?_
              refine bgo ?_
              exact ret_1p rfl rfl rfl (fun k => rfl) rfl
            · refine bgo ?_
              refine wk_rfl ?_
              refine bgo ?_
              refine b_call hpa rfl rfl rfl rfl ?_
              refine bgo ?_
              exact ret_1p rfl rfl rfl (fun k => rfl) rfl
        · clear hd2
          subst hEQ
          by_cases h3 : ((k + W.length : Nat) : Int) + 3 > s.length
          · have hX : moX s (k, false) = true := by unfold moX; rw [hmT]; simp; omega
            have hS : moS s (k, false) = (k + W.length, true) := by unfold moS; rw [if_pos hX, hmT]
            have hR : moR s (k, false) = 0 := by unfold moR; rw [if_pos hX]
            rw [hS, hR]
            clear hX hS hR hmT
            generalize k + W.length = m at *
            refine bgo ?_
            refine wk_rfl ?_
            refine bgo ?_
            exact ret_1p rfl rfl rfl (fun k => rfl) rfl
          · have hX : moX s (k, false) = false := by unfold moX; rw [hmT]; simp; omega
            have hS : moS s (k, false) = (k + W.length + 3, (sAmt (moW s (k, false))).isNone) := by unfold moS; rw [if_neg (by rw [hX]; simp), hmT]
            have hR : moR s (k, false) = dV (sAmt (moW s (k, false))) := by unfold moR; rw [if_neg (by rw [hX]; simp)]
            have hw : (s.take (k + W.length + 3)).drop k = moW s (k, false) := by unfold moW; rw [hmT]; dsimp only; rw [List.take_drop, Nat.add_assoc]
            have hpa := specParseAmount_b (moW s (k, false))
            rw [hS, hR]
            clear hX hS hR hmT
            generalize moW s (k, false) = w at *
            generalize dV (sAmt w) = M at *
            have hsn : (sAmt w).isNone = !(sAmt w).isSome := by cases sAmt w <;> rfl
            rw [hsn]
            clear hsn
            generalize (sAmt w).isSome = ok at *
            have hle : k ≤ k + W.length + 3 := by omega
            have hle2 : (k : Int) ≤ ((k + W.length : Nat) : Int) + 3 := by omega
            have hm3 : k + W.length + 3 ≤ s.length := by omega
            have hc3 : (((k + W.length : Nat) : Int) + 3).toNat = k + W.length + 3 := by omega
            generalize k + W.length = m at *
            cases ok
            · refine bgo ?_
              refine wk_rfl ?_
              refine bgo ?_
              refine b_call hpa rfl rfl rfl rfl ?_
              refine bgo ?_
              exact ret_1p rfl rfl rfl (fun k => rfl) rfl
            · refine bgo ?_
              refine wk_rfl ?_
              refine bgo ?_
              refine b_call hpa rfl rfl rfl rfl ?_
              refine bgo ?_
              exact ret_1p rfl rfl rfl (fun k => rfl) rfl
    · have hEQ : i = k + W.length := by omega
      clear hj nx
      subst hEQ
      by_cases h3 : ((k + W.length : Nat) : Int) + 3 > s.length
      · have hX : moX s (k, false) = true := by unfold moX; rw [hmT]; simp; omega
        have hS : moS s (k, false) = (k + W.length, true) := by unfold moS; rw [if_pos hX, hmT]
        have hR : moR s (k, false) = 0 := by unfold moR; rw [if_pos hX]
        rw [hS, hR]
        clear hX hS hR hmT
        generalize k + W.length = m at *
        refine bgo ?_
        refine wk_rfl ?_
        refine bgo ?_
        exact ret_1p rfl rfl rfl (fun k => rfl) rfl
      · have hX : moX s (k, false) = false := by unfold moX; rw [hmT]; simp; omega
        have hS : moS s (k, false) = (k + W.length + 3, (sAmt (moW s (k, false))).isNone) := by unfold moS; rw [if_neg (by rw [hX]; simp), hmT]
        have hR : moR s (k, false) = dV (sAmt (moW s (k, false))) := by unfold moR; rw [if_neg (by rw [hX]; simp)]
        have hw : (s.take (k + W.length + 3)).drop k = moW s (k, false) := by unfold moW; rw [hmT]; dsimp only; rw [List.take_drop, Nat.add_assoc]
        have hpa := specParseAmount_b (moW s (k, false))
        rw [hS, hR]
        clear hX hS hR hmT
        generalize moW s (k, false) = w at *
        generalize dV (sAmt w) = M at *
        have hsn : (sAmt w).isNone = !(sAmt w).isSome := by cases sAmt w <;> rfl
        rw [hsn]
        clear hsn
        generalize (sAmt w).isSome = ok at *
        have hle : k ≤ k + W.length + 3 := by omega
        have hle2 : (k : Int) ≤ ((k + W.length : Nat) : Int) + 3 := by omega
        have hm3 : k + W.length + 3 ≤ s.length := by omega
        have hc3 : (((k + W.length : Nat) : Int) + 3).toNat = k + W.length + 3 := by omega
        generalize k + W.length = m at *
        cases ok
        · refine bgo ?_
          refine wk_rfl ?_
          refine bgo ?_
          refine b_call hpa rfl rfl rfl rfl ?_
          refine bgo ?_
          exact ret_1p rfl rfl rfl (fun k => rfl) rfl
        · refine bgo ?_
          refine wk_rfl ?_
          refine bgo ?_
          refine b_call hpa rfl rfl rfl rfl ?_
          refine bgo ?_
          exact ret_1p rfl rfl rfl (fun k => rfl) rfl
set_option maxHeartbeats 4000000 in
theorem specEnglishToEvent_b (s : Tx) (l : List Tx) (hsl : s.length ≤ 1048576) : BRet Tryz.prog 14 [] [.str s, .d (.sl 1 (l.map .str))]
    (.tup [.agg [.int (ev0 (rdT s l (sRdT s l))).d, .int (ev0 (rdT s l (sRdT s l))).p, .str (ev0 (rdT s l (sRdT s l))).a, .int (ev0 (rdT s l (sRdT s l))).am], .bool (rdT s l (sRdT s l)).isSome]) [] := by
  have hp := l7Parties_b l
  have hin := l1In_b (s.length : Int) 14 4000
  obtain ⟨o, ho⟩ : ∃ o, Go.RowKit.Hid (rdT s l (sRdT s l) = o) := ⟨_, rfl⟩
  rw [ho.out]
  refine bof Tryz.func14 ?_
  cases hk : parOk l
  · obtain rfl : o = none := by rw [← ho.out]; unfold rdT; rw [hk]; rfl
    rw [hk] at hp
    refine bgo ?_
    refine b_call hp rfl rfl rfl rfl ?_
    refine bgo ?_
    exact ret_ct rfl rfl rfl ty25 rfl rfl rfl rfl rfl (fun k => rfl)
  rw [hk] at hp
  replace ho : Go.RowKit.Hid (finE txT s l (sRdT s l) = o) := by show _ = o; rw [← ho.out]; unfold rdT; rw [if_pos hk]
  cases h14 : inB (s.length : Int) 14 4000
  · have hn := inB_not h14
    obtain rfl : o = none := by rw [← ho.out]; unfold sRdT; rw [if_pos (by omega)]; exact finG_no (.inl rfl)
    rw [h14] at hin
    refine bgo ?_
    refine b_call hp rfl rfl rfl rfl ?_
    refine bgo ?_
    refine b_call hin rfl rfl rfl rfl ?_
    refine bgo ?_
    exact ret_ct rfl rfl rfl ty25 rfl rfl rfl rfl rfl (fun k => rfl)
  have h14' := inB_iff.1 h14
  rw [h14] at hin
  clear h14
  have hpl : 2 ≤ l.length ∧ l.length ≤ 4 := by
    unfold parOk inB at hk
    simp only [Bool.and_eq_true, decide_eq_true_eq] at hk
    omega
  unfold sRdT at ho
  rw [if_neg (by omega)] at ho
  dsimp only at ho
  have hd3 : (s.drop 3).take 10 = (s.take 13).drop 3 := List.take_drop
  rw [hd3] at ho
  clear hd3
  have b13 : 13 ≤ s.length := by omega
  have b3 : 3 ≤ 13 ∧ 13 ≤ s.length := by omega
  have h1 := specParseDate_b ((s.take 13).drop 3)
  generalize dV (sDate ((s.take 13).drop 3)) = D at *
  generalize (sDate ((s.take 13).drop 3)).isSome = D2 at *
  have h2 := want_b s t_On (0, false) hsl (by decide) (Nat.zero_le _)
  generalize wtS s t_On (0, false) = q1 at *
  obtain ⟨k1, b1⟩ := q1
  dsimp only at ho
  have h3 := want_b s t_cs (13, b1 || !D2) hsl (by decide) (by dsimp only; omega)
  have hk2 := wtS_le s t_cs (13, b1 || !D2) (by dsimp only; omega)
  generalize hbx : (b1 || !D2) = bx at *
  generalize wtS s t_cs (13, bx) = q2 at *
  have h4 := named_b s q2 l hsl hk2 hpl.2
  have hpn := ptR_nn l (plT s q2)
  have hk3 := naS_le s l q2 hk2
  generalize ptR l (plT s q2) = P at *
  generalize naS s l q2 = q3 at *
  have h5 := want_b s t_did q3 hsl (by decide) hk3
  have hk4 := wtS_le s t_did q3 hk3
  generalize wtS s t_did q3 = q4 at *
  have h6 := plain_b s q4 hsl hk4
  have hk5 := plS_le s q4 hk4
  generalize plT s q4 = A at *
  generalize plS s q4 = q5 at *
  have h7 := take_b s t_paid q5 hsl (by decide) hk5
  have hk6 := tkQ_le s t_paid q5 hk5
  generalize tkS s t_paid q5 = b5 at *
  generalize tkQ s t_paid q5 = q6 at *
  have h8 := money_b s q6 hsl hk6
  have hk7 := moS_le s q6 hk6
  generalize moR s q6 = M at *
  generalize moS s q6 = q7 at *
  have hlb : l.length ≤ 140737488355328 := by omega
  have hisE := fun M => l8Event_b D P A M l.length (by omega) (by omega)
  have hor : (b1 = true ∧ bx = true) ∨ (b1 = false ∧ bx = !D2) := by
    rw [← hbx]; cases b1
    · exact .inr ⟨rfl, rfl⟩
    · exact .inl ⟨rfl, rfl⟩
  clear hbx
  have go : ∀ (hb : (b1 = true ∧ bx = true) ∨ (b1 = false ∧ bx = !D2)), True := fun _ => trivial
  clear go
  refine bgo ?_
  refine b_call hp rfl rfl rfl rfl ?_
  refine bgo ?_
  refine b_call hin rfl rfl rfl rfl ?_
  refine bgo ?_
  refine b_callp h2 rfl rfl rfl rfl rfl rfl rfl rfl rfl rfl ?_
  refine bgo ?_
  refine b_call h1 rfl rfl rfl rfl ?_
  rcases hor with ⟨rfl, rfl⟩ | ⟨rfl, rfl⟩
  · refine bgo ?_
    refine b_callp h3 rfl rfl rfl rfl rfl rfl rfl rfl rfl rfl ?_
    refine bgo ?_
    refine b_callp h4 rfl rfl rfl rfl rfl rfl rfl rfl rfl rfl ?_
    refine bgo ?_
    refine b_callp h5 rfl rfl rfl rfl rfl rfl rfl rfl rfl rfl ?_
    refine bgo ?_
    refine b_callp h6 rfl rfl rfl rfl rfl rfl rfl rfl rfl rfl ?_
    refine bgo ?_
    refine b_callp h7 rfl rfl rfl rfl rfl rfl rfl rfl rfl rfl ?_
    clear h1 h2 h3 h4 h5 h6 h7 hk2 hk3 hk4 hk5 hp hin
    cases b5
    · simp only [Bool.false_eq_true, if_false] at ho
      have hisE := hisE 0
      change BRet Tryz.prog 55 [] _ (.bool (okE l ⟨D, P, A, 0⟩)) [] at hisE
      have h9 := want_b s [46] q6 hsl (by decide) hk6
      generalize wtS s [46] q6 = q8 at *
      obtain ⟨kk, bb⟩ := q8
      have fin := finG_all ho.out
      clear ho
      clear h8 hk7
      refine bgo ?_
      refine b_callp h9 rfl rfl rfl rfl rfl rfl rfl rfl rfl rfl ?_
      cases bb
      rotate_left
      · obtain rfl := fin.1 (by simp)
        refine bgo ?_
        exact ret_ct rfl rfl rfl ty25 rfl rfl rfl rfl rfl (fun k => rfl)
      by_cases hl : (kk : Int) = s.length
      rotate_left
      · have hne : ((kk : Int) != s.length) = true := by rw [bne_iff_ne]; exact hl
        have hn2 : kk ≠ s.length := by omega
        obtain rfl := fin.1 (by rw [decide_eq_true hn2]; rfl)
        clear hn2 hl
        refine bgo ?_
        exact ret_ct rfl rfl rfl ty25 rfl rfl rfl rfl rfl (fun k => rfl)
      have hne : ((kk : Int) != s.length) = false := by rw [hl]; exact bne_self_eq_false _
      have hn2 : (false || decide (kk ≠ s.length)) = false := by rw [decide_eq_false (by omega)]; rfl
      rw [hn2] at fin
      clear hn2 hl
      cases hok : okE l ⟨D, P, A, 0⟩
      · obtain rfl := fin.2.1 rfl hok
        rw [hok] at hisE
        refine bgo ?_
        refine b_call hisE rfl rfl rfl rfl ?_
        refine bgo ?_
        exact ret_ct rfl rfl rfl ty25 rfl rfl rfl rfl rfl (fun k => rfl)
      rw [hok] at hisE
      obtain ⟨k, rfl⟩ : ∃ k : Nat, P = k := ⟨P.toNat, by omega⟩
      have htx := l24Event_b D k A 0 l hk hok
      have e1 : txT l ⟨D, k, A, 0⟩ = evT D (l.getD k []) A 0 := rfl
      rw [e1] at fin
      generalize evT D (l.getD k []) A 0 = T at *
      clear e1
      by_cases he : T = s
      · obtain rfl := fin.2.2.2 rfl hok he
        clear fin
        subst he
        refine bgo ?_
        refine b_call hisE rfl rfl rfl rfl ?_
        refine bgo ?_
        refine b_call htx rfl rfl rfl rfl ?_
        refine bgo ?_
        exact ret_ct rfl rfl rfl ty25 rfl rfl rfl rfl rfl (fun k => rfl)
      · obtain rfl := fin.2.2.1 rfl hok he
        clear fin
        refine bgo ?_
        refine b_call hisE rfl rfl rfl rfl ?_
        refine bgo ?_
        refine b_call htx rfl rfl rfl rfl ?_
        refine bgo ?_
        exact ret_ct rfl rfl rfl ty25 rfl rfl rfl rfl rfl (fun k => rfl)
    · simp only [if_true] at ho
      have hisE := hisE M
      change BRet Tryz.prog 55 [] _ (.bool (okE l ⟨D, P, A, M⟩)) [] at hisE
      have h9 := want_b s [46] q7 hsl (by decide) hk7
      generalize wtS s [46] q7 = q8 at *
      obtain ⟨kk, bb⟩ := q8
      have fin := finG_all ho.out
      clear ho
      refine bgo ?_
      refine b_callp h8 rfl rfl rfl rfl rfl rfl rfl rfl rfl rfl ?_
      refine bgo ?_
      refine b_callp h9 rfl rfl rfl rfl rfl rfl rfl rfl rfl rfl ?_
      cases bb
      rotate_left
      · obtain rfl := fin.1 (by simp)
        refine bgo ?_
        exact ret_ct rfl rfl rfl ty25 rfl rfl rfl rfl rfl (fun k => rfl)
      by_cases hl : (kk : Int) = s.length
      rotate_left
      · have hne : ((kk : Int) != s.length) = true := by rw [bne_iff_ne]; exact hl
        have hn2 : kk ≠ s.length := by omega
        obtain rfl := fin.1 (by rw [decide_eq_true hn2]; rfl)
        clear hn2 hl
        refine bgo ?_
        exact ret_ct rfl rfl rfl ty25 rfl rfl rfl rfl rfl (fun k => rfl)
      have hne : ((kk : Int) != s.length) = false := by rw [hl]; exact bne_self_eq_false _
      have hn2 : (false || decide (kk ≠ s.length)) = false := by rw [decide_eq_false (by omega)]; rfl
      rw [hn2] at fin
      clear hn2 hl
      cases hok : okE l ⟨D, P, A, M⟩
      · obtain rfl := fin.2.1 rfl hok
        rw [hok] at hisE
        refine bgo ?_
        refine b_call hisE rfl rfl rfl rfl ?_
        refine bgo ?_
        exact ret_ct rfl rfl rfl ty25 rfl rfl rfl rfl rfl (fun k => rfl)
      rw [hok] at hisE
      obtain ⟨k, rfl⟩ : ∃ k : Nat, P = k := ⟨P.toNat, by omega⟩
      have htx := l24Event_b D k A M l hk hok
      have e1 : txT l ⟨D, k, A, M⟩ = evT D (l.getD k []) A M := rfl
      rw [e1] at fin
      generalize evT D (l.getD k []) A M = T at *
      clear e1
      by_cases he : T = s
      · obtain rfl := fin.2.2.2 rfl hok he
        clear fin
        subst he
        refine bgo ?_
        refine b_call hisE rfl rfl rfl rfl ?_
        refine bgo ?_
        refine b_call htx rfl rfl rfl rfl ?_
        refine bgo ?_
        exact ret_ct rfl rfl rfl ty25 rfl rfl rfl rfl rfl (fun k => rfl)
      · obtain rfl := fin.2.2.1 rfl hok he
        clear fin
        refine bgo ?_
        refine b_call hisE rfl rfl rfl rfl ?_
        refine bgo ?_
        refine b_call htx rfl rfl rfl rfl ?_
        refine bgo ?_
        exact ret_ct rfl rfl rfl ty25 rfl rfl rfl rfl rfl (fun k => rfl)
  · refine bgo ?_
    refine b_callp h3 rfl rfl rfl rfl rfl rfl rfl rfl rfl rfl ?_
    refine bgo ?_
    refine b_callp h4 rfl rfl rfl rfl rfl rfl rfl rfl rfl rfl ?_
    refine bgo ?_
    refine b_callp h5 rfl rfl rfl rfl rfl rfl rfl rfl rfl rfl ?_
    refine bgo ?_
    refine b_callp h6 rfl rfl rfl rfl rfl rfl rfl rfl rfl rfl ?_
    refine bgo ?_
    refine b_callp h7 rfl rfl rfl rfl rfl rfl rfl rfl rfl rfl ?_
    clear h1 h2 h3 h4 h5 h6 h7 hk2 hk3 hk4 hk5 hp hin
    cases b5
    · simp only [Bool.false_eq_true, if_false] at ho
      have hisE := hisE 0
      change BRet Tryz.prog 55 [] _ (.bool (okE l ⟨D, P, A, 0⟩)) [] at hisE
      have h9 := want_b s [46] q6 hsl (by decide) hk6
      generalize wtS s [46] q6 = q8 at *
      obtain ⟨kk, bb⟩ := q8
      have fin := finG_all ho.out
      clear ho
      clear h8 hk7
      refine bgo ?_
      refine b_callp h9 rfl rfl rfl rfl rfl rfl rfl rfl rfl rfl ?_
      cases bb
      rotate_left
      · obtain rfl := fin.1 (by simp)
        refine bgo ?_
        exact ret_ct rfl rfl rfl ty25 rfl rfl rfl rfl rfl (fun k => rfl)
      by_cases hl : (kk : Int) = s.length
      rotate_left
      · have hne : ((kk : Int) != s.length) = true := by rw [bne_iff_ne]; exact hl
        have hn2 : kk ≠ s.length := by omega
        obtain rfl := fin.1 (by rw [decide_eq_true hn2]; rfl)
        clear hn2 hl
        refine bgo ?_
        exact ret_ct rfl rfl rfl ty25 rfl rfl rfl rfl rfl (fun k => rfl)
      have hne : ((kk : Int) != s.length) = false := by rw [hl]; exact bne_self_eq_false _
      have hn2 : (false || decide (kk ≠ s.length)) = false := by rw [decide_eq_false (by omega)]; rfl
      rw [hn2] at fin
      clear hn2 hl
      cases hok : okE l ⟨D, P, A, 0⟩
      · obtain rfl := fin.2.1 rfl hok
        rw [hok] at hisE
        refine bgo ?_
        refine b_call hisE rfl rfl rfl rfl ?_
        refine bgo ?_
        exact ret_ct rfl rfl rfl ty25 rfl rfl rfl rfl rfl (fun k => rfl)
      rw [hok] at hisE
      obtain ⟨k, rfl⟩ : ∃ k : Nat, P = k := ⟨P.toNat, by omega⟩
      have htx := l24Event_b D k A 0 l hk hok
      have e1 : txT l ⟨D, k, A, 0⟩ = evT D (l.getD k []) A 0 := rfl
      rw [e1] at fin
      generalize evT D (l.getD k []) A 0 = T at *
      clear e1
      by_cases he : T = s
      · obtain rfl := fin.2.2.2 rfl hok he
        clear fin
        subst he
        refine bgo ?_
        refine b_call hisE rfl rfl rfl rfl ?_
        refine bgo ?_
        refine b_call htx rfl rfl rfl rfl ?_
        refine bgo ?_
        exact ret_ct rfl rfl rfl ty25 rfl rfl rfl rfl rfl (fun k => rfl)
      · obtain rfl := fin.2.2.1 rfl hok he
        clear fin
        refine bgo ?_
        refine b_call hisE rfl rfl rfl rfl ?_
        refine bgo ?_
        refine b_call htx rfl rfl rfl rfl ?_
        refine bgo ?_
        exact ret_ct rfl rfl rfl ty25 rfl rfl rfl rfl rfl (fun k => rfl)
    · simp only [if_true] at ho
      have hisE := hisE M
      change BRet Tryz.prog 55 [] _ (.bool (okE l ⟨D, P, A, M⟩)) [] at hisE
      have h9 := want_b s [46] q7 hsl (by decide) hk7
      generalize wtS s [46] q7 = q8 at *
      obtain ⟨kk, bb⟩ := q8
      have fin := finG_all ho.out
      clear ho
      refine bgo ?_
      refine b_callp h8 rfl rfl rfl rfl rfl rfl rfl rfl rfl rfl ?_
      refine bgo ?_
      refine b_callp h9 rfl rfl rfl rfl rfl rfl rfl rfl rfl rfl ?_
      cases bb
      rotate_left
      · obtain rfl := fin.1 (by simp)
        refine bgo ?_
        exact ret_ct rfl rfl rfl ty25 rfl rfl rfl rfl rfl (fun k => rfl)
      by_cases hl : (kk : Int) = s.length
      rotate_left
      · have hne : ((kk : Int) != s.length) = true := by rw [bne_iff_ne]; exact hl
        have hn2 : kk ≠ s.length := by omega
        obtain rfl := fin.1 (by rw [decide_eq_true hn2]; rfl)
        clear hn2 hl
        refine bgo ?_
        exact ret_ct rfl rfl rfl ty25 rfl rfl rfl rfl rfl (fun k => rfl)
      have hne : ((kk : Int) != s.length) = false := by rw [hl]; exact bne_self_eq_false _
      have hn2 : (false || decide (kk ≠ s.length)) = false := by rw [decide_eq_false (by omega)]; rfl
      rw [hn2] at fin
      clear hn2 hl
      cases hok : okE l ⟨D, P, A, M⟩
      · obtain rfl := fin.2.1 rfl hok
        rw [hok] at hisE
        refine bgo ?_
        refine b_call hisE rfl rfl rfl rfl ?_
        refine bgo ?_
        exact ret_ct rfl rfl rfl ty25 rfl rfl rfl rfl rfl (fun k => rfl)
      rw [hok] at hisE
      obtain ⟨k, rfl⟩ : ∃ k : Nat, P = k := ⟨P.toNat, by omega⟩
      have htx := l24Event_b D k A M l hk hok
      have e1 : txT l ⟨D, k, A, M⟩ = evT D (l.getD k []) A M := rfl
      rw [e1] at fin
      generalize evT D (l.getD k []) A M = T at *
      clear e1
      by_cases he : T = s
      · obtain rfl := fin.2.2.2 rfl hok he
        clear fin
        subst he
        refine bgo ?_
        refine b_call hisE rfl rfl rfl rfl ?_
        refine bgo ?_
        refine b_call htx rfl rfl rfl rfl ?_
        refine bgo ?_
        exact ret_ct rfl rfl rfl ty25 rfl rfl rfl rfl rfl (fun k => rfl)
      · obtain rfl := fin.2.2.1 rfl hok he
        clear fin
        refine bgo ?_
        refine b_call hisE rfl rfl rfl rfl ?_
        refine bgo ?_
        refine b_call htx rfl rfl rfl rfl ?_
        refine bgo ?_
        exact ret_ct rfl rfl rfl ty25 rfl rfl rfl rfl rfl (fun k => rfl)
theorem rdT_agree (s : Tx) (l : List Tx) : rdT s l (sRdT s l) = rdT s l (iRdT s l) := by
  unfold rdT
  split
  · rename_i hk
    exact fin_agree (fun e h1 h2 => by rw [← h2]; exact sRdT_ok hk h1) (fun e h1 h2 => by rw [← h2]; exact iRdT_ok hk h1)
  · rfl
end Go.Bee.C24f

