/- Each Go function that the law uses as a plain Lean function, and a proof that its code comes to what this function tells. No condition. -/
import Derived.Test.YtlneimpoholkhaaVPFnExactAddAttackx0
namespace Go.Proofs.Ytlneimpoholkhaa.PFnExactAddAttack
open Go.RowKit Go.Proofs.YtlneimpoholkhaaW.PrintWords Go.Proofs.YtlneimpoholkhaaW.PrintLast Go.Proofs.YtlneimpoholkhaaW.PrintMore
attribute [local go_sem] max2_int min2_int max_two min_two max_three min_three max_four min_four   -- for this text's walks alone
set_option linter.unusedVariables false
set_option linter.unusedSimpArgs false

/-! ### impl_Attack_42: function 42, told by hand -/
/-- A list that was made here, none of whose blocks is one of S. -/
def InsRow (w : World) (Z : Nat → Prop) (A : Option Addr) (n : Nat) (xs : List S65) : Prop := ∃ base c ok, Kd.R k65 65 w base ok (.slice A n c) xs ∧ ∀ k, ok k → ¬ Z k
theorem InsRow.mk_ {w : World} {Z ok : Nat → Prop} {A : Option Addr} {n base c : Nat} {xs : List S65} (h : Kd.R k65 65 w base ok (.slice A n c) xs) (hok : ∀ k, ok k → ¬ Z k) : InsRow w Z A n xs := ⟨_, _, _, h, hok⟩
def impl_Attack_42.f (l0 : List S65) (a1 : Int) (l2 : List S65) : Option (List S65) := if 0 ≤ a1 then (if a1 ≤ (l0.length : Int) then (if l2.length = 1 then (if l0.length < 8796093022207 then some (l0.take a1.toNat ++ l2 ++ l0.drop a1.toNat) else none) else none) else none) else none
theorem impl_Attack_42.reps {w : World} {base : Nat} {ok : Nat → Prop} {g c : Nat} {cs : List Value} {xs : List S65} {cur : Array Value} (hg : w.heap[g]? = some (.cells cur 65 (0, 0))) (hb : base ≤ g) (hok : ok g) (hr : Reps (fun x cs => ∃ w' b ok', k65.M w' b ok' x cs) 2 xs cs) (hc : cur.size = c * 2) (hxc : xs.length ≤ c) (hcm : c ≤ maxLen) (ht : cur.toList.take cs.length = cs) :
    Kd.R k65 65 w base ok (.slice (some ⟨g, 0, none⟩) xs.length c) xs := by
  refine ⟨fun k hk => ?_, cs, ⟨hr.1, .inr ⟨g, c, cur, rfl, hb, hg, hxc, hcm, hc, by have h_ := ht; rw [hr.1] at h_; exact h_⟩⟩, hr.imp_ (fun p c hp => ?_)⟩
  · have : g = k := by simpa [Value.ownBlock] using hk
    exact this ▸ hok
  · obtain ⟨w', b, ok', hp⟩ := hp
    rw [k65_openM hp]
    exact k65_mkM _ _ _ _
set_option maxHeartbeats 8000000 in
set_option maxRecDepth 100000 in
theorem impl_Attack_42.calls (P0_ : Nat → Prop) (u9000_ : Value) (l0 : List S65) (a1 : Int) (A2 : Option Addr) (c2 : Nat) (l2 : List S65) (r : List S65) (w0 w : World) (hB : Below w0.heap.size w0 w) (ho0 : Kd.R k65 65 w w0.heap.size P0_ u9000_ l0) (hr2 : InsRow w (fun k_ => P0_ k_) A2 l2.length l2) (hc2 : l2.length ≤ c2) (h : impl_Attack_42.f l0 a1 l2 = some r) :
    Calls Try.prog 42 #[u9000_, .int .i64 a1, .slice A2 l2.length c2] w fun e w' => ∃ v0_ : Value, e = .returned (v0_) ∧ Kd.R k65 65 w' w0.heap.size (fun k_ => (P0_ k_ ∨ w.heap.size ≤ k_)) v0_ r ∧ Below w0.heap.size w0 w' ∧ Kept w w' (fun k_ => P0_ k_) := by
  unfold impl_Attack_42.f at h
  by_cases c1 : 0 ≤ a1
  · rw [if_pos c1] at h
    by_cases c2_ : a1 ≤ (l0.length : Int)
    · rw [if_pos c2_] at h
      by_cases c3 : l2.length = 1
      · rw [if_pos c3] at h
        by_cases c4 : l0.length < 8796093022207
        · rw [if_pos c4] at h
          obtain rfl := Option.some.inj h
          clear h
          obtain ⟨i, rfl⟩ := Int.eq_ofNat_of_zero_le c1
          simp only [Int.toNat_natCast]
          obtain ⟨base2, cc2, ok2, hR2, hap⟩ := hr2
          have hsz : w0.heap.size ≤ w.heap.size := hB.size
          have hmy : ∀ k, (u9000_ : Value).ownBlock = some k → P0_ k := ho0.1
          by_cases ce : i = l0.length
          · subst ce
            have hC2 := (Kd.R_reads' hR2).2.2
            have hO : Kd.R k65 65 w w0.heap.size (fun k_ => (P0_ k_ ∨ w.heap.size ≤ k_)) u9000_ l0 := Kd.R_mono ho0 (fun _ hk => .inl hk)
            obtain ⟨A0, c0, e0⟩ := Kd.R_slice ho0
            subst e0
            have hul := (Kd.R_reads' ho0).2.1
            rw [List.take_length, List.drop_length, List.append_nil, c3]
            rw [c3] at hC2
            have HC := Aside0.mk hC2
            have HO := Aside0.mk hO
            have HB := Aside0.mk hB
            have HM := Aside0.mk hmy
            have HS := Aside0.mk hsz
            have HL := Aside0.mk c4
            have q1 : ¬ ((1 : Int) = 0) := by omega
            have q2 : ((l0.length : Int) : Int) ≤ (c0 : Int) := by omega
            clear hC2 hO hB ho0 hR2 hap hmy hsz c3 c1 c2_ c4 hc2
            go_enter Try.func42, Try.ntmps42
            go_wp2_with ((with_reducible refine gate_builtin (b := .append) (xs := #[.tmp 23, .tmp 24]) rfl ?_); at_builtin; refine Kd.R_append_rows k65 (Rr := k65.K w) (w0 := w0) w0.heap.size rfl (.tmp 23) (.tmp 24) 26 65 (.agg #[(.int .i64 0), (.int .i64 0)]) 16 rfl Try.underlying26 (by kernel_rfl) rfl (by decide) (by omega) _ l0 l2 _ _ _ (fun k_ => (P0_ k_ ∨ w.heap.size ≤ k_)) (fun _ => False) rfl rfl HO.out HC.out (fun x cs hk => by rw [k65_open hk]; exact k65_mkM _ _ _ _) (fun _ hk => hk.elim) (fun _ hk => .inr hk) HB.out HS.out (by have := HL.out; omega) ?_; intro v1 w1 ho hb hg hat; have HO1 := Aside0.mk ho; have HB1 := Aside0.mk hb; have HG := Aside0.mk hg; clear ho hb hg hat)
            all_goals go_ret
            all_goals exact ⟨_, rfl, HO1.out, HB1.out, HG.out.size, fun k hk hn => HG.out.block k hk (fun e => hn (HM.out k e.symm))⟩
          · have hi : i < l0.length := by omega
            obtain ⟨g, c, ev, hbg, hgl, _⟩ := Kd.R_form ho0 (by omega)
            subst ev
            obtain ⟨vg, vc_, ev2, _, hvgl, _⟩ := Kd.R_form hR2 (by omega)
            have ev2' : A2 = some ⟨vg, 0, none⟩ := by injection ev2
            subst ev2'
            have hPg : P0_ g := hmy g (by simp [Value.ownBlock])
            have hne : vg ≠ g := fun e => hap vg (hR2.1 vg (by simp [Value.ownBlock])) (e ▸ hPg)
            obtain ⟨_, inner, ⟨hil, ho⟩, hrep⟩ := ho0
            rcases ho with ⟨ho, _⟩ | ⟨g1, cap, cur, ev, _, hg, hnc, hcm, hcs, htk⟩
            · cases ho
            obtain ⟨rfl, rfl⟩ : g = g1 ∧ c = cap := by simpa using ev
            obtain ⟨_, inn2, ⟨hil2, ho2⟩, hrep2⟩ := hR2
            rcases ho2 with ⟨ho2, _⟩ | ⟨g2, cap2, cur2, ev3, _, hg2, _, _, hcs2, htk2⟩
            · cases ho2
            obtain ⟨rfl, _⟩ : vg = g2 ∧ cc2 = cap2 := by simpa using ev3
            have hsz2 : k65.sz = 2 := rfl
            rw [c3] at hil2 htk2
            have hone : ∀ (ps : List S65) (cs : List Value), Reps (fun x cs => ∃ w' b ok', k65.M w' b ok' x cs) 2 ps cs → ∀ u ∈ cs, u.oneCell' = true := fun ps cs hr => Kd.reps_one hr (by decide) (fun p c hp u hu => by
              obtain ⟨w', b, ok', hp⟩ := hp
              rw [k65_openM hp] at hu
              simp at hu
              rcases hu with rfl | rfl <;> rfl)
            have hr0 : Reps (fun x cs => ∃ w' b ok', k65.M w' b ok' x cs) 2 l0 inner := hrep.imp_ (fun p c hp => ⟨_, _, _, hp⟩)
            have hr2' : Reps (fun x cs => ∃ w' b ok', k65.M w' b ok' x cs) 2 l2 inn2 := hrep2.imp_ (fun p c hp => ⟨_, _, _, hp⟩)
            have hfin : Reps (fun x cs => ∃ w' b ok', k65.M w' b ok' x cs) 2 (l0.take i ++ l2 ++ l0.drop i) (inner.take (i * 2) ++ inn2 ++ inner.drop (i * 2)) := Kd.reps_append (Kd.reps_append (Kd.reps_take hr0 (by omega)) hr2') (Kd.reps_drop hr0)
            have hfl : (l0.take i ++ l2 ++ l0.drop i).length = l0.length + 1 := by simp [c3]; omega
            have hvl2 : inn2.length = 2 := by rw [hil2, hsz2]
            have htk' : cur.toList.take (l0.length * 2) = inner := htk
            have htk2' : cur2.toList.take 2 = inn2 := htk2
            have hcs' : cur.size = c * 2 := hcs
            rw [c3]
            by_cases croom : l0.length + 1 ≤ c
            · have hcall := Go.Proofs.YtlneimpoholkhaaIns.room g vg l0.length c i c2 cur cur2 inn2 w hg hcs' hg2 htk2' hvl2 hne (by rw [htk']; exact hone _ _ hr0) (hone _ _ hr2') hi croom hcm
              refine hcall.mono ?_
              rintro e w' ⟨rfl, hgr, cur', hc', hcs3, htk3⟩
              rw [htk'] at htk3
              refine ⟨_, rfl, ?_, ?_, hgr.size, fun k hk hn => hgr.block k hk (fun e => hn (by cases e; exact hPg))⟩
              · have := impl_Attack_42.reps (w := w') (base := w0.heap.size) (ok := fun k_ => (P0_ k_ ∨ w.heap.size ≤ k_)) (c := c) hc' hbg (.inl hPg) hfin hcs3 (by rw [hfl]; exact croom) hcm htk3
                rw [hfl] at this
                exact this
              · exact hB.grown hgr hsz (fun k hk => by cases hk; exact hbg)
            · obtain rfl : c = l0.length := by omega
              have hall : inner = cur.toList := by rw [← htk']; exact List.take_of_length_le (by simp [hcs'])
              have hcall := Go.Proofs.YtlneimpoholkhaaIns.grown g vg l0.length i c2 cur cur2 inn2 w hg hcs' hg2 htk2' hvl2 (by rw [← hall]; exact hone _ _ hr0) (hone _ _ hr2') hi (by omega)
              refine hcall.mono ?_
              rintro e w' ⟨G, rfl, hG1, hG2, hgr, cur', hc', hcs3, htk3⟩
              rw [← hall] at htk3
              refine ⟨_, rfl, ?_, ?_, hgr.size, fun k hk hn => hgr.block k hk (fun e => by cases e)⟩
              · have := impl_Attack_42.reps (w := w') (base := w0.heap.size) (ok := fun k_ => (P0_ k_ ∨ w.heap.size ≤ k_)) (c := G) hc' hsz (.inr (Nat.le_refl _)) hfin hcs3 (by rw [hfl]; exact hG1) hG2 htk3
                rw [hfl] at this
                exact this
              · exact hB.grown hgr hsz (fun k hk => by cases hk)
        · rw [if_neg c4] at h; cases h
      · rw [if_neg c3] at h; cases h
    · rw [if_neg c2_] at h; cases h
  · rw [if_neg c1] at h; cases h

end Go.Proofs.Ytlneimpoholkhaa.PFnExactAddAttack
