/- Chapter 23: the model's names. -/
import Derived.Test.YtkgjplamdmakpaaGreatDoorBeeRd
namespace Go.Bee.C23s
open Go Go.Bee Go.Proofs Go.Bee.Ty Go.Bee.C23
set_option linter.unusedVariables false
set_option maxRecDepth 20000
attribute [local irreducible] Go.Bee.bwp vName put
theorem put_len (l : List (List UInt8)) (s : List UInt8) : (put l s).length ≤ l.length + 1 := by
  have hu : put l s = if l[pos s l]? = some s then l else l.take (pos s l) ++ s :: l.drop (pos s l) := by unfold put; rfl
  rw [hu]
  split
  · omega
  · simp only [List.length_append, List.length_cons, List.length_take, List.length_drop]; omega
def putT (o : List (List UInt8)) (l : List Th) : List (List UInt8) := l.foldl (fun o t => put o t.n) o
theorem putT_len : ∀ (l : List Th) (o : List (List UInt8)), (putT o l).length ≤ o.length + l.length
  | [], o => Nat.le_refl _
  | t :: l, o => by
    have h1 := putT_len l (put o t.n)
    have h2 := put_len o t.n
    simp only [putT, List.foldl_cons, List.length_cons] at h1 ⊢
    omega
theorem putT_step {o : List (List UInt8)} {l : List Th} {k : Nat} (hk : k < l.length) : putT o (l.take (k + 1)) = put (putT o (l.take k)) l[k].n := by
  rw [List.take_succ_eq_append_getElem hk]
  unfold putT; rw [List.foldl_append]; rfl
def putR (o : List (List UInt8)) (r : Ru) : List (List UInt8) := putT (putT (put o r.c.n) r.ps) r.es
def names2 (c : Cs) : List (List UInt8) := c.rs.foldl putR (putT [] c.fs)
theorem putR_len (o : List (List UInt8)) (r : Ru) : (putR o r).length ≤ o.length + (nb r).length + 1 := by
  have h1 := put_len o r.c.n
  have h2 := putT_len r.ps (put o r.c.n)
  have h3 := putT_len r.es (putT (put o r.c.n) r.ps)
  unfold putR
  simp only [nb, List.length_map, List.length_append]
  omega
theorem putRs_len : ∀ (l : List Ru) (o : List (List UInt8)), (l.foldl putR o).length ≤ o.length + (l.flatMap ruN).length
  | [], o => Nat.le_refl _
  | r :: l, o => by
    have h1 := putRs_len l (putR o r)
    have h2 := putR_len o r
    rw [List.foldl_cons, List.flatMap_cons, List.length_append]
    simp only [ruN, List.length_append, List.length_cons, List.length_nil] at h1 ⊢
    omega
theorem l23Names_b (c : Cs) (hN : (allN c).length ≤ 1048576) (h : ∀ r ∈ c.rs, RuOk r) : BRet Tryz.prog 109 [] [.agg [.d (.sl 2 (c.fs.map Th.e)), .d (.sl 5 (c.rs.map Ru.e)), .d (.sl 2 (c.ss.map Sd.e))]] (.d (.sl 1 ((names2 c).map .str))) [] := by
  have hf : c.fs.length ≤ 1048576 := by rw [allN_eq, List.length_append, List.length_map] at hN; omega
  refine bofW Tryz.func109 ?_
  refine bgo ?_
  refine b_loopw (fun n st => ∃ (k : Nat) (out : List (List UInt8)), n = c.fs.length - k ∧ k ≤ c.fs.length ∧ putT [] (c.fs.take k) = out ∧ st.tm 3 = .d (.sl 1 (out.map .str)) ∧ st.tm 1 = .ptr (.t 1) 0 ∧ st.tm 4 = .int k ∧
      st.bx (.t 1) = some [.d (.sl 2 (c.fs.map Th.e)), .d (.sl 5 (c.rs.map Ru.e)), .d (.sl 2 (c.ss.map Sd.e))] ∧ ∀ b, b ≠ .t 1 → st.bx b = none) c.fs.length (Weak.own_d (t := 3) rfl) ⟨0, [], rfl, Nat.zero_le _, rfl, rfl, rfl, rfl, rfl, fun b hb => by simp [bx_put, bx_strip1, bx_sbx, bx_init, bxOf_nil, hb]⟩ ?_
  rintro n st ⟨k, out, rfl, hk, ho, t3, t1, t4, b1, hb⟩
  have hol : out.length ≤ 1048576 := by rw [← ho]; have := putT_len (c.fs.take k) []; simp only [List.length_take, List.length_nil] at this; omega
  by_cases hlt : k < c.fs.length
  · have hx : c.fs[k]? = some c.fs[k] := List.getElem?_eq_getElem hlt
    refine bgo ?_
    refine b_call (l5Put_b out c.fs[k].n hol) rfl rfl rfl rfl ?_
    refine bgo ?_
    exact ⟨_, _, Weak.refl _, by omega, k + 1, put out c.fs[k].n, rfl, hlt, by rw [putT_step hlt, ho], rfl, t1, rfl, b1, hb⟩
  · have hk' : k = c.fs.length := by omega
    subst hk'
    rw [List.take_length] at ho
    refine bgo ?_
    refine wk_rfl ?_
    refine bgo ?_
    have hrl : c.rs.length ≤ 1048576 := by have := ruN_len c.rs; rw [allN_eq, List.length_append] at hN; omega
    refine b_loop (fun n st => ∃ (k : Nat) (out : List (List UInt8)), n = c.rs.length - k ∧ k ≤ c.rs.length ∧ (c.rs.take k).foldl putR (putT [] c.fs) = out ∧ st.tm 3 = .d (.sl 1 (out.map .str)) ∧ st.tm 1 = .ptr (.t 1) 0 ∧ st.tm 5 = .int k ∧
      st.bx (.t 1) = some [.d (.sl 2 (c.fs.map Th.e)), .d (.sl 5 (c.rs.map Ru.e)), .d (.sl 2 (c.ss.map Sd.e))] ∧ ∀ b, b ≠ .t 1 → st.bx b = none) c.rs.length ⟨0, out, rfl, Nat.zero_le _, ho, t3, t1, rfl, b1, hb⟩ ?_
    clear hol hlt hk t4 t3 t1 b1 hb ho st out
    rintro n st ⟨k, out, rfl, hk, ho, t3, t1, t5, b1, hb⟩
    have b6 := hb (.t 6) (by simp)
    have ba : ∀ k, st.bx (.a k) = none := fun k => hb _ (by simp)
    by_cases hlt : k < c.rs.length
    · have hx : c.rs[k]? = some c.rs[k] := List.getElem?_eq_getElem hlt
      have hol : out.length + (nb c.rs[k]).length + 1 ≤ 1048576 := by
        have h1 := preN_len c k hlt
        have h2 := putRs_len (c.rs.take k) (putT [] c.fs)
        have h3 := putT_len c.fs []
        rw [ho] at h2
        simp only [List.length_append, List.length_map, List.length_nil] at h1 h3
        omega
      refine bgo ?_
      refine b_call (l5Put_b out c.rs[k].c.n (by omega)) rfl rfl rfl rfl ?_
      refine bgo ?_
      have hno : (nb c.rs[k]).length = c.rs[k].ps.length + c.rs[k].es.length := by simp [nb]
      have hst : (c.rs.take (k + 1)).foldl putR (putT [] c.fs) = putT (putT (put out c.rs[k].c.n) c.rs[k].ps) c.rs[k].es := by
        rw [List.take_succ_eq_append_getElem hlt, List.foldl_append, ho]; rfl
      have hpl : c.rs[k].ps.length ≤ 1048576 := by omega
      have hel : c.rs[k].es.length ≤ 1048576 := by omega
      have h0 := put_len out c.rs[k].c.n
      generalize put out c.rs[k].c.n = o0 at *
      refine b_loop (fun n st => ∃ (j : Nat) (o1 : List (List UInt8)), n = c.rs[k].ps.length - j ∧ j ≤ c.rs[k].ps.length ∧ putT o0 (c.rs[k].ps.take j) = o1 ∧ st.tm 3 = .d (.sl 1 (o1.map .str)) ∧ st.tm 1 = .ptr (.t 1) 0 ∧ st.tm 5 = .int k ∧ st.tm 6 = .ptr (.t 6) 0 ∧ st.tm 7 = .int j ∧
        st.bx (.t 1) = some [.d (.sl 2 (c.fs.map Th.e)), .d (.sl 5 (c.rs.map Ru.e)), .d (.sl 2 (c.ss.map Sd.e))] ∧ st.bx (.t 6) = some [.d (.sl 2 (c.rs[k].ps.map Th.e)), .d (.sl 2 (c.rs[k].es.map Th.e)), .str c.rs[k].c.n, .bool c.rs[k].c.g, .int c.rs[k].wt] ∧ ∀ b, b ≠ .t 1 → b ≠ .t 6 → st.bx b = none) c.rs[k].ps.length
        ⟨0, o0, rfl, Nat.zero_le _, rfl, rfl, t1, t5, rfl, rfl, ?_, rfl, fun b h1 h6 => ?_⟩ ?_
      · simpa [bx_put, bx_strip1, bx_sbx] using b1
      · simpa [bx_put, bx_strip1, bx_sbx, h6] using hb b h1
      clear t3 t1 t5 b1 b6 hb ba st ho
      rintro n st ⟨j, o1, rfl, hj, ho, t3, t1, t5, t6, t7, b1, b6, hb⟩
      have ba : ∀ k, st.bx (.a k) = none := fun k => hb _ (by simp) (by simp)
      have hol1 : o1.length + c.rs[k].es.length ≤ 1048576 := by
        have h2 := putT_len (c.rs[k].ps.take j) o0
        rw [ho, List.length_take] at h2
        omega
      by_cases hjt : j < c.rs[k].ps.length
      · have hy : c.rs[k].ps[j]? = some c.rs[k].ps[j] := List.getElem?_eq_getElem hjt
        clear hst hno
        refine bgo ?_
        refine b_call (l5Put_b o1 c.rs[k].ps[j].n (by omega)) rfl rfl rfl rfl ?_
        refine bgo ?_
        exact ⟨_, _, Weak.refl _, by omega, j + 1, put o1 c.rs[k].ps[j].n, rfl, hjt, by rw [putT_step hjt, ho], rfl, t1, t5, t6, rfl, b1, b6, hb⟩
      · have hj' : j = c.rs[k].ps.length := by omega
        subst hj'
        rw [List.take_length] at ho
        rw [ho] at hst
        clear hno
        refine bgo ?_
        refine wk_rfl ?_
        refine bgo ?_
        refine b_loop (fun n st => ∃ (j : Nat) (o2 : List (List UInt8)), n = c.rs[k].es.length - j ∧ j ≤ c.rs[k].es.length ∧ putT o1 (c.rs[k].es.take j) = o2 ∧ st.tm 3 = .d (.sl 1 (o2.map .str)) ∧ st.tm 1 = .ptr (.t 1) 0 ∧ st.tm 5 = .int k ∧ st.tm 6 = .ptr (.t 6) 0 ∧ st.tm 8 = .int j ∧
          st.bx (.t 1) = some [.d (.sl 2 (c.fs.map Th.e)), .d (.sl 5 (c.rs.map Ru.e)), .d (.sl 2 (c.ss.map Sd.e))] ∧ st.bx (.t 6) = some [.d (.sl 2 (c.rs[k].ps.map Th.e)), .d (.sl 2 (c.rs[k].es.map Th.e)), .str c.rs[k].c.n, .bool c.rs[k].c.g, .int c.rs[k].wt] ∧ ∀ b, b ≠ .t 1 → b ≠ .t 6 → st.bx b = none) c.rs[k].es.length
          ⟨0, o1, rfl, Nat.zero_le _, rfl, t3, t1, t5, t6, rfl, b1, b6, hb⟩ ?_
        clear t3 t1 t5 t6 t7 b1 b6 hb ba st ho
        rintro n st ⟨j, o2, rfl, hj, ho, t3, t1, t5, t6, t8, b1, b6, hb⟩
        have ba : ∀ k, st.bx (.a k) = none := fun k => hb _ (by simp) (by simp)
        have hol2 : o2.length ≤ 1048576 := by
          have h2 := putT_len (c.rs[k].es.take j) o1
          rw [ho, List.length_take] at h2
          omega
        by_cases hjt : j < c.rs[k].es.length
        · have hy : c.rs[k].es[j]? = some c.rs[k].es[j] := List.getElem?_eq_getElem hjt
          clear hst
          refine bgo ?_
          refine b_call (l5Put_b o2 c.rs[k].es[j].n hol2) rfl rfl rfl rfl ?_
          refine bgo ?_
          exact ⟨_, _, Weak.refl _, by omega, j + 1, put o2 c.rs[k].es[j].n, rfl, hjt, by rw [putT_step hjt, ho], rfl, t1, t5, t6, rfl, b1, b6, hb⟩
        · have hj' : j = c.rs[k].es.length := by omega
          subst hj'
          rw [List.take_length] at ho
          rw [ho] at hst
          refine bgo ?_
          refine wk_rfl ?_
          refine bgo ?_
          refine ⟨_, _, Weak.drop (.t 6), by omega, k + 1, o2, rfl, hlt, hst, ?_, ?_, rfl, ?_, fun b hne => ?_⟩
          · show (st.tm 3).kill _ = _; rw [t3]; rfl
          · show (st.tm 1).kill _ = _; rw [t1]; rfl
          · rw [bx_drop]; simp only [bx_put, bx_strip1, bx_sbx, BN.t.injEq, Nat.reduceEqDiff, if_false, b1]; rfl
          · rw [bx_drop]
            split
            · rfl
            · rename_i h5; simp [bx_put, bx_strip1, bx_sbx, hb b hne h5]
    · have hk' : k = c.rs.length := by omega
      subst hk'
      rw [List.take_length] at ho
      have hn : names2 c = out := ho
      rw [hn]
      clear ho hn
      refine bgo ?_
      refine wk_rfl ?_
      refine bgo ?_
      refine wk_rfl ?_
      refine bgo ?_
      trivial
end Go.Bee.C23s
