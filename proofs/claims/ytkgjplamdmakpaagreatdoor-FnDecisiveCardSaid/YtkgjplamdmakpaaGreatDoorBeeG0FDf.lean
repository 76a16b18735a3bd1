/-
The logic and the walks, part 6. No condition.
-/
import Derived.Test.YtkgjplamdmakpaaGreatDoorBeeG0FDe
import Derived.Test.YtkgjplamdmakpaaGreatDoorProg
import Derived.Shelf.Strings.Count
import Derived.Shelf.Strings.Search3
/- Chapter 23: the model's ready. -/
namespace Go.Bee.C23s
open Go Go.Bee Go.Proofs Go.Bee.Ty Go.Bee.C23
set_option linter.unusedVariables false
set_option maxRecDepth 20000
attribute [local irreducible] Go.Bee.bwp vName
def allIn (list : List (List UInt8)) (l : List Th) : Bool := l.all fun t => list.contains t.n
theorem waits_eq (list : List (List UInt8)) (name : List UInt8) (r : Ru) : waits list name r = (r.c.n == name && !(allIn list r.ps && allIn list r.es)) := by
  unfold waits nb allIn
  rw [List.any_map, List.any_append, List.any_eq_not_all_not, List.any_eq_not_all_not]
  simp
theorem l23Ready_b (c : Cs) (hc : ∀ r ∈ c.rs, RuOk r) (name : List UInt8) (list : List (List UInt8)) : BRet Tryz.prog 116 [] [.agg [.d (.sl 2 (c.fs.map Th.e)), .d (.sl 5 (c.rs.map Ru.e)), .d (.sl 2 (c.ss.map Sd.e))], .str name, .d (.sl 1 (list.map .str))] (.bool (!c.rs.any (waits list name))) [] := by
  refine BRet.alen 0 1 (by kernel_rfl) rfl rfl fun hl => ?_
  refine bof Tryz.func116 ?_
  simp only [List.length_map] at hl
  generalize hr : (!c.rs.any (waits list name)) = res
  refine bgo ?_
  refine b_loop (fun n st => ∃ k : Nat, n = c.rs.length - k ∧ k ≤ c.rs.length ∧ st.tm 1 = .str name ∧ st.tm 2 = .d (.sl 1 (list.map .str)) ∧ st.tm 3 = .ptr (.t 3) 0 ∧ st.tm 7 = .int k ∧ (c.rs.take k).any (waits list name) = false ∧
      st.bx (.t 3) = some [.d (.sl 2 (c.fs.map Th.e)), .d (.sl 5 (c.rs.map Ru.e)), .d (.sl 2 (c.ss.map Sd.e))] ∧ ∀ b, b ≠ .t 3 → st.bx b = none) c.rs.length ⟨0, rfl, Nat.zero_le _, rfl, rfl, rfl, rfl, rfl, rfl, fun b hb => by simp [bx_put, bx_strip1, bx_sbx, bx_init, bxOf_nil, hb]⟩ ?_
  rintro n st ⟨k, rfl, hk, t1, t2, t3, t7, hj, b3, hb⟩
  have b8 := hb (.t 8) (by simp)
  have ba : ∀ k, st.bx (.a k) = none := fun k => hb _ (by simp)
  by_cases hlt : k < c.rs.length
  · have hx : c.rs[k]? = some c.rs[k] := List.getElem?_eq_getElem hlt
    have hstep : waits list name c.rs[k] = false → (c.rs.take (k + 1)).any (waits list name) = false := fun h => by
      rw [List.take_succ_eq_append_getElem hlt, List.any_append, hj]; simp [h]
    clear hj
    cases hn : c.rs[k].c.n == name
    · have hw : waits list name c.rs[k] = false := by simp [waits, hn]
      have hs := hstep hw
      have hnn : ¬ c.rs[k].c.n = name := by simpa using hn
      clear hstep hw hr hn
      refine bgo ?_
      refine ⟨_, _, Weak.drop (.t 8), by omega, k + 1, rfl, hlt, ?_, ?_, ?_, rfl, hs, ?_, fun b hne => ?_⟩
      · show (st.tm 1).kill _ = _; rw [t1]; rfl
      · show (st.tm 2).kill _ = _; rw [t2]; rfl
      · show (st.tm 3).kill _ = _; rw [t3]; rfl
      · rw [bx_drop]; simp only [bx_put, bx_strip1, bx_sbx, BN.t.injEq, Nat.reduceEqDiff, if_false, b3]; rfl
      · rw [bx_drop]
        split
        · rfl
        · rename_i h5; simp [bx_put, bx_strip1, bx_sbx, h5, hb b hne]
    · have hnn : c.rs[k].c.n = name := by simpa using hn
      obtain ⟨hp, he⟩ := hc _ (List.getElem_mem hlt)
      have hbad : (allIn list c.rs[k].ps && allIn list c.rs[k].es) = false → res = false := fun h => by
        rw [← hr]
        have : c.rs.any (waits list name) = true := List.any_eq_true.2 ⟨c.rs[k], List.getElem_mem hlt, by rw [waits_eq, h, hnn]; simp⟩
        rw [this]; rfl
      have hgood : allIn list c.rs[k].ps = true → allIn list c.rs[k].es = true → (c.rs.take (k + 1)).any (waits list name) = false := fun h1 h2 => hstep (by rw [waits_eq, h1, h2]; simp)
      clear hr hn hstep
      refine bgo ?_
      generalize c.rs[k].ps = ps at *
      refine b_loop (fun n st => ∃ j : Nat, n = ps.length - j ∧ j ≤ ps.length ∧ st.tm 1 = .str name ∧ st.tm 2 = .d (.sl 1 (list.map .str)) ∧ st.tm 3 = .ptr (.t 3) 0 ∧ st.tm 7 = .int k ∧ st.tm 8 = .ptr (.t 8) 0 ∧ st.tm 9 = .int j ∧ allIn list (ps.take j) = true ∧
        st.bx (.t 3) = some [.d (.sl 2 (c.fs.map Th.e)), .d (.sl 5 (c.rs.map Ru.e)), .d (.sl 2 (c.ss.map Sd.e))] ∧ st.bx (.t 8) = some [.d (.sl 2 (ps.map Th.e)), .d (.sl 2 (c.rs[k].es.map Th.e)), .str name, .bool c.rs[k].c.g, .int c.rs[k].wt] ∧ ∀ b, b ≠ .t 3 → b ≠ .t 8 → st.bx b = none) ps.length ⟨0, rfl, Nat.zero_le _, t1, t2, t3, t7, rfl, rfl, rfl, ?_, ?_, fun b h3 h8 => ?_⟩ ?_
      · simpa [bx_put, bx_strip1, bx_sbx] using b3
      · rfl
      · simpa [bx_put, bx_strip1, bx_sbx, h8] using hb b h3
      clear t1 t2 t3 t7 b3 b8 hb ba st
      rintro n st ⟨j, rfl, hjl, t1, t2, t3, t7, t8, t9, hin, b3, b8, hb⟩
      have ba : ∀ k, st.bx (.a k) = none := fun k => hb _ (by simp) (by simp)
      by_cases hjt : j < ps.length
      · have hy : ps[j]? = some ps[j] := List.getElem?_eq_getElem hjt
        clear hgood
        refine bgo ?_
        refine b_call (l5Has_b list ps[j].n) rfl rfl rfl rfl ?_
        cases hs : list.contains ps[j].n
        · have hres := hbad (by simp only [allIn, all_bad (p := fun t : Th => list.contains t.n) hjt hs, Bool.false_and])
          subst hres
          clear hbad hin
          refine bgo ?_
          trivial
        · have hin2 := all_step (p := fun t : Th => list.contains t.n) hjt hin hs
          clear hbad hin
          refine bgo ?_
          exact ⟨_, _, Weak.refl _, by omega, j + 1, rfl, hjt, t1, t2, t3, t7, t8, rfl, hin2, b3, b8, hb⟩
      · have hj' : j = ps.length := by omega
        subst hj'
        rw [List.take_length] at hin
        have hgood2 := hgood hin
        have hbad2 : allIn list c.rs[k].es = false → res = false := fun h => hbad (by rw [h, Bool.and_false])
        clear hgood hbad hin
        refine bgo ?_
        refine wk_rfl ?_
        refine bgo ?_
        generalize c.rs[k].es = es at *
        refine b_loop (fun n st => ∃ j : Nat, n = es.length - j ∧ j ≤ es.length ∧ st.tm 1 = .str name ∧ st.tm 2 = .d (.sl 1 (list.map .str)) ∧ st.tm 3 = .ptr (.t 3) 0 ∧ st.tm 7 = .int k ∧ st.tm 8 = .ptr (.t 8) 0 ∧ st.tm 10 = .int j ∧ allIn list (es.take j) = true ∧
          st.bx (.t 3) = some [.d (.sl 2 (c.fs.map Th.e)), .d (.sl 5 (c.rs.map Ru.e)), .d (.sl 2 (c.ss.map Sd.e))] ∧ st.bx (.t 8) = some [.d (.sl 2 (ps.map Th.e)), .d (.sl 2 (es.map Th.e)), .str name, .bool c.rs[k].c.g, .int c.rs[k].wt] ∧ ∀ b, b ≠ .t 3 → b ≠ .t 8 → st.bx b = none) es.length
          ⟨0, rfl, Nat.zero_le _, t1, t2, t3, t7, t8, rfl, rfl, b3, b8, hb⟩ ?_
        clear t1 t2 t3 t7 t8 t9 b3 b8 hb ba st
        rintro n st ⟨j, rfl, hjl, t1, t2, t3, t7, t8, t10, hin, b3, b8, hb⟩
        have ba : ∀ k, st.bx (.a k) = none := fun k => hb _ (by simp) (by simp)
        by_cases hjt : j < es.length
        · have hy : es[j]? = some es[j] := List.getElem?_eq_getElem hjt
          clear hgood2
          refine bgo ?_
          refine b_call (l5Has_b list es[j].n) rfl rfl rfl rfl ?_
          cases hs : list.contains es[j].n
          · have hres := hbad2 (by simp only [allIn, all_bad (p := fun t : Th => list.contains t.n) hjt hs])
            subst hres
            clear hbad2 hin
            refine bgo ?_
            trivial
          · have hin2 := all_step (p := fun t : Th => list.contains t.n) hjt hin hs
            clear hbad2 hin
            refine bgo ?_
            exact ⟨_, _, Weak.refl _, by omega, j + 1, rfl, hjt, t1, t2, t3, t7, t8, rfl, hin2, b3, b8, hb⟩
        · have hj' : j = es.length := by omega
          subst hj'
          rw [List.take_length] at hin
          have hs := hgood2 hin
          clear hgood2 hbad2 hin
          refine bgo ?_
          refine wk_rfl ?_
          refine bgo ?_
          refine ⟨_, _, Weak.drop (.t 8), by omega, k + 1, rfl, hlt, ?_, ?_, ?_, rfl, hs, ?_, fun b hne => ?_⟩
          · show (st.tm 1).kill _ = _; rw [t1]; rfl
          · show (st.tm 2).kill _ = _; rw [t2]; rfl
          · show (st.tm 3).kill _ = _; rw [t3]; rfl
          · rw [bx_drop]; simp only [bx_put, bx_strip1, bx_sbx, BN.t.injEq, Nat.reduceEqDiff, if_false, b3]; rfl
          · rw [bx_drop]
            split
            · rfl
            · rename_i h5; simp [bx_put, bx_strip1, bx_sbx, hb b hne h5]
  · have hk' : k = c.rs.length := by omega
    subst hk'
    rw [List.take_length] at hj
    have hres : res = true := by rw [← hr, hj]; rfl
    subst hres
    clear hr
    refine bgo ?_
    refine wk_rfl ?_
    refine bgo ?_
    trivial
end Go.Bee.C23s

/- Chapter 23: the model's names. -/
namespace Go.Bee.C23s
open Go Go.Bee Go.Proofs Go.Bee.Ty Go.Bee.C23
set_option linter.unusedVariables false
set_option maxRecDepth 20000
attribute [local irreducible] Go.Bee.bwp vName put
theorem put_len (l : List (List UInt8)) (s : List UInt8) : (put l s).length ≤ l.length + 1 := by
  have hu : put l s = if l[pos s l]? = some s then l else l.take (pos s l) ++ s :: l.drop (pos s l) := by unfold put; rfl
  rw [hu]
  split
  · omega
  · simp only [List.length_append, List.length_cons, List.length_take, List.length_drop]; omega
def putT (o : List (List UInt8)) (l : List Th) : List (List UInt8) := l.foldl (fun o t => put o t.n) o
theorem putT_len : ∀ (l : List Th) (o : List (List UInt8)), (putT o l).length ≤ o.length + l.length
  | [], o => Nat.le_refl _
  | t :: l, o => by
    have h1 := putT_len l (put o t.n)
    have h2 := put_len o t.n
    simp only [putT, List.foldl_cons, List.length_cons] at h1 ⊢
    omega
theorem putT_step {o : List (List UInt8)} {l : List Th} {k : Nat} (hk : k < l.length) : putT o (l.take (k + 1)) = put (putT o (l.take k)) l[k].n := by
  rw [List.take_succ_eq_append_getElem hk]
  unfold putT; rw [List.foldl_append]; rfl
def putR (o : List (List UInt8)) (r : Ru) : List (List UInt8) := putT (putT (put o r.c.n) r.ps) r.es
def names2 (c : Cs) : List (List UInt8) := c.rs.foldl putR (putT [] c.fs)
theorem putR_len (o : List (List UInt8)) (r : Ru) : (putR o r).length ≤ o.length + (nb r).length + 1 := by
  have h1 := put_len o r.c.n
  have h2 := putT_len r.ps (put o r.c.n)
  have h3 := putT_len r.es (putT (put o r.c.n) r.ps)
  unfold putR
  simp only [nb, List.length_map, List.length_append]
  omega
theorem putRs_len : ∀ (l : List Ru) (o : List (List UInt8)), (l.foldl putR o).length ≤ o.length + (l.flatMap ruN).length
  | [], o => Nat.le_refl _
  | r :: l, o => by
    have h1 := putRs_len l (putR o r)
    have h2 := putR_len o r
    rw [List.foldl_cons, List.flatMap_cons, List.length_append]
    simp only [ruN, List.length_append, List.length_cons, List.length_nil] at h1 ⊢
    omega
theorem l23Names_b (c : Cs) (hN : (allN c).length ≤ 1048576) (h : ∀ r ∈ c.rs, RuOk r) : BRet Tryz.prog 109 [] [.agg [.d (.sl 2 (c.fs.map Th.e)), .d (.sl 5 (c.rs.map Ru.e)), .d (.sl 2 (c.ss.map Sd.e))]] (.d (.sl 1 ((names2 c).map .str))) [] := by
  have hf : c.fs.length ≤ 1048576 := by rw [allN_eq, List.length_append, List.length_map] at hN; omega
  refine bofW Tryz.func109 ?_
  refine bgo ?_
  refine b_loopw (fun n st => ∃ (k : Nat) (out : List (List UInt8)), n = c.fs.length - k ∧ k ≤ c.fs.length ∧ putT [] (c.fs.take k) = out ∧ st.tm 3 = .d (.sl 1 (out.map .str)) ∧ st.tm 1 = .ptr (.t 1) 0 ∧ st.tm 4 = .int k ∧
      st.bx (.t 1) = some [.d (.sl 2 (c.fs.map Th.e)), .d (.sl 5 (c.rs.map Ru.e)), .d (.sl 2 (c.ss.map Sd.e))] ∧ ∀ b, b ≠ .t 1 → st.bx b = none) c.fs.length (Weak.own_d (t := 3) rfl) ⟨0, [], rfl, Nat.zero_le _, rfl, rfl, rfl, rfl, rfl, fun b hb => by simp [bx_put, bx_strip1, bx_sbx, bx_init, bxOf_nil, hb]⟩ ?_
  rintro n st ⟨k, out, rfl, hk, ho, t3, t1, t4, b1, hb⟩
  have hol : out.length ≤ 1048576 := by rw [← ho]; have := putT_len (c.fs.take k) []; simp only [List.length_take, List.length_nil] at this; omega
  by_cases hlt : k < c.fs.length
  · have hx : c.fs[k]? = some c.fs[k] := List.getElem?_eq_getElem hlt
    refine bgo ?_
    refine b_call (l5Put_b out c.fs[k].n hol) rfl rfl rfl rfl ?_
    refine bgo ?_
    exact ⟨_, _, Weak.refl _, by omega, k + 1, put out c.fs[k].n, rfl, hlt, by rw [putT_step hlt, ho], rfl, t1, rfl, b1, hb⟩
  · have hk' : k = c.fs.length := by omega
    subst hk'
    rw [List.take_length] at ho
    refine bgo ?_
    refine wk_rfl ?_
    refine bgo ?_
    have hrl : c.rs.length ≤ 1048576 := by have := ruN_len c.rs; rw [allN_eq, List.length_append] at hN; omega
    refine b_loop (fun n st => ∃ (k : Nat) (out : List (List UInt8)), n = c.rs.length - k ∧ k ≤ c.rs.length ∧ (c.rs.take k).foldl putR (putT [] c.fs) = out ∧ st.tm 3 = .d (.sl 1 (out.map .str)) ∧ st.tm 1 = .ptr (.t 1) 0 ∧ st.tm 5 = .int k ∧
      st.bx (.t 1) = some [.d (.sl 2 (c.fs.map Th.e)), .d (.sl 5 (c.rs.map Ru.e)), .d (.sl 2 (c.ss.map Sd.e))] ∧ ∀ b, b ≠ .t 1 → st.bx b = none) c.rs.length ⟨0, out, rfl, Nat.zero_le _, ho, t3, t1, rfl, b1, hb⟩ ?_
    clear hol hlt hk t4 t3 t1 b1 hb ho st out
    rintro n st ⟨k, out, rfl, hk, ho, t3, t1, t5, b1, hb⟩
    have b6 := hb (.t 6) (by simp)
    have ba : ∀ k, st.bx (.a k) = none := fun k => hb _ (by simp)
    by_cases hlt : k < c.rs.length
    · have hx : c.rs[k]? = some c.rs[k] := List.getElem?_eq_getElem hlt
      have hol : out.length + (nb c.rs[k]).length + 1 ≤ 1048576 := by
        have h1 := preN_len c k hlt
        have h2 := putRs_len (c.rs.take k) (putT [] c.fs)
        have h3 := putT_len c.fs []
        rw [ho] at h2
        simp only [List.length_append, List.length_map, List.length_nil] at h1 h3
        omega
      refine bgo ?_
      refine b_call (l5Put_b out c.rs[k].c.n (by omega)) rfl rfl rfl rfl ?_
      refine bgo ?_
      have hno : (nb c.rs[k]).length = c.rs[k].ps.length + c.rs[k].es.length := by simp [nb]
      have hst : (c.rs.take (k + 1)).foldl putR (putT [] c.fs) = putT (putT (put out c.rs[k].c.n) c.rs[k].ps) c.rs[k].es := by
        rw [List.take_succ_eq_append_getElem hlt, List.foldl_append, ho]; rfl
      have hpl : c.rs[k].ps.length ≤ 1048576 := by omega
      have hel : c.rs[k].es.length ≤ 1048576 := by omega
      have h0 := put_len out c.rs[k].c.n
      generalize put out c.rs[k].c.n = o0 at *
      refine b_loop (fun n st => ∃ (j : Nat) (o1 : List (List UInt8)), n = c.rs[k].ps.length - j ∧ j ≤ c.rs[k].ps.length ∧ putT o0 (c.rs[k].ps.take j) = o1 ∧ st.tm 3 = .d (.sl 1 (o1.map .str)) ∧ st.tm 1 = .ptr (.t 1) 0 ∧ st.tm 5 = .int k ∧ st.tm 6 = .ptr (.t 6) 0 ∧ st.tm 7 = .int j ∧
        st.bx (.t 1) = some [.d (.sl 2 (c.fs.map Th.e)), .d (.sl 5 (c.rs.map Ru.e)), .d (.sl 2 (c.ss.map Sd.e))] ∧ st.bx (.t 6) = some [.d (.sl 2 (c.rs[k].ps.map Th.e)), .d (.sl 2 (c.rs[k].es.map Th.e)), .str c.rs[k].c.n, .bool c.rs[k].c.g, .int c.rs[k].wt] ∧ ∀ b, b ≠ .t 1 → b ≠ .t 6 → st.bx b = none) c.rs[k].ps.length
        ⟨0, o0, rfl, Nat.zero_le _, rfl, rfl, t1, t5, rfl, rfl, ?_, rfl, fun b h1 h6 => ?_⟩ ?_
      · simpa [bx_put, bx_strip1, bx_sbx] using b1
      · simpa [bx_put, bx_strip1, bx_sbx, h6] using hb b h1
      clear t3 t1 t5 b1 b6 hb ba st ho
      rintro n st ⟨j, o1, rfl, hj, ho, t3, t1, t5, t6, t7, b1, b6, hb⟩
      have ba : ∀ k, st.bx (.a k) = none := fun k => hb _ (by simp) (by simp)
      have hol1 : o1.length + c.rs[k].es.length ≤ 1048576 := by
        have h2 := putT_len (c.rs[k].ps.take j) o0
        rw [ho, List.length_take] at h2
        omega
      by_cases hjt : j < c.rs[k].ps.length
      · have hy : c.rs[k].ps[j]? = some c.rs[k].ps[j] := List.getElem?_eq_getElem hjt
        clear hst hno
        refine bgo ?_
        refine b_call (l5Put_b o1 c.rs[k].ps[j].n (by omega)) rfl rfl rfl rfl ?_
        refine bgo ?_
        exact ⟨_, _, Weak.refl _, by omega, j + 1, put o1 c.rs[k].ps[j].n, rfl, hjt, by rw [putT_step hjt, ho], rfl, t1, t5, t6, rfl, b1, b6, hb⟩
      · have hj' : j = c.rs[k].ps.length := by omega
        subst hj'
        rw [List.take_length] at ho
        rw [ho] at hst
        clear hno
        refine bgo ?_
        refine wk_rfl ?_
        refine bgo ?_
        refine b_loop (fun n st => ∃ (j : Nat) (o2 : List (List UInt8)), n = c.rs[k].es.length - j ∧ j ≤ c.rs[k].es.length ∧ putT o1 (c.rs[k].es.take j) = o2 ∧ st.tm 3 = .d (.sl 1 (o2.map .str)) ∧ st.tm 1 = .ptr (.t 1) 0 ∧ st.tm 5 = .int k ∧ st.tm 6 = .ptr (.t 6) 0 ∧ st.tm 8 = .int j ∧
          st.bx (.t 1) = some [.d (.sl 2 (c.fs.map Th.e)), .d (.sl 5 (c.rs.map Ru.e)), .d (.sl 2 (c.ss.map Sd.e))] ∧ st.bx (.t 6) = some [.d (.sl 2 (c.rs[k].ps.map Th.e)), .d (.sl 2 (c.rs[k].es.map Th.e)), .str c.rs[k].c.n, .bool c.rs[k].c.g, .int c.rs[k].wt] ∧ ∀ b, b ≠ .t 1 → b ≠ .t 6 → st.bx b = none) c.rs[k].es.length
          ⟨0, o1, rfl, Nat.zero_le _, rfl, t3, t1, t5, t6, rfl, b1, b6, hb⟩ ?_
        clear t3 t1 t5 t6 t7 b1 b6 hb ba st ho
        rintro n st ⟨j, o2, rfl, hj, ho, t3, t1, t5, t6, t8, b1, b6, hb⟩
        have ba : ∀ k, st.bx (.a k) = none := fun k => hb _ (by simp) (by simp)
        have hol2 : o2.length ≤ 1048576 := by
          have h2 := putT_len (c.rs[k].es.take j) o1
          rw [ho, List.length_take] at h2
          omega
        by_cases hjt : j < c.rs[k].es.length
        · have hy : c.rs[k].es[j]? = some c.rs[k].es[j] := List.getElem?_eq_getElem hjt
          clear hst
          refine bgo ?_
          refine b_call (l5Put_b o2 c.rs[k].es[j].n hol2) rfl rfl rfl rfl ?_
          refine bgo ?_
          exact ⟨_, _, Weak.refl _, by omega, j + 1, put o2 c.rs[k].es[j].n, rfl, hjt, by rw [putT_step hjt, ho], rfl, t1, t5, t6, rfl, b1, b6, hb⟩
        · have hj' : j = c.rs[k].es.length := by omega
          subst hj'
          rw [List.take_length] at ho
          rw [ho] at hst
          refine bgo ?_
          refine wk_rfl ?_
          refine bgo ?_
          refine ⟨_, _, Weak.drop (.t 6), by omega, k + 1, o2, rfl, hlt, hst, ?_, ?_, rfl, ?_, fun b hne => ?_⟩
          · show (st.tm 3).kill _ = _; rw [t3]; rfl
          · show (st.tm 1).kill _ = _; rw [t1]; rfl
          · rw [bx_drop]; simp only [bx_put, bx_strip1, bx_sbx, BN.t.injEq, Nat.reduceEqDiff, if_false, b1]; rfl
          · rw [bx_drop]
            split
            · rfl
            · rename_i h5; simp [bx_put, bx_strip1, bx_sbx, hb b hne h5]
    · have hk' : k = c.rs.length := by omega
      subst hk'
      rw [List.take_length] at ho
      have hn : names2 c = out := ho
      rw [hn]
      clear ho hn
      refine bgo ?_
      refine wk_rfl ?_
      refine bgo ?_
      refine wk_rfl ?_
      refine bgo ?_
      trivial
end Go.Bee.C23s

/- strings.Count, Index and Split at one byte. -/
namespace Go.Proofs
open Go.Shelf
def YtkgjplamdmakpaaGreatDoorStr.lays138_ren : Go.Shelf.Ren := ⟨fun | 138 => 147 | 195 => 151 | 218 => 153 | 143 => 148 | 219 => 154 | 217 => 158 | 225 => 159 | 224 => 160 | 267 => 161 | 266 => 173 | 314 => 174 | n => n, fun | 9 => 9 | 3 => 3 | 4 => 4 | 5 => 5 | 0 => 0 | 46 => 159 | 146 => 181 | 51 => 175 | n => n, fun | 1 => 0 | n => n⟩
theorem YtkgjplamdmakpaaGreatDoorStr.lays138 : Go.Proofs.Lays.n138 Tryz.prog YtkgjplamdmakpaaGreatDoorStr.lays138_ren := {
  mixed := by kernel_rfl
  f138 := Tryz.func147.trans (congrArg some (by kernel_rfl))
  f143 := Tryz.func148.trans (congrArg some (by kernel_rfl))
  f195 := Tryz.func151.trans (congrArg some (by kernel_rfl))
  f217 := Tryz.func158.trans (congrArg some (by kernel_rfl))
  f218 := Tryz.func153.trans (congrArg some (by kernel_rfl))
  f219 := Tryz.func154.trans (congrArg some (by kernel_rfl))
  f224 := Tryz.func160.trans (congrArg some (by kernel_rfl))
  f225 := Tryz.func159.trans (congrArg some (by kernel_rfl))
  f266 := Tryz.func173.trans (congrArg some (by kernel_rfl))
  f267 := Tryz.func161.trans (congrArg some (by kernel_rfl))
  f314 := Tryz.func174.trans (congrArg some (by kernel_rfl))
  t0 := Tryz.underlying0
  a0 := Tryz.isAgg0
  z0 := Tryz.sizeOf0
  v0 := Tryz.zeroValue0
  t3 := Tryz.underlying3
  a3 := Tryz.isAgg3
  z3 := Tryz.sizeOf3
  v3 := Tryz.zeroValue3
  t4 := Tryz.underlying4
  a4 := Tryz.isAgg4
  z4 := Tryz.sizeOf4
  v4 := Tryz.zeroValue4
  t5 := Tryz.underlying5
  a5 := Tryz.isAgg5
  z5 := Tryz.sizeOf5
  v5 := Tryz.zeroValue5
  t9 := Tryz.underlying9
  a9 := Tryz.isAgg9
  z9 := Tryz.sizeOf9
  v9 := Tryz.zeroValue9
  t46 := Tryz.underlying159
  a46 := Tryz.isAgg159
  z46 := Tryz.sizeOf159
  v46 := Tryz.zeroValue159
  t51 := Tryz.underlying175
  a51 := Tryz.isAgg175
  z51 := Tryz.sizeOf175
  v51 := Tryz.zeroValue175
  t146 := Tryz.underlying181
  a146 := Tryz.isAgg181
  z146 := Tryz.sizeOf181
  v146 := Tryz.zeroValue181
  g1 := by kernel_rfl }
def YtkgjplamdmakpaaGreatDoorStr.lays143_ren : Go.Shelf.Ren := ⟨fun | 143 => 148 | 219 => 154 | 217 => 158 | 225 => 159 | 224 => 160 | 267 => 161 | 266 => 173 | 314 => 174 | n => n, fun | 9 => 9 | 3 => 3 | 4 => 4 | 5 => 5 | 46 => 159 | 146 => 181 | 51 => 175 | n => n, fun | 1 => 0 | n => n⟩
theorem YtkgjplamdmakpaaGreatDoorStr.lays143 : Go.Proofs.Lays.n143 Tryz.prog YtkgjplamdmakpaaGreatDoorStr.lays143_ren := {
  mixed := by kernel_rfl
  f143 := Tryz.func148.trans (congrArg some (by kernel_rfl))
  f217 := Tryz.func158.trans (congrArg some (by kernel_rfl))
  f219 := Tryz.func154.trans (congrArg some (by kernel_rfl))
  f224 := Tryz.func160.trans (congrArg some (by kernel_rfl))
  f225 := Tryz.func159.trans (congrArg some (by kernel_rfl))
  f266 := Tryz.func173.trans (congrArg some (by kernel_rfl))
  f267 := Tryz.func161.trans (congrArg some (by kernel_rfl))
  f314 := Tryz.func174.trans (congrArg some (by kernel_rfl))
  t3 := Tryz.underlying3
  a3 := Tryz.isAgg3
  z3 := Tryz.sizeOf3
  v3 := Tryz.zeroValue3
  t4 := Tryz.underlying4
  a4 := Tryz.isAgg4
  z4 := Tryz.sizeOf4
  v4 := Tryz.zeroValue4
  t5 := Tryz.underlying5
  a5 := Tryz.isAgg5
  z5 := Tryz.sizeOf5
  v5 := Tryz.zeroValue5
  t9 := Tryz.underlying9
  a9 := Tryz.isAgg9
  z9 := Tryz.sizeOf9
  v9 := Tryz.zeroValue9
  t46 := Tryz.underlying159
  a46 := Tryz.isAgg159
  z46 := Tryz.sizeOf159
  v46 := Tryz.zeroValue159
  t51 := Tryz.underlying175
  a51 := Tryz.isAgg175
  z51 := Tryz.sizeOf175
  v51 := Tryz.zeroValue175
  t146 := Tryz.underlying181
  a146 := Tryz.isAgg181
  z146 := Tryz.sizeOf181
  v146 := Tryz.zeroValue181
  g1 := by kernel_rfl }
end Go.Proofs
namespace Go.Bee.C23s
open Go Go.Bee Go.Proofs Go.Bee.Ty Go.Bee.C23
set_option linter.unusedVariables false
set_option maxRecDepth 20000
attribute [local irreducible] Go.Bee.bwp
/-- A function of two texts that leaves memory as it is. -/
theorem BRet.ss {f : Nat} {a b : List UInt8} {n : Int} (hf : isFn Tryz.prog f = true) (h : ∀ w, Calls Tryz.prog f #[.string ⟨a.toArray⟩, .string ⟨b.toArray⟩] w fun e w' => e = .returned (.int .i64 n) ∧ w' = w) : BRet Tryz.prog f [] [.str a, .str b] (.int n) [] := by
  refine BRet.pure hf rfl fun G w vs hvs hargs hp ho hl hz _ => ?_
  have hv2 : vs.size = 2 := hvs
  have h0 := hargs 0 _ vs[0] rfl (Array.getElem?_eq_getElem (by omega))
  have h1 := hargs 1 _ vs[1] rfl (Array.getElem?_eq_getElem (by omega))
  have hv : vs = #[.string ⟨a.toArray⟩, .string ⟨b.toArray⟩] := by
    apply Array.ext
    · simpa using hvs
    · intro i hi hj
      have : i = 0 ∨ i = 1 := by simp at hj; omega
      rcases this with rfl | rfl
      · obtain ⟨h0, -⟩ := h0; generalize vs[0] = v at h0; cases h0; rfl
      · obtain ⟨h1, -⟩ := h1; generalize vs[1] = v at h1; cases h1; rfl
  rw [hv]
  refine (h w).mono ?_
  rintro e w' ⟨rfl, rfl⟩
  exact ⟨_, G, rfl, ⟨.int _ _, rfl⟩, hp, Ext.refl _ _ _, fun _ => rfl, fun g p hg => by rw [ho g] at hg; cases hg⟩
theorem count1_b (s : List UInt8) (c : UInt8) : BRet Tryz.prog 147 [] [.str s, .str [c]] (.int (Lib.countByte s c)) [] :=
  BRet.ss (by kernel_rfl) fun w => Any.strings_Count_one YtkgjplamdmakpaaGreatDoorStr.lays138 ⟨s.toArray⟩ c w
theorem index1_b (s : List UInt8) (c : UInt8) : BRet Tryz.prog 148 [] [.str s, .str [c]] (.int (Lib.indexByte s c)) [] :=
  BRet.ss (by kernel_rfl) fun w => Any.strings_Index_one YtkgjplamdmakpaaGreatDoorStr.lays143 ⟨s.toArray⟩ c w
/-- A text cut at each c. -/
def splitC (c : UInt8) : List UInt8 → List (List UInt8)
  | [] => [[]]
  | a :: l => if a = c then [] :: splitC c l else match splitC c l with | h :: t => (a :: h) :: t | [] => [[a]]
theorem splitC_ne (c : UInt8) : ∀ s, splitC c s ≠ []
  | [] => by simp [splitC]
  | a :: l => by
    unfold splitC
    split
    · simp
    · split <;> simp
theorem splitC_c (c a : UInt8) (l : List UInt8) : splitC c (a :: l) = if a = c then [] :: splitC c l else match splitC c l with | h :: t => (a :: h) :: t | [] => [[a]] := rfl
theorem splitC_idx (c : UInt8) : ∀ s, (Lib.indexByte s c = -1 ∧ splitC c s = [s]) ∨ ∃ m : Nat, Lib.indexByte s c = m ∧ m < s.length ∧ splitC c s = s.take m :: splitC c (s.drop (m + 1))
  | [] => .inl ⟨rfl, rfl⟩
  | a :: l => by
    rw [splitC_c]
    unfold Lib.indexByte
    by_cases h : a = c
    · subst h
      exact .inr ⟨0, by simp, by simp, by simp⟩
    · rw [if_neg (by simpa using h), if_neg h]
      rcases splitC_idx c l with ⟨h1, h2⟩ | ⟨m, h1, h2, h3⟩
      · exact .inl ⟨by rw [h1]; rfl, by rw [h2]⟩
      · refine .inr ⟨m + 1, ?_, by simp; omega, by rw [h3]; rfl⟩
        have : ((m : Int) == -1) = false := by simp
        rw [h1, this]; rfl
theorem splitC_len (c : UInt8) : ∀ s, (splitC c s).length = Lib.countByte s c + 1
  | [] => rfl
  | a :: l => by
    have ih := splitC_len c l
    have hne := splitC_ne c l
    rw [splitC_c]
    by_cases h : a = c
    · subst h; simp [Lib.countByte] at ih ⊢; omega
    · rw [if_neg h]
      have h2 : Lib.countByte (a :: l) c = Lib.countByte l c := by simp [Lib.countByte, h]
      rw [h2, ← ih]
      generalize splitC c l = q at *
      cases q
      · exact absurd rfl hne
      · rfl
theorem count_le (s : List UInt8) (c : UInt8) : Lib.countByte s c ≤ s.length := List.count_le_length
def str0 : List PV := [.d (.str [])]
theorem genSplit_b (s : List UInt8) (c : UInt8) (hl : s.length ≤ 1048576) : BRet Tryz.prog 140 [] [.str s, .str [c], .int 0, .int (-1)] (.own 9 1 ((splitC c s).map .str)) [] := by
  refine bofW Tryz.func140 ?_
  refine bgo ?_
  refine b_call (count1_b s c) rfl rfl rfl rfl ?_
  have hc := count_le s c
  have hn := splitC_len c s
  have hps : ∃ ps, splitC c s = ps := ⟨_, rfl⟩
  obtain ⟨ps, hps⟩ := hps
  rw [hps] at hn
  generalize Lib.countByte s c = n at *
  have hmin : min ((n : Int) + 1) ((s.length : Int) + 1) = ((n + 1 : Nat) : Int) := by omega
  have hl2 : (n : Int) + 1 ≤ (s.length : Int) + 1 := by omega
  refine bgo ?_
  refine ⟨by omega, by omega, ?_⟩
  have hok := fun n k L => filling_ok (l := ps.map .str) (zero := str0) (fun _ => rfl) n k L
  refine b_lp (ι := Nat × List UInt8) (fun i => [(0, .str i.2), (1, .str [c]), (2, .int 0), (3, .int n), (9, .rsl (.t 31) 9 1 (n + 1)), (10, .int i.1)]) (fun i => [(.t 31, filling (ps.map .str) str0 (n + 1) i.1)])
    (fun i => i.1 ≤ n ∧ ps.drop i.1 = splitC c i.2 ∧ i.2.length ≤ 1048576) (fun i => n - i.1) (0, s) ⟨hsT, ⟨_, rfl, HasC.of rfl (hok _ _ _)⟩, trivial⟩ ⟨Nat.zero_le _, hps.symm, hl⟩ ?_
  rintro ⟨k, r⟩ ⟨hk, hd, hr⟩ I nx
  dsimp only at hk hd hr ⊢
  have hkp : k < ps.length := by omega
  have hk1 : k < n + 1 := by omega
  have hfl := filling_len (l := ps.map .str) (zero := str0) (n := n + 1) (k := k) (sz := 1) rfl (fun x hx => by obtain ⟨y, _, rfl⟩ := List.mem_map.1 hx; rfl) (by simpa using hn) (by omega)
  have hfs := filling_step (l := ps.map .str) (zero := str0) (n := n + 1) (k := k) (sz := 1) rfl (fun x hx => by obtain ⟨y, _, rfl⟩ := List.mem_map.1 hx; rfl) (by simpa using hn) (by simpa using hkp)
  have hfb : (filling (ps.map .str) str0 (n + 1) (k + 1)).map PV.bC = filling (ps.map .str) str0 (n + 1) (k + 1) := filling_bC rfl
  rw [List.drop_eq_getElem_cons hkp] at hd
  by_cases hlt : k < n
  · rcases splitC_idx c r with ⟨h1, h2⟩ | ⟨m, h1, h2, h3⟩
    · rw [h2] at hd
      have := congrArg List.length (List.cons.inj hd).2
      simp at this; omega
    · rw [h3] at hd
      obtain ⟨hd1, hd2⟩ := List.cons.inj hd
      have hm1 : m + 1 ≤ r.length := h2
      have hm0 : m ≤ r.length := by omega
      clear hd h3 hps hmin hl2
      refine bgo ?_
      refine b_call (index1_b r c) rfl rfl rfl rfl ?_
      rw [h1]
      refine bgo ?_
      refine ⟨by omega, nx.go (k + 1, r.drop (m + 1)) ⟨hlt, hd2, by simp; omega⟩ (by dsimp only; omega) ⟨hsT, ⟨_, rfl, HasC.of ?_ (hok _ _ _)⟩, trivial⟩⟩
      rw [← hfs]
      simp [hd1, PD.cells]
  · have hkn : k = n := by omega
    subst hkn
    have hd0 : ps[k] = r := by
      rcases splitC_idx c r with ⟨h1, h2⟩ | ⟨m, h1, h2, h3⟩
      · rw [h2] at hd; exact (List.cons.inj hd).1
      · rw [h3] at hd
        have h4 := congrArg List.length (List.cons.inj hd).2
        have := splitC_ne c (r.drop (m + 1))
        rw [List.length_drop, hn, Nat.sub_self] at h4
        exact absurd (List.length_eq_zero_iff.1 h4.symm) this
    clear hd hps
    refine bgo ?_
    refine wk_rfl ?_
    refine bgo ?_
    refine ⟨by omega, ?_⟩
    have hcl : List.take (k * 1) (filling (ps.map .str) str0 (k + 1) k) ++ [PV.str r] ++ List.drop (k * 1 + 1) (filling (ps.map .str) str0 (k + 1) k) = (flat (ps.map .str)).map .d := by
      have := filling_n (ps.map .str) str0
      simp only [List.length_map, hn] at this
      rw [← this, ← hfs]
      simp [hd0, PD.cells]
    refine wk_fz 8 (.t 31) 9 1 (k + 1) (ps.map .str) [] [] ⟨hsT, ⟨_, rfl, HasC.of hcl ?_⟩, trivial⟩ (by simpa using hn) (fun x hx => by obtain ⟨y, _, rfl⟩ := List.mem_map.1 hx; rfl) ?_
    · simp [okC]
    refine bgo ?_
    trivial
theorem split_b (s : List UInt8) (c : UInt8) (hl : s.length ≤ 1048576) : BRet Tryz.prog 104 [] [.str s, .str [c]] (.own 9 1 ((splitC c s).map .str)) [] := by
  refine bof Tryz.func104 ?_
  refine bgo ?_
  refine b_call (genSplit_b s c hl) rfl rfl rfl rfl ?_
  refine bgo ?_
  trivial
end Go.Bee.C23s

/- Valid names, theses. -/
namespace Go.Bee.C23s
open Go Go.Bee Go.Proofs Go.Bee.Ty Go.Bee.C23
set_option linter.unusedVariables false
set_option maxRecDepth 20000
attribute [local irreducible] Go.Bee.bwp
def wordsT : List UInt8 := [116, 114, 117, 101, 32, 102, 114, 111, 109, 32, 110, 111, 116, 32, 97, 110, 100, 32, 111, 114, 32, 98, 111, 116, 104, 32, 101, 105, 116, 104, 101, 114, 32, 105, 116, 32, 105, 110]
theorem words_eq : splitC 32 wordsT = words := by decide
theorem all_take {s : List UInt8} {k : Nat} (hlt : k < s.length) (hj : (s.take k).all sg = true) (h : sg s[k] = true) : (s.take (k + 1)).all sg = true := by
  rw [List.take_succ_eq_append_getElem hlt, List.all_append, hj]; simp [h]
theorem sg_bad {s : List UInt8} {k : Nat} (hlt : k < s.length) (h : sg s[k] = false) : vName s = false := by
  have : s.all sg = false := by
    cases e : s.all sg
    · rfl
    · rw [List.all_eq_true.1 e _ (List.getElem_mem hlt)] at h; cases h
  simp [vName, this]
theorem IsValidName_b (s : List UInt8) : BRet Tryz.prog 58 [] [.str s] (.bool (vName s)) [] := by
  refine BRet.slen 0 (by kernel_rfl) rfl fun hl => ?_
  refine bof Tryz.func58 ?_
  refine bgo ?_
  refine b_call (within_b _ _ _) rfl rfl rfl rfl ?_
  cases hw : inB s.length 1 8
  · have hv : vName s = false := by simp [vName, hw]
    rw [hv]
    refine bgo ?_
    trivial
  · obtain ⟨a, tl, rfl⟩ : ∃ a tl, s = a :: tl := by
      cases s with
      | nil => simp [inB] at hw
      | cons a tl => exact ⟨a, tl, rfl⟩
    have h0 : (a :: tl)[0]? = some a := rfl
    have hbad : headOk (a :: tl) = false → vName (a :: tl) = false := fun h => by simp [vName, h]
    have hgood : headOk (a :: tl) = true → (a :: tl).all sg = true → vName (a :: tl) = !words.contains (a :: tl) := fun h h2 => by unfold vName; rw [hw, h, h2]; rfl
    have hhd : headOk (a :: tl) = (decide ((a.toNat : Int) ≥ 97) && decide ((a.toNat : Int) ≤ 122)) := rfl
    generalize headOk (a :: tl) = hh at *
    generalize a :: tl = s at *
    by_cases h1 : (a.toNat : Int) < 97
    · rw [hbad (by rw [hhd]; simp; omega)]
      refine bgo ?_
      trivial
    by_cases h2 : (a.toNat : Int) > 122
    · rw [hbad (by rw [hhd]; simp; omega)]
      refine bgo ?_
      trivial
    have hv := hgood (by rw [hhd]; simp; omega)
    have hbad2 : ∀ k (hlt : k < s.length), sg s[k] = false → vName s = false := fun k hlt h => sg_bad hlt h
    clear hgood hbad hhd
    refine bgo ?_
    generalize vName s = r at *
    refine b_lp (ι := Nat) (fun k => [(0, .str s), (20, .int s.length), (21, .int k)]) (fun _ => []) (fun k => k ≤ s.length ∧ (s.take k).all sg = true) (fun k => s.length - k) 0 hs ⟨Nat.zero_le _, rfl⟩ ?_
    clear h0 h1 h2 hw
    rintro k ⟨hk, hj⟩ I nx
    by_cases hlt : k < s.length
    · have hx : s[k]? = some s[k] := List.getElem?_eq_getElem hlt
      cases hs0 : sg s[k]
      · rw [hbad2 k hlt hs0] at *
        have e : ¬ ((97 : Int) ≤ s[k].toNat ∧ (s[k].toNat : Int) ≤ 122) ∧ ¬ ((48 : Int) ≤ s[k].toNat ∧ (s[k].toNat : Int) ≤ 57) := by
          simp [sg, inB] at hs0; omega
        clear hbad2 hv hj
        refine bgo ?_
        repeat' first | intro _ | apply And.intro
        all_goals (exfalso; omega)
      · have e : ((97 : Int) ≤ s[k].toNat ∧ (s[k].toNat : Int) ≤ 122) ∨ ((48 : Int) ≤ s[k].toNat ∧ (s[k].toNat : Int) ≤ 57) := by
          simp [sg, inB] at hs0; omega
        have hj2 := all_take hlt hj hs0
        clear hbad2 hv hj
        refine bgo ?_
        repeat' first | intro _ | apply And.intro
        all_goals first | (exfalso; omega) | exact nx.go (k + 1) ⟨hlt, hj2⟩ (by omega) hs
    · have hk' : k = s.length := by omega
      subst hk'
      rw [List.take_length] at hj
      have hv2 := hv hj
      clear hbad2 hj hv
      subst hv2
      refine bgo ?_
      refine wk_rfl ?_
      refine bgo ?_
      refine b_call (split_b wordsT 32 (by decide)) rfl rfl rfl rfl ?_
      refine bgo ?_
      refine b_call (containsStr_b _ _) rfl rfl rfl rfl ?_
      rw [words_eq]
      refine bgo ?_
      trivial
end Go.Bee.C23s

/- Chapter 23: a valid case, as the code reckons it. -/
namespace Go.Bee.C23s
open Go Go.Bee Go.Proofs Go.Bee.Ty Go.Bee.C23
set_option linter.unusedVariables false
set_option maxRecDepth 20000
attribute [local irreducible] Go.Bee.bwp vName
def rall (p : Nat → Bool) (n : Nat) : Bool := (List.range n).all p
theorem rall_step {p : Nat → Bool} {k : Nat} (h : rall p k = true) (hk : p k = true) : rall p (k + 1) = true := by
  unfold rall at *; rw [List.range_succ, List.all_append, h]; simp [hk]
theorem rall_bad {p : Nat → Bool} {n k : Nat} (hk : k < n) (h : p k = false) : rall p n = false := by
  cases e : rall p n
  · rfl
  · rw [List.all_eq_true.1 e k (List.mem_range.2 hk)] at h; cases h
def nd1 (l : List Th) (i : Nat) : Bool := !((l.take i).any fun o => o.n == (l.getD i ⟨[], false⟩).n)
def nd (l : List Th) : Bool := rall (nd1 l) l.length
theorem nd1_at {l : List Th} {i : Nat} (h : i < l.length) : nd1 l i = !((l.take i).any fun o => o.n == l[i].n) := by
  unfold nd1; rw [List.getD_eq_getElem?_getD, List.getElem?_eq_getElem h]; rfl
def ruOk (r : Ru) : Bool := thOk r.ps 4 && thOk r.es 4 && vName r.c.n && inB r.wt 1 1000
def sdOk1 (l : List Sd) (i : Nat) : Bool := vName (l.getD i ⟨[], 0⟩).n && inB (l.getD i ⟨[], 0⟩).k 1 4 && (decide (i = 0) || Op.bytesLess (l.getD (i - 1) ⟨[], 0⟩).n (l.getD i ⟨[], 0⟩).n)
def sdOk (l : List Sd) : Bool := rall (sdOk1 l) l.length
theorem sdOk1_at {l : List Sd} {i : Nat} (h : i < l.length) : sdOk1 l i = (vName l[i].n && inB l[i].k 1 4 && (decide (i = 0) || Op.bytesLess l[i - 1].n l[i].n)) := by
  have h2 : i - 1 < l.length := by omega
  unfold sdOk1; rw [List.getD_eq_getElem?_getD, List.getElem?_eq_getElem h, List.getD_eq_getElem?_getD, List.getElem?_eq_getElem h2]; rfl
def head (c : Cs) : Bool := thOk c.fs 12 && decide ((c.rs.length : Int) ≤ 10) && decide ((c.ss.length : Int) ≤ 12) && nd c.fs && c.rs.all ruOk && sdOk c.ss
theorem less_lt : ∀ a b : List UInt8, (Op.bytesLess a b || a == b) = !(Op.bytesLess b a)
  | [], [] => rfl
  | [], _ :: _ => rfl
  | _ :: _, [] => rfl
  | a :: x, b :: y => by
    have ih := less_lt x y
    simp only [Op.bytesLess]
    by_cases h1 : a < b
    · have h2 : ¬ b < a := fun h => by have := UInt8.lt_iff_toNat_lt.1 h; have := UInt8.lt_iff_toNat_lt.1 h1; omega
      have h3 : ¬ b = a := fun e => by subst e; exact h2 h1
      simp [h1, h2, h3]
    · by_cases h2 : a = b
      · subst h2
        simp [h1]
        exact ih
      · have h3 : b < a := by
          rw [UInt8.lt_iff_toNat_lt] at h1 ⊢
          have : a.toNat ≠ b.toNat := fun e => h2 (UInt8.toNat_inj.1 e)
          omega
        simp [h1, h2, h3]
theorem thOk_all {l : List Th} {m : Int} (h : thOk l m = true) : (l.length : Int) ≤ m ∧ ∀ t ∈ l, vName t.n = true := by
  simp only [thOk, Bool.and_eq_true, List.all_eq_true, decide_eq_true_eq] at h
  exact ⟨h.2, h.1⟩
theorem f36_b (t : Th) : BRet Tryz.prog 135 [] [.agg [.str t.n, .bool t.g]] (.bool (!vName t.n)) [] := by
  refine bof Tryz.func135 ?_
  refine bgo ?_
  refine b_call (IsValidName_b _) rfl rfl rfl rfl ?_
  refine bgo ?_
  trivial
theorem areTheses_b (l : List Th) (m : Int) : BRet Tryz.prog 90 [] [.d (.sl 2 (l.map Th.e)), .int m] (.bool (thOk l m)) [] := by
  refine BRet.len 0 (by kernel_rfl) rfl fun hl => ?_
  refine bof Tryz.func90 ?_
  simp only [List.length_map] at hl
  have ht : thOk l m = (!(l.any fun t => !vName t.n) && decide ((l.length : Int) ≤ m)) := by
    unfold thOk; rw [List.any_eq_not_all_not]; simp
  by_cases h : (l.length : Int) ≤ m
  · have hr : thOk l m = !(l.any fun t => !vName t.n) := by rw [ht]; simp [h]
    rw [hr]
    clear ht hr
    refine bgo ?_
    refine b_callc2 (containsFuncThesis_b (fun _ => True) l (fun _ _ => trivial) (fun t => !vName t.n)) rfl rfl rfl rfl (by exact Kof_ok rfl (by kernel_rfl) fun t _ => f36_b t) rfl ?_
    refine bgo ?_
    trivial
  · have hr : thOk l m = false := by rw [ht]; simp [h]
    rw [hr]
    clear ht hr
    refine bgo ?_
    trivial
theorem f18_b (o t : Th) : BRet Tryz.prog 92 [] [.agg [.str o.n, .bool o.g], .eptr [.str t.n, .bool t.g]] (.bool (o.n == t.n)) [] := by
  refine bof Tryz.func92 ?_
  refine bgo ?_
  trivial
theorem allN_len (c : Cs) (h : head c = true) : (∀ r ∈ c.rs, RuOk r) ∧ (allN c).length ≤ 1048576 := by
  simp only [head, Bool.and_eq_true, decide_eq_true_eq, List.all_eq_true] at h
  obtain ⟨⟨⟨⟨⟨h1, h2⟩, h3⟩, h4⟩, h5⟩, h6⟩ := h
  have hr : ∀ r ∈ c.rs, r.ps.length ≤ 4 ∧ r.es.length ≤ 4 := fun r hr => by
    have := h5 r hr
    simp only [ruOk, Bool.and_eq_true] at this
    have a := (thOk_all this.1.1.1).1
    have b := (thOk_all this.1.1.2).1
    omega
  refine ⟨fun r hr' => ⟨by have := hr r hr'; omega, by have := hr r hr'; omega⟩, ?_⟩
  have hf := (thOk_all h1).1
  have key : ∀ l : List Ru, (∀ r ∈ l, r.ps.length ≤ 4 ∧ r.es.length ≤ 4) → (l.flatMap ruN).length ≤ 9 * l.length := by
    intro l
    induction l with
    | nil => simp
    | cons r l ih =>
      intro h
      have a := h r (List.mem_cons_self ..)
      have b := ih fun x hx => h x (List.mem_cons_of_mem _ hx)
      rw [List.flatMap_cons, List.length_append, List.length_cons]
      simp only [ruN, nb, List.length_append, List.length_map, List.length_cons, List.length_nil]
      omega
  have := key c.rs hr
  rw [allN_eq, List.length_append, List.length_map]
  omega
def okI (c : Cs) : Bool := (order c).isSome
theorem caps1 {fl : AF} {B : Bx} {b : BN} {cells : List PV} {ys : List PD} (hf : fl.bt = true ∨ fl.be = true) (h1 : B b = some cells) (e1 : pdL cells = some ys) :
    capsOf (vz fl B) [.ptr b 0] = some [.eptr ys] := by
  have hv : vz fl B = B := by simp [vz, hf]
  simp [hv, capsOf, capOf, h1, e1]
theorem IsValidCase_b (c : Cs) : BRet Tryz.prog 40 [] [.agg [.d (.sl 2 (c.fs.map Th.e)), .d (.sl 5 (c.rs.map Ru.e)), .d (.sl 2 (c.ss.map Sd.e))]] (.bool (head c && okI c)) [] := by
  refine BRet.alen 0 0 (by kernel_rfl) rfl rfl fun hl0 => ?_
  refine BRet.alen 0 1 (by kernel_rfl) rfl rfl fun hl1 => ?_
  refine BRet.alen 0 2 (by kernel_rfl) rfl rfl fun hl2 => ?_
  refine bof Tryz.func40 ?_
  simp only [List.length_map] at hl0 hl1 hl2
  have hbad : head c = false → (head c && okI c) = false := fun h => by rw [h]; rfl
  have hgood : head c = true → (head c && okI c) = okI c := fun h => by rw [h]; rfl
  generalize (head c && okI c) = res at *
  refine bgo ?_
  refine b_call (areTheses_b _ _) rfl rfl rfl rfl ?_
  cases h1 : thOk c.fs 12
  · rw [hbad (by simp [head, h1])]
    clear hgood hbad
    refine bgo ?_
    trivial
  by_cases h2 : (c.rs.length : Int) > 10
  · rw [hbad (by simp only [head, decide_eq_false (show ¬ (c.rs.length : Int) ≤ 10 by omega), Bool.and_false, Bool.false_and])]
    clear hgood hbad
    refine bgo ?_
    trivial
  by_cases h3 : (c.ss.length : Int) > 12
  · rw [hbad (by simp only [head, decide_eq_false (show ¬ (c.ss.length : Int) ≤ 12 by omega), Bool.and_false, Bool.false_and])]
    clear hgood hbad
    refine bgo ?_
    trivial
  have hh : head c = (nd c.fs && c.rs.all ruOk && sdOk c.ss) := by
    unfold head; rw [h1, decide_eq_true (show (c.rs.length : Int) ≤ 10 by omega), decide_eq_true (show (c.ss.length : Int) ≤ 12 by omega)]; simp only [Bool.true_and]
  have hal := allN_len c
  rw [hh] at hbad hgood hal
  clear hh h1
  refine bgo ?_
  refine b_lp (ι := Nat) (fun k => [(1, .ptr (.t 1) 0), (28, .d (.sl 2 (c.fs.map Th.e))), (29, .int c.fs.length), (30, .int k)]) (fun _ => [(.t 1, [.d (.sl 2 (c.fs.map Th.e)), .d (.sl 5 (c.rs.map Ru.e)), .d (.sl 2 (c.ss.map Sd.e))])])
    (fun k => k ≤ c.fs.length ∧ rall (nd1 c.fs) k = true) (fun k => c.fs.length - k) 0 hs ⟨Nat.zero_le _, rfl⟩ ?_
  rintro k ⟨hk, hj⟩ I nx
  by_cases hlt : k < c.fs.length
  · have hx : c.fs[k]? = some c.fs[k] := List.getElem?_eq_getElem hlt
    have hp := nd1_at hlt
    have hstep := rall_step (p := nd1 c.fs) (k := k) hj
    have hb2 : nd1 c.fs k = false → res = false := fun h => hbad (by unfold nd; rw [rall_bad hlt h]; rfl)
    clear hgood hal hj hbad
    refine bgo ?_
    rw [← List.map_take]
    refine b_callc2 (containsFuncThesis_b (fun _ => True) (c.fs.take k) (fun _ _ => trivial) (fun o => o.n == c.fs[k].n)) rfl rfl rfl rfl (by exact Kof_ok (caps1 (.inr rfl) rfl rfl) (by kernel_rfl) fun o _ => f18_b o c.fs[k]) rfl ?_
    cases hd : (c.fs.take k).any fun o => o.n == c.fs[k].n
    · have := hstep (by rw [hp, hd]; rfl)
      clear hstep hb2 hp hd
      refine bgo ?_
      exact nx.go (k + 1) ⟨hlt, this⟩ (by omega) hs
    · have := hb2 (by rw [hp, hd]; rfl)
      clear hstep hb2 hp hd
      subst this
      refine bgo ?_
      trivial
  have hk' : k = c.fs.length := by omega
  subst hk'
  have hnd : nd c.fs = true := hj
  rw [hnd, Bool.true_and] at hbad hgood hal
  clear hj hnd hlt hk nx
  refine bgo ?_
  refine wk_rfl ?_
  refine bgo ?_
  refine b_lp (ι := Nat) (fun k => [(1, .ptr (.t 1) 0), (43, .d (.sl 5 (c.rs.map Ru.e))), (44, .int c.rs.length), (45, .int k)]) (fun _ => [(.t 1, [.d (.sl 2 (c.fs.map Th.e)), .d (.sl 5 (c.rs.map Ru.e)), .d (.sl 2 (c.ss.map Sd.e))])])
    (fun k => k ≤ c.rs.length ∧ (c.rs.take k).all ruOk = true) (fun k => c.rs.length - k) 0 hs ⟨Nat.zero_le _, rfl⟩ ?_
  clear I
  rintro k ⟨hk, hj⟩ I nx
  by_cases hlt : k < c.rs.length
  · have hx : c.rs[k]? = some c.rs[k] := List.getElem?_eq_getElem hlt
    have hstep := all_step (p := ruOk) hlt hj
    have hb2 : ruOk c.rs[k] = false → res = false := fun h => hbad (by rw [all_bad hlt h]; rfl)
    clear hgood hal hj hbad
    refine bgo ?_
    refine b_call (areTheses_b _ _) rfl rfl rfl rfl ?_
    cases q1 : thOk c.rs[k].ps 4
    · rw [hb2 (by simp [ruOk, q1])]
      clear hstep hb2
      refine bgo ?_
      trivial
    refine bgo ?_
    refine b_call (areTheses_b _ _) rfl rfl rfl rfl ?_
    cases q2 : thOk c.rs[k].es 4
    · rw [hb2 (by simp [ruOk, q2])]
      clear hstep hb2
      refine bgo ?_
      trivial
    refine bgo ?_
    refine b_call (IsValidName_b _) rfl rfl rfl rfl ?_
    cases q3 : vName c.rs[k].c.n
    · rw [hb2 (by simp [ruOk, q3])]
      clear hstep hb2
      refine bgo ?_
      trivial
    refine bgo ?_
    refine b_call (within_b _ _ _) rfl rfl rfl rfl ?_
    cases q4 : inB c.rs[k].wt 1 1000
    · rw [hb2 (by simp [ruOk, q4])]
      clear hstep hb2
      refine bgo ?_
      trivial
    have := hstep (by simp [ruOk, q1, q2, q3, q4])
    clear hstep hb2
    refine bgo ?_
    exact nx.go (k + 1) ⟨hlt, this⟩ (by omega) hs
  have hk' : k = c.rs.length := by omega
  subst hk'
  rw [List.take_length] at hj
  rw [hj, Bool.true_and] at hbad hgood hal
  clear hj hlt hk nx
  refine bgo ?_
  refine wk_rfl ?_
  refine bgo ?_
  refine b_lp (ι := Nat) (fun k => [(1, .ptr (.t 1) 0), (74, .d (.sl 2 (c.ss.map Sd.e))), (75, .int c.ss.length), (76, .int k)]) (fun _ => [(.t 1, [.d (.sl 2 (c.fs.map Th.e)), .d (.sl 5 (c.rs.map Ru.e)), .d (.sl 2 (c.ss.map Sd.e))])])
    (fun k => k ≤ c.ss.length ∧ rall (sdOk1 c.ss) k = true) (fun k => c.ss.length - k) 0 hs ⟨Nat.zero_le _, rfl⟩ ?_
  clear I
  rintro k ⟨hk, hj⟩ I nx
  by_cases hlt : k < c.ss.length
  · have hx : c.ss[k]? = some c.ss[k] := List.getElem?_eq_getElem hlt
    have hp := sdOk1_at hlt
    have hstep := rall_step (p := sdOk1 c.ss) (k := k) hj
    have hb2 : sdOk1 c.ss k = false → res = false := fun h => hbad (by unfold sdOk; rw [rall_bad hlt h])
    clear hgood hal hj hbad
    refine bgo ?_
    refine b_call (IsValidName_b _) rfl rfl rfl rfl ?_
    cases q1 : vName c.ss[k].n
    · rw [hb2 (by rw [hp, q1]; rfl)]
      clear hstep hb2 hp
      refine bgo ?_
      trivial
    refine bgo ?_
    refine b_call (within_b _ _ _) rfl rfl rfl rfl ?_
    cases q2 : inB c.ss[k].k 1 4
    · rw [hb2 (by rw [hp, q1, q2]; rfl)]
      clear hstep hb2 hp
      refine bgo ?_
      trivial
    rw [q1, q2] at hp
    cases k with
    | zero =>
      have := hstep (by rw [hp]; rfl)
      clear hstep hb2 hp
      refine bgo ?_
      exact nx.go 1 ⟨hlt, this⟩ (by omega) hs
    | succ j =>
      have hp2 : sdOk1 c.ss (j + 1) = Op.bytesLess c.ss[j].n c.ss[j + 1].n := by rw [hp]; simp
      have hy : c.ss[j]? = some c.ss[j] := List.getElem?_eq_getElem (by omega)
      have e0 : ((j + 1 : Nat) : Int) > 0 := by omega
      have e1 : ((j + 1 : Nat) : Int) - 1 = j := by omega
      have e2 := less_lt c.ss[j + 1].n c.ss[j].n
      cases q3 : Op.bytesLess c.ss[j].n c.ss[j + 1].n
      · rw [q3] at e2
        rw [hb2 (by rw [hp2, q3])]
        clear hstep hb2 hp hp2 q3
        refine bgo ?_
        trivial
      · rw [q3] at e2
        have := hstep (by rw [hp2, q3])
        clear hstep hb2 hp hp2 q3
        refine bgo ?_
        exact nx.go (j + 2) ⟨hlt, this⟩ (by omega) hs
  have hk' : k = c.ss.length := by omega
  subst hk'
  have hsd : sdOk c.ss = true := hj
  have hres := hgood hsd
  obtain ⟨hr, hN⟩ := hal hsd
  subst hres
  clear hj hsd hlt hk nx hbad hgood hal
  refine bgo ?_
  refine wk_rfl ?_
  refine bgo ?_
  have hg : (orderV (order c)).gives = true := by cases order c <;> rfl
  refine b_call (decisionOrder_b c hr hN) rfl rfl rfl hg ?_
  unfold okI
  cases order c with
  | none =>
    unfold orderV
    refine bgo ?_
    trivial
  | some o =>
    unfold orderV
    refine bgo ?_
    trivial
end Go.Bee.C23s

/- Chapter 23: the order of decisions and a valid case, as the model reckons them. -/
namespace Go.Bee.C23s
open Go Go.Bee Go.Proofs Go.Bee.Ty Go.Bee.C23
set_option linter.unusedVariables false
set_option maxRecDepth 20000
attribute [local irreducible] Go.Bee.bwp vName
def readyS (c : Cs) (out : List (List UInt8)) (x : List UInt8) : Bool := ready c out x && !x.isEmpty
def goS (c : Cs) (names : List (List UInt8)) : Nat → List (List UInt8) → List (List UInt8)
  | 0, out => out
  | n + 1, out => match names.find? (readyS c out) with
    | none => out
    | some x => goS c names n (out ++ [x])
def orderS (c : Cs) : List (List UInt8) := goS c (names2 c) (names2 c).length []
def left (names out : List (List UInt8)) : Nat := (names.filter fun x => !out.contains x).length
theorem left_go {names out : List (List UInt8)} {x : List UInt8} (hx : x ∈ names) (ho : out.contains x = false) : left names (out ++ [x]) < left names out := by
  unfold left
  induction names with
  | nil => simp at hx
  | cons a l ih =>
    have hle : (l.filter fun y => !(out ++ [x]).contains y).length ≤ (l.filter fun y => !out.contains y).length := by
      have : (l.filter fun y => !(out ++ [x]).contains y) = (l.filter fun y => !out.contains y).filter fun y => !(out ++ [x]).contains y := by
        rw [List.filter_filter]
        congr 1
        funext y
        simp
        intro h1 h2; exact h1
      rw [this]; exact List.length_filter_le _ _
    rw [List.filter_cons, List.filter_cons]
    by_cases e : a = x
    · subst e
      rw [if_neg (by simp), if_pos (by simpa using ho)]
      simp only [List.length_cons]; omega
    · have ih := ih ((List.mem_cons.1 hx).resolve_left fun h => e h.symm)
      by_cases h : out.contains a = true
      · rw [if_neg (by simp at h; simp [h]), if_neg (by simp at h; simp [h])]; exact ih
      · have h2 : (out ++ [x]).contains a = false := by
          simp at h ⊢
          exact ⟨h, e⟩
        rw [if_pos (by rw [h2]; rfl), if_pos (by simpa using h)]
        simp only [List.length_cons]; omega
theorem left_none {c : Cs} {names out : List (List UInt8)} (h : left names out = 0) : names.find? (readyS c out) = none := by
  rw [List.find?_eq_none]
  intro x hx
  have h0 := List.length_eq_zero_iff.1 h
  have := List.filter_eq_nil_iff.1 h0 x hx
  simp at this
  simp [readyS, ready, this]
theorem goS_fix {c : Cs} {names : List (List UInt8)} : ∀ (n : Nat) (out : List (List UInt8)), names.find? (readyS c out) = none → goS c names n out = out
  | 0, out, _ => rfl
  | n + 1, out, h => by simp [goS, h]
theorem idx_step1 {p : List UInt8 → Bool} {l : List (List UInt8)} {k : Nat} (hk : k < l.length) : (l.drop k).find? p = if p l[k] = true then some l[k] else (l.drop (k + 1)).find? p := by
  rw [List.drop_eq_getElem_cons hk, List.find?_cons]
  cases p l[k] <;> simp
theorem l23Order_b (c : Cs) (hN : (allN c).length ≤ 1048576) (h : ∀ r ∈ c.rs, RuOk r) (hn : (names2 c).length ≤ 1048576) : BRet Tryz.prog 70 [] [.agg [.d (.sl 2 (c.fs.map Th.e)), .d (.sl 5 (c.rs.map Ru.e)), .d (.sl 2 (c.ss.map Sd.e))]] (.own 9 1 ((orderS c).map .str)) [] := by
  refine bofW Tryz.func70 ?_
  refine bgo ?_
  refine b_call (l23Names_b c hN h) rfl rfl rfl rfl ?_
  generalize ho : orderS c = res
  unfold orderS at ho
  generalize names2 c = names at ho hn ⊢
  refine bgo ?_
  refine b_lp (ι := Nat × List (List UInt8)) (fun i => [(1, .ptr (.t 1) 0), (3, .d (.sl 1 (names.map .str))), (4, .own 9 1 (i.2.map .str))]) (fun _ => [(.t 1, [.d (.sl 2 (c.fs.map Th.e)), .d (.sl 5 (c.rs.map Ru.e)), .d (.sl 2 (c.ss.map Sd.e))])])
    (fun i => goS c names i.1 i.2 = res ∧ left names i.2 ≤ i.1 ∧ i.1 + i.2.length ≤ names.length) (fun i => i.1) (names.length, []) hs ⟨ho, List.length_filter_le _ _, by simp⟩ ?_
  clear ho
  rintro ⟨m, out⟩ ⟨hgo, hlf, hlen⟩ I nx
  dsimp only at hgo hlf hlen ⊢
  have hout : out.length ≤ 1048576 := by omega
  refine bgo ?_
  refine b_lp (ι := Nat × List UInt8) (fun i => [(1, .ptr (.t 1) 0), (3, .d (.sl 1 (names.map .str))), (4, .own 9 1 (out.map .str)), (5, .str i.2), (6, .int i.1)]) (fun _ => [(.t 1, [.d (.sl 2 (c.fs.map Th.e)), .d (.sl 5 (c.rs.map Ru.e)), .d (.sl 2 (c.ss.map Sd.e))])])
    (fun i => i.1 ≤ names.length ∧ ((i.2 = [] ∧ (names.drop i.1).find? (readyS c out) = names.find? (readyS c out)) ∨ (i.2 ≠ [] ∧ names.find? (readyS c out) = some i.2))) (fun i => names.length - i.1) (0, []) hs ⟨Nat.zero_le _, .inl ⟨rfl, rfl⟩⟩ ?_
  rintro ⟨k, x⟩ ⟨hk, hj⟩ I2 nx2
  dsimp only at hk hj ⊢
  rcases hj with ⟨rfl, hj⟩ | ⟨hx0, hj⟩
  · by_cases hlt : k < names.length
    · have hx : names[k]? = some names[k] := List.getElem?_eq_getElem hlt
      rw [idx_step1 hlt] at hj
      clear nx hgo hlf hlen
      refine bgo ?_
      refine b_call (l5Has_b out names[k]) rfl rfl rfl rfl ?_
      cases q1 : out.contains names[k]
      · refine bgo ?_
        refine b_call (l23Ready_b c h names[k] out) rfl rfl rfl rfl ?_
        cases q2 : !c.rs.any (waits out names[k])
        · have hr : readyS c out names[k] = false := by simp only [readyS, ready, q1, q2, Bool.and_false, Bool.false_and]
          rw [hr] at hj
          clear hr
          refine bgo ?_
          exact nx2.go (k + 1, []) ⟨hlt, .inl ⟨rfl, hj⟩⟩ (by dsimp only; omega) hs
        · have hr : readyS c out names[k] = !names[k].isEmpty := by simp only [readyS, ready, q1, q2, Bool.not_false, Bool.true_and]
          rw [hr] at hj
          clear hr
          refine bgo ?_
          refine nx2.go (k + 1, names[k]) ⟨hlt, ?_⟩ (by dsimp only; omega) hs
          dsimp only
          by_cases he : names[k] = []
          · rw [he] at hj ⊢; exact .inl ⟨rfl, hj⟩
          · exact .inr ⟨he, by rw [← hj, if_pos (by simpa using he)]⟩
      · have hr : readyS c out names[k] = false := by simp only [readyS, ready, q1, Bool.not_true, Bool.false_and]
        rw [hr] at hj
        clear hr
        refine bgo ?_
        exact nx2.go (k + 1, []) ⟨hlt, .inl ⟨rfl, hj⟩⟩ (by dsimp only; omega) hs
    · have hk' : k = names.length := by omega
      subst hk'
      rw [List.drop_length] at hj
      have hres : goS c names m out = out := goS_fix m out hj.symm
      rw [hres] at hgo
      clear hj hres nx2
      subst hgo
      refine bgo ?_
      refine wk_rfl ?_
      refine bgo ?_
      refine wk_rfl ?_
      refine bgo ?_
      trivial
  · have hxe : (x == []) = false := by simpa using hx0
    have hm : m ≠ 0 := fun e => by subst e; rw [left_none (by omega)] at hj; cases hj
    obtain ⟨m', rfl⟩ : ∃ m', m = m' + 1 := ⟨m - 1, by omega⟩
    have hg2 : goS c names m' (out ++ [x]) = res := by rw [← hgo]; simp [goS, hj]
    have hmem : x ∈ names := List.mem_of_find?_eq_some hj
    have hrd : readyS c out x = true := List.find?_some hj
    have hnc : out.contains x = false := by simp only [readyS, ready, Bool.and_eq_true, Bool.not_eq_true'] at hrd; exact hrd.1.1
    have hl2 := left_go hmem hnc
    clear hgo hj hrd hmem hnc nx2
    refine bgo ?_
    refine ⟨fun _ => ?_, fun _ => ?_⟩
    all_goals
      refine wk_mk [(1, .ptr (.t 1) 0), (3, .d (.sl 1 (names.map .str))), (4, .own 9 1 (out.map .str)), (5, .str x)] [(.t 1, [.d (.sl 2 (c.fs.map Th.e)), .d (.sl 5 (c.rs.map Ru.e)), .d (.sl 2 (c.ss.map Sd.e))])] hs ?_
      refine bgo ?_
      exact nx.go (m', out ++ [x]) ⟨hg2, by dsimp only; omega, by simp; omega⟩ (by dsimp only; omega) hs
theorem put_le (c : Cs) (hN : (allN c).length ≤ 1048576) : (names2 c).length ≤ 1048576 := by
  have h1 := putRs_len c.rs (putT [] c.fs)
  have h2 := putT_len c.fs []
  rw [allN_eq, List.length_append, List.length_map] at hN
  unfold names2
  simp only [List.length_nil] at h2
  omega
def okS (c : Cs) : Bool := (orderS c).length == (names2 c).length
theorem goS_len (c : Cs) (names : List (List UInt8)) : ∀ (n : Nat) (out : List (List UInt8)), (goS c names n out).length ≤ out.length + n
  | 0, out => Nat.le_refl _
  | n + 1, out => by
    unfold goS
    split
    · omega
    · have := goS_len c names n (out ++ [‹_›])
      simp at this; omega
theorem l23Good_b (c : Cs) : BRet Tryz.prog 62 [] [.agg [.d (.sl 2 (c.fs.map Th.e)), .d (.sl 5 (c.rs.map Ru.e)), .d (.sl 2 (c.ss.map Sd.e))]] (.bool (head c && okS c)) [] := by
  refine BRet.alen 0 0 (by kernel_rfl) rfl rfl fun hl0 => ?_
  refine BRet.alen 0 1 (by kernel_rfl) rfl rfl fun hl1 => ?_
  refine BRet.alen 0 2 (by kernel_rfl) rfl rfl fun hl2 => ?_
  refine bof Tryz.func62 ?_
  simp only [List.length_map] at hl0 hl1 hl2
  have hbad : head c = false → (head c && okS c) = false := fun h => by rw [h]; rfl
  have hgood : head c = true → (head c && okS c) = okS c := fun h => by rw [h]; rfl
  generalize (head c && okS c) = res at *
  refine bgo ?_
  refine b_call (l23Theses_b _ _) rfl rfl rfl rfl ?_
  cases h1 : thOk c.fs 12
  · rw [hbad (by simp [head, h1])]
    clear hgood hbad
    refine bgo ?_
    trivial
  by_cases h2 : (c.rs.length : Int) > 10
  · rw [hbad (by simp only [head, decide_eq_false (show ¬ (c.rs.length : Int) ≤ 10 by omega), Bool.and_false, Bool.false_and])]
    clear hgood hbad
    refine bgo ?_
    trivial
  by_cases h3 : (c.ss.length : Int) > 12
  · rw [hbad (by simp only [head, decide_eq_false (show ¬ (c.ss.length : Int) ≤ 12 by omega), Bool.and_false, Bool.false_and])]
    clear hgood hbad
    refine bgo ?_
    trivial
  have hh : head c = (nd c.fs && c.rs.all ruOk && sdOk c.ss) := by
    unfold head; rw [h1, decide_eq_true (show (c.rs.length : Int) ≤ 10 by omega), decide_eq_true (show (c.ss.length : Int) ≤ 12 by omega)]; simp only [Bool.true_and]
  have hal := allN_len c
  rw [hh] at hbad hgood hal
  clear hh h1
  refine bgo ?_
  refine b_lp (ι := Nat) (fun k => [(1, .ptr (.t 1) 0), (3, .int k)]) (fun _ => [(.t 1, [.d (.sl 2 (c.fs.map Th.e)), .d (.sl 5 (c.rs.map Ru.e)), .d (.sl 2 (c.ss.map Sd.e))])])
    (fun k => k ≤ c.fs.length ∧ rall (nd1 c.fs) k = true) (fun k => c.fs.length - k) 0 hs ⟨Nat.zero_le _, rfl⟩ ?_
  rintro k ⟨hk, hj⟩ I nx
  by_cases hlt : k < c.fs.length
  · have hx : c.fs[k]? = some c.fs[k] := List.getElem?_eq_getElem hlt
    have hp := nd1_at hlt
    have hstep := rall_step (p := nd1 c.fs) (k := k) hj
    have hb2 : nd1 c.fs k = false → res = false := fun h => hbad (by unfold nd; rw [rall_bad hlt h]; rfl)
    clear hgood hal hj hbad
    rw [hp] at hstep hb2
    clear hp
    refine bgo ?_
    refine b_lp (ι := Nat) (fun j => [(1, .ptr (.t 1) 0), (3, .int k), (4, .int j)]) (fun _ => [(.t 1, [.d (.sl 2 (c.fs.map Th.e)), .d (.sl 5 (c.rs.map Ru.e)), .d (.sl 2 (c.ss.map Sd.e))])])
      (fun j => j ≤ k ∧ ((c.fs.take j).any fun o => o.n == c.fs[k].n) = false) (fun j => k - j) 0 hs ⟨Nat.zero_le _, rfl⟩ ?_
    rintro j ⟨hjk, hj⟩ I2 nx2
    by_cases hjt : j < k
    · have hy : c.fs[j]? = some c.fs[j] := List.getElem?_eq_getElem (by omega)
      clear hstep
      by_cases he : c.fs[j].n = c.fs[k].n
      · have : res = false := hb2 (by
          have : ((c.fs.take k).any fun o => o.n == c.fs[k].n) = true := List.any_eq_true.2 ⟨c.fs[j], List.mem_take_iff_getElem.2 ⟨j, by omega, rfl⟩, by simp [he]⟩
          rw [this]; rfl)
        subst this
        clear hb2 hj
        refine bgo ?_
        trivial
      · have hj2 : ((c.fs.take (j + 1)).any fun o => o.n == c.fs[k].n) = false := by
          rw [List.take_succ_eq_append_getElem (by omega), List.any_append, hj]; simp [he]
        clear hb2 hj
        refine bgo ?_
        exact nx2.go (j + 1) ⟨hjt, hj2⟩ (by omega) hs
    · have hjk' : j = k := by omega
      subst hjk'
      have := hstep (by rw [hj]; rfl)
      clear hstep hb2 hj nx2
      refine bgo ?_
      refine wk_rfl ?_
      refine bgo ?_
      exact nx.go (j + 1) ⟨hlt, this⟩ (by omega) hs
  have hk' : k = c.fs.length := by omega
  subst hk'
  have hnd : nd c.fs = true := hj
  rw [hnd, Bool.true_and] at hbad hgood hal
  clear hj hnd hlt hk nx
  refine bgo ?_
  refine wk_rfl ?_
  refine bgo ?_
  refine b_lp (ι := Nat) (fun k => [(1, .ptr (.t 1) 0), (5, .int k)]) (fun _ => [(.t 1, [.d (.sl 2 (c.fs.map Th.e)), .d (.sl 5 (c.rs.map Ru.e)), .d (.sl 2 (c.ss.map Sd.e))])])
    (fun k => k ≤ c.rs.length ∧ (c.rs.take k).all ruOk = true) (fun k => c.rs.length - k) 0 hs ⟨Nat.zero_le _, rfl⟩ ?_
  clear I
  rintro k ⟨hk, hj⟩ I nx
  by_cases hlt : k < c.rs.length
  · have hx : c.rs[k]? = some c.rs[k] := List.getElem?_eq_getElem hlt
    have hstep := all_step (p := ruOk) hlt hj
    have hb2 : ruOk c.rs[k] = false → res = false := fun h => hbad (by rw [all_bad hlt h]; rfl)
    clear hgood hal hj hbad
    refine bgo ?_
    refine b_call (l23Theses_b _ _) rfl rfl rfl rfl ?_
    cases q1 : thOk c.rs[k].ps 4
    · rw [hb2 (by simp [ruOk, q1])]
      clear hstep hb2
      refine bgo ?_
      trivial
    refine bgo ?_
    refine b_call (l23Theses_b _ _) rfl rfl rfl rfl ?_
    cases q2 : thOk c.rs[k].es 4
    · rw [hb2 (by simp [ruOk, q2])]
      clear hstep hb2
      refine bgo ?_
      trivial
    refine bgo ?_
    refine b_call (l5Name_b _) rfl rfl rfl rfl ?_
    cases q3 : vName c.rs[k].c.n
    · rw [hb2 (by simp [ruOk, q3])]
      clear hstep hb2
      refine bgo ?_
      trivial
    refine bgo ?_
    refine b_call (l1In_b _ _ _) rfl rfl rfl rfl ?_
    cases q4 : inB c.rs[k].wt 1 1000
    · rw [hb2 (by simp [ruOk, q4])]
      clear hstep hb2
      refine bgo ?_
      trivial
    have := hstep (by simp [ruOk, q1, q2, q3, q4])
    clear hstep hb2
    refine bgo ?_
    exact nx.go (k + 1) ⟨hlt, this⟩ (by omega) hs
  have hk' : k = c.rs.length := by omega
  subst hk'
  rw [List.take_length] at hj
  rw [hj, Bool.true_and] at hbad hgood hal
  clear hj hlt hk nx
  refine bgo ?_
  refine wk_rfl ?_
  refine bgo ?_
  refine b_lp (ι := Nat) (fun k => [(1, .ptr (.t 1) 0), (7, .int k)]) (fun _ => [(.t 1, [.d (.sl 2 (c.fs.map Th.e)), .d (.sl 5 (c.rs.map Ru.e)), .d (.sl 2 (c.ss.map Sd.e))])])
    (fun k => k ≤ c.ss.length ∧ rall (sdOk1 c.ss) k = true) (fun k => c.ss.length - k) 0 hs ⟨Nat.zero_le _, rfl⟩ ?_
  clear I
  rintro k ⟨hk, hj⟩ I nx
  by_cases hlt : k < c.ss.length
  · have hx : c.ss[k]? = some c.ss[k] := List.getElem?_eq_getElem hlt
    have hp := sdOk1_at hlt
    have hstep := rall_step (p := sdOk1 c.ss) (k := k) hj
    have hb2 : sdOk1 c.ss k = false → res = false := fun h => hbad (by unfold sdOk; rw [rall_bad hlt h])
    clear hgood hal hj hbad
    refine bgo ?_
    refine b_call (l5Name_b _) rfl rfl rfl rfl ?_
    cases q1 : vName c.ss[k].n
    · rw [hb2 (by rw [hp, q1]; rfl)]
      clear hstep hb2 hp
      refine bgo ?_
      trivial
    refine bgo ?_
    refine b_call (l1In_b _ _ _) rfl rfl rfl rfl ?_
    cases q2 : inB c.ss[k].k 1 4
    · rw [hb2 (by rw [hp, q1, q2]; rfl)]
      clear hstep hb2 hp
      refine bgo ?_
      trivial
    rw [q1, q2] at hp
    cases k with
    | zero =>
      have := hstep (by rw [hp]; rfl)
      clear hstep hb2 hp
      refine bgo ?_
      exact nx.go 1 ⟨hlt, this⟩ (by omega) hs
    | succ j =>
      have hp2 : sdOk1 c.ss (j + 1) = Op.bytesLess c.ss[j].n c.ss[j + 1].n := by rw [hp]; simp
      have hy : c.ss[j]? = some c.ss[j] := List.getElem?_eq_getElem (by omega)
      have e0 : ((j + 1 : Nat) : Int) > 0 := by omega
      have e1 : ((j + 1 : Nat) : Int) - 1 = j := by omega
      cases q3 : Op.bytesLess c.ss[j].n c.ss[j + 1].n
      · rw [hb2 (by rw [hp2, q3])]
        clear hstep hb2 hp hp2
        refine bgo ?_
        trivial
      · have := hstep (by rw [hp2, q3])
        clear hstep hb2 hp hp2
        refine bgo ?_
        exact nx.go (j + 2) ⟨hlt, this⟩ (by omega) hs
  have hk' : k = c.ss.length := by omega
  subst hk'
  have hsd : sdOk c.ss = true := hj
  have hres := hgood hsd
  obtain ⟨hr, hN⟩ := hal hsd
  subst hres
  clear hj hsd hlt hk nx hbad hgood hal
  have hn2 := put_le c hN
  have hol : (orderS c).length ≤ 1048576 := by
    have := goS_len c (names2 c) (names2 c).length []
    unfold orderS; simp at this; omega
  refine bgo ?_
  refine wk_rfl ?_
  refine bgo ?_
  refine b_call (l23Order_b c hN hr hn2) rfl rfl rfl rfl ?_
  refine bgo ?_
  refine b_call (l23Names_b c hN hr) rfl rfl rfl rfl ?_
  refine bgo ?_
  have : (((orderS c).length : Int) == ((names2 c).length : Int)) = okS c := by
    unfold okS
    rw [Bool.eq_iff_iff]; simp; omega
  rw [this]
end Go.Bee.C23s

/- Chapter 23: both orders come to the same. -/
namespace Go.Bee.C23s
open Go Go.Bee Go.Bee.Ty Go.Bee.C23
set_option linter.unusedVariables false
abbrev Tx := List UInt8
theorem less_iff : ∀ a b : Tx, Op.bytesLess a b = true ↔ a < b
  | [], [] => by simp [Op.bytesLess]
  | [], _ :: _ => by simp [Op.bytesLess]
  | _ :: _, [] => by simp [Op.bytesLess]
  | a :: x, b :: y => by
    have ih := less_iff x y
    simp only [Op.bytesLess, List.cons_lt_cons_iff, Bool.or_eq_true, Bool.and_eq_true, decide_eq_true_eq, beq_iff_eq, ih]
def Str (l : List Tx) : Prop := l.Pairwise (· < ·)
theorem lt_irr (a : Tx) : ¬ a < a := List.lt_irrefl a
theorem lt_tr {a b c : Tx} (h : a < b) (k : b < c) : a < c := List.lt_trans h k
theorem lt_tot (a b : Tx) (h : ¬ a < b) (k : a ≠ b) : b < a := by
  have h1 := less_lt b a
  have h2 : Op.bytesLess a b = false := by
    cases e : Op.bytesLess a b
    · rfl
    · exact absurd ((less_iff a b).1 e) h
  rw [h2] at h1
  have h3 : (b == a) = false := by simpa using fun e => k e.symm
  rw [h3, Bool.or_false] at h1
  exact (less_iff b a).1 h1
/-- A strictly ascending list is told by its members. -/
theorem Str.eq : ∀ {l m : List Tx}, Str l → Str m → (∀ x, x ∈ l ↔ x ∈ m) → l = m
  | [], [], _, _, _ => rfl
  | [], b :: m, _, _, h => by have := (h b).2 (List.mem_cons_self ..); cases this
  | a :: l, [], _, _, h => by have := (h a).1 (List.mem_cons_self ..); cases this
  | a :: l, b :: m, h1, h2, h => by
    have p1 := List.pairwise_cons.1 h1
    have p2 := List.pairwise_cons.1 h2
    have e : a = b := by
      rcases List.mem_cons.1 ((h a).1 (List.mem_cons_self ..)) with e | e
      · exact e
      · rcases List.mem_cons.1 ((h b).2 (List.mem_cons_self ..)) with e2 | e2
        · exact e2.symm
        · exact absurd (lt_tr (p1.1 b e2) (p2.1 a e)) (lt_irr a)
    subst e
    congr 1
    refine Str.eq p1.2 p2.2 fun x => ⟨fun hx => ?_, fun hx => ?_⟩
    · rcases List.mem_cons.1 ((h x).1 (List.mem_cons_of_mem _ hx)) with e | e
      · subst e; exact absurd (p1.1 _ hx) (lt_irr _)
      · exact e
    · rcases List.mem_cons.1 ((h x).2 (List.mem_cons_of_mem _ hx)) with e | e
      · subst e; exact absurd (p2.1 _ hx) (lt_irr _)
      · exact e
theorem put_cons (a s : Tx) (l : List Tx) : put (a :: l) s = if a < s then a :: put l s else if a = s then a :: l else s :: a :: l := by
  by_cases h : a < s
  · have e : pos s (a :: l) = pos s l + 1 := by simp [pos, (less_iff a s).2 h]
    rw [if_pos h]
    unfold put
    rw [e]
    simp only [List.getElem?_cons_succ, List.take_succ_cons, List.drop_succ_cons, List.cons_append]
    split <;> rfl
  · have e : pos s (a :: l) = 0 := by
      have : Op.bytesLess a s = false := by
        cases e : Op.bytesLess a s
        · rfl
        · exact absurd ((less_iff a s).1 e) h
      simp [pos, this]
    rw [if_neg h]
    unfold put
    rw [e]
    simp
theorem put_mem (s x : Tx) : ∀ l : List Tx, x ∈ put l s ↔ x = s ∨ x ∈ l
  | [] => by simp [put, pos]
  | a :: l => by
    have ih := put_mem s x l
    rw [put_cons]
    split
    · rw [List.mem_cons, ih, List.mem_cons]
      constructor
      · rintro (h | h | h) <;> simp [h]
      · rintro (h | h | h) <;> simp [h]
    · split
      · rename_i h; subst h; simp
      · simp [List.mem_cons]
theorem put_str (s : Tx) : ∀ l : List Tx, Str l → Str (put l s)
  | [], _ => by simp [put, pos, Str]
  | a :: l, h => by
    have p := List.pairwise_cons.1 h
    have ih := put_str s l p.2
    rw [put_cons]
    split
    · rename_i hlt
      refine List.pairwise_cons.2 ⟨fun x hx => ?_, ih⟩
      rcases (put_mem s x l).1 hx with e | e
      · rw [e]; exact hlt
      · exact p.1 x e
    · split
      · exact h
      · rename_i h1 h2
        have h3 := lt_tot a s h1 h2
        refine List.pairwise_cons.2 ⟨fun x hx => ?_, h⟩
        rcases List.mem_cons.1 hx with e | e
        · rw [e]; exact h3
        · exact lt_tr h3 (p.1 x e)
theorem putT_str : ∀ (l : List Th) (o : List Tx), Str o → Str (putT o l)
  | [], o, h => h
  | t :: l, o, h => putT_str l (put o t.n) (put_str t.n o h)
theorem putT_mem (x : Tx) : ∀ (l : List Th) (o : List Tx), x ∈ putT o l ↔ x ∈ o ∨ x ∈ l.map Th.n
  | [], o => by simp [putT]
  | t :: l, o => by
    show x ∈ putT (put o t.n) l ↔ _
    rw [putT_mem x l, put_mem, List.map_cons, List.mem_cons]
    constructor
    · rintro ((h | h) | h) <;> simp [h]
    · rintro (h | h | h) <;> simp [h]
theorem putR_str (o : List Tx) (r : Ru) (h : Str o) : Str (putR o r) := putT_str _ _ (putT_str _ _ (put_str _ _ h))
theorem putR_mem (x : Tx) (o : List Tx) (r : Ru) : x ∈ putR o r ↔ x ∈ o ∨ x ∈ ruN r := by
  unfold putR ruN nb
  rw [putT_mem, putT_mem, put_mem]
  simp only [List.mem_append, List.map_append, List.mem_singleton, List.mem_cons, List.not_mem_nil, or_false]
  constructor
  · rintro (((h | h) | h) | h) <;> simp only [h, true_or, or_true]
  · rintro (h | (h | h) | h) <;> simp only [h, true_or, or_true]
theorem putRs_str : ∀ (l : List Ru) (o : List Tx), Str o → Str (l.foldl putR o)
  | [], o, h => h
  | r :: l, o, h => putRs_str l (putR o r) (putR_str o r h)
theorem putRs_mem (x : Tx) : ∀ (l : List Ru) (o : List Tx), x ∈ l.foldl putR o ↔ x ∈ o ∨ x ∈ l.flatMap ruN
  | [], o => by simp
  | r :: l, o => by
    rw [List.foldl_cons, putRs_mem x l, putR_mem, List.flatMap_cons, List.mem_append, or_assoc]
theorem names2_str (c : Cs) : Str (names2 c) := putRs_str _ _ (putT_str _ _ List.Pairwise.nil)
theorem names2_mem (c : Cs) (x : Tx) : x ∈ names2 c ↔ x ∈ allN c := by
  unfold names2
  rw [putRs_mem, putT_mem, allN_eq, List.mem_append]
  simp
theorem compact_up (d : List Tx) (hd : d.Pairwise (· ≤ ·)) : ∀ m, m ≤ d.length → Str (Lib.compactUpTo d.toArray m) ∧ ∀ x, x ∈ Lib.compactUpTo d.toArray m ↔ x ∈ d.take m
  | 0, _ => by simp [Lib.compactUpTo, Str]
  | m + 1, hm => by
    obtain ⟨h1, h2⟩ := compact_up d hd m (by omega)
    rw [Lib.compactUpTo_succ, List.take_succ_eq_append_getElem (by omega)]
    have e : d.toArray[m]! = d[m] := by rw [getElem!_pos _ m (by simp; omega)]; simp
    rw [e]
    cases m with
    | zero => simp [Lib.compactUpTo, Lib.keeps, Str]
    | succ j =>
      have e2 : d.toArray[j]! = d[j] := by rw [getElem!_pos _ j (by simp; omega)]; simp
      have hle : ∀ x ∈ d.take (j + 1), x ≤ d[j] := fun x hx => by
        obtain ⟨i, hi, rfl⟩ := List.mem_take_iff_getElem.1 hx
        rcases Nat.lt_or_ge i j with h | h
        · exact List.pairwise_iff_getElem.1 hd i j (by omega) (by omega) h
        · have : i = j := by omega
          subst this; exact List.le_refl _
      have hstep : d[j] ≤ d[j + 1] := List.pairwise_iff_getElem.1 hd j (j + 1) (by omega) (by omega) (by omega)
      by_cases hk : d[j + 1] = d[j]
      · have : Lib.keeps d.toArray (j + 1) = false := by simp [Lib.keeps, e, e2, hk]
        rw [this]
        simp only [Bool.false_eq_true, if_false, List.append_nil]
        refine ⟨h1, fun x => ?_⟩
        rw [h2, List.mem_append]
        constructor
        · exact .inl
        · rintro (h | h)
          · exact h
          · rw [List.mem_singleton.1 h, hk]; exact List.mem_take_iff_getElem.2 ⟨j, by omega, rfl⟩
      · have : Lib.keeps d.toArray (j + 1) = true := by simp [Lib.keeps, e, e2, hk]
        rw [this]
        simp only [if_true]
        have hlt : d[j] < d[j + 1] := lt_tot _ _ (fun h => hstep h) hk
        refine ⟨List.pairwise_append.2 ⟨h1, by simp, fun a ha b hb => ?_⟩, fun x => ?_⟩
        · rw [List.mem_singleton.1 hb]
          have := hle a ((h2 a).1 ha)
          by_cases hq : a = d[j]
          · rw [hq]; exact hlt
          · exact lt_tr (lt_tot _ _ (fun h => this h) (fun e => hq e.symm)) hlt
        · rw [List.mem_append, h2, List.mem_append]
theorem srt_str (zs : List Tx) : Str (srt zs) ∧ ∀ x, x ∈ srt zs ↔ x ∈ zs := by
  have hp : (zs.mergeSort fun x y => decide (x ≤ y)).Pairwise (· ≤ ·) := by
    have := List.pairwise_mergeSort (le := fun x y : Tx => decide (x ≤ y)) (fun a b c h1 h2 => by simp only [decide_eq_true_eq] at *; exact List.le_trans h1 h2) (fun a b => by simp only [Bool.or_eq_true, decide_eq_true_eq]; exact List.le_total a b) zs
    exact this.imp fun h => by simpa using h
  have := compact_up _ hp _ (Nat.le_refl _)
  refine ⟨this.1, fun x => ?_⟩
  have h2 := this.2 x
  rw [List.take_length] at h2
  exact h2.trans List.mem_mergeSort
theorem names_eq (c : Cs) : srt (allN c) = names2 c := Str.eq (srt_str _).1 (names2_str c) fun x => by rw [(srt_str _).2, names2_mem]
theorem ready_ne {c : Cs} {names out : List Tx} (h : ∀ x ∈ names, x ≠ []) : names.find? (readyS c out) = names.find? (ready c out) := by
  induction names with
  | nil => rfl
  | cons a l ih =>
    rw [List.find?_cons, List.find?_cons]
    have : readyS c out a = ready c out a := by
      have := h a (List.mem_cons_self ..)
      unfold readyS
      cases a with
      | nil => exact absurd rfl this
      | cons b t => simp
    rw [this, ih fun x hx => h x (List.mem_cons_of_mem _ hx)]
theorem go_eq {c : Cs} {names : List Tx} (h : ∀ x ∈ names, x ≠ []) : ∀ (n : Nat) (out : List Tx), (∀ o, goO c names n out = some o → goS c names n out = o ∧ o.length = out.length + n) ∧ (goO c names n out = none → (goS c names n out).length < out.length + n)
  | 0, out => ⟨fun o ho => by simp [goO] at ho; subst ho; exact ⟨rfl, rfl⟩, fun ho => by simp [goO] at ho⟩
  | n + 1, out => by
    unfold goO goS
    rw [ready_ne h]
    cases names.find? (ready c out) with
    | none => exact ⟨fun o ho => by simp at ho, fun _ => by dsimp only; omega⟩
    | some x =>
      dsimp only
      obtain ⟨h1, h2⟩ := go_eq h n (out ++ [x])
      simp only [List.length_append, List.length_cons, List.length_nil] at h1 h2
      exact ⟨fun o ho => by obtain ⟨a, b⟩ := h1 o ho; exact ⟨a, by omega⟩, fun ho => by have := h2 ho; omega⟩
theorem vName_ne {s : Tx} (h : vName s = true) : s ≠ [] := fun e => by subst e; simp [vName, headOk] at h
theorem head_names {c : Cs} (h : head c = true) : ∀ x ∈ allN c, vName x = true := by
  simp only [head, Bool.and_eq_true, List.all_eq_true] at h
  obtain ⟨⟨⟨⟨⟨h1, h2⟩, h3⟩, h4⟩, h5⟩, h6⟩ := h
  intro x hx
  rw [allN_eq, List.mem_append] at hx
  rcases hx with hx | hx
  · obtain ⟨t, ht, rfl⟩ := List.mem_map.1 hx
    exact (thOk_all h1).2 t ht
  · obtain ⟨r, hr, hx⟩ := List.mem_flatMap.1 hx
    have := h5 r hr
    simp only [ruOk, Bool.and_eq_true] at this
    simp only [ruN, nb, List.mem_append, List.map_append, List.mem_map, List.mem_singleton, List.mem_cons, List.not_mem_nil, or_false] at hx
    rcases hx with (⟨t, ht, rfl⟩ | ⟨t, ht, rfl⟩) | rfl
    · exact (thOk_all this.1.1.1).2 t ht
    · exact (thOk_all this.1.1.2).2 t ht
    · exact this.1.2
theorem order_eq (c : Cs) (h : head c = true) : okI c = okS c ∧ ∀ o, order c = some o → orderS c = o := by
  have hne : ∀ x ∈ names2 c, x ≠ [] := fun x hx => vName_ne (head_names h x ((names2_mem c x).1 hx))
  have hg := go_eq (c := c) hne (names2 c).length []
  unfold okI okS order orderS
  rw [names_eq]
  simp only [List.length_nil, Nat.zero_add] at hg
  cases ho : goO c (names2 c) (names2 c).length [] with
  | none =>
    have := hg.2 ho
    refine ⟨?_, fun o e => by cases e⟩
    have h2 : ((goS c (names2 c) (names2 c).length []).length == (names2 c).length) = false := by simp; omega
    rw [h2]; rfl
  | some o =>
    obtain ⟨a, b⟩ := hg.1 o ho
    refine ⟨?_, fun o' e => by cases e; exact a⟩
    rw [a, b]; simp
theorem valid_eq (c : Cs) : (head c && okI c) = (head c && okS c) := by
  cases h : head c
  · rfl
  · rw [(order_eq c h).1]
end Go.Bee.C23s

/- Chapter 23: accepted theses, as both reckon them; orders of changed cases. -/
namespace Go.Bee.C23s
open Go Go.Bee Go.Bee.Ty Go.Bee.C23
set_option linter.unusedVariables false
def opp (t : Th) : Th := ⟨t.n, !t.g⟩
def appl (acc : List Th) (r : Ru) : Bool := !(r.ps.any fun t => !acc.contains t) && !(r.es.any fun t => acc.contains t)
def wtF (acc : List Th) (t : Th) (m : Int) (r : Ru) : Int := if (decide (r.c = t) && appl acc r) = true then max m r.wt else m
def wt (c : Cs) (acc : List Th) (t : Th) : Int := c.rs.foldl (wtF acc t) 0
def kindF (n : List UInt8) (k : Int) (s : Sd) : Int := if s.n = n then s.k else k
def kindI (c : Cs) (n : List UInt8) : Int := c.ss.foldl (kindF n) 2
def kindS (c : Cs) (n : List UInt8) : Int := match c.ss.find? fun s => s.n == n with
  | some s => s.k
  | none => 2
def conv (k p q : Int) : Bool := if p = 0 then false else if k = 1 then true else if k = 2 then decide (p > q) else if k = 3 then decide (p ≥ 500) && decide (p - q ≥ 200) else decide (p ≥ 500) && decide (p - q ≥ 200) && decide (q < 100)
def meets (k p q : Int) : Bool := if k = 1 then decide (p > 0) else if k = 2 then decide (p > 0) && decide (p > q) else if k = 3 then decide (p ≥ 500) && decide (p - q ≥ 200) else decide (p ≥ 500) && decide (p - q ≥ 200) && decide (q < 100)
theorem conv_meets (k p q : Int) (hp : 0 ≤ p) : conv k p q = meets k p q := by
  unfold conv meets
  by_cases h : p = 0
  · subst h
    simp
  · have h2 : p > 0 := by omega
    simp [h, h2]
def convI (c : Cs) (acc : List Th) (t : Th) : Bool := conv (kindI c t.n) (wt c acc t) (wt c acc (opp t))
def takesI (c : Cs) (acc : List Th) (t : Th) : Bool := c.fs.contains t || (!(c.fs.contains t || c.fs.contains (opp t)) && convI c acc t && !convI c acc (opp t))
def stepI (c : Cs) (out : List Th) (n : List UInt8) : List Th := if takesI c out ⟨n, false⟩ = true then out ++ [⟨n, false⟩] else if takesI c out ⟨n, true⟩ = true then out ++ [⟨n, true⟩] else out
def accI (c : Cs) : List Th := match order c with
  | none => []
  | some o => o.foldl (stepI c) []
def stepS (c : Cs) (out : List Th) (n : List UInt8) : List Th :=
  if c.fs.contains ⟨n, false⟩ = true then out ++ [⟨n, false⟩] else if c.fs.contains ⟨n, true⟩ = true then out ++ [⟨n, true⟩] else
  if meets (kindS c n) (wt c out ⟨n, false⟩) (wt c out ⟨n, true⟩) && !meets (kindS c n) (wt c out ⟨n, true⟩) (wt c out ⟨n, false⟩) then out ++ [⟨n, false⟩] else
  if meets (kindS c n) (wt c out ⟨n, true⟩) (wt c out ⟨n, false⟩) && !meets (kindS c n) (wt c out ⟨n, false⟩) (wt c out ⟨n, true⟩) then out ++ [⟨n, true⟩] else out
def accS (c : Cs) : List Th := (orderS c).foldl (stepS c) []
theorem wt_in {c : Cs} (h : ∀ r ∈ c.rs, 1 ≤ r.wt ∧ r.wt ≤ 1000) (acc : List Th) (t : Th) : 0 ≤ wt c acc t ∧ wt c acc t ≤ 1000 := by
  have key : ∀ (l : List Ru) (m : Int), (∀ r ∈ l, 1 ≤ r.wt ∧ r.wt ≤ 1000) → 0 ≤ m → m ≤ 1000 → 0 ≤ l.foldl (wtF acc t) m ∧ l.foldl (wtF acc t) m ≤ 1000 := by
    intro l
    induction l with
    | nil => intro m _ h1 h2; exact ⟨h1, h2⟩
    | cons r l ih =>
      intro m hl h1 h2
      have hr := hl r (List.mem_cons_self ..)
      rw [List.foldl_cons]
      refine ih _ (fun x hx => hl x (List.mem_cons_of_mem _ hx)) ?_ ?_ <;> unfold wtF <;> split <;> omega
  exact key c.rs 0 h (Int.le_refl _) (by decide)
theorem kind_eq {c : Cs} (h : sdOk c.ss = true) (n : List UInt8) : kindI c n = kindS c n := by
  have hlt : ∀ i j (hj : j < c.ss.length) (hij : i < j), c.ss[i].n < c.ss[j].n := by
    intro i j
    induction j with
    | zero => intro hj hij; omega
    | succ j ih =>
      intro hj hij
      have h1 := List.all_eq_true.1 h (j + 1) (List.mem_range.2 hj)
      rw [sdOk1_at hj] at h1
      simp only [Bool.and_eq_true, Bool.or_eq_true, decide_eq_true_eq] at h1
      have h2 : c.ss[j].n < c.ss[j + 1].n := (less_iff _ _).1 (h1.2.resolve_left (by omega))
      rcases Nat.lt_or_ge i j with h3 | h3
      · exact lt_tr (ih (by omega) h3) h2
      · have : i = j := by omega
        subst this; exact h2
  have hne : c.ss.Pairwise fun a b => a.n ≠ b.n := List.pairwise_iff_getElem.2 fun i j hi hj hij e => by
    have := hlt i j hj hij
    rw [e] at this
    exact lt_irr _ this
  unfold kindI kindS
  have key : ∀ (l : List Sd) (d : Int), (l.Pairwise fun a b => a.n ≠ b.n) → l.foldl (kindF n) d = match l.find? fun s => s.n == n with | some s => s.k | none => d := by
    intro l
    induction l with
    | nil => intro d _; rfl
    | cons a l ih =>
      intro d hp
      have hp2 := List.pairwise_cons.1 hp
      rw [List.foldl_cons, List.find?_cons, ih _ hp2.2]
      by_cases e : a.n = n
      · have hno : l.find? (fun s => s.n == n) = none := List.find?_eq_none.2 fun x hx => by
          have := hp2.1 x hx
          rw [e] at this
          simpa using fun h => this h.symm
        have h1 : (a.n == n) = true := by simpa using e
        rw [hno, h1]
        simp [kindF, e]
      · have h1 : (a.n == n) = false := by simpa using e
        rw [h1]
        simp only [kindF, if_neg e]
  exact key c.ss 2 hne
theorem opp_opp (t : Th) : opp (opp t) = t := by cases t; simp [opp]
theorem step_eq {c : Cs} (h1 : sdOk c.ss = true) (h2 : ∀ r ∈ c.rs, 1 ≤ r.wt ∧ r.wt ≤ 1000) (out : List Th) (n : List UInt8) : stepI c out n = stepS c out n := by
  have hc : ∀ t : Th, convI c out t = meets (kindS c t.n) (wt c out t) (wt c out (opp t)) := fun t => by
    unfold convI
    rw [conv_meets _ _ _ (wt_in h2 out t).1, kind_eq h1]
  unfold stepI stepS takesI
  rw [hc ⟨n, false⟩, hc ⟨n, true⟩, show opp ⟨n, false⟩ = ⟨n, true⟩ from rfl, show opp ⟨n, true⟩ = ⟨n, false⟩ from rfl, hc ⟨n, false⟩, hc ⟨n, true⟩,
    show opp ⟨n, false⟩ = ⟨n, true⟩ from rfl, show opp ⟨n, true⟩ = ⟨n, false⟩ from rfl]
  generalize c.fs.contains (⟨n, false⟩ : Th) = a
  generalize c.fs.contains (⟨n, true⟩ : Th) = b
  generalize meets (kindS c n) (wt c out ⟨n, false⟩) (wt c out ⟨n, true⟩) = x
  generalize meets (kindS c n) (wt c out ⟨n, true⟩) (wt c out ⟨n, false⟩) = y
  cases a <;> cases b <;> cases x <;> cases y <;> rfl
/-- What is asked of a case so that both come to the same. -/
structure Fine (c : Cs) : Prop where
  ru : ∀ r ∈ c.rs, RuOk r
  n : (allN c).length ≤ 1048576
  ne : ∀ x ∈ allN c, x ≠ []
  ss : sdOk c.ss = true
  wt : ∀ r ∈ c.rs, 1 ≤ r.wt ∧ r.wt ≤ 1000
  ord : (order c).isSome = true
theorem order_fine {c : Cs} (h : ∀ x ∈ allN c, x ≠ []) : (okI c = okS c) ∧ ∀ o, order c = some o → orderS c = o := by
  have hne : ∀ x ∈ names2 c, x ≠ [] := fun x hx => h x ((names2_mem c x).1 hx)
  have hg := go_eq (c := c) hne (names2 c).length []
  unfold okI okS order orderS
  rw [names_eq]
  simp only [List.length_nil, Nat.zero_add] at hg
  cases ho : goO c (names2 c) (names2 c).length [] with
  | none =>
    have := hg.2 ho
    refine ⟨?_, fun o e => by cases e⟩
    have h2 : ((goS c (names2 c) (names2 c).length []).length == (names2 c).length) = false := by simp; omega
    rw [h2]; rfl
  | some o =>
    obtain ⟨a, b⟩ := hg.1 o ho
    refine ⟨?_, fun o' e => by cases e; exact a⟩
    rw [a, b]; simp
theorem acc_eq {c : Cs} (h : Fine c) : accI c = accS c := by
  obtain ⟨o, ho⟩ := Option.isSome_iff_exists.1 h.ord
  unfold accI accS
  rw [ho, (order_fine h.ne).2 o ho]
  show o.foldl (stepI c) [] = o.foldl (stepS c) []
  rw [show stepI c = stepS c from funext fun out => funext fun n => step_eq h.ss h.wt out n]
theorem head_fine {c : Cs} (h : (head c && okI c) = true) : Fine c := by
  simp only [Bool.and_eq_true] at h
  have hl := allN_len c h.1
  have hn := head_names h.1
  have h1 := h.1
  simp only [head, Bool.and_eq_true, List.all_eq_true] at h1
  refine ⟨hl.1, hl.2, fun x hx => vName_ne (hn x hx), h1.2, fun r hr => ?_, h.2⟩
  have := h1.1.2 r hr
  simp only [ruOk, inB, Bool.and_eq_true, decide_eq_true_eq] at this
  omega
/-! Orders: there is one exactly if the names can be told so that each comes after those it depends on. -/
def Topo (c : Cs) (names o : List Tx) : Prop := (∀ x ∈ names, x ∈ o) ∧ ∀ pre x post, o = pre ++ x :: post → ∀ r ∈ c.rs, r.c.n = x → ∀ y ∈ nb r, y ∈ pre
theorem ready_iff (c : Cs) (out : List Tx) (x : Tx) : ready c out x = true ↔ x ∉ out ∧ ∀ r ∈ c.rs, r.c.n = x → ∀ y ∈ nb r, y ∈ out := by
  unfold ready
  simp only [Bool.and_eq_true, Bool.not_eq_true', List.any_eq_false, waits, Bool.and_eq_true, beq_iff_eq, List.any_eq_true, not_and, not_exists, Bool.not_eq_true', List.contains_iff_mem]
  constructor
  · rintro ⟨h1, h2⟩
    refine ⟨by simpa using h1, fun r hr e y hy => ?_⟩
    have := h2 r hr e y hy
    simpa using this
  · rintro ⟨h1, h2⟩
    exact ⟨by simpa using h1, fun r hr e y hy => by simpa using h2 r hr e y hy⟩
theorem left_one {names out : List Tx} (hnd : names.Nodup) {x : Tx} (hx : x ∈ names) (ho : x ∉ out) : left names (out ++ [x]) + 1 = left names out := by
  unfold left
  induction names with
  | nil => cases hx
  | cons a l ih =>
    have hn := List.nodup_cons.1 hnd
    by_cases e : a = x
    · subst e
      have hsame : (l.filter fun y => !(out ++ [a]).contains y) = l.filter fun y => !out.contains y := by
        refine List.filter_congr fun y hy => ?_
        have : y ≠ a := fun e => hn.1 (e ▸ hy)
        simp [this]
      rw [List.filter_cons, List.filter_cons, if_neg (by simp), if_pos (by simpa using ho), hsame]
      rfl
    · have hx2 : x ∈ l := (List.mem_cons.1 hx).resolve_left fun h => e h.symm
      have := ih hn.2 hx2
      rw [List.filter_cons, List.filter_cons]
      by_cases h : a ∈ out
      · rw [if_neg (by simp [h]), if_neg (by simp [h])]; exact this
      · rw [if_pos (by simp [h, e]), if_pos (by simpa using h)]
        simp only [List.length_cons]; omega
theorem left_mem {names out : List Tx} {n : Nat} (h : left names out = n + 1) : ∃ x ∈ names, x ∉ out := by
  unfold left at h
  have hne : (names.filter fun x => !out.contains x) ≠ [] := fun e => by rw [e] at h; cases h
  obtain ⟨x, hx⟩ := List.exists_mem_of_ne_nil _ hne
  obtain ⟨h1, h2⟩ := List.mem_filter.1 hx
  exact ⟨x, h1, by simpa using h2⟩
/-- The first item of o that has p, and what comes ahead of it. -/
theorem first_of {p : Tx → Prop} [DecidablePred p] : ∀ (o : List Tx), (∃ x ∈ o, p x) → ∃ pre x post, o = pre ++ x :: post ∧ p x ∧ ∀ y ∈ pre, ¬ p y
  | [], h => by obtain ⟨x, hx, _⟩ := h; cases hx
  | a :: o, h => by
    by_cases ha : p a
    · exact ⟨[], a, o, rfl, ha, by simp⟩
    · obtain ⟨x, hx, hp⟩ := h
      have hx2 : x ∈ o := (List.mem_cons.1 hx).resolve_left fun e => ha (e ▸ hp)
      obtain ⟨pre, z, post, h1, h2, h3⟩ := first_of o ⟨x, hx2, hp⟩
      refine ⟨a :: pre, z, post, by rw [h1]; rfl, h2, fun y hy => ?_⟩
      rcases List.mem_cons.1 hy with e | e
      · rw [e]; exact ha
      · exact h3 y e
theorem topo_go {c : Cs} {names o : List Tx} (hnd : names.Nodup) (hN : ∀ r ∈ c.rs, ∀ y ∈ nb r, y ∈ names) (ht : Topo c names o) : ∀ (n : Nat) (out : List Tx), left names out = n → (goO c names n out).isSome = true
  | 0, out, _ => rfl
  | n + 1, out, hl => by
    obtain ⟨x, hx, hxo⟩ := left_mem hl
    obtain ⟨pre, z, post, h1, ⟨h2, h3⟩, h4⟩ := first_of (p := fun x => x ∈ names ∧ x ∉ out) o ⟨x, ht.1 x hx, hx, hxo⟩
    have hz : ready c out z = true := (ready_iff c out z).2 ⟨h3, fun r hr e y hy => by
      have hp := ht.2 pre z post h1 r hr e y hy
      have := h4 y hp
      exact Classical.byContradiction fun hno => this ⟨hN r hr y hy, hno⟩⟩
    unfold goO
    have hf : (names.find? (ready c out)).isSome = true := by
      rw [List.find?_isSome]; exact ⟨z, h2, hz⟩
    obtain ⟨q, hq⟩ := Option.isSome_iff_exists.1 hf
    rw [hq]
    have hq1 := List.mem_of_find?_eq_some hq
    have hq2 := (ready_iff c out q).1 (List.find?_some hq)
    have := left_one hnd hq1 hq2.1
    exact topo_go hnd hN ht n (out ++ [q]) (by omega)
theorem go_topo {c : Cs} {names : List Tx} (hnd : names.Nodup) : ∀ (n : Nat) (out o : List Tx), left names out = n → (∀ pre x post, out = pre ++ x :: post → ∀ r ∈ c.rs, r.c.n = x → ∀ y ∈ nb r, y ∈ pre) → goO c names n out = some o → Topo c names o
  | 0, out, o, hl, hp, h => by
    simp only [goO, Option.some.injEq] at h
    subst h
    refine ⟨fun x hx => ?_, hp⟩
    unfold left at hl
    have := List.filter_eq_nil_iff.1 (List.length_eq_zero_iff.1 hl) x hx
    simpa using this
  | n + 1, out, o, hl, hp, h => by
    unfold goO at h
    cases hq : names.find? (ready c out) with
    | none => rw [hq] at h; cases h
    | some q =>
      rw [hq] at h
      have hq1 := List.mem_of_find?_eq_some hq
      have hq2 := (ready_iff c out q).1 (List.find?_some hq)
      have := left_one hnd hq1 hq2.1
      refine go_topo hnd n (out ++ [q]) o (by omega) (fun pre x post e r hr ex y hy => ?_) h
      rcases List.eq_nil_or_concat post with hpo | ⟨post', z, hpo⟩
      · subst hpo
        obtain ⟨e1, e2⟩ := List.append_inj' e rfl
        have e3 : q = x := by simpa using e2
        rw [← e1]
        exact hq2.2 r hr (by rw [e3]; exact ex) y hy
      · subst hpo
        rw [List.concat_eq_append, ← List.cons_append, ← List.append_assoc] at e
        obtain ⟨e1, e2⟩ := List.append_inj' e rfl
        exact hp pre x post' e1 r hr ex y hy
theorem str_nodup {l : List Tx} (h : Str l) : l.Nodup := h.imp fun hlt e => by rw [e] at hlt; exact lt_irr _ hlt
theorem left_all (names : List Tx) : left names [] = names.length := by
  unfold left
  rw [List.filter_eq_self.2 (by simp)]
theorem order_iff (c : Cs) : (order c).isSome = true ↔ ∃ o, Topo c (names2 c) o := by
  unfold order
  rw [names_eq]
  have hnd := str_nodup (names2_str c)
  constructor
  · intro h
    obtain ⟨o, ho⟩ := Option.isSome_iff_exists.1 h
    exact ⟨o, go_topo hnd _ [] o (left_all _) (fun pre x post e => by simp at e) ho⟩
  · rintro ⟨o, ho⟩
    refine topo_go hnd (fun r hr y hy => ?_) ho _ [] (left_all _)
    rw [names2_mem, allN_eq, List.mem_append]
    exact .inr (List.mem_flatMap.2 ⟨r, hr, by unfold ruN; exact List.mem_append_left _ hy⟩)
/-- A rule more, without premises. -/
def more (c : Cs) (t : Th) (w : Int) : Cs := ⟨c.fs, c.rs ++ [⟨[], [], t, w⟩], c.ss⟩
theorem more_names (c : Cs) (t : Th) (w : Int) (x : Tx) : x ∈ allN (more c t w) ↔ x ∈ allN c ∨ x = t.n := by
  rw [allN_eq, allN_eq, List.mem_append, List.mem_append]
  simp only [more, List.flatMap_append, List.mem_append, List.flatMap_cons, List.flatMap_nil, ruN, nb, List.append_nil, List.map_nil, List.nil_append, List.mem_singleton, or_assoc]
theorem more_order {c : Cs} (t : Th) (w : Int) (h : (order c).isSome = true) : (order (more c t w)).isSome = true := by
  rw [order_iff] at h ⊢
  obtain ⟨o, h1, h2⟩ := h
  have hr : ∀ r ∈ (more c t w).rs, r ∈ c.rs ∨ nb r = [] := fun r hr => by
    rcases List.mem_append.1 hr with h | h
    · exact .inl h
    · rw [List.mem_singleton.1 h]; exact .inr rfl
  by_cases hin : t.n ∈ names2 c
  · refine ⟨o, fun x hx => ?_, fun pre x post e r hrm ex y hy => ?_⟩
    · rw [names2_mem, more_names, ← names2_mem] at hx
      rcases hx with hx | hx
      · exact h1 x hx
      · rw [hx]; exact h1 _ hin
    · rcases hr r hrm with h | h
      · exact h2 pre x post e r h ex y hy
      · rw [h] at hy; cases hy
  · refine ⟨t.n :: o, fun x hx => ?_, fun pre x post e r hrm ex y hy => ?_⟩
    · rw [names2_mem, more_names, ← names2_mem] at hx
      rcases hx with hx | hx
      · exact List.mem_cons_of_mem _ (h1 x hx)
      · rw [hx]; exact List.mem_cons_self ..
    · rcases hr r hrm with h | h
      · cases pre with
        | nil =>
          simp only [List.nil_append, List.cons.injEq] at e
          refine absurd ?_ hin
          rw [names2_mem, allN_eq, List.mem_append, e.1, ← ex]
          exact .inr (List.mem_flatMap.2 ⟨r, h, by unfold ruN; exact List.mem_append_right _ (List.mem_singleton.2 rfl)⟩)
        | cons a pre =>
          simp only [List.cons_append, List.cons.injEq] at e
          exact List.mem_cons_of_mem _ (h2 pre x post e.2 r h ex y hy)
      · rw [h] at hy; cases hy
/-- Fewer facts. -/
def less (c : Cs) (fs : List Th) : Cs := ⟨fs, c.rs, c.ss⟩
theorem less_order {c : Cs} {fs : List Th} (hs : ∀ t ∈ fs, t ∈ c.fs) (h : (order c).isSome = true) : (order (less c fs)).isSome = true := by
  rw [order_iff] at h ⊢
  obtain ⟨o, h1, h2⟩ := h
  refine ⟨o, fun x hx => h1 x ?_, h2⟩
  rw [names2_mem, allN_eq, List.mem_append] at hx ⊢
  refine hx.imp (fun hx => ?_) id
  obtain ⟨t, ht, rfl⟩ := List.mem_map.1 hx
  exact List.mem_map.2 ⟨t, hs t ht, rfl⟩
theorem more_fine {c : Cs} (h : Fine c) (t : Th) (w : Int) (ht : t.n ≠ []) (h1 : 1 ≤ w) (h2 : w ≤ 1000) (hl : (allN c).length ≤ 1000000) : Fine (more c t w) := by
  refine ⟨fun r hr => ?_, ?_, fun x hx => ?_, h.ss, fun r hr => ?_, more_order t w h.ord⟩
  · rcases List.mem_append.1 hr with h' | h'
    · exact h.ru r h'
    · rw [List.mem_singleton.1 h']; exact ⟨Nat.zero_le _, Nat.zero_le _⟩
  · have e : (allN (more c t w)).length = (allN c).length + 1 := by
      rw [allN_eq, allN_eq]
      simp [more, ruN, nb]; omega
    omega
  · rcases (more_names c t w x).1 hx with h' | h'
    · exact h.ne x h'
    · rw [h']; exact ht
  · rcases List.mem_append.1 hr with h' | h'
    · exact h.wt r h'
    · rw [List.mem_singleton.1 h']; exact ⟨h1, h2⟩
theorem less_fine {c : Cs} (h : Fine c) {fs : List Th} (hs : ∀ t ∈ fs, t ∈ c.fs) (hl : fs.length ≤ c.fs.length) : Fine (less c fs) := by
  refine ⟨h.ru, ?_, fun x hx => ?_, h.ss, h.wt, less_order hs h.ord⟩
  · have h2 := h.n
    rw [allN_eq, List.length_append, List.length_map] at h2 ⊢
    simp only [less]; omega
  · rw [allN_eq, List.mem_append] at hx
    refine h.ne x ?_
    rw [allN_eq, List.mem_append]
    refine hx.imp (fun hx => ?_) id
    obtain ⟨t, ht, rfl⟩ := List.mem_map.1 hx
    exact List.mem_map.2 ⟨t, hs t ht, rfl⟩
end Go.Bee.C23s

/- Chapter 23: accepted theses, as the code reckons them. -/
namespace Go.Bee.C23s
open Go Go.Bee Go.Proofs Go.Bee.Ty Go.Bee.C23
set_option linter.unusedVariables false
theorem eqTh0 : ∀ (a : List UInt8) (b : Bool) (c : List UInt8) (d : Bool), evEq Tryz.prog .eql 30 [.d (.str a), .d (.bool b)] [.d (.str c), .d (.bool d)] = some (.d (.bool (a == c && (b == d && true)))) := fun a b c d => by kernel_rfl
theorem eqTh : ∀ (a : List UInt8) (b : Bool) (c : List UInt8) (d : Bool), evEq Tryz.prog .eql 30 [.d (.str a), .d (.bool b)] [.d (.str c), .d (.bool d)] = some (.d (.bool (decide ((⟨a, b⟩ : Th) = ⟨c, d⟩)))) := fun a b c d => by
  rw [eqTh0]
  congr 3
  by_cases h : a = c <;> by_cases h2 : b = d <;> simp [h, h2]
theorem bTh2 : ∀ (a : List UInt8) (b : Bool), evBuild Tryz.prog 30 [(0, .d (.str a)), (1, .d (.bool b))] = some (.agg [.d (.str a), .d (.bool b)]) := fun a b => by kernel_rfl
theorem bTh1 : ∀ (a : List UInt8), evBuild Tryz.prog 30 [(0, .d (.str a))] = some (.agg [.d (.str a), .d (.bool false)]) := fun a => by kernel_rfl
theorem sTh1 : ∀ (a : List UInt8) (b : Bool), evBuildSlice Tryz.prog 24 1 [(0, .agg [.d (.str a), .d (.bool b)])] = some (.own 30 2 [.agg [.str a, .bool b]]) := fun a b => by kernel_rfl
theorem sTh2 : ∀ (a : List UInt8) (b : Bool) (c : List UInt8) (d : Bool), evBuildSlice Tryz.prog 24 2 [(0, .agg [.d (.str a), .d (.bool b)]), (1, .agg [.d (.str c), .d (.bool d)])] = some (.own 30 2 [.agg [.str a, .bool b], .agg [.str c, .bool d]]) := fun a b c d => by kernel_rfl
end Go.Bee.C23s
namespace Go.Bee.C23a
theorem tys : type_of% (And.intro Go.Bee.C23s.tys (And.intro Go.Bee.C23s.eqTh (And.intro Go.Bee.C23s.bTh2 (And.intro Go.Bee.C23s.bTh1 (And.intro Go.Bee.C23s.sTh1 Go.Bee.C23s.sTh2))))) := And.intro Go.Bee.C23s.tys (And.intro Go.Bee.C23s.eqTh (And.intro Go.Bee.C23s.bTh2 (And.intro Go.Bee.C23s.bTh1 (And.intro Go.Bee.C23s.sTh1 Go.Bee.C23s.sTh2))))
end Go.Bee.C23a
namespace Go.Bee.C23a
open Go Go.Bee Go.Proofs Go.Bee.Ty Go.Bee.C23 Go.Bee.C23s
set_option linter.unusedVariables false
set_option maxRecDepth 20000
attribute [local irreducible] Go.Bee.bwp vName
theorem indexTh_b (l : List Th) (t : Th) : BRet Tryz.prog 105 [] [.d (.sl 2 (l.map Th.e)), .agg [.str t.n, .bool t.g]] (.int (idx (fun x => t == x) l 0)) [] := by
  refine BRet.len 0 (by kernel_rfl) rfl fun hl => ?_
  refine bof Tryz.func105 ?_
  simp only [List.length_map] at hl
  generalize hr : idx (fun x => t == x) l 0 = r
  refine bgo ?_
  refine b_lp (ι := Nat) (fun k => [(0, .d (.sl 2 (l.map Th.e))), (3, .ptr (.t 3) 0), (7, .int l.length), (8, .int k)]) (fun _ => [(.t 3, [.str t.n, .bool t.g])]) (fun k => k ≤ l.length ∧ idx (fun x => t == x) (l.drop k) k = r) (fun k => l.length - k) 0 hs ⟨Nat.zero_le _, hr⟩ ?_
  clear hr
  rintro k ⟨hk, hj⟩ I nx
  by_cases hlt : k < l.length
  · have hx : l[k]? = some l[k] := List.getElem?_eq_getElem hlt
    rw [idx_step hlt] at hj
    by_cases he : t = l[k]
    · rw [if_pos (by simpa using he)] at hj
      have he2 : (⟨t.n, t.g⟩ : Th) = ⟨l[k].n, l[k].g⟩ := he
      subst hj
      clear he nx
      refine bgo ?_
      trivial
    · rw [if_neg (by simpa using he)] at hj
      have he2 : ¬ (⟨t.n, t.g⟩ : Th) = ⟨l[k].n, l[k].g⟩ := he
      have hj2 := hj
      clear he hj
      refine bgo ?_
      exact nx.go (k + 1) ⟨hlt, hj2⟩ (by omega) hs
  · have hk' : k = l.length := by omega
    subst hk'
    rw [List.drop_length] at hj
    subst hj
    refine bgo ?_
    refine wk_rfl ?_
    refine bgo ?_
    rfl
theorem containsTh_b (l : List Th) (t : Th) : BRet Tryz.prog 59 [] [.d (.sl 2 (l.map Th.e)), .agg [.str t.n, .bool t.g]] (.bool (l.contains t)) [] := by
  refine bof Tryz.func59 ?_
  refine bgo ?_
  refine b_call (indexTh_b l t) rfl rfl rfl rfl ?_
  refine bgo ?_
  rw [List.contains_eq_any_beq, ← idx_any _ l 0]
theorem opposite_b (t : Th) : BRet Tryz.prog 95 [] [.agg [.str t.n, .bool t.g]] (.agg [.str t.n, .bool (!t.g)]) [] := by
  refine bof Tryz.func95 ?_
  refine bgo ?_
  trivial
theorem f133_b (t : Th) (acc : List Th) : BRet Tryz.prog 133 [] [.agg [.str t.n, .bool t.g], .eptr [.sl 2 (acc.map Th.e)]] (.bool (acc.contains t)) [] := by
  refine bof Tryz.func133 ?_
  refine bgo ?_
  refine b_call (containsTh_b acc t) rfl rfl rfl rfl ?_
  refine bgo ?_
  trivial
theorem f134_b (t : Th) (acc : List Th) : BRet Tryz.prog 134 [] [.agg [.str t.n, .bool t.g], .efn (Kof (fun _ : Th => True) Th.e (fun t => acc.contains t))] (.bool (!acc.contains t)) [] := by
  refine bof Tryz.func134 ?_
  refine bgo ?_
  refine b_fnb [Th.e t] rfl rfl rfl (Kof_e Th.inj _ t trivial) ?_
  refine bgo ?_
  trivial
theorem isApplicable_b (r : Ru) (acc : List Th) : BRet Tryz.prog 88 [] [.agg [.d (.sl 2 (r.ps.map Th.e)), .d (.sl 2 (r.es.map Th.e)), .str r.c.n, .bool r.c.g, .int r.wt], .d (.sl 2 (acc.map Th.e))] (.bool (appl acc r)) [] := by
  refine bof Tryz.func88 ?_
  refine bgo ?_
  refine b_callc2 (containsFuncThesis_b (fun _ => True) r.ps (fun _ _ => trivial) (fun t => !acc.contains t)) rfl rfl rfl rfl
    (by exact Kof_okR (.cons _ _ _ _ (.fn (.t 5) _ _ _ rfl (Kof_ok0 (ok := fun _ : Th => True) (e := Th.e) (p := fun t => acc.contains t) (cs := [.eptr [.sl 2 (acc.map Th.e)]]) rfl (by kernel_rfl) fun t _ => f133_b t acc)) .nil) (by kernel_rfl) fun t _ => f134_b t acc) rfl ?_
  have ha : appl acc r = (!(r.ps.any fun t => !acc.contains t) && !(r.es.any fun t => acc.contains t)) := rfl
  rw [ha]
  clear ha
  cases r.ps.any fun t => !acc.contains t
  · refine bgo ?_
    refine b_callc2 (containsFuncThesis_b (fun _ => True) r.es (fun _ _ => trivial) (fun t => acc.contains t)) rfl rfl rfl rfl
      (by exact Kof_ok (cs := [.eptr [.sl 2 (acc.map Th.e)]]) rfl (by kernel_rfl) fun t _ => f133_b t acc) rfl ?_
    refine bgo ?_
    trivial
  · refine bgo ?_
    trivial
theorem greatestWeight_b (c : Cs) (t : Th) (acc : List Th) : BRet Tryz.prog 94 [] [.agg [.d (.sl 2 (c.fs.map Th.e)), .d (.sl 5 (c.rs.map Ru.e)), .d (.sl 2 (c.ss.map Sd.e))], .agg [.str t.n, .bool t.g], .d (.sl 2 (acc.map Th.e))] (.int (wt c acc t)) [] := by
  refine BRet.alen 0 1 (by kernel_rfl) rfl rfl fun hl => ?_
  refine bof Tryz.func94 ?_
  simp only [List.length_map] at hl
  generalize hr : wt c acc t = res
  unfold wt at hr
  refine bgo ?_
  refine b_lp (ι := Nat × Int) (fun i => [(2, .d (.sl 2 (acc.map Th.e))), (4, .ptr (.t 4) 0), (7, .int i.2), (11, .d (.sl 5 (c.rs.map Ru.e))), (12, .int c.rs.length), (13, .int i.1)]) (fun _ => [(.t 4, [.str t.n, .bool t.g])])
    (fun i => i.1 ≤ c.rs.length ∧ (c.rs.drop i.1).foldl (wtF acc t) i.2 = res) (fun i => c.rs.length - i.1) (0, 0) hs ⟨Nat.zero_le _, hr⟩ ?_
  clear hr
  rintro ⟨k, m⟩ ⟨hk, hj⟩ I nx
  dsimp only at hk hj ⊢
  by_cases hlt : k < c.rs.length
  · have hx : c.rs[k]? = some c.rs[k] := List.getElem?_eq_getElem hlt
    rw [List.drop_eq_getElem_cons hlt, List.foldl_cons] at hj
    have hw : wtF acc t m c.rs[k] = if (decide (c.rs[k].c = t) && appl acc c.rs[k]) = true then max m c.rs[k].wt else m := rfl
    generalize wtF acc t m c.rs[k] = m2 at hj hw
    by_cases he : c.rs[k].c = t
    · have he2 : (⟨c.rs[k].c.n, c.rs[k].c.g⟩ : Th) = ⟨t.n, t.g⟩ := he
      rw [decide_eq_true he, Bool.true_and] at hw
      have hj2 := hj
      clear he hj
      refine bgo ?_
      refine b_call (isApplicable_b c.rs[k] acc) rfl rfl rfl rfl ?_
      cases ha : appl acc c.rs[k]
      · rw [ha] at hw
        simp only [Bool.false_eq_true, if_false] at hw
        subst hw
        refine bgo ?_
        exact nx.go (k + 1, m2) ⟨hlt, hj2⟩ (by dsimp only; omega) hs
      · rw [ha] at hw
        simp only [if_true] at hw
        subst hw
        refine bgo ?_
        exact nx.go (k + 1, max m c.rs[k].wt) ⟨hlt, hj2⟩ (by dsimp only; omega) hs
    · have he2 : ¬ (⟨c.rs[k].c.n, c.rs[k].c.g⟩ : Th) = ⟨t.n, t.g⟩ := he
      rw [decide_eq_false he, Bool.false_and] at hw
      simp only [Bool.false_eq_true, if_false] at hw
      subst hw
      have hj2 := hj
      clear he hj
      refine bgo ?_
      exact nx.go (k + 1, m2) ⟨hlt, hj2⟩ (by dsimp only; omega) hs
  · have hk' : k = c.rs.length := by omega
    subst hk'
    rw [List.drop_length] at hj
    have hm : m = res := hj
    subst hm
    refine bgo ?_
    refine wk_rfl ?_
    refine bgo ?_
    trivial
theorem isConvincing_b (c : Cs) (t : Th) (acc : List Th) (hw : ∀ r ∈ c.rs, 1 ≤ r.wt ∧ r.wt ≤ 1000) : BRet Tryz.prog 106 [] [.agg [.d (.sl 2 (c.fs.map Th.e)), .d (.sl 5 (c.rs.map Ru.e)), .d (.sl 2 (c.ss.map Sd.e))], .agg [.str t.n, .bool t.g], .d (.sl 2 (acc.map Th.e))] (.bool (convI c acc t)) [] := by
  refine BRet.alen 0 2 (by kernel_rfl) rfl rfl fun hl => ?_
  refine bof Tryz.func106 ?_
  simp only [List.length_map] at hl
  generalize hr : convI c acc t = res
  unfold convI kindI at hr
  have hp := wt_in hw acc t
  have hq := wt_in hw acc (opp t)
  refine bgo ?_
  refine b_call (greatestWeight_b c t acc) rfl rfl rfl rfl ?_
  refine bgo ?_
  refine b_call (opposite_b t) rfl rfl rfl rfl ?_
  refine bgo ?_
  refine b_call (greatestWeight_b c (opp t) acc) rfl rfl rfl rfl ?_
  generalize wt c acc t = p at *
  generalize wt c acc (opp t) = q at *
  refine bgo ?_
  refine b_lp (ι := Nat × Int) (fun i => [(4, .ptr (.t 4) 0), (7, .int p), (8, .int q), (9, .int i.2), (22, .d (.sl 2 (c.ss.map Sd.e))), (23, .int c.ss.length), (24, .int i.1)]) (fun _ => [(.t 4, [.str t.n, .bool t.g])])
    (fun i => i.1 ≤ c.ss.length ∧ conv ((c.ss.drop i.1).foldl (kindF t.n) i.2) p q = res) (fun i => c.ss.length - i.1) (0, 2) hs ⟨Nat.zero_le _, hr⟩ ?_
  clear hr
  rintro ⟨k, m⟩ ⟨hk, hj⟩ I nx
  dsimp only at hk hj ⊢
  by_cases hlt : k < c.ss.length
  · have hx : c.ss[k]? = some c.ss[k] := List.getElem?_eq_getElem hlt
    rw [List.drop_eq_getElem_cons hlt, List.foldl_cons] at hj
    have hw : kindF t.n m c.ss[k] = if c.ss[k].n = t.n then c.ss[k].k else m := rfl
    generalize kindF t.n m c.ss[k] = m2 at hj hw
    have hj2 := hj
    clear hj
    by_cases he : c.ss[k].n = t.n
    · rw [if_pos he] at hw
      subst hw
      have heb : (c.ss[k].n == t.n) = true := by simpa using he
      clear he
      refine bgo ?_
      exact nx.go (k + 1, c.ss[k].k) ⟨hlt, hj2⟩ (by dsimp only; omega) hs
    · rw [if_neg he] at hw
      subst hw
      have heb : (c.ss[k].n == t.n) = false := by simpa using he
      clear he
      refine bgo ?_
      exact nx.go (k + 1, m2) ⟨hlt, hj2⟩ (by dsimp only; omega) hs
  · have hk' : k = c.ss.length := by omega
    subst hk'
    rw [List.drop_length, List.foldl_nil] at hj
    have hj2 := hj
    clear hj nx
    refine bgo ?_
    refine wk_mk [(7, .int p), (8, .int q), (9, .int m)] [] hs ?_
    subst hj2
    unfold conv
    by_cases h0 : p = 0
    · subst h0
      refine bgo ?_
      trivial
    rw [if_neg h0]
    by_cases h1 : m = 1
    · subst h1
      refine bgo ?_
      trivial
    rw [if_neg h1]
    by_cases h2 : m = 2
    · subst h2
      refine bgo ?_
      trivial
    rw [if_neg h2]
    by_cases h3 : m = 3
    · subst h3
      by_cases h4 : p ≥ 500
      · refine bgo ?_
        trivial
      · refine bgo ?_
        trivial
    · rw [if_neg h3]
      by_cases h4 : p ≥ 500
      · by_cases h5 : p - q ≥ 200
        · refine bgo ?_
          trivial
        · refine bgo ?_
          trivial
      · refine bgo ?_
        trivial
end Go.Bee.C23a

/- Chapter 23: the accepted theses and a statement's status, as the code reckons them. -/
namespace Go.Bee.C23a
open Go Go.Bee Go.Proofs Go.Bee.Ty Go.Bee.C23 Go.Bee.C23s
set_option linter.unusedVariables false
set_option maxRecDepth 20000
attribute [local irreducible] Go.Bee.bwp vName
def both (n : List UInt8) : List Th := [⟨n, false⟩, ⟨n, true⟩]
def found (out : List Th) : Option Th → List Th
  | none => out
  | some t => out ++ [t]
theorem step_find (c : Cs) (out : List Th) (n : List UInt8) : stepI c out n = found out ((both n).find? (takesI c out)) := by
  unfold stepI both
  rw [List.find?_cons, List.find?_cons, List.find?_nil]
  cases takesI c out ⟨n, false⟩ <;> cases takesI c out ⟨n, true⟩ <;> rfl
theorem find_step1 {α : Type} {p : α → Bool} {l : List α} {k : Nat} (hk : k < l.length) : (l.drop k).find? p = if p l[k] = true then some l[k] else (l.drop (k + 1)).find? p := by
  rw [List.drop_eq_getElem_cons hk, List.find?_cons]
  cases p l[k] <;> simp
theorem step_len (c : Cs) (out : List Th) (n : List UInt8) : (stepI c out n).length ≤ out.length + 1 := by
  unfold stepI; split
  · simp
  · split <;> simp
theorem append_th (out : List Th) (t : Th) : out.map Th.e ++ [.agg [.str t.n, .bool t.g]] = (out ++ [t]).map Th.e := by rw [List.map_append]; rfl
theorem accepted_len (c : Cs) : ∀ (o : List Tx) (out : List Th), (o.foldl (stepI c) out).length ≤ out.length + o.length
  | [], out => Nat.le_refl _
  | n :: o, out => by
    have h1 := accepted_len c o (stepI c out n)
    have h2 := step_len c out n
    simp only [List.foldl_cons, List.length_cons]; omega
theorem goO_len {c : Cs} {names : List Tx} : ∀ (n : Nat) (out o : List Tx), goO c names n out = some o → o.length = out.length + n
  | 0, out, o, h => by simp [goO] at h; rw [h]; rfl
  | n + 1, out, o, h => by
    unfold goO at h
    split at h
    · cases h
    · have := goO_len n _ o h
      simp at this; omega
theorem acceptedTheses_b (c : Cs) (h : Fine c) : BRet Tryz.prog 60 [] [.agg [.d (.sl 2 (c.fs.map Th.e)), .d (.sl 5 (c.rs.map Ru.e)), .d (.sl 2 (c.ss.map Sd.e))]] (.own 30 2 ((accI c).map Th.e)) [] := by
  refine bof Tryz.func60 ?_
  refine bgo ?_
  obtain ⟨o, ho⟩ := Option.isSome_iff_exists.1 h.ord
  have hd := decisionOrder_b c h.ru h.n
  rw [ho] at hd
  refine b_call hd rfl rfl rfl rfl ?_
  have hol : o.length ≤ 1048576 := by
    have := goO_len _ _ _ (show goO c (srt (allN c)) (srt (allN c)).length [] = some o from ho)
    have h2 := srt_len (allN c)
    have h3 := h.n
    simp at this; omega
  have hacc : o.foldl (stepI c) [] = accI c := by unfold accI; rw [ho]
  generalize accI c = res at *
  unfold orderV
  refine bgo ?_
  refine b_lp (ι := Nat × List Th) (fun i => [(1, .ptr (.t 1) 0), (5, .own 30 2 (i.2.map Th.e)), (20, .d (.sl 1 (o.map .str))), (21, .int o.length), (22, .int i.1)]) (fun _ => [(.t 1, [.d (.sl 2 (c.fs.map Th.e)), .d (.sl 5 (c.rs.map Ru.e)), .d (.sl 2 (c.ss.map Sd.e))])])
    (fun i => i.1 ≤ o.length ∧ i.2.length ≤ i.1 ∧ (o.drop i.1).foldl (stepI c) i.2 = res) (fun i => o.length - i.1) (0, []) hs ⟨Nat.zero_le _, Nat.le_refl _, hacc⟩ ?_
  clear hacc ho hd
  rintro ⟨k, out⟩ ⟨hk, hl, hj⟩ I nx
  dsimp only at hk hl hj ⊢
  by_cases hlt : k < o.length
  · have hx : o[k]? = some o[k] := List.getElem?_eq_getElem hlt
    rw [List.drop_eq_getElem_cons hlt, List.foldl_cons] at hj
    have hsl := step_len c out o[k]
    rw [step_find] at hj hsl
    have hout : out.length ≤ 1048576 := by omega
    have hj2 := hj
    clear hj
    refine bgo ?_
    refine b_lp (ι := Nat) (fun j => [(1, .ptr (.t 1) 0), (5, .own 30 2 (out.map Th.e)), (20, .d (.sl 1 (o.map .str))), (21, .int o.length), (22, .int k), (32, .own 30 2 ((both o[k]).map Th.e)), (33, .int (both o[k]).length), (34, .int j)]) (fun _ => [(.t 1, [.d (.sl 2 (c.fs.map Th.e)), .d (.sl 5 (c.rs.map Ru.e)), .d (.sl 2 (c.ss.map Sd.e))])])
      (fun j => j ≤ (both o[k]).length ∧ ((both o[k]).drop j).find? (takesI c out) = (both o[k]).find? (takesI c out)) (fun j => (both o[k]).length - j) 0 hs ⟨Nat.zero_le _, rfl⟩ ?_
    rintro j ⟨hjk, hf⟩ I2 nx2
    have hbl : (both o[k]).length ≤ 1048576 := by show 2 ≤ _; omega
    generalize (both o[k]) = l2 at *
    by_cases hjt : j < l2.length
    · have hy : l2[j]? = some l2[j] := List.getElem?_eq_getElem hjt
      rw [find_step1 hjt] at hf
      have hf2 := hf
      clear hf
      generalize l2[j] = t at *
      have hta : takesI c out t = (c.fs.contains t || (!(c.fs.contains t || c.fs.contains (opp t)) && convI c out t && !convI c out (opp t))) := rfl
      generalize takesI c out t = tk at *
      have hyes : tk = true → found out (l2.find? (takesI c out)) = out ++ [t] := fun e => by rw [← hf2, if_pos e]; rfl
      have hno : tk = false → List.find? (takesI c out) (List.drop (j + 1) l2) = List.find? (takesI c out) l2 := fun e => by rw [← hf2, if_neg (by simp [e])]
      generalize hfo : found out (l2.find? (takesI c out)) = nout at *
      generalize hg1 : List.find? (takesI c out) l2 = fnd at *
      clear hf2
      refine bgo ?_
      refine b_call (opposite_b t) rfl rfl rfl rfl ?_
      refine bgo ?_
      refine b_call (containsTh_b c.fs t) rfl rfl rfl rfl ?_
      cases ha : c.fs.contains t
      · rw [ha] at hta
        refine bgo ?_
        refine b_call (containsTh_b c.fs (opp t)) rfl rfl rfl rfl ?_
        cases hb : c.fs.contains (opp t)
        · rw [hb] at hta
          refine bgo ?_
          refine b_call (containsTh_b c.fs t) rfl rfl rfl rfl ?_
          rw [ha]
          refine bgo ?_
          refine b_call (isConvincing_b c t out h.wt) rfl rfl rfl rfl ?_
          cases hc1 : convI c out t
          · rw [hc1] at hta
            have := hno (by rw [hta]; rfl)
            clear hyes hno hta
            refine bgo ?_
            exact nx2.go (j + 1) ⟨hjt, this⟩ (by omega) hs
          · rw [hc1] at hta
            refine bgo ?_
            refine b_call (isConvincing_b c (opp t) out h.wt) rfl rfl rfl rfl ?_
            cases hc2 : convI c out (opp t)
            · rw [hc2] at hta
              have := hyes (by rw [hta]; rfl)
              clear hyes hno hta
              subst this
              refine bgo ?_
              rw [append_th]
              refine wk_mk [(1, .ptr (.t 1) 0), (5, .own 30 2 ((out ++ [t]).map Th.e)), (20, .d (.sl 1 (o.map .str))), (21, .int o.length), (22, .int k)] [(.t 1, [.d (.sl 2 (c.fs.map Th.e)), .d (.sl 5 (c.rs.map Ru.e)), .d (.sl 2 (c.ss.map Sd.e))])] hs ?_
              refine bgo ?_
              exact nx.go (k + 1, out ++ [t]) ⟨hlt, by simp; omega, hj2⟩ (by dsimp only; omega) hs
            · rw [hc2] at hta
              have := hno (by rw [hta]; rfl)
              clear hyes hno hta
              refine bgo ?_
              exact nx2.go (j + 1) ⟨hjt, this⟩ (by omega) hs
        · rw [hb] at hta
          have := hno (by rw [hta]; rfl)
          clear hyes hno hta
          refine bgo ?_
          refine b_call (containsTh_b c.fs t) rfl rfl rfl rfl ?_
          rw [ha]
          refine bgo ?_
          exact nx2.go (j + 1) ⟨hjt, this⟩ (by omega) hs
      · rw [ha] at hta
        have := hyes (by rw [hta]; rfl)
        clear hyes hno hta
        subst this
        refine bgo ?_
        refine b_call (containsTh_b c.fs t) rfl rfl rfl rfl ?_
        rw [ha]
        refine bgo ?_
        rw [append_th]
        refine wk_mk [(1, .ptr (.t 1) 0), (5, .own 30 2 ((out ++ [t]).map Th.e)), (20, .d (.sl 1 (o.map .str))), (21, .int o.length), (22, .int k)] [(.t 1, [.d (.sl 2 (c.fs.map Th.e)), .d (.sl 5 (c.rs.map Ru.e)), .d (.sl 2 (c.ss.map Sd.e))])] hs ?_
        refine bgo ?_
        exact nx.go (k + 1, out ++ [t]) ⟨hlt, by simp; omega, hj2⟩ (by dsimp only; omega) hs
    · have hj' : j = l2.length := by omega
      subst hj'
      rw [List.drop_length] at hf
      rw [← hf] at hj2
      have hj3 : List.foldl (stepI c) out (List.drop (k + 1) o) = res := hj2
      clear hf hj2 hsl nx2
      refine bgo ?_
      refine wk_mk [(1, .ptr (.t 1) 0), (5, .own 30 2 (out.map Th.e)), (20, .d (.sl 1 (o.map .str))), (21, .int o.length), (22, .int k)] [(.t 1, [.d (.sl 2 (c.fs.map Th.e)), .d (.sl 5 (c.rs.map Ru.e)), .d (.sl 2 (c.ss.map Sd.e))])] hs ?_
      refine bgo ?_
      exact nx.go (k + 1, out) ⟨hlt, by dsimp only; omega, hj3⟩ (by dsimp only; omega) hs
  · have hk' : k = o.length := by omega
    subst hk'
    rw [List.drop_length] at hj
    have hm : out = res := hj
    subst hm
    refine bgo ?_
    refine wk_rfl ?_
    refine bgo ?_
    trivial
def statusF (acc : List Th) (n : List UInt8) : Int := if acc.contains ⟨n, false⟩ = true then 1 else if acc.contains ⟨n, true⟩ = true then 2 else 3
theorem statusOf_b (c : Cs) (n : List UInt8) (h : Fine c) : BRet Tryz.prog 66 [] [.agg [.d (.sl 2 (c.fs.map Th.e)), .d (.sl 5 (c.rs.map Ru.e)), .d (.sl 2 (c.ss.map Sd.e))], .str n] (.int (statusF (accI c) n)) [] := by
  refine bof Tryz.func66 ?_
  refine bgo ?_
  refine b_call (acceptedTheses_b c h) rfl rfl rfl rfl ?_
  generalize accI c = acc
  unfold statusF
  refine bgo ?_
  refine b_call (containsTh_b acc ⟨n, false⟩) rfl rfl rfl rfl ?_
  cases ha : acc.contains ⟨n, false⟩
  · refine bgo ?_
    refine b_call (containsTh_b acc ⟨n, true⟩) rfl rfl rfl rfl ?_
    cases hb : acc.contains ⟨n, true⟩
    · refine bgo ?_
      trivial
    · refine bgo ?_
      trivial
  · refine bgo ?_
    trivial
theorem StatusOf_b (c : Cs) (n : List UInt8) : BRet Tryz.prog 21 [] [.agg [.d (.sl 2 (c.fs.map Th.e)), .d (.sl 5 (c.rs.map Ru.e)), .d (.sl 2 (c.ss.map Sd.e))], .str n]
    (.tup [.int (if (head c && okI c && vName n) = true then statusF (accI c) n else 0), .bool (head c && okI c && vName n)]) [] := by
  refine bof Tryz.func21 ?_
  refine bgo ?_
  refine b_call (IsValidCase_b c) rfl rfl rfl rfl ?_
  cases hv : head c && okI c
  · refine bgo ?_
    trivial
  · have hf := head_fine hv
    refine bgo ?_
    refine b_call (IsValidName_b n) rfl rfl rfl rfl ?_
    cases hn : vName n
    · refine bgo ?_
      trivial
    · refine bgo ?_
      refine b_call (statusOf_b c n hf) rfl rfl rfl rfl ?_
      refine bgo ?_
      trivial
theorem WeightsOf_b (c : Cs) (t : Th) : BRet Tryz.prog 41 [] [.agg [.d (.sl 2 (c.fs.map Th.e)), .d (.sl 5 (c.rs.map Ru.e)), .d (.sl 2 (c.ss.map Sd.e))], .agg [.str t.n, .bool t.g]]
    (.tup [.int (if (head c && okI c && vName t.n) = true then wt c (accI c) t else 0), .int (if (head c && okI c && vName t.n) = true then wt c (accI c) (opp t) else 0), .bool (head c && okI c && vName t.n)]) [] := by
  refine bof Tryz.func41 ?_
  refine bgo ?_
  refine b_call (IsValidCase_b c) rfl rfl rfl rfl ?_
  cases hv : head c && okI c
  · refine bgo ?_
    trivial
  · have hf := head_fine hv
    refine bgo ?_
    refine b_call (IsValidName_b t.n) rfl rfl rfl rfl ?_
    cases hn : vName t.n
    · refine bgo ?_
      trivial
    · refine bgo ?_
      refine b_call (acceptedTheses_b c hf) rfl rfl rfl rfl ?_
      generalize accI c = acc
      refine bgo ?_
      refine b_call (greatestWeight_b c t acc) rfl rfl rfl rfl ?_
      refine bgo ?_
      refine b_call (opposite_b t) rfl rfl rfl rfl ?_
      refine bgo ?_
      refine b_call (greatestWeight_b c (opp t) acc) rfl rfl rfl rfl ?_
      refine bgo ?_
      trivial
end Go.Bee.C23a

/- Chapter 23: accepted theses, as the model reckons them. -/
namespace Go.Bee.C23a
open Go Go.Bee Go.Proofs Go.Bee.Ty Go.Bee.C23 Go.Bee.C23s
set_option linter.unusedVariables false
set_option maxRecDepth 20000
attribute [local irreducible] Go.Bee.bwp vName
theorem specOpp_b (t : Th) : BRet Tryz.prog 97 [] [.agg [.str t.n, .bool t.g]] (.agg [.str t.n, .bool (!t.g)]) [] := by
  refine bof Tryz.func97 ?_
  refine bgo ?_
  trivial
theorem contains_drop {l : List Th} {t : Th} {k : Nat} (hk : k < l.length) : (l.drop k).contains t = (decide (t = l[k]) || (l.drop (k + 1)).contains t) := by
  rw [List.drop_eq_getElem_cons hk, List.contains_cons]
  congr 1
theorem l23Has_b (l : List Th) (t : Th) : BRet Tryz.prog 64 [] [.d (.sl 2 (l.map Th.e)), .agg [.str t.n, .bool t.g]] (.bool (l.contains t)) [] := by
  refine BRet.len 0 (by kernel_rfl) rfl fun hl => ?_
  refine bof Tryz.func64 ?_
  simp only [List.length_map] at hl
  generalize hr : l.contains t = r
  refine bgo ?_
  refine b_lp (ι := Nat) (fun k => [(0, .d (.sl 2 (l.map Th.e))), (3, .ptr (.t 3) 0), (5, .int k)]) (fun _ => [(.t 3, [.str t.n, .bool t.g])]) (fun k => k ≤ l.length ∧ (l.drop k).contains t = r) (fun k => l.length - k) 0 hs ⟨Nat.zero_le _, hr⟩ ?_
  clear hr
  rintro k ⟨hk, hj⟩ I nx
  by_cases hlt : k < l.length
  · have hx : l[k]? = some l[k] := List.getElem?_eq_getElem hlt
    rw [contains_drop hlt] at hj
    by_cases he : t = l[k]
    · rw [decide_eq_true he, Bool.true_or] at hj
      have he2 : (⟨l[k].n, l[k].g⟩ : Th) = ⟨t.n, t.g⟩ := he.symm
      subst hj
      clear he nx
      refine bgo ?_
      trivial
    · rw [decide_eq_false he, Bool.false_or] at hj
      have he2 : ¬ (⟨l[k].n, l[k].g⟩ : Th) = ⟨t.n, t.g⟩ := fun e => he (Eq.symm e)
      have hj2 := hj
      clear he hj
      refine bgo ?_
      exact nx.go (k + 1) ⟨hlt, hj2⟩ (by omega) hs
  · have hk' : k = l.length := by omega
    subst hk'
    rw [List.drop_length] at hj
    subst hj
    refine bgo ?_
    refine wk_rfl ?_
    refine bgo ?_
    trivial
theorem l23Applies_b (r : Ru) (acc : List Th) : BRet Tryz.prog 89 [] [.agg [.d (.sl 2 (r.ps.map Th.e)), .d (.sl 2 (r.es.map Th.e)), .str r.c.n, .bool r.c.g, .int r.wt], .d (.sl 2 (acc.map Th.e))] (.bool (appl acc r)) [] := by
  refine BRet.alen 0 0 (by kernel_rfl) rfl rfl fun hl => ?_
  refine BRet.alen 0 1 (by kernel_rfl) rfl rfl fun hl2 => ?_
  refine bof Tryz.func89 ?_
  simp only [List.length_map] at hl hl2
  have hr : appl acc r = ((r.ps.all fun t => acc.contains t) && (r.es.all fun t => !acc.contains t)) := by
    unfold appl
    rw [List.any_eq_not_all_not, List.any_eq_not_all_not]; simp
  generalize appl acc r = res at *
  have hr1 : (r.ps.all fun t => acc.contains t) = false → res = false := fun e => by rw [hr, e]; rfl
  have hr3 : (r.ps.all fun t => acc.contains t) = true → res = (r.es.all fun t => !acc.contains t) := fun e => by rw [hr, e]; rfl
  clear hr
  refine bgo ?_
  refine b_lp (ι := Nat) (fun k => [(1, .d (.sl 2 (acc.map Th.e))), (2, .ptr (.t 2) 0), (5, .int k)]) (fun _ => [(.t 2, [.d (.sl 2 (r.ps.map Th.e)), .d (.sl 2 (r.es.map Th.e)), .str r.c.n, .bool r.c.g, .int r.wt])])
    (fun k => k ≤ r.ps.length ∧ ((r.ps.take k).all fun t => acc.contains t) = true) (fun k => r.ps.length - k) 0 hs ⟨Nat.zero_le _, rfl⟩ ?_
  rintro k ⟨hk, hj⟩ I nx
  by_cases hlt : k < r.ps.length
  · have hx : r.ps[k]? = some r.ps[k] := List.getElem?_eq_getElem hlt
    have hst := all_step (p := fun t => acc.contains t) hlt hj
    have hbd := all_bad (p := fun t => acc.contains t) hlt
    clear hj hr3
    refine bgo ?_
    refine b_call (l23Has_b acc r.ps[k]) rfl rfl rfl rfl ?_
    cases ha : acc.contains r.ps[k]
    · have hz := hr1 (hbd ha)
      clear hst hbd hr1
      subst hz
      refine bgo ?_
      trivial
    · have := hst ha
      clear hst hbd hr1
      refine bgo ?_
      exact nx.go (k + 1) ⟨hlt, this⟩ (by omega) hs
  have hk' : k = r.ps.length := by omega
  subst hk'
  rw [List.take_length] at hj
  have hr4 := hr3 hj
  have hr5 : (r.es.all fun t => !acc.contains t) = false → res = false := fun e => by rw [hr4, e]
  have hr6 : (r.es.all fun t => !acc.contains t) = true → res = true := fun e => by rw [hr4, e]
  clear hj hlt hk nx hr1 hr3 hr4
  refine bgo ?_
  refine wk_rfl ?_
  refine bgo ?_
  refine b_lp (ι := Nat) (fun k => [(1, .d (.sl 2 (acc.map Th.e))), (2, .ptr (.t 2) 0), (6, .int k)]) (fun _ => [(.t 2, [.d (.sl 2 (r.ps.map Th.e)), .d (.sl 2 (r.es.map Th.e)), .str r.c.n, .bool r.c.g, .int r.wt])])
    (fun k => k ≤ r.es.length ∧ ((r.es.take k).all fun t => !acc.contains t) = true) (fun k => r.es.length - k) 0 hs ⟨Nat.zero_le _, rfl⟩ ?_
  clear I
  rintro k ⟨hk, hj⟩ I nx
  by_cases hlt : k < r.es.length
  · have hx : r.es[k]? = some r.es[k] := List.getElem?_eq_getElem hlt
    have hst := all_step (p := fun t => !acc.contains t) hlt hj
    have hbd := all_bad (p := fun t => !acc.contains t) hlt
    clear hj hr6
    refine bgo ?_
    refine b_call (l23Has_b acc r.es[k]) rfl rfl rfl rfl ?_
    cases ha : acc.contains r.es[k]
    · have := hst (by rw [ha]; rfl)
      clear hst hbd hr5
      refine bgo ?_
      exact nx.go (k + 1) ⟨hlt, this⟩ (by omega) hs
    · have hz := hr5 (hbd (by rw [ha]; rfl))
      clear hst hbd hr5
      subst hz
      refine bgo ?_
      trivial
  have hk' : k = r.es.length := by omega
  subst hk'
  rw [List.take_length] at hj
  have hz := hr6 hj
  clear hj hlt hk nx hr5 hr6
  subst hz
  refine bgo ?_
  refine wk_rfl ?_
  refine bgo ?_
  trivial
theorem l1Most_b (a b : Int) : BRet Tryz.prog 137 [] [.int a, .int b] (.int (max a b)) [] := by
  refine bof Tryz.func137 ?_
  by_cases h : a > b
  · rw [Int.max_eq_left (by omega)]
    refine bgo ?_
    trivial
  · rw [Int.max_eq_right (by omega)]
    refine bgo ?_
    trivial
theorem l23Weight_b (c : Cs) (t : Th) (acc : List Th) : BRet Tryz.prog 96 [] [.agg [.d (.sl 2 (c.fs.map Th.e)), .d (.sl 5 (c.rs.map Ru.e)), .d (.sl 2 (c.ss.map Sd.e))], .agg [.str t.n, .bool t.g], .d (.sl 2 (acc.map Th.e))] (.int (wt c acc t)) [] := by
  refine BRet.alen 0 1 (by kernel_rfl) rfl rfl fun hl => ?_
  refine bof Tryz.func96 ?_
  simp only [List.length_map] at hl
  generalize hr : wt c acc t = res
  unfold wt at hr
  refine bgo ?_
  refine b_lp (ι := Nat × Int) (fun i => [(2, .d (.sl 2 (acc.map Th.e))), (3, .ptr (.t 3) 0), (4, .ptr (.t 4) 0), (7, .int i.2), (8, .int i.1)]) (fun _ => [(.t 3, [.d (.sl 2 (c.fs.map Th.e)), .d (.sl 5 (c.rs.map Ru.e)), .d (.sl 2 (c.ss.map Sd.e))]), (.t 4, [.str t.n, .bool t.g])])
    (fun i => i.1 ≤ c.rs.length ∧ (c.rs.drop i.1).foldl (wtF acc t) i.2 = res) (fun i => c.rs.length - i.1) (0, 0) hs ⟨Nat.zero_le _, hr⟩ ?_
  clear hr
  rintro ⟨k, m⟩ ⟨hk, hj⟩ I nx
  dsimp only at hk hj ⊢
  by_cases hlt : k < c.rs.length
  · have hx : c.rs[k]? = some c.rs[k] := List.getElem?_eq_getElem hlt
    rw [List.drop_eq_getElem_cons hlt, List.foldl_cons] at hj
    have hw : wtF acc t m c.rs[k] = if (decide (c.rs[k].c = t) && appl acc c.rs[k]) = true then max m c.rs[k].wt else m := rfl
    generalize wtF acc t m c.rs[k] = m2 at hj hw
    by_cases he : c.rs[k].c = t
    · have he2 : (⟨c.rs[k].c.n, c.rs[k].c.g⟩ : Th) = ⟨t.n, t.g⟩ := he
      rw [decide_eq_true he, Bool.true_and] at hw
      have hj2 := hj
      clear he hj
      refine bgo ?_
      refine b_call (l23Applies_b c.rs[k] acc) rfl rfl rfl rfl ?_
      cases ha : appl acc c.rs[k]
      · rw [ha] at hw
        simp only [Bool.false_eq_true, if_false] at hw
        subst hw
        refine bgo ?_
        exact nx.go (k + 1, m2) ⟨hlt, hj2⟩ (by dsimp only; omega) hs
      · rw [ha] at hw
        simp only [if_true] at hw
        subst hw
        refine bgo ?_
        refine b_call (l1Most_b m c.rs[k].wt) rfl rfl rfl rfl ?_
        refine bgo ?_
        exact nx.go (k + 1, max m c.rs[k].wt) ⟨hlt, hj2⟩ (by dsimp only; omega) hs
    · have he2 : ¬ (⟨c.rs[k].c.n, c.rs[k].c.g⟩ : Th) = ⟨t.n, t.g⟩ := he
      rw [decide_eq_false he, Bool.false_and] at hw
      simp only [Bool.false_eq_true, if_false] at hw
      subst hw
      have hj2 := hj
      clear he hj
      refine bgo ?_
      exact nx.go (k + 1, m2) ⟨hlt, hj2⟩ (by dsimp only; omega) hs
  · have hk' : k = c.rs.length := by omega
    subst hk'
    rw [List.drop_length] at hj
    have hm : m = res := hj
    subst hm
    refine bgo ?_
    refine wk_rfl ?_
    refine bgo ?_
    trivial
def sdk : Option Sd → Int
  | some s => s.k
  | none => 2
theorem kindS_eq (c : Cs) (n : List UInt8) : kindS c n = sdk (c.ss.find? fun s => s.n == n) := by
  unfold kindS
  cases c.ss.find? fun s => s.n == n <;> rfl
theorem append_th2 (out : List Th) (n : List UInt8) (g : Bool) : out.map Th.e ++ [.agg [.str n, .bool g]] = (out ++ [(⟨n, g⟩ : Th)]).map Th.e := append_th out ⟨n, g⟩
theorem l23Standard_b (c : Cs) (n : List UInt8) : BRet Tryz.prog 111 [] [.agg [.d (.sl 2 (c.fs.map Th.e)), .d (.sl 5 (c.rs.map Ru.e)), .d (.sl 2 (c.ss.map Sd.e))], .str n] (.int (kindS c n)) [] := by
  refine BRet.alen 0 2 (by kernel_rfl) rfl rfl fun hl => ?_
  refine bof Tryz.func111 ?_
  simp only [List.length_map] at hl
  rw [kindS_eq]
  generalize hr : sdk (c.ss.find? fun s => s.n == n) = res
  refine bgo ?_
  refine b_lp (ι := Nat) (fun k => [(1, .str n), (2, .ptr (.t 2) 0), (5, .int k)]) (fun _ => [(.t 2, [.d (.sl 2 (c.fs.map Th.e)), .d (.sl 5 (c.rs.map Ru.e)), .d (.sl 2 (c.ss.map Sd.e))])])
    (fun k => k ≤ c.ss.length ∧ sdk ((c.ss.drop k).find? fun s => s.n == n) = res) (fun k => c.ss.length - k) 0 hs ⟨Nat.zero_le _, hr⟩ ?_
  clear hr
  rintro k ⟨hk, hj⟩ I nx
  by_cases hlt : k < c.ss.length
  · have hx : c.ss[k]? = some c.ss[k] := List.getElem?_eq_getElem hlt
    rw [find_step1 hlt] at hj
    cases he : c.ss[k].n == n
    · rw [he] at hj
      have hj2 := hj
      clear hj
      refine bgo ?_
      exact nx.go (k + 1) ⟨hlt, hj2⟩ (by omega) hs
    · rw [he] at hj
      have hj2 : c.ss[k].k = res := hj
      subst hj2
      clear hj nx
      refine bgo ?_
      trivial
  · have hk' : k = c.ss.length := by omega
    subst hk'
    rw [List.drop_length] at hj
    have hj2 : 2 = res := hj
    subst hj2
    clear hj nx
    refine bgo ?_
    refine wk_rfl ?_
    refine bgo ?_
    trivial
theorem l23Meets_b (m p q : Int) (hp : 0 ≤ p ∧ p ≤ 1000) (hq : 0 ≤ q ∧ q ≤ 1000) : BRet Tryz.prog 112 [] [.int m, .int p, .int q] (.bool (meets m p q)) [] := by
  refine bof Tryz.func112 ?_
  unfold meets
  by_cases h1 : m = 1
  · subst h1
    refine bgo ?_
    trivial
  rw [if_neg h1]
  by_cases h2 : m = 2
  · subst h2
    by_cases h0 : p > 0
    · refine bgo ?_
      trivial
    · refine bgo ?_
      trivial
  rw [if_neg h2]
  by_cases h3 : m = 3
  · subst h3
    by_cases h4 : p ≥ 500
    · refine bgo ?_
      trivial
    · refine bgo ?_
      trivial
  · rw [if_neg h3]
    by_cases h4 : p ≥ 500
    · by_cases h5 : p - q ≥ 200
      · refine bgo ?_
        trivial
      · refine bgo ?_
        trivial
    · refine bgo ?_
      trivial
theorem stepS_len (c : Cs) (out : List Th) (n : List UInt8) : (stepS c out n).length ≤ out.length + 1 := by
  unfold stepS; repeat' split
  all_goals simp
theorem l23Accepted_b (c : Cs) (h : Fine c) : BRet Tryz.prog 65 [] [.agg [.d (.sl 2 (c.fs.map Th.e)), .d (.sl 5 (c.rs.map Ru.e)), .d (.sl 2 (c.ss.map Sd.e))]] (.own 30 2 ((accS c).map Th.e)) [] := by
  refine bof Tryz.func65 ?_
  refine bgo ?_
  have hn2 := put_le c h.n
  have hd := l23Order_b c h.n h.ru hn2
  refine b_call hd rfl rfl rfl rfl ?_
  have hol : (orderS c).length ≤ 1048576 := by
    have := goS_len c (names2 c) (names2 c).length []
    unfold orderS; simp at this; omega
  generalize ho : accS c = res
  unfold accS at ho
  clear hd hn2
  generalize orderS c = o at *
  refine bgo ?_
  refine b_lp (ι := Nat × List Th) (fun i => [(1, .ptr (.t 1) 0), (3, .own 30 2 (i.2.map Th.e)), (4, .own 9 1 (o.map .str)), (5, .int i.1)]) (fun _ => [(.t 1, [.d (.sl 2 (c.fs.map Th.e)), .d (.sl 5 (c.rs.map Ru.e)), .d (.sl 2 (c.ss.map Sd.e))])])
    (fun i => i.1 ≤ o.length ∧ i.2.length ≤ i.1 ∧ (o.drop i.1).foldl (stepS c) i.2 = res) (fun i => o.length - i.1) (0, []) hs ⟨Nat.zero_le _, Nat.le_refl _, ho⟩ ?_
  clear ho
  rintro ⟨k, out⟩ ⟨hk, hl, hj⟩ I nx
  dsimp only at hk hl hj ⊢
  by_cases hlt : k < o.length
  · have hx : o[k]? = some o[k] := List.getElem?_eq_getElem hlt
    rw [List.drop_eq_getElem_cons hlt, List.foldl_cons] at hj
    have hsl := stepS_len c out o[k]
    generalize hst : stepS c out o[k] = out2 at *
    unfold stepS at hst
    have hout : out.length ≤ 1048576 := by omega
    have hj2 := hj
    clear hj
    generalize o[k] = n at *
    refine bgo ?_
    refine b_call (specOpp_b ⟨n, false⟩) rfl rfl rfl rfl ?_
    refine bgo ?_
    refine b_call (l23Has_b c.fs ⟨n, false⟩) rfl rfl rfl rfl ?_
    cases ha : c.fs.contains (⟨n, false⟩ : Th)
    · rw [ha] at hst
      simp only [Bool.false_eq_true, if_false] at hst
      refine bgo ?_
      refine b_call (l23Has_b c.fs ⟨n, true⟩) rfl rfl rfl rfl ?_
      cases hb : c.fs.contains (⟨n, true⟩ : Th)
      · rw [hb] at hst
        simp only [Bool.false_eq_true, if_false] at hst
        have hp := wt_in h.wt out ⟨n, false⟩
        have hq := wt_in h.wt out ⟨n, true⟩
        refine bgo ?_
        refine b_call (l23Weight_b c ⟨n, false⟩ out) rfl rfl rfl rfl ?_
        refine bgo ?_
        refine b_call (l23Weight_b c ⟨n, true⟩ out) rfl rfl rfl rfl ?_
        refine bgo ?_
        refine b_call (l23Standard_b c n) rfl rfl rfl rfl ?_
        generalize kindS c n = kd at *
        generalize wt c out ⟨n, false⟩ = p at *
        generalize wt c out ⟨n, true⟩ = q at *
        refine bgo ?_
        refine b_call (l23Meets_b kd p q hp hq) rfl rfl rfl rfl ?_
        refine bgo ?_
        refine b_call (l23Meets_b kd q p hq hp) rfl rfl rfl rfl ?_
        generalize meets kd p q = x at *
        generalize meets kd q p = y at *
        cases x <;> cases y <;> simp only [Bool.false_and, Bool.true_and, Bool.not_false, Bool.not_true, Bool.false_eq_true, if_false, if_true] at hst <;> subst hst
        · refine bgo ?_
          exact nx.go (k + 1, out) ⟨hlt, by dsimp only; omega, hj2⟩ (by dsimp only; omega) hs
        · refine bgo ?_
          rw [append_th2 out n true]
          exact nx.go (k + 1, out ++ [⟨n, true⟩]) ⟨hlt, by simp; omega, hj2⟩ (by dsimp only; omega) hs
        · refine bgo ?_
          rw [append_th2 out n false]
          exact nx.go (k + 1, out ++ [⟨n, false⟩]) ⟨hlt, by simp; omega, hj2⟩ (by dsimp only; omega) hs
        · refine bgo ?_
          exact nx.go (k + 1, out) ⟨hlt, by dsimp only; omega, hj2⟩ (by dsimp only; omega) hs
      · rw [hb] at hst
        simp only [if_true] at hst
        subst hst
        refine bgo ?_
        rw [append_th2 out n true]
        exact nx.go (k + 1, out ++ [⟨n, true⟩]) ⟨hlt, by simp; omega, hj2⟩ (by dsimp only; omega) hs
    · rw [ha] at hst
      simp only [if_true] at hst
      subst hst
      refine bgo ?_
      rw [append_th2 out n false]
      exact nx.go (k + 1, out ++ [⟨n, false⟩]) ⟨hlt, by simp; omega, hj2⟩ (by dsimp only; omega) hs
  · have hk' : k = o.length := by omega
    subst hk'
    rw [List.drop_length] at hj
    have hm : out = res := hj
    subst hm
    refine bgo ?_
    refine wk_rfl ?_
    refine bgo ?_
    trivial
end Go.Bee.C23a

/- Chapter 23: StatusOf, WeightsOf, NeededWeight: the model's words, and the laws. -/
namespace Go.Bee.C23a
open Go Go.Bee Go.Proofs Go.Bee.Ty Go.Bee.C23 Go.Bee.C23s
set_option linter.unusedVariables false
set_option maxRecDepth 20000
attribute [local irreducible] Go.Bee.bwp vName
theorem good_b (c : Cs) : BRet Tryz.prog 62 [] [.agg [.d (.sl 2 (c.fs.map Th.e)), .d (.sl 5 (c.rs.map Ru.e)), .d (.sl 2 (c.ss.map Sd.e))]] (.bool (head c && okI c)) [] := by
  rw [valid_eq]; exact l23Good_b c
theorem accepted_b (c : Cs) (h : Fine c) : BRet Tryz.prog 65 [] [.agg [.d (.sl 2 (c.fs.map Th.e)), .d (.sl 5 (c.rs.map Ru.e)), .d (.sl 2 (c.ss.map Sd.e))]] (.own 30 2 ((accI c).map Th.e)) [] := by
  rw [acc_eq h]; exact l23Accepted_b c h
theorem specStatus_b (c : Cs) (n : List UInt8) (h : Fine c) : BRet Tryz.prog 83 [] [.agg [.d (.sl 2 (c.fs.map Th.e)), .d (.sl 5 (c.rs.map Ru.e)), .d (.sl 2 (c.ss.map Sd.e))], .str n] (.int (statusF (accI c) n)) [] := by
  refine bof Tryz.func83 ?_
  refine bgo ?_
  refine b_call (accepted_b c h) rfl rfl rfl rfl ?_
  generalize accI c = acc
  unfold statusF
  refine bgo ?_
  refine b_call (l23Has_b acc ⟨n, false⟩) rfl rfl rfl rfl ?_
  cases ha : acc.contains ⟨n, false⟩
  · refine bgo ?_
    refine b_call (l23Has_b acc ⟨n, true⟩) rfl rfl rfl rfl ?_
    cases hb : acc.contains ⟨n, true⟩
    · refine bgo ?_
      trivial
    · refine bgo ?_
      trivial
  · refine bgo ?_
    trivial
theorem specStatusOf_b (c : Cs) (n : List UInt8) : BRet Tryz.prog 51 [] [.agg [.d (.sl 2 (c.fs.map Th.e)), .d (.sl 5 (c.rs.map Ru.e)), .d (.sl 2 (c.ss.map Sd.e))], .str n]
    (.tup [.int (if (head c && okI c && vName n) = true then statusF (accI c) n else 0), .bool (head c && okI c && vName n)]) [] := by
  refine bof Tryz.func51 ?_
  refine bgo ?_
  refine b_call (good_b c) rfl rfl rfl rfl ?_
  cases hv : head c && okI c
  · refine bgo ?_
    trivial
  · have hf := head_fine hv
    refine bgo ?_
    refine b_call (l5Name_b n) rfl rfl rfl rfl ?_
    cases hn : vName n
    · refine bgo ?_
      trivial
    · refine bgo ?_
      refine b_call (specStatus_b c n hf) rfl rfl rfl rfl ?_
      refine bgo ?_
      trivial
theorem specWeightsOf_b (c : Cs) (t : Th) : BRet Tryz.prog 42 [] [.agg [.d (.sl 2 (c.fs.map Th.e)), .d (.sl 5 (c.rs.map Ru.e)), .d (.sl 2 (c.ss.map Sd.e))], .agg [.str t.n, .bool t.g]]
    (.tup [.int (if (head c && okI c && vName t.n) = true then wt c (accI c) t else 0), .int (if (head c && okI c && vName t.n) = true then wt c (accI c) (opp t) else 0), .bool (head c && okI c && vName t.n)]) [] := by
  refine bof Tryz.func42 ?_
  refine bgo ?_
  refine b_call (good_b c) rfl rfl rfl rfl ?_
  cases hv : head c && okI c
  · refine bgo ?_
    trivial
  · have hf := head_fine hv
    refine bgo ?_
    refine b_call (l5Name_b t.n) rfl rfl rfl rfl ?_
    cases hn : vName t.n
    · refine bgo ?_
      trivial
    · refine bgo ?_
      refine b_call (accepted_b c hf) rfl rfl rfl rfl ?_
      generalize accI c = acc
      refine bgo ?_
      refine b_call (l23Weight_b c t acc) rfl rfl rfl rfl ?_
      refine bgo ?_
      refine b_call (specOpp_b t) rfl rfl rfl rfl ?_
      refine bgo ?_
      refine b_call (l23Weight_b c (opp t) acc) rfl rfl rfl rfl ?_
      refine bgo ?_
      trivial
theorem lawStatus_b (c : Cs) (n : List UInt8) : BRet Tryz.prog 9 [] [.agg [.d (.sl 2 (c.fs.map Th.e)), .d (.sl 5 (c.rs.map Ru.e)), .d (.sl 2 (c.ss.map Sd.e))], .str n] (.bool true) [] := by
  refine bof Tryz.func9 ?_
  by_cases h0 : (n.length : Int) > 1048576
  · refine bgo ?_
    trivial
  refine bgo ?_
  refine b_call (szCase_b c 1048576 (by decide) (by decide)) rfl rfl rfl rfl ?_
  by_cases h : szCs c 1048576 < 0
  · refine bgo ?_
    trivial
  have ho := szCs_ok c (by omega)
  refine bgo ?_
  refine b_call (toCase_b c ho) rfl rfl rfl rfl ?_
  refine bgo ?_
  refine b_call (specStatusOf_b c n) rfl rfl rfl rfl ?_
  refine bgo ?_
  refine b_call (toCase_b c ho) rfl rfl rfl rfl ?_
  refine bgo ?_
  refine b_call (StatusOf_b c n) rfl rfl rfl rfl ?_
  generalize (if (head c && okI c && vName n) = true then statusF (accI c) n else 0) = q
  cases hv : (head c && okI c && vName n)
  all_goals
    refine bgo ?_
    refine b_call (toCase_b c ho) rfl rfl rfl rfl ?_
    refine bgo ?_
    refine b_call (eqCase_b c c) rfl rfl rfl rfl ?_
    rw [decide_eq_true rfl]
    refine bgo ?_
    trivial
theorem lawWeights_b (c : Cs) (t : Th) : BRet Tryz.prog 7 [] [.agg [.d (.sl 2 (c.fs.map Th.e)), .d (.sl 5 (c.rs.map Ru.e)), .d (.sl 2 (c.ss.map Sd.e))], .agg [.str t.n, .bool t.g]] (.bool true) [] := by
  refine bof Tryz.func7 ?_
  have hn := szCs_nice c 1048576 (by decide)
  refine bgo ?_
  refine b_call (szCase_b c 1048576 (by decide) (by decide)) rfl rfl rfl rfl ?_
  by_cases h : szCs c 1048576 < 0
  · refine bgo ?_
    trivial
  have ho := szCs_ok c (by omega)
  generalize szCs c 1048576 = x at *
  refine bgo ?_
  refine b_call (szThesis_b t x (by omega) (by omega)) rfl rfl rfl rfl ?_
  by_cases h2 : szTh t x < 0
  · refine bgo ?_
    trivial
  generalize szTh t x = y at *
  refine bgo ?_
  refine b_call (toCase_b c ho) rfl rfl rfl rfl ?_
  refine bgo ?_
  refine b_call (toThesis_b t) rfl rfl rfl rfl ?_
  refine bgo ?_
  refine b_call (specWeightsOf_b c t) rfl rfl rfl rfl ?_
  refine bgo ?_
  refine b_call (toCase_b c ho) rfl rfl rfl rfl ?_
  refine bgo ?_
  refine b_call (toThesis_b t) rfl rfl rfl rfl ?_
  refine bgo ?_
  refine b_call (WeightsOf_b c t) rfl rfl rfl rfl ?_
  generalize (if (head c && okI c && vName t.n) = true then wt c (accI c) t else 0) = q
  generalize (if (head c && okI c && vName t.n) = true then wt c (accI c) (opp t) else 0) = q2
  cases hv : (head c && okI c && vName t.n)
  all_goals
    refine bgo ?_
    refine b_call (toCase_b c ho) rfl rfl rfl rfl ?_
    refine bgo ?_
    refine b_call (eqCase_b c c) rfl rfl rfl rfl ?_
    rw [decide_eq_true rfl]
    refine bgo ?_
    trivial
end Go.Bee.C23a

/- Chapter 23: laws that mark what they are given. -/
namespace Go.Bee.Ml
open Go Go.Bee Go.Proofs Go.Bee.Ty
theorem bs0 : evBuildSlice Tryz.prog 47 0 [] = some (.own 9 1 []) := by kernel_rfl
theorem bi0 : evBuildSlice Tryz.prog 58 0 [] = some (.own 3 1 []) := by kernel_rfl
theorem bt0 : evBuildSlice Tryz.prog 24 0 [] = some (.own 30 2 []) := by kernel_rfl
theorem bi1 : ∀ n : Int, evBuildSlice Tryz.prog 58 1 [(0, .d (.int .i64 n))] = some (.own 3 1 [.int .i64 n]) := fun n => by kernel_rfl
theorem tys : type_of% (And.intro Go.Bee.C23a.tys (And.intro bs0 (And.intro bi0 (And.intro bt0 bi1)))) := And.intro Go.Bee.C23a.tys (And.intro bs0 (And.intro bi0 (And.intro bt0 bi1)))
end Go.Bee.Ml
namespace Go.Bee.Ml
open Go Go.Bee Go.Proofs Go.Bee.Ty Go.Bee.C23 Go.Bee.C23s Go.Bee.C23a Go.Bee.Mt Go.Bee.Mr Go.Bee.Cq
set_option linter.unusedVariables false
set_option maxRecDepth 20000
attribute [local irreducible] Go.Bee.bwp
theorem bofM (ms : List Nat) {f : Nat} {fn : Func} {c : Code} {rs : List ResultVar} {args : List PV} {r : PV} (hf : Tryz.prog.funcs[f]? = some fn) (h : bwp Tryz.prog (Hm ms) c (endK Tryz.prog rs r []) (St.init args [])) (hb : fn.body = some c := by exact rfl) (hrs : fn.results = rs.toArray := by exact rfl)
    (hn : (fn.name != "runtime.NumGoroutine") = true := by kernel_rfl) (hd : cOk Tryz.prog (Hm ms) fn.ntmps c = true := by kernel_rfl) (ha : args.length ≤ fn.ntmps := by exact Nat.le_of_ble_eq_true rfl) : BRet Tryz.prog f [] args r [] :=
  BRet.of_body (Hm ms) mixed hf hb hn hd hrs rfl ha h
theorem PLe.tupNil {e sz : Nat} {x : PV} : PLe (.tup [.nilS, x]) (.tup [.own e sz [], x]) := ⟨fun P G w loc v h => by
  obtain ⟨vs, rfl, h1, h2⟩ := h
  refine ⟨vs, rfl, by simpa using h1, fun i y u hy hu => ?_⟩
  match i, hy with
  | 0, hy =>
    simp at hy; subst hy
    have := h2 0 .nilS u rfl hu
    exact PLe.nilO.t P G w loc u this
  | i + 1, hy => exact h2 (i + 1) y u (by simpa using hy) hu⟩
/-! The sum of marks is small. -/
theorem szRu_less (r : Ru) (x : Int) (h0 : 0 ≤ x) (h : 0 ≤ szRu r x) : (r.ps.length : Int) + r.es.length + szRu r x ≤ x := by
  have h1 := szL_nice szTh_nice r.ps x h0
  have h2 := szL_nice szTh_nice r.es (szL szTh r.ps x)
  have h3 := szTh_nice r.c (szL szTh r.es (szL szTh r.ps x))
  have key : ∀ (l : List Th) (y : Int), 0 ≤ y → 0 ≤ szL szTh l y → (l.length : Int) + szL szTh l y ≤ y := fun l y hy hl => by
    have h5 := szF_nice szTh_nice l (y - l.length)
    unfold szL at hl ⊢
    split at hl
    · omega
    · rename_i hn; rw [if_neg hn]; omega
  unfold szRu at h ⊢
  split at h
  · omega
  rename_i e1
  split at h
  · omega
  rename_i e2
  split at h
  · omega
  rename_i e3
  rw [if_neg e1, if_neg e2, if_neg e3]
  have h6 := key r.ps x h0 (by omega)
  have h7 := key r.es (szL szTh r.ps x) (by omega) (by omega)
  omega
theorem mkRuL_less : ∀ (l : List Ru) (x k : Int), 0 ≤ x → 0 ≤ szF szRu l x → mkRuL l k ≤ k + 2 * x + 3 * l.length
  | [], x, k, h0, h => by simp [mkRuL]; omega
  | r :: l, x, k, h0, h => by
    unfold szF at h
    split at h
    · omega
    · have h1 := szRu_less r x h0 (by omega)
      have h2 := mkRuL_less l (szRu r x) (mkRu r k) (by omega) h
      simp only [mkRuL, List.length_cons]
      unfold mkRu at h2 ⊢
      omega
theorem mkCs_less (c : Cs) (h : 0 ≤ szCs c 1048576) : 0 ≤ mkCs c 1 ∧ mkCs c 1 ≤ 1099511627776 := by
  have h1 := szL_nice szTh_nice c.fs 1048576 (by omega)
  have h2 := szL_nice szRu_nice c.rs (szL szTh c.fs 1048576)
  have h3 := szL_nice szSd_nice c.ss (szL szRu c.rs (szL szTh c.fs 1048576))
  unfold szCs at h
  split at h
  · omega
  split at h
  · omega
  have h4 := szL_len szTh_nice c.fs 1048576 (by omega) (by omega)
  have h5 := szL_len szRu_nice c.rs (szL szTh c.fs 1048576) (by omega) (by omega)
  rename_i hn
  split at h
  · omega
  have h6 := szL_len szSd_nice c.ss (szL szRu c.rs (szL szTh c.fs 1048576)) (by omega) (by omega)
  have h7 := mkRuL_ge c.rs (1 + 2 * c.fs.length)
  generalize szL szTh c.fs 1048576 = X at *
  have h8 : mkRuL c.rs (1 + 2 * c.fs.length) ≤ (1 + 2 * c.fs.length) + 2 * (X - c.rs.length) + 3 * c.rs.length := by
    refine mkRuL_less c.rs _ _ (by omega) ?_
    unfold szL at hn
    split at hn
    · omega
    · omega
  unfold mkCs
  omega
/-! Equal rows are equal. -/
theorem eqStringS_s (l : List (List UInt8)) : BRet Tryz.prog 26 [] [.d (.sl 1 (txts l)), .d (.sl 1 (txts l))] (.bool true) [] := by
  refine BRet.len 0 (by kernel_rfl) rfl fun hl => ?_
  refine bof Tryz.func26 ?_
  have hll : (txts l).length = l.length := by simp [txts]
  have hli : ∀ i (h : i < l.length), (txts l)[i]? = some (PD.str l[i]) := fun i h => by simp [txts, h]
  generalize txts l = q at *
  refine bgo ?_
  refine b_lp (ι := Nat × Unit) (fun i => [(0, .d (.sl 1 q)), (1, .d (.sl 1 q)), (5, .int i.1)]) (fun _ => []) (fun i => i.1 ≤ l.length) (fun i => l.length - i.1) (0, ()) hs (Nat.zero_le _) ?_
  rintro ⟨i, u⟩ hi I nx
  dsimp only at hi ⊢
  by_cases hlt : i < l.length
  · have hx := hli i hlt
    generalize l[i] = x at *
    have hib : (i : Int) + 1 ≤ 1099511627776000 := by omega
    have hlt2 : i < q.length := by omega
    clear hli
    refine bgo ?_
    exact nx.go (i + 1, ()) hlt (by dsimp only; omega) hs
  · have hlt2 : ¬ i < q.length := by omega
    refine bgo ?_
    refine wk_rfl ?_
    refine bgo ?_
    trivial
theorem eqIntS_s (l : List Int) : BRet Tryz.prog 55 [] [.d (.sl 1 (ints l)), .d (.sl 1 (ints l))] (.bool true) [] := by
  refine BRet.len 0 (by kernel_rfl) rfl fun hl => ?_
  refine bof Tryz.func55 ?_
  have hll : (ints l).length = l.length := by simp [ints]
  have hli : ∀ i (h : i < l.length), (ints l)[i]? = some (PD.int .i64 l[i]) := fun i h => by simp [ints, h]
  generalize ints l = q at *
  refine bgo ?_
  refine b_lp (ι := Nat × Unit) (fun i => [(0, .d (.sl 1 q)), (1, .d (.sl 1 q)), (5, .int i.1)]) (fun _ => []) (fun i => i.1 ≤ l.length) (fun i => l.length - i.1) (0, ()) hs (Nat.zero_le _) ?_
  rintro ⟨i, u⟩ hi I nx
  dsimp only at hi ⊢
  by_cases hlt : i < l.length
  · have hx := hli i hlt
    generalize l[i] = x at *
    have hib : (i : Int) + 1 ≤ 1099511627776000 := by omega
    have hlt2 : i < q.length := by omega
    clear hli
    refine bgo ?_
    exact nx.go (i + 1, ()) hlt (by dsimp only; omega) hs
  · have hlt2 : ¬ i < q.length := by omega
    refine bgo ?_
    refine wk_rfl ?_
    refine bgo ?_
    trivial
/-! Nothing to mark. -/
theorem markStringS_0 (k : Int) (h : 0 ≤ k) (h2 : k ≤ 1099511627776) : BRet Tryz.prog 29 [] [.d (.sl 1 []), .int k] (.int k) [] := by
  refine bof Tryz.func29 ?_
  refine bgo ?_
  refine b_lp (ι := Nat × Unit) (fun i => [(0, .d (.sl 1 [])), (1, .int k), (5, .int i.1)]) (fun _ => []) (fun _ => True) (fun i => 0) (0, ()) hs trivial ?_
  rintro ⟨i, u⟩ - I nx
  dsimp only
  have hlt : ¬ (i : Int) < 0 := by omega
  refine bgo ?_
  refine wk_rfl ?_
  refine bgo ?_
  trivial
theorem markIntS_0 (k : Int) (h : 0 ≤ k) (h2 : k ≤ 1099511627776) : BRet Tryz.prog 56 [] [.d (.sl 1 []), .int k] (.int k) [] := by
  refine bof Tryz.func56 ?_
  refine bgo ?_
  refine b_lp (ι := Nat × Unit) (fun i => [(0, .d (.sl 1 [])), (1, .int k), (5, .int i.1)]) (fun _ => []) (fun _ => True) (fun i => 0) (0, ()) hs trivial ?_
  rintro ⟨i, u⟩ - I nx
  dsimp only
  have hlt : ¬ (i : Int) < 0 := by omega
  refine bgo ?_
  refine wk_rfl ?_
  refine bgo ?_
  trivial
theorem markThesisS_0 (k : Int) (h : 0 ≤ k) (h2 : k ≤ 1099511627776) : BRet Tryz.prog 53 [] [.d (.sl 2 []), .int k] (.int k) [] := by
  refine bof Tryz.func53 ?_
  refine bgo ?_
  refine b_lp (ι := Nat × Unit) (fun i => [(0, .d (.sl 2 [])), (1, .int k), (5, .int i.1)]) (fun _ => []) (fun _ => True) (fun i => 0) (0, ()) hs trivial ?_
  rintro ⟨i, u⟩ - I nx
  dsimp only
  have hlt : ¬ (i : Int) < 0 := by omega
  refine bgo ?_
  refine wk_rfl ?_
  refine bgo ?_
  trivial
theorem heldStringS_0 (k : Int) (h : 0 ≤ k) (h2 : k ≤ 1099511627776) : BRet Tryz.prog 30 [] [.d (.sl 1 []), .int k] (.int k) [] := by
  refine bof Tryz.func30 ?_
  refine bgo ?_
  refine b_lp (ι := Nat × Unit) (fun i => [(0, .d (.sl 1 [])), (1, .int k), (5, .int i.1)]) (fun _ => []) (fun _ => True) (fun i => 0) (0, ()) hs trivial ?_
  rintro ⟨i, u⟩ - I nx
  dsimp only
  have hlt : ¬ (i : Int) < 0 := by omega
  refine bgo ?_
  refine wk_rfl ?_
  refine bgo ?_
  trivial
theorem heldIntS_0 (k : Int) (h : 0 ≤ k) (h2 : k ≤ 1099511627776) : BRet Tryz.prog 57 [] [.d (.sl 1 []), .int k] (.int k) [] := by
  refine bof Tryz.func57 ?_
  refine bgo ?_
  refine b_lp (ι := Nat × Unit) (fun i => [(0, .d (.sl 1 [])), (1, .int k), (5, .int i.1)]) (fun _ => []) (fun _ => True) (fun i => 0) (0, ()) hs trivial ?_
  rintro ⟨i, u⟩ - I nx
  dsimp only
  have hlt : ¬ (i : Int) < 0 := by omega
  refine bgo ?_
  refine wk_rfl ?_
  refine bgo ?_
  trivial
theorem heldThesisS_0 (k : Int) (h : 0 ≤ k) (h2 : k ≤ 1099511627776) : BRet Tryz.prog 54 [] [.d (.sl 2 []), .int k] (.int k) [] := by
  refine bof Tryz.func54 ?_
  refine bgo ?_
  refine b_lp (ι := Nat × Unit) (fun i => [(0, .d (.sl 2 [])), (1, .int k), (5, .int i.1)]) (fun _ => []) (fun _ => True) (fun i => 0) (0, ()) hs trivial ?_
  rintro ⟨i, u⟩ - I nx
  dsimp only
  have hlt : ¬ (i : Int) < 0 := by omega
  refine bgo ?_
  refine wk_rfl ?_
  refine bgo ?_
  trivial
theorem txts_plain (l : List Tx) : ∀ x ∈ flat (txts l), x.plain = true := by
  intro x hx
  obtain ⟨y, hy, hxy⟩ := List.mem_flatMap.1 hx
  obtain ⟨t, _, rfl⟩ := List.mem_map.1 hy
  simp only [PD.cells, List.mem_singleton] at hxy
  subst hxy; rfl
theorem txts_one (l : List Tx) : ∀ x ∈ txts l, x.cells.length = 1 := fun x hx => by obtain ⟨t, _, rfl⟩ := List.mem_map.1 hx; rfl
theorem ints_plain (l : List Int) : ∀ x ∈ flat (ints l), x.plain = true := by
  intro x hx
  obtain ⟨y, hy, hxy⟩ := List.mem_flatMap.1 hx
  obtain ⟨t, _, rfl⟩ := List.mem_map.1 hy
  simp only [PD.cells, List.mem_singleton] at hxy
  subst hxy; rfl
theorem ints_one (l : List Int) : ∀ x ∈ ints l, x.cells.length = 1 := fun x hx => by obtain ⟨t, _, rfl⟩ := List.mem_map.1 hx; rfl
/-! The order of decisions. -/
def decO (c : Cs) : List Tx := if (head c && okI c) = true then (order c).getD [] else []
theorem DecisionOrder_b (c : Cs) : BRet Tryz.prog 25 [] [.agg [.d (.sl 2 (c.fs.map Th.e)), .d (.sl 5 (c.rs.map Ru.e)), .d (.sl 2 (c.ss.map Sd.e))]] (.tup [.own 9 1 (txts (decO c)), .bool (head c && okI c)]) [] := by
  have hd : decO c = if (head c && okI c) = true then (order c).getD [] else [] := rfl
  cases hv : head c && okI c
  · rw [hv, if_neg (by decide)] at hd
    rw [hd]
    refine BRet.less ?_ PLe.tupNil
    refine bof Tryz.func25 ?_
    refine bgo ?_
    refine b_call (IsValidCase_b c) rfl rfl rfl rfl ?_
    rw [hv]
    refine bgo ?_
    trivial
  · have hf := head_fine hv
    obtain ⟨o, ho⟩ := Option.isSome_iff_exists.1 hf.ord
    rw [hv, if_pos rfl, ho] at hd
    replace hd : decO c = o := hd
    have h1 : BRet Tryz.prog 74 [] [.agg [.d (.sl 2 (c.fs.map Th.e)), .d (.sl 5 (c.rs.map Ru.e)), .d (.sl 2 (c.ss.map Sd.e))]] (.tup [.own 9 1 (txts o), .bool true]) [] := by
      have := decisionOrder_b c hf.ru hf.n
      rw [ho] at this
      exact this
    rw [hd]
    refine bof Tryz.func25 ?_
    refine bgo ?_
    refine b_call (IsValidCase_b c) rfl rfl rfl rfl ?_
    rw [hv]
    refine bgo ?_
    refine b_call h1 rfl rfl rfl rfl ?_
    refine bgo ?_
    trivial
theorem specDecisionOrder_b (c : Cs) : BRet Tryz.prog 23 [] [.agg [.d (.sl 2 (c.fs.map Th.e)), .d (.sl 5 (c.rs.map Ru.e)), .d (.sl 2 (c.ss.map Sd.e))]] (.tup [.own 9 1 (txts (decO c)), .bool (head c && okI c)]) [] := by
  have hd : decO c = if (head c && okI c) = true then (order c).getD [] else [] := rfl
  cases hv : head c && okI c
  · rw [hv, if_neg (by decide)] at hd
    rw [hd]
    refine bof Tryz.func23 ?_
    refine bgo ?_
    refine b_call (good_b c) rfl rfl rfl rfl ?_
    rw [hv]
    refine bgo ?_
    rfl
  · have hf := head_fine hv
    obtain ⟨o, ho⟩ := Option.isSome_iff_exists.1 hf.ord
    rw [hv, if_pos rfl, ho] at hd
    replace hd : decO c = o := hd
    have h2 : orderS c = o := (order_fine hf.ne).2 o ho
    have hn2 : (names2 c).length ≤ 1048576 := by rw [← names_eq]; exact Nat.le_trans (srt_len _) hf.n
    have h1 : BRet Tryz.prog 70 [] [.agg [.d (.sl 2 (c.fs.map Th.e)), .d (.sl 5 (c.rs.map Ru.e)), .d (.sl 2 (c.ss.map Sd.e))]] (.own 9 1 (txts o)) [] := by
      have := l23Order_b c hf.n hf.ru hn2
      rw [h2] at this
      exact this
    rw [hd]
    refine bof Tryz.func23 ?_
    refine bgo ?_
    refine b_call (good_b c) rfl rfl rfl rfl ?_
    rw [hv]
    refine bgo ?_
    refine b_call h1 rfl rfl rfl rfl ?_
    refine bgo ?_
    trivial
theorem take3 {x y z : PD} : TakeT (.agg [.dp x, .dp y, .dp z]) (.agg [.q x, .q y, .q z]) := .one _ _ (.agg _ _ (.cons (.dp _) (.cons (.dp _) (.cons (.dp _) .nil))))
theorem lend3q {B : Bx} {x y z : PD} : LendV B (.agg [.q x, .q y, .q z]) (.agg [.d x, .d y, .d z]) := .agg _ _ (.cons (.q _) (.cons (.q _) (.cons (.q _) .nil)))
theorem lend3d {B : Bx} {x y z : PD} : LendV B (.agg [.d x, .d y, .d z]) (.agg [.d x, .d y, .d z]) := .agg _ _ (.cons (.d _) (.cons (.d _) (.cons (.d _) .nil)))
theorem lendD {B : Bx} {x : PD} : LendV B (.d x) (.d x) := .one _ _ (.d _)
theorem lendO {B : Bx} {e sz : Nat} {l : List PD} : LendV B (.own e sz l) (.d (.sl sz l)) := .one _ _ (.own _ _ _)
theorem takeB {x : Bool} : TakeT (.d (.bool x)) (.d (.bool x)) := .one _ _ (.one _ _ (.d _ rfl))
theorem takeI {x : Int} : TakeT (.d (.int .i64 x)) (.d (.int .i64 x)) := .one _ _ (.one _ _ (.d _ rfl))
theorem take0 {e sz : Nat} {x : Bool} : TakeT (.tup [.own e sz [], .d (.bool x)]) (.tup [.d (.sl sz []), .d (.bool x)]) := .tup _ _ (.cons (.one _ _ (.own0 _ _)) (.cons (.one _ _ (.d _ rfl)) .nil))
theorem lendR {B : Bx} {b : BN} {sz n : Nat} {l : List PD} (hb : B b = some (row l)) (hl : l.length = n) (hu : ∀ x ∈ l, x.cells.length = sz) : LendV B (.rsv b sz n) (.d (.sl sz l)) := .one _ _ (.rsv b sz n l [] (by rw [List.append_nil]; exact hb) hl hu)
abbrev caseP (c : Cs) : PV := .agg [.d (.sl 2 (c.fs.map Th.e)), .d (.sl 5 (c.rs.map Ru.e)), .d (.sl 2 (c.ss.map Sd.e))]
abbrev caseZ (c : Cs) : List PV := [.zs (.sl 2 (c.fs.map Th.e)), .zs (.sl 5 (c.rs.map Ru.e)), .zs (.sl 2 (c.ss.map Sd.e))]
abbrev caseDs (c : Cs) : List PV := [.d (.sl 2 (c.fs.map Th.e)), .d (.sl 5 (c.rs.map Ru.e)), .d (.sl 2 (c.ss.map Sd.e))]
theorem lend3o {B : Bx} {a b d e f g : Nat} {x y z : List PD} : LendV B (.agg [.own a d x, .own b e y, .own f g z]) (.agg [.d (.sl d x), .d (.sl e y), .d (.sl g z)]) := .agg _ _ (.cons (.own _ _ _) (.cons (.own _ _ _) (.cons (.own _ _ _) .nil)))
theorem eqCase_s (c : Cs) : BRet Tryz.prog 27 [] [caseP c, caseP c] (.bool true) [] := by
  have := eqCase_b c c
  rwa [decide_eq_true rfl] at this
theorem unq_row (l : List PD) : (row l).map PV.unqC = row l := by
  unfold row
  rw [List.map_map]; rfl
theorem row_pass (l : List PD) : (row l).all PV.pass1 = true := by
  rw [List.all_eq_true]
  intro x hx
  obtain ⟨y, -, rfl⟩ := List.mem_map.1 hx
  rfl
theorem decO_len (c : Cs) (h : 0 ≤ szCs c 1048576) : (decO c).length ≤ 1048576 := by
  unfold decO
  split
  · rename_i hv
    have hf := head_fine hv
    obtain ⟨o, ho⟩ := Option.isSome_iff_exists.1 hf.ord
    rw [ho]
    have h1 := goO_len _ _ _ ho
    have h2 := srt_len (allN c)
    have h3 := hf.n
    simp only [List.length_nil, Nat.zero_add] at h1
    show o.length ≤ _
    omega
  · simp
theorem lawDecisionOrder_b (c : Cs) : BRet Tryz.prog 4 [] [caseP c] (.bool true) [] := by
  refine bofM [13] Tryz.func4 ?_
  refine bgo ?_
  refine b_call (szCase_b c 1048576 (by decide) (by decide)) rfl rfl rfl rfl ?_
  by_cases h : szCs c 1048576 < 0
  · refine bgo ?_
    trivial
  have ho := szCs_ok c (by omega)
  obtain ⟨hm0, hm1⟩ := mkCs_less c (by omega)
  have hmz := markCase_z c 1 (by decide) hm1
  generalize mkCs c 1 = mk1 at *
  have hmn : ¬ mk1 < 0 := by omega
  have hi := DecisionOrder_b c
  have hs' := specDecisionOrder_b c
  have hlen := decO_len c (by omega)
  generalize decO c = l at *
  generalize (head c && okI c) = ok at *
  refine bgo ?_
  refine b_call (toCase_b c ho) rfl rfl rfl rfl ?_
  refine bgo ?_
  refine b_call hs' rfl rfl rfl rfl ?_
  refine bgo ?_
  refine b_look (toCase_q c ho) rfl rfl (fun B => .cons lend3d .nil) take3 ?_
  refine bgo ?_
  by_cases hl : l = []
  · subst hl
    refine b_look hi rfl rfl (fun B => .cons lend3q .nil) take0 ?_
    refine bgo ?_
    refine b_call (eqStringS_s []) rfl rfl rfl rfl ?_
    refine bgo ?_
    refine b_call (toCase_b c ho) rfl rfl rfl rfl ?_
    refine bgo ?_
    refine b_look (eqCase_s c) rfl rfl (fun B => .cons lend3q (.cons lend3o .nil)) takeB ?_
    refine bgo ?_
    refine wk_unq [(1, .ptr (.t 1) 0), (4, .d (.sl 1 (txts []))), (5, .bool ok), (6, .ptr (.t 6) 0), (7, .d (.sl 1 [])), (8, .bool ok), (9, .int 1)] [(.t 1, caseDs c), (.t 6, caseZ c)] hs ?_
    refine bgo ?_
    refine b_writes hmz rfl rfl rfl rfl ?_
    refine bgo ?_
    refine b_call (eqStringS_s []) rfl rfl rfl rfl ?_
    refine bgo ?_
    refine b_call (markStringS_0 1 (by decide) (by decide)) rfl rfl rfl rfl ?_
    refine bgo ?_
    refine b_call (heldStringS_0 1 (by decide) (by decide)) rfl rfl rfl rfl ?_
    refine bgo ?_
    refine b_call (toCase_b c ho) rfl rfl rfl rfl ?_
    refine bgo ?_
    refine b_call hi rfl rfl rfl rfl ?_
    refine bgo ?_
    refine b_call (eqStringS_s []) rfl rfl rfl rfl ?_
    refine bgo ?_
    refine b_call (heldStringS_0 1 (by decide) (by decide)) rfl rfl rfl rfl ?_
    refine bgo ?_
    trivial
  · have hmr := markStringS_r l 1 (by decide) (by omega)
    have hhb := heldStringS_b l.length 1 (by decide) (by omega)
    have hmk : (mkS l.length 1).length = l.length := by simp [mkS]
    generalize mkS l.length 1 = m at *
    have hmn2 : ¬ ((1 : Int) + l.length < 0) := by omega
    have hll : (txts l).length = l.length := by simp [txts]
    refine b_boxed 99 hi .one rfl rfl rfl (fun B => .cons lend3q .nil) rfl (by simpa [txts] using hl) (txts_plain l) rfl ?_
    refine bgo ?_
    refine b_lookb (eqStringS_s l) rfl rfl rfl (.cons (lendR rfl (by first | rfl | exact hll) (txts_one l)) (.cons lendD .nil)) takeB ?_
    refine bgo ?_
    refine b_call (toCase_b c ho) rfl rfl rfl rfl ?_
    refine bgo ?_
    refine b_look (eqCase_s c) rfl rfl (fun B => .cons lend3q (.cons lend3o .nil)) takeB ?_
    refine bgo ?_
    refine wk_unq [(1, .ptr (.t 1) 0), (4, .d (.sl 1 (txts l))), (5, .bool ok), (6, .ptr (.t 6) 0), (7, .rsv (.t 99) 1 l.length), (8, .bool ok), (9, .int 1)] [(.t 1, caseDs c), (.t 6, caseZ c), (.t 99, row (txts l))] ⟨⟨⟨PLe.rfl, rfl⟩, ⟨PLe.own, rfl⟩, ⟨PLe.rfl, rfl⟩, ⟨PLe.rfl, rfl⟩, ⟨PLe.eq (by first | rfl | exact congrArg (PV.rsv (.t 99) 1) hll), rfl⟩, ⟨PLe.rfl, rfl⟩, ⟨PLe.rfl, rfl⟩, trivial⟩, ⟨_, rfl, HasC.same rfl⟩, ⟨_, rfl, HasC.same rfl⟩, ⟨_, rfl, HasC.of (unq_row _) (row_ok _ _)⟩, trivial⟩ ?_
    refine bgo ?_
    refine b_writes hmz rfl rfl rfl rfl ?_
    refine bgo ?_
    refine b_lookb (eqStringS_s l) rfl rfl rfl (.cons (lendR rfl (by simp [txts]) (txts_one l)) (.cons lendD .nil)) takeB ?_
    refine bgo ?_
    refine b_callr hmr rfl rfl (row_pass _) (row_gives _ trivial) rfl rfl rfl rfl rfl ?_
    refine bgo ?_
    refine b_lookb hhb rfl rfl rfl (.cons (lendR rfl (by simp [txts, hmk]) (txts_one m)) (.cons lendD .nil)) takeI ?_
    refine bgo ?_
    refine b_call (toCase_b c ho) rfl rfl rfl rfl ?_
    refine bgo ?_
    refine b_call hi rfl rfl rfl rfl ?_
    refine bgo ?_
    refine b_call (eqStringS_s l) rfl rfl rfl rfl ?_
    refine bgo ?_
    refine b_lookb hhb rfl rfl rfl (.cons (lendR rfl (by simp [txts, hmk]) (txts_one m)) (.cons lendD .nil)) takeI ?_
    refine bgo ?_
    trivial
end Go.Bee.Ml
