/- Chapter 23: the model's ready. -/
import Derived.Test.YtkgjplamdmakpaaGreatDoorBeeSp
namespace Go.Bee.C23s
open Go Go.Bee Go.Proofs Go.Bee.Ty Go.Bee.C23
set_option linter.unusedVariables false
set_option maxRecDepth 20000
attribute [local irreducible] Go.Bee.bwp vName
def allIn (list : List (List UInt8)) (l : List Th) : Bool := l.all fun t => list.contains t.n
theorem waits_eq (list : List (List UInt8)) (name : List UInt8) (r : Ru) : waits list name r = (r.c.n == name && !(allIn list r.ps && allIn list r.es)) := by
  unfold waits nb allIn
  rw [List.any_map, List.any_append, List.any_eq_not_all_not, List.any_eq_not_all_not]
  simp
theorem l23Ready_b (c : Cs) (hc : ∀ r ∈ c.rs, RuOk r) (name : List UInt8) (list : List (List UInt8)) : BRet Tryz.prog 116 [] [.agg [.d (.sl 2 (c.fs.map Th.e)), .d (.sl 5 (c.rs.map Ru.e)), .d (.sl 2 (c.ss.map Sd.e))], .str name, .d (.sl 1 (list.map .str))] (.bool (!c.rs.any (waits list name))) [] := by
  refine BRet.alen 0 1 (by kernel_rfl) rfl rfl fun hl => ?_
  refine bof Tryz.func116 ?_
  simp only [List.length_map] at hl
  generalize hr : (!c.rs.any (waits list name)) = res
  refine bgo ?_
  refine b_loop (fun n st => ∃ k : Nat, n = c.rs.length - k ∧ k ≤ c.rs.length ∧ st.tm 1 = .str name ∧ st.tm 2 = .d (.sl 1 (list.map .str)) ∧ st.tm 3 = .ptr (.t 3) 0 ∧ st.tm 7 = .int k ∧ (c.rs.take k).any (waits list name) = false ∧
      st.bx (.t 3) = some [.d (.sl 2 (c.fs.map Th.e)), .d (.sl 5 (c.rs.map Ru.e)), .d (.sl 2 (c.ss.map Sd.e))] ∧ ∀ b, b ≠ .t 3 → st.bx b = none) c.rs.length ⟨0, rfl, Nat.zero_le _, rfl, rfl, rfl, rfl, rfl, rfl, fun b hb => by simp [bx_put, bx_strip1, bx_sbx, bx_init, bxOf_nil, hb]⟩ ?_
  rintro n st ⟨k, rfl, hk, t1, t2, t3, t7, hj, b3, hb⟩
  have b8 := hb (.t 8) (by simp)
  have ba : ∀ k, st.bx (.a k) = none := fun k => hb _ (by simp)
  by_cases hlt : k < c.rs.length
  · have hx : c.rs[k]? = some c.rs[k] := List.getElem?_eq_getElem hlt
    have hstep : waits list name c.rs[k] = false → (c.rs.take (k + 1)).any (waits list name) = false := fun h => by
      rw [List.take_succ_eq_append_getElem hlt, List.any_append, hj]; simp [h]
    clear hj
    cases hn : c.rs[k].c.n == name
    · have hw : waits list name c.rs[k] = false := by simp [waits, hn]
      have hs := hstep hw
      have hnn : ¬ c.rs[k].c.n = name := by simpa using hn
      clear hstep hw hr hn
      refine bgo ?_
      refine ⟨_, _, Weak.drop (.t 8), by omega, k + 1, rfl, hlt, ?_, ?_, ?_, rfl, hs, ?_, fun b hne => ?_⟩
      · show (st.tm 1).kill _ = _; rw [t1]; rfl
      · show (st.tm 2).kill _ = _; rw [t2]; rfl
      · show (st.tm 3).kill _ = _; rw [t3]; rfl
      · rw [bx_drop]; simp only [bx_put, bx_strip1, bx_sbx, BN.t.injEq, Nat.reduceEqDiff, if_false, b3]; rfl
      · rw [bx_drop]
        split
        · rfl
        · rename_i h5; simp [bx_put, bx_strip1, bx_sbx, h5, hb b hne]
    · have hnn : c.rs[k].c.n = name := by simpa using hn
      obtain ⟨hp, he⟩ := hc _ (List.getElem_mem hlt)
      have hbad : (allIn list c.rs[k].ps && allIn list c.rs[k].es) = false → res = false := fun h => by
        rw [← hr]
        have : c.rs.any (waits list name) = true := List.any_eq_true.2 ⟨c.rs[k], List.getElem_mem hlt, by rw [waits_eq, h, hnn]; simp⟩
        rw [this]; rfl
      have hgood : allIn list c.rs[k].ps = true → allIn list c.rs[k].es = true → (c.rs.take (k + 1)).any (waits list name) = false := fun h1 h2 => hstep (by rw [waits_eq, h1, h2]; simp)
      clear hr hn hstep
      refine bgo ?_
      generalize c.rs[k].ps = ps at *
      refine b_loop (fun n st => ∃ j : Nat, n = ps.length - j ∧ j ≤ ps.length ∧ st.tm 1 = .str name ∧ st.tm 2 = .d (.sl 1 (list.map .str)) ∧ st.tm 3 = .ptr (.t 3) 0 ∧ st.tm 7 = .int k ∧ st.tm 8 = .ptr (.t 8) 0 ∧ st.tm 9 = .int j ∧ allIn list (ps.take j) = true ∧
        st.bx (.t 3) = some [.d (.sl 2 (c.fs.map Th.e)), .d (.sl 5 (c.rs.map Ru.e)), .d (.sl 2 (c.ss.map Sd.e))] ∧ st.bx (.t 8) = some [.d (.sl 2 (ps.map Th.e)), .d (.sl 2 (c.rs[k].es.map Th.e)), .str name, .bool c.rs[k].c.g, .int c.rs[k].wt] ∧ ∀ b, b ≠ .t 3 → b ≠ .t 8 → st.bx b = none) ps.length ⟨0, rfl, Nat.zero_le _, t1, t2, t3, t7, rfl, rfl, rfl, ?_, ?_, fun b h3 h8 => ?_⟩ ?_
      · simpa [bx_put, bx_strip1, bx_sbx] using b3
      · rfl
      · simpa [bx_put, bx_strip1, bx_sbx, h8] using hb b h3
      clear t1 t2 t3 t7 b3 b8 hb ba st
      rintro n st ⟨j, rfl, hjl, t1, t2, t3, t7, t8, t9, hin, b3, b8, hb⟩
      have ba : ∀ k, st.bx (.a k) = none := fun k => hb _ (by simp) (by simp)
      by_cases hjt : j < ps.length
      · have hy : ps[j]? = some ps[j] := List.getElem?_eq_getElem hjt
        clear hgood
        refine bgo ?_
        refine b_call (l5Has_b list ps[j].n) rfl rfl rfl rfl ?_
        cases hs : list.contains ps[j].n
        · have hres := hbad (by simp only [allIn, all_bad (p := fun t : Th => list.contains t.n) hjt hs, Bool.false_and])
          subst hres
          clear hbad hin
          refine bgo ?_
          trivial
        · have hin2 := all_step (p := fun t : Th => list.contains t.n) hjt hin hs
          clear hbad hin
          refine bgo ?_
          exact ⟨_, _, Weak.refl _, by omega, j + 1, rfl, hjt, t1, t2, t3, t7, t8, rfl, hin2, b3, b8, hb⟩
      · have hj' : j = ps.length := by omega
        subst hj'
        rw [List.take_length] at hin
        have hgood2 := hgood hin
        have hbad2 : allIn list c.rs[k].es = false → res = false := fun h => hbad (by rw [h, Bool.and_false])
        clear hgood hbad hin
        refine bgo ?_
        refine wk_rfl ?_
        refine bgo ?_
        generalize c.rs[k].es = es at *
        refine b_loop (fun n st => ∃ j : Nat, n = es.length - j ∧ j ≤ es.length ∧ st.tm 1 = .str name ∧ st.tm 2 = .d (.sl 1 (list.map .str)) ∧ st.tm 3 = .ptr (.t 3) 0 ∧ st.tm 7 = .int k ∧ st.tm 8 = .ptr (.t 8) 0 ∧ st.tm 10 = .int j ∧ allIn list (es.take j) = true ∧
          st.bx (.t 3) = some [.d (.sl 2 (c.fs.map Th.e)), .d (.sl 5 (c.rs.map Ru.e)), .d (.sl 2 (c.ss.map Sd.e))] ∧ st.bx (.t 8) = some [.d (.sl 2 (ps.map Th.e)), .d (.sl 2 (es.map Th.e)), .str name, .bool c.rs[k].c.g, .int c.rs[k].wt] ∧ ∀ b, b ≠ .t 3 → b ≠ .t 8 → st.bx b = none) es.length
          ⟨0, rfl, Nat.zero_le _, t1, t2, t3, t7, t8, rfl, rfl, b3, b8, hb⟩ ?_
        clear t1 t2 t3 t7 t8 t9 b3 b8 hb ba st
        rintro n st ⟨j, rfl, hjl, t1, t2, t3, t7, t8, t10, hin, b3, b8, hb⟩
        have ba : ∀ k, st.bx (.a k) = none := fun k => hb _ (by simp) (by simp)
        by_cases hjt : j < es.length
        · have hy : es[j]? = some es[j] := List.getElem?_eq_getElem hjt
          clear hgood2
          refine bgo ?_
          refine b_call (l5Has_b list es[j].n) rfl rfl rfl rfl ?_
          cases hs : list.contains es[j].n
          · have hres := hbad2 (by simp only [allIn, all_bad (p := fun t : Th => list.contains t.n) hjt hs])
            subst hres
            clear hbad2 hin
            refine bgo ?_
            trivial
          · have hin2 := all_step (p := fun t : Th => list.contains t.n) hjt hin hs
            clear hbad2 hin
            refine bgo ?_
            exact ⟨_, _, Weak.refl _, by omega, j + 1, rfl, hjt, t1, t2, t3, t7, t8, rfl, hin2, b3, b8, hb⟩
        · have hj' : j = es.length := by omega
          subst hj'
          rw [List.take_length] at hin
          have hs := hgood2 hin
          clear hgood2 hbad2 hin
          refine bgo ?_
          refine wk_rfl ?_
          refine bgo ?_
          refine ⟨_, _, Weak.drop (.t 8), by omega, k + 1, rfl, hlt, ?_, ?_, ?_, rfl, hs, ?_, fun b hne => ?_⟩
          · show (st.tm 1).kill _ = _; rw [t1]; rfl
          · show (st.tm 2).kill _ = _; rw [t2]; rfl
          · show (st.tm 3).kill _ = _; rw [t3]; rfl
          · rw [bx_drop]; simp only [bx_put, bx_strip1, bx_sbx, BN.t.injEq, Nat.reduceEqDiff, if_false, b3]; rfl
          · rw [bx_drop]
            split
            · rfl
            · rename_i h5; simp [bx_put, bx_strip1, bx_sbx, hb b hne h5]
  · have hk' : k = c.rs.length := by omega
    subst hk'
    rw [List.take_length] at hj
    have hres : res = true := by rw [← hr, hj]; rfl
    subst hres
    clear hr
    refine bgo ?_
    refine wk_rfl ?_
    refine bgo ?_
    trivial
end Go.Bee.C23s
