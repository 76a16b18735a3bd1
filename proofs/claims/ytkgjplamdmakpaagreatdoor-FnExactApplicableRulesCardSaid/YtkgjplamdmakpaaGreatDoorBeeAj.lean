/- Chapter 23: the accepted theses and a statement's status, as the code reckons them. -/
import Derived.Test.YtkgjplamdmakpaaGreatDoorBeeAi
namespace Go.Bee.C23a
open Go Go.Bee Go.Proofs Go.Bee.Ty Go.Bee.C23 Go.Bee.C23s
set_option linter.unusedVariables false
set_option maxRecDepth 20000
attribute [local irreducible] Go.Bee.bwp vName
def both (n : List UInt8) : List Th := [⟨n, false⟩, ⟨n, true⟩]
def found (out : List Th) : Option Th → List Th
  | none => out
  | some t => out ++ [t]
theorem step_find (c : Cs) (out : List Th) (n : List UInt8) : stepI c out n = found out ((both n).find? (takesI c out)) := by
  unfold stepI both
  rw [List.find?_cons, List.find?_cons, List.find?_nil]
  cases takesI c out ⟨n, false⟩ <;> cases takesI c out ⟨n, true⟩ <;> rfl
theorem find_step1 {α : Type} {p : α → Bool} {l : List α} {k : Nat} (hk : k < l.length) : (l.drop k).find? p = if p l[k] = true then some l[k] else (l.drop (k + 1)).find? p := by
  rw [List.drop_eq_getElem_cons hk, List.find?_cons]
  cases p l[k] <;> simp
theorem step_len (c : Cs) (out : List Th) (n : List UInt8) : (stepI c out n).length ≤ out.length + 1 := by
  unfold stepI; split
  · simp
  · split <;> simp
theorem append_th (out : List Th) (t : Th) : out.map Th.e ++ [.agg [.str t.n, .bool t.g]] = (out ++ [t]).map Th.e := by rw [List.map_append]; rfl
theorem accepted_len (c : Cs) : ∀ (o : List Tx) (out : List Th), (o.foldl (stepI c) out).length ≤ out.length + o.length
  | [], out => Nat.le_refl _
  | n :: o, out => by
    have h1 := accepted_len c o (stepI c out n)
    have h2 := step_len c out n
    simp only [List.foldl_cons, List.length_cons]; omega
theorem goO_len {c : Cs} {names : List Tx} : ∀ (n : Nat) (out o : List Tx), goO c names n out = some o → o.length = out.length + n
  | 0, out, o, h => by simp [goO] at h; rw [h]; rfl
  | n + 1, out, o, h => by
    unfold goO at h
    split at h
    · cases h
    · have := goO_len n _ o h
      simp at this; omega
theorem acceptedTheses_b (c : Cs) (h : Fine c) : BRet Tryz.prog 60 [] [.agg [.d (.sl 2 (c.fs.map Th.e)), .d (.sl 5 (c.rs.map Ru.e)), .d (.sl 2 (c.ss.map Sd.e))]] (.own 30 2 ((accI c).map Th.e)) [] := by
  refine bof Tryz.func60 ?_
  refine bgo ?_
  obtain ⟨o, ho⟩ := Option.isSome_iff_exists.1 h.ord
  have hd := decisionOrder_b c h.ru h.n
  rw [ho] at hd
  refine b_call hd rfl rfl rfl rfl ?_
  have hol : o.length ≤ 1048576 := by
    have := goO_len _ _ _ (show goO c (srt (allN c)) (srt (allN c)).length [] = some o from ho)
    have h2 := srt_len (allN c)
    have h3 := h.n
    simp at this; omega
  have hacc : o.foldl (stepI c) [] = accI c := by unfold accI; rw [ho]
  generalize accI c = res at *
  unfold orderV
  refine bgo ?_
  refine b_lp (ι := Nat × List Th) (fun i => [(1, .ptr (.t 1) 0), (5, .own 30 2 (i.2.map Th.e)), (20, .d (.sl 1 (o.map .str))), (21, .int o.length), (22, .int i.1)]) (fun _ => [(.t 1, [.d (.sl 2 (c.fs.map Th.e)), .d (.sl 5 (c.rs.map Ru.e)), .d (.sl 2 (c.ss.map Sd.e))])])
    (fun i => i.1 ≤ o.length ∧ i.2.length ≤ i.1 ∧ (o.drop i.1).foldl (stepI c) i.2 = res) (fun i => o.length - i.1) (0, []) hs ⟨Nat.zero_le _, Nat.le_refl _, hacc⟩ ?_
  clear hacc ho hd
  rintro ⟨k, out⟩ ⟨hk, hl, hj⟩ I nx
  dsimp only at hk hl hj ⊢
  by_cases hlt : k < o.length
  · have hx : o[k]? = some o[k] := List.getElem?_eq_getElem hlt
    rw [List.drop_eq_getElem_cons hlt, List.foldl_cons] at hj
    have hsl := step_len c out o[k]
    rw [step_find] at hj hsl
    have hout : out.length ≤ 1048576 := by omega
    have hj2 := hj
    clear hj
    refine bgo ?_
    refine b_lp (ι := Nat) (fun j => [(1, .ptr (.t 1) 0), (5, .own 30 2 (out.map Th.e)), (20, .d (.sl 1 (o.map .str))), (21, .int o.length), (22, .int k), (32, .own 30 2 ((both o[k]).map Th.e)), (33, .int (both o[k]).length), (34, .int j)]) (fun _ => [(.t 1, [.d (.sl 2 (c.fs.map Th.e)), .d (.sl 5 (c.rs.map Ru.e)), .d (.sl 2 (c.ss.map Sd.e))])])
      (fun j => j ≤ (both o[k]).length ∧ ((both o[k]).drop j).find? (takesI c out) = (both o[k]).find? (takesI c out)) (fun j => (both o[k]).length - j) 0 hs ⟨Nat.zero_le _, rfl⟩ ?_
    rintro j ⟨hjk, hf⟩ I2 nx2
    have hbl : (both o[k]).length ≤ 1048576 := by show 2 ≤ _; omega
    generalize (both o[k]) = l2 at *
    by_cases hjt : j < l2.length
    · have hy : l2[j]? = some l2[j] := List.getElem?_eq_getElem hjt
      rw [find_step1 hjt] at hf
      have hf2 := hf
      clear hf
      generalize l2[j] = t at *
      have hta : takesI c out t = (c.fs.contains t || (!(c.fs.contains t || c.fs.contains (opp t)) && convI c out t && !convI c out (opp t))) := rfl
      generalize takesI c out t = tk at *
      have hyes : tk = true → found out (l2.find? (takesI c out)) = out ++ [t] := fun e => by rw [← hf2, if_pos e]; rfl
      have hno : tk = false → List.find? (takesI c out) (List.drop (j + 1) l2) = List.find? (takesI c out) l2 := fun e => by rw [← hf2, if_neg (by simp [e])]
      generalize hfo : found out (l2.find? (takesI c out)) = nout at *
      generalize hg1 : List.find? (takesI c out) l2 = fnd at *
      clear hf2
      refine bgo ?_
      refine b_call (opposite_b t) rfl rfl rfl rfl ?_
      refine bgo ?_
      refine b_call (containsTh_b c.fs t) rfl rfl rfl rfl ?_
      cases ha : c.fs.contains t
      · rw [ha] at hta
        refine bgo ?_
        refine b_call (containsTh_b c.fs (opp t)) rfl rfl rfl rfl ?_
        cases hb : c.fs.contains (opp t)
        · rw [hb] at hta
          refine bgo ?_
          refine b_call (containsTh_b c.fs t) rfl rfl rfl rfl ?_
          rw [ha]
          refine bgo ?_
          refine b_call (isConvincing_b c t out h.wt) rfl rfl rfl rfl ?_
          cases hc1 : convI c out t
          · rw [hc1] at hta
            have := hno (by rw [hta]; rfl)
            clear hyes hno hta
            refine bgo ?_
            exact nx2.go (j + 1) ⟨hjt, this⟩ (by omega) hs
          · rw [hc1] at hta
            refine bgo ?_
            refine b_call (isConvincing_b c (opp t) out h.wt) rfl rfl rfl rfl ?_
            cases hc2 : convI c out (opp t)
            · rw [hc2] at hta
              have := hyes (by rw [hta]; rfl)
              clear hyes hno hta
              subst this
              refine bgo ?_
              rw [append_th]
              refine wk_mk [(1, .ptr (.t 1) 0), (5, .own 30 2 ((out ++ [t]).map Th.e)), (20, .d (.sl 1 (o.map .str))), (21, .int o.length), (22, .int k)] [(.t 1, [.d (.sl 2 (c.fs.map Th.e)), .d (.sl 5 (c.rs.map Ru.e)), .d (.sl 2 (c.ss.map Sd.e))])] hs ?_
              refine bgo ?_
              exact nx.go (k + 1, out ++ [t]) ⟨hlt, by simp; omega, hj2⟩ (by dsimp only; omega) hs
            · rw [hc2] at hta
              have := hno (by rw [hta]; rfl)
              clear hyes hno hta
              refine bgo ?_
              exact nx2.go (j + 1) ⟨hjt, this⟩ (by omega) hs
        · rw [hb] at hta
          have := hno (by rw [hta]; rfl)
          clear hyes hno hta
          refine bgo ?_
          refine b_call (containsTh_b c.fs t) rfl rfl rfl rfl ?_
          rw [ha]
          refine bgo ?_
          exact nx2.go (j + 1) ⟨hjt, this⟩ (by omega) hs
      · rw [ha] at hta
        have := hyes (by rw [hta]; rfl)
        clear hyes hno hta
        subst this
        refine bgo ?_
        refine b_call (containsTh_b c.fs t) rfl rfl rfl rfl ?_
        rw [ha]
        refine bgo ?_
        rw [append_th]
        refine wk_mk [(1, .ptr (.t 1) 0), (5, .own 30 2 ((out ++ [t]).map Th.e)), (20, .d (.sl 1 (o.map .str))), (21, .int o.length), (22, .int k)] [(.t 1, [.d (.sl 2 (c.fs.map Th.e)), .d (.sl 5 (c.rs.map Ru.e)), .d (.sl 2 (c.ss.map Sd.e))])] hs ?_
        refine bgo ?_
        exact nx.go (k + 1, out ++ [t]) ⟨hlt, by simp; omega, hj2⟩ (by dsimp only; omega) hs
    · have hj' : j = l2.length := by omega
      subst hj'
      rw [List.drop_length] at hf
      rw [← hf] at hj2
      have hj3 : List.foldl (stepI c) out (List.drop (k + 1) o) = res := hj2
      clear hf hj2 hsl nx2
      refine bgo ?_
      refine wk_mk [(1, .ptr (.t 1) 0), (5, .own 30 2 (out.map Th.e)), (20, .d (.sl 1 (o.map .str))), (21, .int o.length), (22, .int k)] [(.t 1, [.d (.sl 2 (c.fs.map Th.e)), .d (.sl 5 (c.rs.map Ru.e)), .d (.sl 2 (c.ss.map Sd.e))])] hs ?_
      refine bgo ?_
      exact nx.go (k + 1, out) ⟨hlt, by dsimp only; omega, hj3⟩ (by dsimp only; omega) hs
  · have hk' : k = o.length := by omega
    subst hk'
    rw [List.drop_length] at hj
    have hm : out = res := hj
    subst hm
    refine bgo ?_
    refine wk_rfl ?_
    refine bgo ?_
    trivial
def statusF (acc : List Th) (n : List UInt8) : Int := if acc.contains ⟨n, false⟩ = true then 1 else if acc.contains ⟨n, true⟩ = true then 2 else 3
theorem statusOf_b (c : Cs) (n : List UInt8) (h : Fine c) : BRet Tryz.prog 66 [] [.agg [.d (.sl 2 (c.fs.map Th.e)), .d (.sl 5 (c.rs.map Ru.e)), .d (.sl 2 (c.ss.map Sd.e))], .str n] (.int (statusF (accI c) n)) [] := by
  refine bof Tryz.func66 ?_
  refine bgo ?_
  refine b_call (acceptedTheses_b c h) rfl rfl rfl rfl ?_
  generalize accI c = acc
  unfold statusF
  refine bgo ?_
  refine b_call (containsTh_b acc ⟨n, false⟩) rfl rfl rfl rfl ?_
  cases ha : acc.contains ⟨n, false⟩
  · refine bgo ?_
    refine b_call (containsTh_b acc ⟨n, true⟩) rfl rfl rfl rfl ?_
    cases hb : acc.contains ⟨n, true⟩
    · refine bgo ?_
      trivial
    · refine bgo ?_
      trivial
  · refine bgo ?_
    trivial
theorem StatusOf_b (c : Cs) (n : List UInt8) : BRet Tryz.prog 21 [] [.agg [.d (.sl 2 (c.fs.map Th.e)), .d (.sl 5 (c.rs.map Ru.e)), .d (.sl 2 (c.ss.map Sd.e))], .str n]
    (.tup [.int (if (head c && okI c && vName n) = true then statusF (accI c) n else 0), .bool (head c && okI c && vName n)]) [] := by
  refine bof Tryz.func21 ?_
  refine bgo ?_
  refine b_call (IsValidCase_b c) rfl rfl rfl rfl ?_
  cases hv : head c && okI c
  · refine bgo ?_
    trivial
  · have hf := head_fine hv
    refine bgo ?_
    refine b_call (IsValidName_b n) rfl rfl rfl rfl ?_
    cases hn : vName n
    · refine bgo ?_
      trivial
    · refine bgo ?_
      refine b_call (statusOf_b c n hf) rfl rfl rfl rfl ?_
      refine bgo ?_
      trivial
theorem WeightsOf_b (c : Cs) (t : Th) : BRet Tryz.prog 41 [] [.agg [.d (.sl 2 (c.fs.map Th.e)), .d (.sl 5 (c.rs.map Ru.e)), .d (.sl 2 (c.ss.map Sd.e))], .agg [.str t.n, .bool t.g]]
    (.tup [.int (if (head c && okI c && vName t.n) = true then wt c (accI c) t else 0), .int (if (head c && okI c && vName t.n) = true then wt c (accI c) (opp t) else 0), .bool (head c && okI c && vName t.n)]) [] := by
  refine bof Tryz.func41 ?_
  refine bgo ?_
  refine b_call (IsValidCase_b c) rfl rfl rfl rfl ?_
  cases hv : head c && okI c
  · refine bgo ?_
    trivial
  · have hf := head_fine hv
    refine bgo ?_
    refine b_call (IsValidName_b t.n) rfl rfl rfl rfl ?_
    cases hn : vName t.n
    · refine bgo ?_
      trivial
    · refine bgo ?_
      refine b_call (acceptedTheses_b c hf) rfl rfl rfl rfl ?_
      generalize accI c = acc
      refine bgo ?_
      refine b_call (greatestWeight_b c t acc) rfl rfl rfl rfl ?_
      refine bgo ?_
      refine b_call (opposite_b t) rfl rfl rfl rfl ?_
      refine bgo ?_
      refine b_call (greatestWeight_b c (opp t) acc) rfl rfl rfl rfl ?_
      refine bgo ?_
      trivial
end Go.Bee.C23a
