/- Chapter 23: marks. -/
import Derived.Test.YtkgjplamdmakpaaGreatDoorBeeV
import Derived.Test.YtkgjplamdmakpaaGreatDoorBeeMq
namespace Go.Bee.Mt
open Go Go.Bee Go.Proofs Go.Bee.Ty
theorem sU1 : ∀ (x : Int), evBuildSlice Tryz.prog 22 1 [(0, .d (.int .u8 x))] = some (.own 5 1 [.int .u8 x]) := fun x => by kernel_rfl
theorem cvI : ∀ (n : Int), evConv Tryz.prog 5 (.d (.int .i64 n)) = some (.d (.int .u8 (IntKind.u8.wrap n))) := fun n => by kernel_rfl
def opt (b : Bool) (x : PV) : Option PV := if b = true then some x else none
theorem cvS0 : ∀ (x : Int), evConv2 Tryz.prog 22 9 (.own 5 1 [.int .u8 x]) = (u8s [.int .u8 x]).bind fun bs => some (.d (.str bs)) := fun x => by kernel_rfl
theorem cvS (x : Int) (h : 0 ≤ x) (h2 : x < 256) : evConv2 Tryz.prog 22 9 (.own 5 1 [.int .u8 x]) = some (.d (.str [UInt8.ofNat x.toNat])) := by
  rw [cvS0]
  unfold u8s
  rw [if_pos ⟨h, h2⟩]; rfl
theorem tys : type_of% (And.intro Go.Bee.C23.tys (And.intro sU1 cvI)) := And.intro Go.Bee.C23.tys (And.intro sU1 cvI)
end Go.Bee.Mt
namespace Go.Bee.Mt
open Go Go.Bee Go.Proofs Go.Bee.Ty Go.Bee.C23
set_option linter.unusedVariables false
set_option maxRecDepth 20000
attribute [local irreducible] Go.Bee.bwp
def digs : Nat → Nat → List UInt8 → List UInt8
  | 0, _, acc => acc
  | f + 1, n, acc => if 0 < n then digs f (n / 10) (UInt8.ofNat (48 + ((n % 10 : Nat) : Int)).toNat :: acc) else acc
def mkT (k : Int) : List UInt8 := if k ≤ 0 then [109, 48] else 109 :: digs k.toNat k.toNat []
theorem markText_b (k : Int) (hk : k ≤ 1099511627776) : BRet Tryz.prog 79 [] [.int k] (.str (mkT k)) [] := by
  refine bof Tryz.func79 ?_
  by_cases h0 : k ≤ 0
  · have e : mkT k = [109, 48] := if_pos h0
    rw [e]
    refine bgo ?_
    trivial
  · have e : mkT k = 109 :: digs k.toNat k.toNat [] := if_neg h0
    rw [e]
    clear e
    obtain ⟨n, rfl⟩ : ∃ n : Nat, k = n := ⟨k.toNat, by omega⟩
    rw [show ((n : Int)).toNat = n from rfl]
    generalize hr : digs n n [] = res
    refine bgo ?_
    refine b_lp (ι := Nat × Nat × List UInt8) (fun i => [(0, .int i.2.1), (3, .str i.2.2)]) (fun _ => []) (fun i => i.2.1 ≤ i.1 ∧ digs i.1 i.2.1 i.2.2 = res ∧ i.2.2.length + i.2.1 ≤ n) (fun i => i.2.1) (n, n, []) hs ⟨Nat.le_refl _, hr, by simp⟩ ?_
    clear hr
    rintro ⟨f, m, acc⟩ ⟨hf, hd, hl⟩ I nx
    dsimp only at hf hd hl ⊢
    by_cases hm : 0 < m
    · have hgt : (m : Int) > 0 := by omega
      obtain ⟨f, rfl⟩ : ∃ f', f = f' + 1 := ⟨f - 1, by omega⟩
      rw [show digs (f + 1) m acc = digs f (m / 10) (UInt8.ofNat (48 + ((m % 10 : Nat) : Int)).toNat :: acc) from if_pos hm] at hd
      have hq : (m : Int).tdiv 10 = ((m / 10 : Nat) : Int) := by rw [Int.tdiv_eq_ediv_of_nonneg (by omega)]; omega
      have ht : (m : Int).tmod 10 = ((m % 10 : Nat) : Int) := by rw [Int.tmod_eq_emod_of_nonneg (by omega)]; omega
      have hw : IntKind.u8.wrap (48 + ((m % 10 : Nat) : Int)) = 48 + ((m % 10 : Nat) : Int) := by
        exact IntWalk.u8_in _ ⟨by omega, by omega⟩
      have hc := cvS (48 + ((m % 10 : Nat) : Int)) (by omega) (by omega)
      have h10 : ¬ ((10 : Int) = 0) := by decide
      have h7 : m / 10 < m := by omega
      have h8 : acc.length + 1 + m / 10 ≤ n := by omega
      have h9 : m / 10 ≤ f := by omega
      have h11 : 1 + acc.length ≤ 140737488355328 := by omega
      refine bgo ?_
      exact nx.go (f, m / 10, UInt8.ofNat (48 + ((m % 10 : Nat) : Int)).toNat :: acc) ⟨h9, hd, by simp; omega⟩ h7 hs
    · have hm0 : m = 0 := by omega
      subst hm0
      have hd2 : digs f 0 acc = acc := by cases f <;> rfl
      rw [hd2] at hd
      subst hd
      have h11 : 1 + acc.length ≤ 140737488355328 := by omega
      refine bgo ?_
      refine wk_rfl ?_
      refine bgo ?_
      trivial
/-! The shape alone. -/
theorem markThesisS_z (l : List Th) (k : Int) (h0 : 0 ≤ k) (hk : k + 2 * l.length ≤ 1099511627776) : BRet Tryz.prog 53 [] [.zs (.sl 2 (l.map Th.e)), .int k] (.int (k + 2 * l.length)) [] := by
  refine bof Tryz.func53 ?_
  have hlen : 2 * (l.length : Int) ≤ 1099511627776 := by omega
  generalize hr : k + 2 * l.length = r at *
  refine bgo ?_
  refine b_lp (ι := Nat × Int) (fun i => [(0, .zs (.sl 2 (l.map Th.e))), (1, .int i.2), (5, .int i.1)]) (fun _ => []) (fun i => i.1 ≤ l.length ∧ 0 ≤ i.2 ∧ i.2 + 2 * (l.length - i.1 : Nat) = r) (fun i => l.length - i.1) (0, k) hs ⟨Nat.zero_le _, h0, by simpa using hr⟩ ?_
  clear hr
  rintro ⟨i, j⟩ ⟨hi, hj0, hj⟩ I nx
  dsimp only at hi hj0 hj ⊢
  by_cases hlt : i < l.length
  · have hx : l[i]? = some l[i] := List.getElem?_eq_getElem hlt
    have hm := markText_b j (by omega)
    have h3 : ¬ ((3 : Int) = 0) := by decide
    have hj2 : j + 1 + 1 + 2 * ((l.length - (i + 1) : Nat) : Int) = r := by omega
    have hjb : j + 2 ≤ 1099511627776 := by omega
    have hib : (i : Int) + 1 ≤ 1099511627776 := by omega
    clear hj
    refine bgo ?_
    refine b_call hm rfl rfl rfl rfl ?_
    refine bgo ?_
    exact nx.go (i + 1, j + 1 + 1) ⟨hlt, by dsimp only; omega, hj2⟩ (by dsimp only; omega) hs
  · have hi2 : i = l.length := by omega
    subst hi2
    have hj2 : j = r := by omega
    subst hj2
    refine bgo ?_
    refine wk_rfl ?_
    refine bgo ?_
    trivial
theorem markStandardS_z (l : List Sd) (k : Int) (h0 : 0 ≤ k) (hk : k + 2 * l.length ≤ 1099511627776) : BRet Tryz.prog 78 [] [.zs (.sl 2 (l.map Sd.e)), .int k] (.int (k + 2 * l.length)) [] := by
  refine bof Tryz.func78 ?_
  have hlen : 2 * (l.length : Int) ≤ 1099511627776 := by omega
  generalize hr : k + 2 * l.length = r at *
  refine bgo ?_
  refine b_lp (ι := Nat × Int) (fun i => [(0, .zs (.sl 2 (l.map Sd.e))), (1, .int i.2), (5, .int i.1)]) (fun _ => []) (fun i => i.1 ≤ l.length ∧ 0 ≤ i.2 ∧ i.2 + 2 * (l.length - i.1 : Nat) = r) (fun i => l.length - i.1) (0, k) hs ⟨Nat.zero_le _, h0, by simpa using hr⟩ ?_
  clear hr
  rintro ⟨i, j⟩ ⟨hi, hj0, hj⟩ I nx
  dsimp only at hi hj0 hj ⊢
  by_cases hlt : i < l.length
  · have hx : l[i]? = some l[i] := List.getElem?_eq_getElem hlt
    have hm := markText_b j (by omega)
    have hj2 : j + 1 + 1 + 2 * ((l.length - (i + 1) : Nat) : Int) = r := by omega
    have hjb : j + 2 ≤ 1099511627776 := by omega
    have hib : (i : Int) + 1 ≤ 1099511627776 := by omega
    clear hj
    refine bgo ?_
    refine b_call hm rfl rfl rfl rfl ?_
    refine bgo ?_
    exact nx.go (i + 1, j + 1 + 1) ⟨hlt, by dsimp only; omega, hj2⟩ (by dsimp only; omega) hs
  · have hi2 : i = l.length := by omega
    subst hi2
    have hj2 : j = r := by omega
    subst hj2
    refine bgo ?_
    refine wk_rfl ?_
    refine bgo ?_
    trivial
def mkRu (r : Ru) (k : Int) : Int := k + 2 * r.ps.length + 2 * r.es.length + 3
def mkRuL : List Ru → Int → Int
  | [], k => k
  | r :: l, k => mkRuL l (mkRu r k)
theorem mkRuL_ge : ∀ (l : List Ru) (k : Int), k + 3 * l.length ≤ mkRuL l k
  | [], k => by simp [mkRuL]
  | r :: l, k => by
    have := mkRuL_ge l (mkRu r k)
    simp only [mkRuL, List.length_cons]
    unfold mkRu at this ⊢
    omega
theorem markProofRuleS_z (l : List Ru) (k : Int) (h0 : 0 ≤ k) (hk : mkRuL l k ≤ 1099511627776) : BRet Tryz.prog 77 [] [.zs (.sl 5 (l.map Ru.e)), .int k] (.int (mkRuL l k)) [] := by
  refine bof Tryz.func77 ?_
  have hlen := mkRuL_ge l k
  generalize hr : mkRuL l k = r at *
  refine bgo ?_
  refine b_lp (ι := Nat × Int) (fun i => [(0, .zs (.sl 5 (l.map Ru.e))), (1, .int i.2), (5, .int i.1)]) (fun _ => []) (fun i => i.1 ≤ l.length ∧ 0 ≤ i.2 ∧ mkRuL (l.drop i.1) i.2 = r) (fun i => l.length - i.1) (0, k) hs ⟨Nat.zero_le _, h0, hr⟩ ?_
  clear hr
  rintro ⟨i, j⟩ ⟨hi, hj0, hj⟩ I nx
  dsimp only at hi hj0 hj ⊢
  by_cases hlt : i < l.length
  · have hx : l[i]? = some l[i] := List.getElem?_eq_getElem hlt
    rw [List.drop_eq_getElem_cons hlt] at hj
    have hg := mkRuL_ge (l.drop (i + 1)) (mkRu l[i] j)
    have hj2 : mkRuL (l.drop (i + 1)) (j + 2 * l[i].ps.length + 2 * l[i].es.length + 1 + 1 + 1) = r := by
      rw [← hj, show j + 2 * (l[i].ps.length : Int) + 2 * l[i].es.length + 1 + 1 + 1 = mkRu l[i] j by unfold mkRu; omega]; rfl
    have hb : mkRu l[i] j ≤ r := by
      rw [show mkRuL (l[i] :: l.drop (i + 1)) j = mkRuL (l.drop (i + 1)) (mkRu l[i] j) from rfl] at hj
      omega
    unfold mkRu at hb
    clear hj hg
    have h1 := markThesisS_z l[i].ps j hj0 (by omega)
    have h2 := markThesisS_z l[i].es (j + 2 * l[i].ps.length) (by omega) (by omega)
    have hm := markText_b (j + 2 * l[i].ps.length + 2 * l[i].es.length) (by omega)
    have h3 : ¬ ((3 : Int) = 0) := by decide
    have hib : (i : Int) + 1 ≤ 1099511627776 := by omega
    refine bgo ?_
    refine b_writes h1 rfl rfl rfl rfl ?_
    refine bgo ?_
    refine b_writes h2 rfl rfl rfl rfl ?_
    refine bgo ?_
    refine b_call hm rfl rfl rfl rfl ?_
    refine bgo ?_
    exact nx.go (i + 1, j + 2 * l[i].ps.length + 2 * l[i].es.length + 1 + 1 + 1) ⟨hlt, by dsimp only; omega, hj2⟩ (by dsimp only; omega) hs
  · have hi2 : i = l.length := by omega
    subst hi2
    rw [List.drop_length] at hj
    replace hj : j = r := hj
    subst hj
    refine bgo ?_
    refine wk_rfl ?_
    refine bgo ?_
    trivial
def mkCs (c : Cs) (k : Int) : Int := mkRuL c.rs (k + 2 * c.fs.length) + 2 * c.ss.length
theorem markCase_z (c : Cs) (k : Int) (h0 : 0 ≤ k) (hk : mkCs c k ≤ 1099511627776) : BRet Tryz.prog 28 [] [.agg [.zs (.sl 2 (c.fs.map Th.e)), .zs (.sl 5 (c.rs.map Ru.e)), .zs (.sl 2 (c.ss.map Sd.e))], .int k] (.int (mkCs c k)) [] := by
  have hg := mkRuL_ge c.rs (k + 2 * c.fs.length)
  unfold mkCs at *
  have h1 := markThesisS_z c.fs k h0 (by omega)
  have h2 := markProofRuleS_z c.rs (k + 2 * c.fs.length) (by omega) (by omega)
  have h3 := markStandardS_z c.ss (mkRuL c.rs (k + 2 * c.fs.length)) (by omega) (by omega)
  refine bof Tryz.func28 ?_
  refine bgo ?_
  refine b_writes h1 rfl rfl rfl rfl ?_
  refine bgo ?_
  refine b_writes h2 rfl rfl rfl rfl ?_
  refine bgo ?_
  refine b_writes h3 rfl rfl rfl rfl ?_
  refine bgo ?_
  trivial
end Go.Bee.Mt
