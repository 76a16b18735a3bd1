/-
The logic and the walks, part 11. No condition.
-/
import Derived.Test.YtbhmeompdbokdaaGreatDoorBeeG0FEPEj
namespace Go.Bee.Mt
open Go Go.Bee Go.Proofs Go.Bee.Ty Go.Bee.C23 Go.Bee.C23s Go.Bee.Da Go.Bee.C24 Go.Bee.C24c Go.Bee.C24d Go.Bee.C24r Go.Bee.C24h Go.Bee.Ea
set_option linter.unusedVariables false
set_option maxRecDepth 20000
attribute [local irreducible] Go.Bee.bwp
theorem markEventS_0 (k : Int) (h : 0 ≤ k) (h2 : k ≤ 1099511627776) : BRet Tryz.prog 20 [] [.d (.sl 4 []), .int k] (.int k) [] := by
  refine bof Tryz.func20 ?_
  refine bgo ?_
  refine b_lp (ι := Nat × Unit) (fun i => [(0, .d (.sl 4 [])), (1, .int k), (5, .int i.1)]) (fun _ => []) (fun _ => True) (fun i => 0) (0, ()) hs trivial ?_
  rintro ⟨i, u⟩ - I nx
  dsimp only
  have hlt : ¬ (i : Int) < 0 := by omega
  refine bgo ?_
  refine wk_rfl ?_
  refine bgo ?_
  trivial
theorem heldEventS_0 (k : Int) (h : 0 ≤ k) (h2 : k ≤ 1099511627776) : BRet Tryz.prog 21 [] [.d (.sl 4 []), .int k] (.int k) [] := by
  refine bof Tryz.func21 ?_
  refine bgo ?_
  refine b_lp (ι := Nat × Unit) (fun i => [(0, .d (.sl 4 [])), (1, .int k), (5, .int i.1)]) (fun _ => []) (fun _ => True) (fun i => 0) (0, ()) hs trivial ?_
  rintro ⟨i, u⟩ - I nx
  dsimp only
  have hlt : ¬ (i : Int) < 0 := by omega
  refine bgo ?_
  refine wk_rfl ?_
  refine bgo ?_
  trivial
theorem lawParseEvents_b (s : Tx) (l : List Tx) : BRet Tryz.prog 5 [] [.str s, .d (.sl 1 (l.map .str))] (.bool true) [] := by
  refine BRet.slen 0 (by kernel_rfl) rfl fun hl => ?_
  refine bofM [15] Tryz.func5 ?_
  by_cases h0 : (s.length : Int) > 1048576
  · refine bgo ?_
    trivial
  have hsl : s.length ≤ 1048576 := by omega
  have hs2 := szStringS_b l 1048576 (by decide) (by decide)
  have hle := szL_len szTx_nice l 1048576 (by decide)
  generalize szL szTx l 1048576 = z at *
  by_cases h2 : z < 0
  · clear hle
    refine bgo ?_
    refine b_call hs2 rfl rfl rfl rfl ?_
    refine bgo ?_
    trivial
  have hlen : l.length ≤ 1048576 := by have := hle (by omega); omega
  have hto := toStringS_b l hlen
  have htq := (toStringS_b l hlen).less (PLe.ownDp (txs_plain l))
  have hsp := specParseEvents_b s l hsl
  have hi := ParseEvents_b s l hsl
  have heq := eqStringS_s l
  have hmz := markStringS_z l 1 (by decide) (by omega)
  have hes := evs_len (s := s) (l := l)
  generalize (evsR s l).getD [] = es at *
  generalize (evsR s l).isSome = b at *
  have hbb : (b != b) = false := bne_self_eq_false _
  have hmn : ¬ ((1 : Int) + l.length < 0) := by omega
  clear hle hl
  refine bgo ?_
  refine b_call hs2 rfl rfl rfl rfl ?_
  refine bgo ?_
  refine b_call hto rfl rfl rfl rfl ?_
  refine bgo ?_
  refine b_call hsp rfl rfl rfl rfl ?_
  refine bgo ?_
  refine b_look htq rfl rfl (fun B => .cons lendD .nil) takeQ ?_
  refine bgo ?_
  by_cases hne : es = []
  · subst hne
    have hq0 := eqEventS_s []
    have hm0 := markEventS_0 1 (by decide) (by decide)
    have hh0 := heldEventS_0 1 (by decide) (by decide)
    have h11 : ((1 : Int) != 1) = false := rfl
    refine b_look hi rfl rfl (fun B => .cons lendD (.cons lendQ .nil)) take0 ?_
    refine bgo ?_
    refine b_call hq0 rfl rfl rfl rfl ?_
    refine bgo ?_
    refine b_call hto rfl rfl rfl rfl ?_
    refine bgo ?_
    refine b_look heq rfl rfl (fun B => .cons lendQ (.cons lendO .nil)) takeB ?_
    refine bgo ?_
    refine wk_unq [(0, .str s), (1, .d (.sl 1 (l.map .str))), (6, .d (.sl 4 [])), (7, .bool b), (8, .zs (.sl 1 (l.map .str))), (9, .d (.sl 4 [])), (10, .bool b), (11, .int 1)] [] hs ?_
    refine bgo ?_
    refine b_writes hmz rfl rfl rfl rfl ?_
    refine bgo ?_
    refine b_call hq0 rfl rfl rfl rfl ?_
    refine bgo ?_
    refine b_call hm0 rfl rfl rfl rfl ?_
    refine bgo ?_
    refine b_call hh0 rfl rfl rfl rfl ?_
    refine bgo ?_
    refine b_call hto rfl rfl rfl rfl ?_
    refine bgo ?_
    refine b_call hi rfl rfl rfl rfl ?_
    refine bgo ?_
    refine b_call hq0 rfl rfl rfl rfl ?_
    refine bgo ?_
    refine b_call hh0 rfl rfl rfl rfl ?_
    refine bgo ?_
    trivial
  · have hmr := markEventS_r es 1 (by decide) (by omega)
    have hhb := heldEventS_b es.length 1 (by decide) (by omega)
    have hmk : (mkE es.length 1).length = es.length := by simp [mkE]
    have hel := eS_len es
    have hml : (eS (mkE es.length 1)).length = es.length := by rw [eS_len, hmk]
    have hme := eS_one (mkE es.length 1)
    have hne2 : eS es ≠ [] := by simpa [eS] using hne
    generalize mkE es.length 1 = m at *
    have heq2 := eqEventS_s es
    have hmn2 : ¬ ((1 : Int) + 4 * es.length < 0) := by omega
    have hnn : (((1 : Int) + 4 * es.length) != (1 + 4 * es.length)) = false := bne_self_eq_false _
    refine b_boxed 99 hi .one rfl rfl rfl (fun B => .cons lendD (.cons lendQ .nil)) rfl hne2 (eS_plain es) rfl ?_
    refine bgo ?_
    refine b_lookb heq2 rfl rfl rfl (.cons (lendR rfl (by first | rfl | exact hel) (eS_one es)) (.cons lendD .nil)) takeB ?_
    refine bgo ?_
    refine b_call hto rfl rfl rfl rfl ?_
    refine bgo ?_
    refine b_look heq rfl rfl (fun B => .cons lendQ (.cons lendO .nil)) takeB ?_
    refine bgo ?_
    refine wk_unq [(0, .str s), (1, .d (.sl 1 (l.map .str))), (6, .d (.sl 4 (eS es))), (7, .bool b), (8, .zs (.sl 1 (l.map .str))), (9, .rsv (.t 99) 4 es.length), (10, .bool b), (11, .int 1)] [(.t 99, row (eS es))]
      ⟨⟨⟨PLe.rfl, rfl⟩, ⟨PLe.rfl, rfl⟩, ⟨PLe.own, rfl⟩, ⟨PLe.rfl, rfl⟩, ⟨PLe.rfl, rfl⟩, ⟨PLe.eq (by first | rfl | exact congrArg (PV.rsv (.t 99) 4) hel), rfl⟩, ⟨PLe.rfl, rfl⟩, ⟨PLe.rfl, rfl⟩, trivial⟩, ⟨_, rfl, HasC.of (unq_row _) (row_ok _ _)⟩, trivial⟩ ?_
    refine bgo ?_
    refine b_writes hmz rfl rfl rfl rfl ?_
    refine bgo ?_
    refine b_lookb heq2 rfl rfl rfl (.cons (lendR rfl (by first | rfl | exact hel) (eS_one es)) (.cons lendD .nil)) takeB ?_
    refine bgo ?_
    refine b_callr hmr rfl rfl (row_pass _) (row_gives _ trivial) rfl rfl rfl rfl rfl ?_
    refine bgo ?_
    refine b_lookb hhb rfl rfl rfl (.cons (lendR rfl (by first | rfl | exact hml) hme) (.cons lendD .nil)) takeI ?_
    refine bgo ?_
    refine b_call hto rfl rfl rfl rfl ?_
    refine bgo ?_
    refine b_call hi rfl rfl rfl rfl ?_
    refine bgo ?_
    refine b_call heq2 rfl rfl rfl rfl ?_
    refine bgo ?_
    refine b_lookb hhb rfl rfl rfl (.cons (lendR rfl (by first | rfl | exact hml) hme) (.cons lendD .nil)) takeI ?_
    refine bgo ?_
    trivial
end Go.Bee.Mt

