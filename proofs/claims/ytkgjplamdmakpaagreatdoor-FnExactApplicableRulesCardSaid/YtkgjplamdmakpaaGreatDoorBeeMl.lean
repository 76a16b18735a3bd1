/- Chapter 23: laws that mark what they are given. -/
import Derived.Test.YtkgjplamdmakpaaGreatDoorBeeMr
import Derived.Test.YtkgjplamdmakpaaGreatDoorBeeCq
import Derived.Test.YtkgjplamdmakpaaGreatDoorBeeSo
namespace Go.Bee.Ml
open Go Go.Bee Go.Proofs Go.Bee.Ty
theorem bs0 : evBuildSlice Tryz.prog 47 0 [] = some (.own 9 1 []) := by kernel_rfl
theorem bi0 : evBuildSlice Tryz.prog 58 0 [] = some (.own 3 1 []) := by kernel_rfl
theorem bt0 : evBuildSlice Tryz.prog 24 0 [] = some (.own 30 2 []) := by kernel_rfl
theorem bi1 : ∀ n : Int, evBuildSlice Tryz.prog 58 1 [(0, .d (.int .i64 n))] = some (.own 3 1 [.int .i64 n]) := fun n => by kernel_rfl
theorem tys : type_of% (And.intro Go.Bee.C23a.tys (And.intro bs0 (And.intro bi0 (And.intro bt0 bi1)))) := And.intro Go.Bee.C23a.tys (And.intro bs0 (And.intro bi0 (And.intro bt0 bi1)))
end Go.Bee.Ml
namespace Go.Bee.Ml
open Go Go.Bee Go.Proofs Go.Bee.Ty Go.Bee.C23 Go.Bee.C23s Go.Bee.C23a Go.Bee.Mt Go.Bee.Mr Go.Bee.Cq
set_option linter.unusedVariables false
set_option maxRecDepth 20000
attribute [local irreducible] Go.Bee.bwp
theorem bofM (ms : List Nat) {f : Nat} {fn : Func} {c : Code} {rs : List ResultVar} {args : List PV} {r : PV} (hf : Tryz.prog.funcs[f]? = some fn) (h : bwp Tryz.prog (Hm ms) c (endK Tryz.prog rs r []) (St.init args [])) (hb : fn.body = some c := by exact rfl) (hrs : fn.results = rs.toArray := by exact rfl)
    (hn : (fn.name != "runtime.NumGoroutine") = true := by kernel_rfl) (hd : cOk Tryz.prog (Hm ms) fn.ntmps c = true := by kernel_rfl) (ha : args.length ≤ fn.ntmps := by exact Nat.le_of_ble_eq_true rfl) : BRet Tryz.prog f [] args r [] :=
  BRet.of_body (Hm ms) mixed hf hb hn hd hrs rfl ha h
theorem PLe.tupNil {e sz : Nat} {x : PV} : PLe (.tup [.nilS, x]) (.tup [.own e sz [], x]) := ⟨fun P G w loc v h => by
  obtain ⟨vs, rfl, h1, h2⟩ := h
  refine ⟨vs, rfl, by simpa using h1, fun i y u hy hu => ?_⟩
  match i, hy with
  | 0, hy =>
    simp at hy; subst hy
    have := h2 0 .nilS u rfl hu
    exact PLe.nilO.t P G w loc u this
  | i + 1, hy => exact h2 (i + 1) y u (by simpa using hy) hu⟩
/-! The sum of marks is small. -/
theorem szRu_less (r : Ru) (x : Int) (h0 : 0 ≤ x) (h : 0 ≤ szRu r x) : (r.ps.length : Int) + r.es.length + szRu r x ≤ x := by
  have h1 := szL_nice szTh_nice r.ps x h0
  have h2 := szL_nice szTh_nice r.es (szL szTh r.ps x)
  have h3 := szTh_nice r.c (szL szTh r.es (szL szTh r.ps x))
  have key : ∀ (l : List Th) (y : Int), 0 ≤ y → 0 ≤ szL szTh l y → (l.length : Int) + szL szTh l y ≤ y := fun l y hy hl => by
    have h5 := szF_nice szTh_nice l (y - l.length)
    unfold szL at hl ⊢
    split at hl
    · omega
    · rename_i hn; rw [if_neg hn]; omega
  unfold szRu at h ⊢
  split at h
  · omega
  rename_i e1
  split at h
  · omega
  rename_i e2
  split at h
  · omega
  rename_i e3
  rw [if_neg e1, if_neg e2, if_neg e3]
  have h6 := key r.ps x h0 (by omega)
  have h7 := key r.es (szL szTh r.ps x) (by omega) (by omega)
  omega
theorem mkRuL_less : ∀ (l : List Ru) (x k : Int), 0 ≤ x → 0 ≤ szF szRu l x → mkRuL l k ≤ k + 2 * x + 3 * l.length
  | [], x, k, h0, h => by simp [mkRuL]; omega
  | r :: l, x, k, h0, h => by
    unfold szF at h
    split at h
    · omega
    · have h1 := szRu_less r x h0 (by omega)
      have h2 := mkRuL_less l (szRu r x) (mkRu r k) (by omega) h
      simp only [mkRuL, List.length_cons]
      unfold mkRu at h2 ⊢
      omega
theorem mkCs_less (c : Cs) (h : 0 ≤ szCs c 1048576) : 0 ≤ mkCs c 1 ∧ mkCs c 1 ≤ 1099511627776 := by
  have h1 := szL_nice szTh_nice c.fs 1048576 (by omega)
  have h2 := szL_nice szRu_nice c.rs (szL szTh c.fs 1048576)
  have h3 := szL_nice szSd_nice c.ss (szL szRu c.rs (szL szTh c.fs 1048576))
  unfold szCs at h
  split at h
  · omega
  split at h
  · omega
  have h4 := szL_len szTh_nice c.fs 1048576 (by omega) (by omega)
  have h5 := szL_len szRu_nice c.rs (szL szTh c.fs 1048576) (by omega) (by omega)
  rename_i hn
  split at h
  · omega
  have h6 := szL_len szSd_nice c.ss (szL szRu c.rs (szL szTh c.fs 1048576)) (by omega) (by omega)
  have h7 := mkRuL_ge c.rs (1 + 2 * c.fs.length)
  generalize szL szTh c.fs 1048576 = X at *
  have h8 : mkRuL c.rs (1 + 2 * c.fs.length) ≤ (1 + 2 * c.fs.length) + 2 * (X - c.rs.length) + 3 * c.rs.length := by
    refine mkRuL_less c.rs _ _ (by omega) ?_
    unfold szL at hn
    split at hn
    · omega
    · omega
  unfold mkCs
  omega
/-! Equal rows are equal. -/
theorem eqStringS_s (l : List (List UInt8)) : BRet Tryz.prog 26 [] [.d (.sl 1 (txts l)), .d (.sl 1 (txts l))] (.bool true) [] := by
  refine BRet.len 0 (by kernel_rfl) rfl fun hl => ?_
  refine bof Tryz.func26 ?_
  have hll : (txts l).length = l.length := by simp [txts]
  have hli : ∀ i (h : i < l.length), (txts l)[i]? = some (PD.str l[i]) := fun i h => by simp [txts, h]
  generalize txts l = q at *
  refine bgo ?_
  refine b_lp (ι := Nat × Unit) (fun i => [(0, .d (.sl 1 q)), (1, .d (.sl 1 q)), (5, .int i.1)]) (fun _ => []) (fun i => i.1 ≤ l.length) (fun i => l.length - i.1) (0, ()) hs (Nat.zero_le _) ?_
  rintro ⟨i, u⟩ hi I nx
  dsimp only at hi ⊢
  by_cases hlt : i < l.length
  · have hx := hli i hlt
    generalize l[i] = x at *
    have hib : (i : Int) + 1 ≤ 1099511627776000 := by omega
    have hlt2 : i < q.length := by omega
    clear hli
    refine bgo ?_
    exact nx.go (i + 1, ()) hlt (by dsimp only; omega) hs
  · have hlt2 : ¬ i < q.length := by omega
    refine bgo ?_
    refine wk_rfl ?_
    refine bgo ?_
    trivial
theorem eqIntS_s (l : List Int) : BRet Tryz.prog 55 [] [.d (.sl 1 (ints l)), .d (.sl 1 (ints l))] (.bool true) [] := by
  refine BRet.len 0 (by kernel_rfl) rfl fun hl => ?_
  refine bof Tryz.func55 ?_
  have hll : (ints l).length = l.length := by simp [ints]
  have hli : ∀ i (h : i < l.length), (ints l)[i]? = some (PD.int .i64 l[i]) := fun i h => by simp [ints, h]
  generalize ints l = q at *
  refine bgo ?_
  refine b_lp (ι := Nat × Unit) (fun i => [(0, .d (.sl 1 q)), (1, .d (.sl 1 q)), (5, .int i.1)]) (fun _ => []) (fun i => i.1 ≤ l.length) (fun i => l.length - i.1) (0, ()) hs (Nat.zero_le _) ?_
  rintro ⟨i, u⟩ hi I nx
  dsimp only at hi ⊢
  by_cases hlt : i < l.length
  · have hx := hli i hlt
    generalize l[i] = x at *
    have hib : (i : Int) + 1 ≤ 1099511627776000 := by omega
    have hlt2 : i < q.length := by omega
    clear hli
    refine bgo ?_
    exact nx.go (i + 1, ()) hlt (by dsimp only; omega) hs
  · have hlt2 : ¬ i < q.length := by omega
    refine bgo ?_
    refine wk_rfl ?_
    refine bgo ?_
    trivial
/-! Nothing to mark. -/
theorem markStringS_0 (k : Int) (h : 0 ≤ k) (h2 : k ≤ 1099511627776) : BRet Tryz.prog 29 [] [.d (.sl 1 []), .int k] (.int k) [] := by
  refine bof Tryz.func29 ?_
  refine bgo ?_
  refine b_lp (ι := Nat × Unit) (fun i => [(0, .d (.sl 1 [])), (1, .int k), (5, .int i.1)]) (fun _ => []) (fun _ => True) (fun i => 0) (0, ()) hs trivial ?_
  rintro ⟨i, u⟩ - I nx
  dsimp only
  have hlt : ¬ (i : Int) < 0 := by omega
  refine bgo ?_
  refine wk_rfl ?_
  refine bgo ?_
  trivial
theorem markIntS_0 (k : Int) (h : 0 ≤ k) (h2 : k ≤ 1099511627776) : BRet Tryz.prog 56 [] [.d (.sl 1 []), .int k] (.int k) [] := by
  refine bof Tryz.func56 ?_
  refine bgo ?_
  refine b_lp (ι := Nat × Unit) (fun i => [(0, .d (.sl 1 [])), (1, .int k), (5, .int i.1)]) (fun _ => []) (fun _ => True) (fun i => 0) (0, ()) hs trivial ?_
  rintro ⟨i, u⟩ - I nx
  dsimp only
  have hlt : ¬ (i : Int) < 0 := by omega
  refine bgo ?_
  refine wk_rfl ?_
  refine bgo ?_
  trivial
theorem markThesisS_0 (k : Int) (h : 0 ≤ k) (h2 : k ≤ 1099511627776) : BRet Tryz.prog 53 [] [.d (.sl 2 []), .int k] (.int k) [] := by
  refine bof Tryz.func53 ?_
  refine bgo ?_
  refine b_lp (ι := Nat × Unit) (fun i => [(0, .d (.sl 2 [])), (1, .int k), (5, .int i.1)]) (fun _ => []) (fun _ => True) (fun i => 0) (0, ()) hs trivial ?_
  rintro ⟨i, u⟩ - I nx
  dsimp only
  have hlt : ¬ (i : Int) < 0 := by omega
  refine bgo ?_
  refine wk_rfl ?_
  refine bgo ?_
  trivial
theorem heldStringS_0 (k : Int) (h : 0 ≤ k) (h2 : k ≤ 1099511627776) : BRet Tryz.prog 30 [] [.d (.sl 1 []), .int k] (.int k) [] := by
  refine bof Tryz.func30 ?_
  refine bgo ?_
  refine b_lp (ι := Nat × Unit) (fun i => [(0, .d (.sl 1 [])), (1, .int k), (5, .int i.1)]) (fun _ => []) (fun _ => True) (fun i => 0) (0, ()) hs trivial ?_
  rintro ⟨i, u⟩ - I nx
  dsimp only
  have hlt : ¬ (i : Int) < 0 := by omega
  refine bgo ?_
  refine wk_rfl ?_
  refine bgo ?_
  trivial
theorem heldIntS_0 (k : Int) (h : 0 ≤ k) (h2 : k ≤ 1099511627776) : BRet Tryz.prog 57 [] [.d (.sl 1 []), .int k] (.int k) [] := by
  refine bof Tryz.func57 ?_
  refine bgo ?_
  refine b_lp (ι := Nat × Unit) (fun i => [(0, .d (.sl 1 [])), (1, .int k), (5, .int i.1)]) (fun _ => []) (fun _ => True) (fun i => 0) (0, ()) hs trivial ?_
  rintro ⟨i, u⟩ - I nx
  dsimp only
  have hlt : ¬ (i : Int) < 0 := by omega
  refine bgo ?_
  refine wk_rfl ?_
  refine bgo ?_
  trivial
theorem heldThesisS_0 (k : Int) (h : 0 ≤ k) (h2 : k ≤ 1099511627776) : BRet Tryz.prog 54 [] [.d (.sl 2 []), .int k] (.int k) [] := by
  refine bof Tryz.func54 ?_
  refine bgo ?_
  refine b_lp (ι := Nat × Unit) (fun i => [(0, .d (.sl 2 [])), (1, .int k), (5, .int i.1)]) (fun _ => []) (fun _ => True) (fun i => 0) (0, ()) hs trivial ?_
  rintro ⟨i, u⟩ - I nx
  dsimp only
  have hlt : ¬ (i : Int) < 0 := by omega
  refine bgo ?_
  refine wk_rfl ?_
  refine bgo ?_
  trivial
theorem txts_plain (l : List Tx) : ∀ x ∈ flat (txts l), x.plain = true := by
  intro x hx
  obtain ⟨y, hy, hxy⟩ := List.mem_flatMap.1 hx
  obtain ⟨t, _, rfl⟩ := List.mem_map.1 hy
  simp only [PD.cells, List.mem_singleton] at hxy
  subst hxy; rfl
theorem txts_one (l : List Tx) : ∀ x ∈ txts l, x.cells.length = 1 := fun x hx => by obtain ⟨t, _, rfl⟩ := List.mem_map.1 hx; rfl
theorem ints_plain (l : List Int) : ∀ x ∈ flat (ints l), x.plain = true := by
  intro x hx
  obtain ⟨y, hy, hxy⟩ := List.mem_flatMap.1 hx
  obtain ⟨t, _, rfl⟩ := List.mem_map.1 hy
  simp only [PD.cells, List.mem_singleton] at hxy
  subst hxy; rfl
theorem ints_one (l : List Int) : ∀ x ∈ ints l, x.cells.length = 1 := fun x hx => by obtain ⟨t, _, rfl⟩ := List.mem_map.1 hx; rfl
/-! The order of decisions. -/
def decO (c : Cs) : List Tx := if (head c && okI c) = true then (order c).getD [] else []
theorem DecisionOrder_b (c : Cs) : BRet Tryz.prog 25 [] [.agg [.d (.sl 2 (c.fs.map Th.e)), .d (.sl 5 (c.rs.map Ru.e)), .d (.sl 2 (c.ss.map Sd.e))]] (.tup [.own 9 1 (txts (decO c)), .bool (head c && okI c)]) [] := by
  have hd : decO c = if (head c && okI c) = true then (order c).getD [] else [] := rfl
  cases hv : head c && okI c
  · rw [hv, if_neg (by decide)] at hd
    rw [hd]
    refine BRet.less ?_ PLe.tupNil
    refine bof Tryz.func25 ?_
    refine bgo ?_
    refine b_call (IsValidCase_b c) rfl rfl rfl rfl ?_
    rw [hv]
    refine bgo ?_
    trivial
  · have hf := head_fine hv
    obtain ⟨o, ho⟩ := Option.isSome_iff_exists.1 hf.ord
    rw [hv, if_pos rfl, ho] at hd
    replace hd : decO c = o := hd
    have h1 : BRet Tryz.prog 74 [] [.agg [.d (.sl 2 (c.fs.map Th.e)), .d (.sl 5 (c.rs.map Ru.e)), .d (.sl 2 (c.ss.map Sd.e))]] (.tup [.own 9 1 (txts o), .bool true]) [] := by
      have := decisionOrder_b c hf.ru hf.n
      rw [ho] at this
      exact this
    rw [hd]
    refine bof Tryz.func25 ?_
    refine bgo ?_
    refine b_call (IsValidCase_b c) rfl rfl rfl rfl ?_
    rw [hv]
    refine bgo ?_
    refine b_call h1 rfl rfl rfl rfl ?_
    refine bgo ?_
    trivial
theorem specDecisionOrder_b (c : Cs) : BRet Tryz.prog 23 [] [.agg [.d (.sl 2 (c.fs.map Th.e)), .d (.sl 5 (c.rs.map Ru.e)), .d (.sl 2 (c.ss.map Sd.e))]] (.tup [.own 9 1 (txts (decO c)), .bool (head c && okI c)]) [] := by
  have hd : decO c = if (head c && okI c) = true then (order c).getD [] else [] := rfl
  cases hv : head c && okI c
  · rw [hv, if_neg (by decide)] at hd
    rw [hd]
    refine bof Tryz.func23 ?_
    refine bgo ?_
    refine b_call (good_b c) rfl rfl rfl rfl ?_
    rw [hv]
    refine bgo ?_
    rfl
  · have hf := head_fine hv
    obtain ⟨o, ho⟩ := Option.isSome_iff_exists.1 hf.ord
    rw [hv, if_pos rfl, ho] at hd
    replace hd : decO c = o := hd
    have h2 : orderS c = o := (order_fine hf.ne).2 o ho
    have hn2 : (names2 c).length ≤ 1048576 := by rw [← names_eq]; exact Nat.le_trans (srt_len _) hf.n
    have h1 : BRet Tryz.prog 70 [] [.agg [.d (.sl 2 (c.fs.map Th.e)), .d (.sl 5 (c.rs.map Ru.e)), .d (.sl 2 (c.ss.map Sd.e))]] (.own 9 1 (txts o)) [] := by
      have := l23Order_b c hf.n hf.ru hn2
      rw [h2] at this
      exact this
    rw [hd]
    refine bof Tryz.func23 ?_
    refine bgo ?_
    refine b_call (good_b c) rfl rfl rfl rfl ?_
    rw [hv]
    refine bgo ?_
    refine b_call h1 rfl rfl rfl rfl ?_
    refine bgo ?_
    trivial
theorem take3 {x y z : PD} : TakeT (.agg [.dp x, .dp y, .dp z]) (.agg [.q x, .q y, .q z]) := .one _ _ (.agg _ _ (.cons (.dp _) (.cons (.dp _) (.cons (.dp _) .nil))))
theorem lend3q {B : Bx} {x y z : PD} : LendV B (.agg [.q x, .q y, .q z]) (.agg [.d x, .d y, .d z]) := .agg _ _ (.cons (.q _) (.cons (.q _) (.cons (.q _) .nil)))
theorem lend3d {B : Bx} {x y z : PD} : LendV B (.agg [.d x, .d y, .d z]) (.agg [.d x, .d y, .d z]) := .agg _ _ (.cons (.d _) (.cons (.d _) (.cons (.d _) .nil)))
theorem lendD {B : Bx} {x : PD} : LendV B (.d x) (.d x) := .one _ _ (.d _)
theorem lendO {B : Bx} {e sz : Nat} {l : List PD} : LendV B (.own e sz l) (.d (.sl sz l)) := .one _ _ (.own _ _ _)
theorem takeB {x : Bool} : TakeT (.d (.bool x)) (.d (.bool x)) := .one _ _ (.one _ _ (.d _ rfl))
theorem takeI {x : Int} : TakeT (.d (.int .i64 x)) (.d (.int .i64 x)) := .one _ _ (.one _ _ (.d _ rfl))
theorem take0 {e sz : Nat} {x : Bool} : TakeT (.tup [.own e sz [], .d (.bool x)]) (.tup [.d (.sl sz []), .d (.bool x)]) := .tup _ _ (.cons (.one _ _ (.own0 _ _)) (.cons (.one _ _ (.d _ rfl)) .nil))
theorem lendR {B : Bx} {b : BN} {sz n : Nat} {l : List PD} (hb : B b = some (row l)) (hl : l.length = n) (hu : ∀ x ∈ l, x.cells.length = sz) : LendV B (.rsv b sz n) (.d (.sl sz l)) := .one _ _ (.rsv b sz n l [] (by rw [List.append_nil]; exact hb) hl hu)
abbrev caseP (c : Cs) : PV := .agg [.d (.sl 2 (c.fs.map Th.e)), .d (.sl 5 (c.rs.map Ru.e)), .d (.sl 2 (c.ss.map Sd.e))]
abbrev caseZ (c : Cs) : List PV := [.zs (.sl 2 (c.fs.map Th.e)), .zs (.sl 5 (c.rs.map Ru.e)), .zs (.sl 2 (c.ss.map Sd.e))]
abbrev caseDs (c : Cs) : List PV := [.d (.sl 2 (c.fs.map Th.e)), .d (.sl 5 (c.rs.map Ru.e)), .d (.sl 2 (c.ss.map Sd.e))]
theorem lend3o {B : Bx} {a b d e f g : Nat} {x y z : List PD} : LendV B (.agg [.own a d x, .own b e y, .own f g z]) (.agg [.d (.sl d x), .d (.sl e y), .d (.sl g z)]) := .agg _ _ (.cons (.own _ _ _) (.cons (.own _ _ _) (.cons (.own _ _ _) .nil)))
theorem eqCase_s (c : Cs) : BRet Tryz.prog 27 [] [caseP c, caseP c] (.bool true) [] := by
  have := eqCase_b c c
  rwa [decide_eq_true rfl] at this
theorem unq_row (l : List PD) : (row l).map PV.unqC = row l := by
  unfold row
  rw [List.map_map]; rfl
theorem row_pass (l : List PD) : (row l).all PV.pass1 = true := by
  rw [List.all_eq_true]
  intro x hx
  obtain ⟨y, -, rfl⟩ := List.mem_map.1 hx
  rfl
theorem decO_len (c : Cs) (h : 0 ≤ szCs c 1048576) : (decO c).length ≤ 1048576 := by
  unfold decO
  split
  · rename_i hv
    have hf := head_fine hv
    obtain ⟨o, ho⟩ := Option.isSome_iff_exists.1 hf.ord
    rw [ho]
    have h1 := goO_len _ _ _ ho
    have h2 := srt_len (allN c)
    have h3 := hf.n
    simp only [List.length_nil, Nat.zero_add] at h1
    show o.length ≤ _
    omega
  · simp
theorem lawDecisionOrder_b (c : Cs) : BRet Tryz.prog 4 [] [caseP c] (.bool true) [] := by
  refine bofM [13] Tryz.func4 ?_
  refine bgo ?_
  refine b_call (szCase_b c 1048576 (by decide) (by decide)) rfl rfl rfl rfl ?_
  by_cases h : szCs c 1048576 < 0
  · refine bgo ?_
    trivial
  have ho := szCs_ok c (by omega)
  obtain ⟨hm0, hm1⟩ := mkCs_less c (by omega)
  have hmz := markCase_z c 1 (by decide) hm1
  generalize mkCs c 1 = mk1 at *
  have hmn : ¬ mk1 < 0 := by omega
  have hi := DecisionOrder_b c
  have hs' := specDecisionOrder_b c
  have hlen := decO_len c (by omega)
  generalize decO c = l at *
  generalize (head c && okI c) = ok at *
  refine bgo ?_
  refine b_call (toCase_b c ho) rfl rfl rfl rfl ?_
  refine bgo ?_
  refine b_call hs' rfl rfl rfl rfl ?_
  refine bgo ?_
  refine b_look (toCase_q c ho) rfl rfl (fun B => .cons lend3d .nil) take3 ?_
  refine bgo ?_
  by_cases hl : l = []
  · subst hl
    refine b_look hi rfl rfl (fun B => .cons lend3q .nil) take0 ?_
    refine bgo ?_
    refine b_call (eqStringS_s []) rfl rfl rfl rfl ?_
    refine bgo ?_
    refine b_call (toCase_b c ho) rfl rfl rfl rfl ?_
    refine bgo ?_
    refine b_look (eqCase_s c) rfl rfl (fun B => .cons lend3q (.cons lend3o .nil)) takeB ?_
    refine bgo ?_
    refine wk_unq [(1, .ptr (.t 1) 0), (4, .d (.sl 1 (txts []))), (5, .bool ok), (6, .ptr (.t 6) 0), (7, .d (.sl 1 [])), (8, .bool ok), (9, .int 1)] [(.t 1, caseDs c), (.t 6, caseZ c)] hs ?_
    refine bgo ?_
    refine b_writes hmz rfl rfl rfl rfl ?_
    refine bgo ?_
    refine b_call (eqStringS_s []) rfl rfl rfl rfl ?_
    refine bgo ?_
    refine b_call (markStringS_0 1 (by decide) (by decide)) rfl rfl rfl rfl ?_
    refine bgo ?_
    refine b_call (heldStringS_0 1 (by decide) (by decide)) rfl rfl rfl rfl ?_
    refine bgo ?_
    refine b_call (toCase_b c ho) rfl rfl rfl rfl ?_
    refine bgo ?_
    refine b_call hi rfl rfl rfl rfl ?_
    refine bgo ?_
    refine b_call (eqStringS_s []) rfl rfl rfl rfl ?_
    refine bgo ?_
    refine b_call (heldStringS_0 1 (by decide) (by decide)) rfl rfl rfl rfl ?_
    refine bgo ?_
    trivial
  · have hmr := markStringS_r l 1 (by decide) (by omega)
    have hhb := heldStringS_b l.length 1 (by decide) (by omega)
    have hmk : (mkS l.length 1).length = l.length := by simp [mkS]
    generalize mkS l.length 1 = m at *
    have hmn2 : ¬ ((1 : Int) + l.length < 0) := by omega
    have hll : (txts l).length = l.length := by simp [txts]
    refine b_boxed 99 hi .one rfl rfl rfl (fun B => .cons lend3q .nil) rfl (by simpa [txts] using hl) (txts_plain l) rfl ?_
    refine bgo ?_
    refine b_lookb (eqStringS_s l) rfl rfl rfl (.cons (lendR rfl (by first | rfl | exact hll) (txts_one l)) (.cons lendD .nil)) takeB ?_
    refine bgo ?_
    refine b_call (toCase_b c ho) rfl rfl rfl rfl ?_
    refine bgo ?_
    refine b_look (eqCase_s c) rfl rfl (fun B => .cons lend3q (.cons lend3o .nil)) takeB ?_
    refine bgo ?_
    refine wk_unq [(1, .ptr (.t 1) 0), (4, .d (.sl 1 (txts l))), (5, .bool ok), (6, .ptr (.t 6) 0), (7, .rsv (.t 99) 1 l.length), (8, .bool ok), (9, .int 1)] [(.t 1, caseDs c), (.t 6, caseZ c), (.t 99, row (txts l))] ⟨⟨⟨PLe.rfl, rfl⟩, ⟨PLe.own, rfl⟩, ⟨PLe.rfl, rfl⟩, ⟨PLe.rfl, rfl⟩, ⟨PLe.eq (by first | rfl | exact congrArg (PV.rsv (.t 99) 1) hll), rfl⟩, ⟨PLe.rfl, rfl⟩, ⟨PLe.rfl, rfl⟩, trivial⟩, ⟨_, rfl, HasC.same rfl⟩, ⟨_, rfl, HasC.same rfl⟩, ⟨_, rfl, HasC.of (unq_row _) (row_ok _ _)⟩, trivial⟩ ?_
    refine bgo ?_
    refine b_writes hmz rfl rfl rfl rfl ?_
    refine bgo ?_
    refine b_lookb (eqStringS_s l) rfl rfl rfl (.cons (lendR rfl (by simp [txts]) (txts_one l)) (.cons lendD .nil)) takeB ?_
    refine bgo ?_
    refine b_callr hmr rfl rfl (row_pass _) (row_gives _ trivial) rfl rfl rfl rfl rfl ?_
    refine bgo ?_
    refine b_lookb hhb rfl rfl rfl (.cons (lendR rfl (by simp [txts, hmk]) (txts_one m)) (.cons lendD .nil)) takeI ?_
    refine bgo ?_
    refine b_call (toCase_b c ho) rfl rfl rfl rfl ?_
    refine bgo ?_
    refine b_call hi rfl rfl rfl rfl ?_
    refine bgo ?_
    refine b_call (eqStringS_s l) rfl rfl rfl rfl ?_
    refine bgo ?_
    refine b_lookb hhb rfl rfl rfl (.cons (lendR rfl (by simp [txts, hmk]) (txts_one m)) (.cons lendD .nil)) takeI ?_
    refine bgo ?_
    trivial
end Go.Bee.Ml
