/-
The library's Insert of one element into a list of attacks, over the translation: its contract. No condition but the bounds that its callers have.
-/
import Derived.Test.YtlneimpoholkhaaProg
import Derived.WalkKit
import Derived.KernelRfl
import Derived.Deep.RegionLaw
import Derived.Lib.SliceRun
import Derived.Lib.AppendZerosOnto
import Derived.Lib.Overlaps
import Derived.Laws.CopyRow
import Derived.Laws.Tables
import Derived.Laws.NewBlocks
import Derived.Test.YtlneimpoholkhaaWMore
namespace Go.Proofs.YtlneimpoholkhaaIns
open Go.RowKit Go.Proofs.YtlneimpoholkhaaW.PrintWords Go.Proofs.YtlneimpoholkhaaW.PrintLast Go.Proofs.YtlneimpoholkhaaW.PrintMore
set_option linter.unusedVariables false
set_option linter.unusedSimpArgs false
/-- copy of whole elements of a size, into a block that is known. -/
theorem copied {P : Program} (w : World) (dT sT ty elem : TypeId) (g o dLen dCap : Nat) (a : Addr) (sLen sCap size m : Nat) (cur : Array Value) (t : TypeId) (cs : List Value)
    (hu : P.underlying dT = some (.slice elem)) (hs : (P.info? elem).map (·.size) = some size) (hm : Nat.min sLen dLen = m)
    (hg : w.heap[g]? = some (.cells cur t (0, 0))) (hn : cs.length = m * size)
    (hsrc : ∀ j v, cs[j]? = some v → w.cell? (a.add j) = some v) (hfit : o + cs.length ≤ cur.size) (h1 : ∀ v ∈ cs, v.oneCell' = true) :
    (Builtin.copy_ #[dT, sT] ty #[.slice (some ⟨g, o, none⟩) dLen dCap, .slice (some a) sLen sCap]).run P w =
      .ok (goInt m) (w.setRow g (cur.toList.take o ++ cs ++ cur.toList.drop (o + cs.length)).toArray) := by
  have hl := run_loadCells_list (P := P) w a cs hsrc
  have hst := run_storeCells_at P g o t cs 0 cur w hg (by simpa using hfit) h1
  rw [hn] at hl
  subst hm
  obtain ⟨i, hq, hi⟩ := Option.map_eq_some_iff.1 hs
  simp [Builtin.copy_, run_underlying hu, Builtin.lenOf, Builtin.firstCells, sizeOf, typeInfo, hq, hi, hl, hst]
theorem wl_copy {P : Program} (w : World) {ops : Array Oper} {rest : List Oper} {o : Oper} {a : Act} {Q : Exit → Act → World → Prop} (hgd : o.guard = none) (d s : Operand) (t t' : TypeId)
    (ho : o.op = .call { callee := .builtin .copy, args := #[d, s], argTypes := #[t, t'] }) (v u : Value) (hd : a.eval d = v) (hs : a.eval s = u) {v' : Value} {w' : World}
    (hr : (Builtin.copy_ #[t, t'] o.type #[v, u]).run P w = .ok v' w') (h : wpList P ops Q rest (a.put o.dst v') w') : wpList P ops Q (o :: rest) a w := by
  refine wpList_plain hgd fun _ hK => ?_
  unfold Oper.wp execOp
  simp only [ho, resolve, invoke, builtin, Sem.run_bind, Sem.run_pure, Result.andThen_ok, List.map_toArray, List.map_cons, List.map_nil, hd, hs, hr]
  exact hK _ _ h
theorem st_copy {P : Program} {ops : Array Oper} {o : Oper} {a : Act} {w : World} {K : Act → World → Prop} {Q : Exit → Act → World → Prop} {E : Prop}
    (hg : o.guard = none) (d x : Operand) (dT sT : TypeId) (hop : o.op = Op.call { callee := Callee.builtin Builtin.copy, args := #[d, x], argTypes := #[dT, sT] })
    (v u : Value) (hd : a.eval d = v) (hx : a.eval x = u) {v' : Value} {w' : World} (hr : (Builtin.copy_ #[dT, sT] o.type #[v, u]).run P w = .ok v' w') (hK : K (a.put o.dst v') w') :
    if Region.wanted o (yielded ops a.tmps) = true then Oper.wp P o a w K Q else E := by
  have hw : Region.wanted o (yielded ops a.tmps) = true := by simp [Region.wanted, hg]
  rw [if_pos hw]
  unfold Oper.wp
  simp [execOp, hop, resolve, invoke, builtin, hd, hx, hr, Result.andThen]
  exact hK
theorem wl_append {P : Program} (w : World) {ops : Array Oper} {rest : List Oper} {o : Oper} {a : Act} {Q : Exit → Act → World → Prop} (hgd : o.guard = none) (d s : Operand) (t t' : TypeId)
    (ho : o.op = .call { callee := .builtin .append, args := #[d, s], argTypes := #[t, t'] }) (v u : Value) (hd : a.eval d = v) (hs : a.eval s = u) {v' : Value} {w' : World}
    (hr : (Builtin.append_ #[t, t'] o.type #[v, u]).run P w = .ok v' w') (h : wpList P ops Q rest (a.put o.dst v') w') : wpList P ops Q (o :: rest) a w := by
  refine wpList_plain hgd fun _ hK => ?_
  unfold Oper.wp execOp
  simp only [ho, resolve, invoke, builtin, Sem.run_bind, Sem.run_pure, Result.andThen_ok, List.map_toArray, List.map_cons, List.map_nil, hd, hs, hr]
  exact hK _ _ h
theorem cell_blk {w : World} {b : Nat} {cur : Array Value} {t : TypeId} (hb : w.heap[b]? = some (.cells cur t (0, 0))) (o j : Nat) (v : Value) (h : cur.toList[o + j]? = some v) : w.cell? ((⟨b, o, none⟩ : Addr).add j) = some v := by
  have e : (⟨b, o, none⟩ : Addr).add j = ⟨b, o + j, none⟩ := by unfold Addr.add; split <;> simp_all
  rw [e, cell_of_row w b _ cur t (0, 0) hb, ← Array.getElem?_toList]
  exact h
theorem one_seg {L : List Value} (h : ∀ u ∈ L, u.oneCell' = true) (a b : Nat) : ∀ u ∈ (L.drop a).take b, u.oneCell' = true := fun u hu => h u (List.mem_of_mem_drop (List.mem_of_mem_take hu))

theorem gb_setRow (w : World) (g : Nat) (r : Array Value) : w.grownBy (w.setRow g r) (some g) := ⟨rfl, rfl, rfl, by simp, fun k _ hk => setRow_other w g k r (fun e => hk (by rw [e]))⟩
theorem gb_drew (w : World) (g : Nat) (r : Array Value) : w.grownBy (w.drew.setRow g r) (some g) := ⟨rfl, rfl, rfl, by simp, fun k _ hk => setRow_other w.drew g k r (fun e => hk (by rw [e]))⟩
/-- What is known of the world behind the call: rb the block that was written, b the block of the row that comes back. -/
def After (w w' : World) (rb : Option Nat) (b c : Nat) (row : List Value) : Prop := w.grownBy w' rb ∧ ∃ cur' : Array Value, w'.heap[b]? = some (.cells cur' 65 (0, 0)) ∧ cur'.size = c * 2 ∧ cur'.toList.take row.length = row
theorem in_place (L vs : List Value) (n i c : Nat) (hl : L.length = c * 2) (hv : vs.length = 2) (hi : i < n) (hr : n + 1 ≤ c) :
    ∀ M L1 : List Value, M = (L.drop (i * 2)).take ((n - i) * 2) → L1 = L.take ((i + 1) * 2) ++ M ++ L.drop ((i + 1) * 2 + M.length) →
      M.length = (n - i) * 2 ∧ L1.length = c * 2 ∧ (L1.take (i * 2) ++ vs ++ L1.drop (i * 2 + vs.length)).length = c * 2 ∧
      (L1.take (i * 2) ++ vs ++ L1.drop (i * 2 + vs.length)).take ((n + 1) * 2) = (L.take (n * 2)).take (i * 2) ++ vs ++ (L.take (n * 2)).drop (i * 2) := by
  intro M L1 hM h1
  have hs : M.length = (n - i) * 2 := by rw [hM]; simp; omega
  have hA : (L.take ((i + 1) * 2)).length = i * 2 + 2 := by simp; omega
  have e1 : L1.take (i * 2) = L.take (i * 2) := by
    rw [h1, List.append_assoc, List.take_append_of_le_length (by omega), List.take_take, Nat.min_eq_left (by omega)]
  have e2 : L1.drop (i * 2 + vs.length) = M ++ L.drop ((i + 1) * 2 + M.length) := by
    rw [h1, List.append_assoc, hv, List.drop_left' hA]
  have hl1 : L1.length = c * 2 := by rw [h1]; simp [hs, hA]; omega
  have e3 : (L.take (n * 2)).drop (i * 2) = M := by rw [hM, List.drop_take, show n * 2 - i * 2 = (n - i) * 2 by omega]
  refine ⟨hs, hl1, ?_, ?_⟩
  · simp [hl1, hv]; omega
  · rw [e1, e2, e3, List.take_take, Nat.min_eq_left (by omega), ← List.append_assoc (L.take (i * 2) ++ vs)]
    rw [List.take_append_of_le_length (by simp [hs, hv]; omega), List.take_of_length_le (by simp [hs, hv]; omega)]
set_option maxHeartbeats 4000000 in
set_option maxRecDepth 100000 in
/-- There is room, ahead of the end. -/
theorem room (b vb n c i vc : Nat) (cur vcur : Array Value) (vs : List Value) (w : World) (hb : w.heap[b]? = some (.cells cur 65 (0, 0))) (hsz : cur.size = c * 2) (hv : w.heap[vb]? = some (.cells vcur 65 (0, 0)))
    (hvs : vcur.toList.take 2 = vs) (hvl : vs.length = 2) (hne : vb ≠ b) (h1 : ∀ u ∈ cur.toList.take (n * 2), u.oneCell' = true) (h1v : ∀ u ∈ vs, u.oneCell' = true) (hi : i < n) (hr : n + 1 ≤ c) (hc : c ≤ 9223372036854775807) :
    Calls Try.prog 42 #[.slice (some ⟨b, 0, none⟩) n c, .int .i64 i, .slice (some ⟨vb, 0, none⟩) 1 vc] w fun e w' =>
      e = .returned (.slice (some ⟨b, 0, none⟩) (n + 1) c) ∧ After w w' (some b) b c ((cur.toList.take (n * 2)).take (i * 2) ++ vs ++ (cur.toList.take (n * 2)).drop (i * 2)) := by
  have hT := Try.underlying26
  have hS : (Try.prog.info? 65).map (·.size) = some 2 := by kernel_rfl
  have hZ : ∀ w, (Go.sizeOf 65).run Try.prog w = .ok 2 w := fun w => by
    obtain ⟨j, hj, hj2⟩ := Option.map_eq_some_iff.1 hS
    simp [Go.sizeOf, typeInfo, hj, hj2]
  have hcl : cur.toList.length = c * 2 := by simpa using hsz
  have hvm : vs.length ≤ vcur.size := by have := congrArg List.length hvs; simp at this; omega
  have hov : ∀ lb cb, (callFunc 79 #[.slice (some ⟨vb, 0, none⟩) 1 vc, .slice (some ⟨b, (i + 1) * 2, none⟩) lb cb]).run Try.prog w = .ok (.value (.bool false)) w := fun lb cb => by
    rw [run_callFunc_extern Try.func79 (by kernel_rfl) (by kernel_rfl) (by kernel_rfl) (e := Extern.SlicesOverlaps.overlaps #[26, 26] #[4]) (by kernel_rfl),
      Lib.run_overlaps_apart w 26 4 65 hT 2 hZ ⟨vb, 0, none⟩ ⟨b, (i + 1) * 2, none⟩ 1 vc lb cb hne 65 65 vcur.size cur.size (by simp [World.shape?, hv]) (by simp [World.shape?, hb]) (by omega) (by simp [World.frozen?, hv]) (by simp [World.frozen?, hv])]
    rfl
  obtain ⟨M, hM⟩ : ∃ M, M = (cur.toList.drop (i * 2)).take ((n - i) * 2) := ⟨_, rfl⟩
  obtain ⟨L1, hL1⟩ : ∃ L1, L1 = cur.toList.take ((i + 1) * 2) ++ M ++ cur.toList.drop ((i + 1) * 2 + M.length) := ⟨_, rfl⟩
  obtain ⟨p1, p2, p3, p4⟩ := in_place cur.toList vs n i c hcl hvl hi hr M L1 hM hL1
  have q1 : ∀ u ∈ M, u.oneCell' = true := fun u hu => h1 u (by
    rw [hM] at hu
    have : (cur.toList.drop (i * 2)).take ((n - i) * 2) = (cur.toList.take (n * 2)).drop (i * 2) := by rw [List.drop_take, show n * 2 - i * 2 = (n - i) * 2 by omega]
    rw [this] at hu
    exact List.mem_of_mem_drop hu)
  have hcp1 : ∀ ty dc sc, (Builtin.copy_ #[26, 26] ty #[.slice (some ⟨b, (i + 1) * 2, none⟩) (n - i) dc, .slice (some ⟨b, i * 2, none⟩) (n + 1 - i) sc]).run Try.prog w.drew = .ok (goInt (n - i : Nat)) (w.drew.setRow b L1.toArray) := fun ty dc sc => by
    have hh : w.drew.heap[b]? = some (.cells cur 65 (0, 0)) := hb
    have := copied (P := Try.prog) w.drew 26 26 ty 65 b ((i + 1) * 2) (n - i) dc ⟨b, i * 2, none⟩ (n + 1 - i) sc 2 (n - i) cur 65 M hT hS (by simp only [Nat.min_def]; split <;> omega) hh p1
      (fun j v hj => by
        refine cell_blk hh _ _ _ ?_
        rw [hM, List.getElem?_take] at hj
        split at hj
        · rwa [List.getElem?_drop] at hj
        · cases hj) (by omega) q1
    rw [this, hL1]
  obtain ⟨W1, hW1⟩ : ∃ W1, W1 = w.drew.setRow b L1.toArray := ⟨_, rfl⟩
  have hb1 : W1.heap[b]? = some (.cells L1.toArray 65 (0, 0)) := by rw [hW1]; exact setRow_heap w.drew b cur _ 65 (0, 0) hb
  have hv1 : W1.heap[vb]? = some (.cells vcur 65 (0, 0)) := by rw [hW1, setRow_other _ _ _ _ hne]; exact hv
  obtain ⟨L2, hL2⟩ : ∃ L2, L2 = (L1.take (i * 2) ++ vs ++ L1.drop (i * 2 + vs.length)).toArray := ⟨_, rfl⟩
  have hcp2 : ∀ ty dc, (Builtin.copy_ #[26, 26] ty #[.slice (some ⟨b, i * 2, none⟩) (n + 1 - i) dc, .slice (some ⟨vb, 0, none⟩) 1 vc]).run Try.prog W1 = .ok (goInt (1 : Nat)) (W1.setRow b L2) := fun ty dc => by
    have := copied (P := Try.prog) W1 26 26 ty 65 b (i * 2) (n + 1 - i) dc ⟨vb, 0, none⟩ 1 vc 2 1 L1.toArray 65 vs hT hS (by simp only [Nat.min_def]; split <;> omega) hb1 hvl
      (fun j v hj => by
        refine cell_blk hv1 _ _ _ ?_
        rw [← hvs, List.getElem?_take] at hj
        split at hj
        · simpa using hj
        · cases hj) (by simp; omega) h1v
    rw [this, hL2]
  have hend : After w (W1.setRow b L2) (some b) b c ((cur.toList.take (n * 2)).take (i * 2) ++ vs ++ (cur.toList.take (n * 2)).drop (i * 2)) := by
    have g1 : w.grownBy W1 (some b) := by
      rw [hW1]
      exact gb_drew w b _
    refine ⟨g1.trans (gb_setRow W1 b L2), L2, setRow_heap W1 b _ _ _ _ hb1, by rw [hL2]; simpa using p3, ?_⟩
    rw [hL2]
    have e : ((cur.toList.take (n * 2)).take (i * 2) ++ vs ++ (cur.toList.take (n * 2)).drop (i * 2)).length = (n + 1) * 2 := by simp [hvl, hcl]; omega
    rw [e]
    exact p4
  rw [← hW1] at hcp1
  have HE := Aside0.mk hend
  clear hend hL1 hM hL2 hW1 p4 p3 hcl hvs h1 h1v q1
  have z1 : ¬ ((1 : Int) = 0) := by omega
  have z2 : ¬ ((i : Int) = (n : Int)) := by omega
  have z3 : ¬ ((c : Int) < (n : Int) + 1) := by omega
  have z4 : IntKind.i64.wrap ((i : Int) + 1) = (i : Int) + 1 := by rw [IntKind.wrap_i64]; omega
  have z5 : IntKind.i64.wrap ((n : Int) + 1) = (n : Int) + 1 := by rw [IntKind.wrap_i64]; omega
  have z6 : ((i : Int) + 1).toNat = i + 1 := by omega
  have z7 : ((n : Int) + 1).toNat = n + 1 := by omega
  have z8 : (0 : Int) ≤ (i : Int) + 1 := by omega
  have z9 : (i : Int) ≤ (n : Int) := by omega
  have y1 : ¬ (c = i) := by omega
  have y2 : ¬ (c = i + 1) := by omega
  have y3 : (i : Int) + 1 ≤ (n : Int) + 1 := by omega
  have y4 : (n : Int) + 1 ≤ (c : Int) := by omega
  have y5 : (i : Int) ≤ (n : Int) + 1 := by omega
  go_enter Try.func42, Try.ntmps42
  go_wp2_with (simp only [hov])
  go_region_law (refine st_copy rfl _ _ 26 26 rfl _ _ (by simp [Act.eval, Act.put]) (by simp [Act.eval, Act.put]) (hcp1 _ _ _) ?_)
  go_wp2_with (at_builtin; refine wl_copy _ rfl _ _ 26 26 rfl _ _ rfl rfl (hcp2 _ _) ?_)
  go_ret
  exact ⟨rfl, HE.out⟩
theorem zc_len (z : Array Value) (k : Nat) (h : z.size = 2) : (Builtin.zeroCells z k).toList.length = k * 2 := by
  simp [Builtin.zeroCells, h]
theorem new_place (I Z vs : List Value) (n i k : Nat) (hl : I.length = n * 2) (hv : vs.length = 2) (hi : i < n) (hZ : Z.length = k * 2) (hk : n + 1 ≤ i + k) :
    ∀ L L1 D : List Value, L = I.take (i * 2) ++ Z → D = I.drop (i * 2) → L1 = L.take (i * 2) ++ vs ++ L.drop (i * 2 + vs.length) →
      L.length = (i + k) * 2 ∧ D.length = (n - i) * 2 ∧ L1.length = (i + k) * 2 ∧ (L1.take ((i + 1) * 2) ++ D ++ L1.drop ((i + 1) * 2 + D.length)).length = (i + k) * 2 ∧
      (L1.take ((i + 1) * 2) ++ D ++ L1.drop ((i + 1) * 2 + D.length)).take ((n + 1) * 2) = I.take (i * 2) ++ vs ++ I.drop (i * 2) := by
  intro L L1 D h0 hD h1
  have a0 : (I.take (i * 2)).length = i * 2 := by simp [hl]; omega
  have hL : L.length = (i + k) * 2 := by rw [h0, List.length_append, a0, hZ]; omega
  have hDl : D.length = (n - i) * 2 := by rw [hD, List.length_drop, hl]; omega
  have e0 : L.take (i * 2) = I.take (i * 2) := by rw [h0, List.take_left' a0]
  have hL1 : L1.length = (i + k) * 2 := by rw [h1]; simp [hL, hv]; omega
  have e1 : L1.take ((i + 1) * 2) = I.take (i * 2) ++ vs := by rw [h1, e0, List.take_left' (by simp [a0, hv]; omega)]
  refine ⟨hL, hDl, hL1, by simp [hL1, hDl]; omega, ?_⟩
  rw [e1, ← hD, List.take_append_of_le_length (by simp [a0, hv, hDl]; omega), List.take_of_length_le (by simp [a0, hv, hDl]; omega)]
set_option maxHeartbeats 4000000 in
set_option maxRecDepth 100000 in
/-- No room, ahead of the end: a new row. -/
theorem grown (b vb n i vc : Nat) (cur vcur : Array Value) (vs : List Value) (w : World) (hb : w.heap[b]? = some (.cells cur 65 (0, 0))) (hsz : cur.size = n * 2) (hv : w.heap[vb]? = some (.cells vcur 65 (0, 0)))
    (hvs : vcur.toList.take 2 = vs) (hvl : vs.length = 2) (h1 : ∀ u ∈ cur.toList, u.oneCell' = true) (h1v : ∀ u ∈ vs, u.oneCell' = true) (hi : i < n) (hc : (n + 1) * 16 ≤ 140737488355328) :
    Calls Try.prog 42 #[.slice (some ⟨b, 0, none⟩) n n, .int .i64 i, .slice (some ⟨vb, 0, none⟩) 1 vc] w fun e w' =>
      ∃ G, e = .returned (.slice (some ⟨w.heap.size, 0, none⟩) (n + 1) G) ∧ n + 1 ≤ G ∧ G ≤ maxLen ∧ After w w' none w.heap.size G (cur.toList.take (i * 2) ++ vs ++ cur.toList.drop (i * 2)) := by
  have hT := Try.underlying26
  have hS : (Try.prog.info? 65).map (·.size) = some 2 := by kernel_rfl
  obtain ⟨i0, hi0, hz0, hzs, hzb⟩ := info_parts (show (Try.prog.info? 65).map (fun i => (i.zero, i.size, i.bytes)) = some (some (.agg #[.int .i64 0, .int .i64 0]), 2, 16) by kernel_rfl)
  have hcl : cur.toList.length = n * 2 := by simpa using hsz
  have hbw : b < w.heap.size := blk_lt hb
  have hvw : vb < w.heap.size := blk_lt hv
  have hold : (Builtin.firstCells i0.size i (.slice (some ⟨b, 0, none⟩) i n)).run Try.prog w.drew = .ok (cur.toList.take (i * 2)).toArray w.drew := by
    rw [hzs]
    refine run_firstCells_some w.drew 2 i ⟨b, 0, none⟩ i n (cur.toList.take (i * 2)) (by simp [hsz]; omega) (fun j v hj => ?_)
    refine cell_blk (w := w.drew) (cur := cur) hb _ _ _ ?_
    rw [List.getElem?_take] at hj
    split at hj
    · simpa using hj
    · cases hj
  obtain ⟨G, hG⟩ : ∃ G, G = grownCap w (n + 1) n 65 := ⟨_, rfl⟩
  have hGn : n + 1 ≤ G := by rw [hG]; exact grownCap_ge w _ _ _
  have hGm : G ≤ maxLen := by rw [hG]; exact grownCap_le_maxLen w (n + 1) n 65 (by unfold maxLen; omega)
  obtain ⟨Z, hZ⟩ : ∃ Z : List Value, Z = (Builtin.zeroCells (Value.agg #[.int .i64 0, .int .i64 0]).cells (n + 1 - i)).toList ++ (Builtin.zeroCells (Value.agg #[.int .i64 0, .int .i64 0]).cells (G - (n + 1))).toList := ⟨_, rfl⟩
  have hZl : Z.length = (G - i) * 2 := by
    rw [hZ, List.length_append, zc_len _ _ rfl, zc_len _ _ rfl]
    omega
  have hrz : ∀ ty, (Builtin.append_ #[26, 3] ty #[.slice (some ⟨b, 0, none⟩) i n, .int .i64 ((n : Int) + 1 - (i : Int))]).run Try.prog w =
      .ok (.slice (some ⟨w.heap.size, 0, none⟩) (n + 1) G) (w.drew.alloc (.cells (cur.toList.take (i * 2) ++ Z).toArray 65)) := fun ty => by
    have h := Lib.run_append_grow_zeros w 26 3 ty 65 i0 _ .i64 .i64 hT Try.underlying3 hi0 hz0 (some ⟨b, 0, none⟩) i n (cur.toList.take (i * 2)) hold (n + 1 - i) (by omega) (by omega) (by omega) (by omega) (by rw [hzb]; omega) (by rw [hzb, show i + (n + 1 - i) = n + 1 by omega]; exact growslice_fits (by omega) (by omega))
    rw [show i + (n + 1 - i) = n + 1 by omega, ← hG] at h
    rw [show (n : Int) + 1 - (i : Int) = ((n + 1 - i : Nat) : Int) by omega, h]
    have hz' : (cur.toList.take (i * 2)).toArray ++ Builtin.zeroCells (Value.agg #[.int .i64 0, .int .i64 0]).cells (n + 1 - i) ++ Builtin.zeroCells (Value.agg #[.int .i64 0, .int .i64 0]).cells (G - (n + 1)) = (cur.toList.take (i * 2) ++ Z).toArray := by
      rw [hZ]
      apply Array.ext'
      rw [Array.toList_append, Array.toList_append, List.append_assoc]
    rw [hz']
  obtain ⟨L, hL⟩ : ∃ L, L = cur.toList.take (i * 2) ++ Z := ⟨_, rfl⟩
  obtain ⟨L1, hL1⟩ : ∃ L1, L1 = L.take (i * 2) ++ vs ++ L.drop (i * 2 + vs.length) := ⟨_, rfl⟩
  obtain ⟨D, hD⟩ : ∃ D, D = cur.toList.drop (i * 2) := ⟨_, rfl⟩
  obtain ⟨p0, pD, p2, p3, p4⟩ := new_place cur.toList Z vs n i (G - i) hcl hvl hi hZl (by omega) L L1 D hL hD hL1
  obtain ⟨L2, hL2⟩ : ∃ L2, L2 = (L1.take ((i + 1) * 2) ++ D ++ L1.drop ((i + 1) * 2 + D.length)).toArray := ⟨_, rfl⟩
  rw [← hL] at hrz
  have hGi : i + (G - i) = G := by omega
  rw [hGi] at p0 p2 p3
  obtain ⟨W0, hW0⟩ : ∃ W0, W0 = w.alloc (.cells L.toArray 65) := ⟨_, rfl⟩
  have hb0 : W0.heap[w.heap.size]? = some (.cells L.toArray 65 (0, 0)) := by rw [hW0]; exact heap_alloc_new w _
  have hv0 : W0.heap[vb]? = some (.cells vcur 65 (0, 0)) := by rw [hW0]; exact blk_alloc hv _
  have ho0 : W0.heap[b]? = some (.cells cur 65 (0, 0)) := by rw [hW0]; exact blk_alloc hb _
  have hcpA : ∀ ty dc, (Builtin.copy_ #[26, 26] ty #[.slice (some ⟨w.heap.size, i * 2, none⟩) (n + 1 - i) dc, .slice (some ⟨vb, 0, none⟩) 1 vc]).run Try.prog W0.drew = .ok (goInt (1 : Nat)) (W0.drew.setRow w.heap.size L1.toArray) := fun ty dc => by
    have := copied (P := Try.prog) W0.drew 26 26 ty 65 w.heap.size (i * 2) (n + 1 - i) dc ⟨vb, 0, none⟩ 1 vc 2 1 L.toArray 65 vs hT hS (by simp only [Nat.min_def]; split <;> omega) hb0 hvl
      (fun j v hj => by
        refine cell_blk (w := W0.drew) hv0 _ _ _ ?_
        rw [← hvs, List.getElem?_take] at hj
        split at hj
        · simpa using hj
        · cases hj) (by simp [p0, hvl]; omega) h1v
    rw [this, hL1]
  obtain ⟨W1, hW1⟩ : ∃ W1, W1 = W0.drew.setRow w.heap.size L1.toArray := ⟨_, rfl⟩
  have hne : b ≠ w.heap.size := by omega
  have hb1 : W1.heap[w.heap.size]? = some (.cells L1.toArray 65 (0, 0)) := by rw [hW1]; exact setRow_heap W0.drew w.heap.size _ _ 65 (0, 0) hb0
  have ho1 : W1.heap[b]? = some (.cells cur 65 (0, 0)) := by rw [hW1, setRow_other _ _ _ _ hne]; exact ho0
  have hcpB : ∀ ty dc sc, (Builtin.copy_ #[26, 26] ty #[.slice (some ⟨w.heap.size, (i + 1) * 2, none⟩) (n - i) dc, .slice (some ⟨b, i * 2, none⟩) (n - i) sc]).run Try.prog W1.drew = .ok (goInt (n - i : Nat)) (W1.drew.setRow w.heap.size L2) := fun ty dc sc => by
    have := copied (P := Try.prog) W1.drew 26 26 ty 65 w.heap.size ((i + 1) * 2) (n - i) dc ⟨b, i * 2, none⟩ (n - i) sc 2 (n - i) L1.toArray 65 D hT hS (by simp) hb1 pD
      (fun j v hj => by
        refine cell_blk (w := W1.drew) ho1 _ _ _ ?_
        rw [hD] at hj
        rwa [List.getElem?_drop] at hj) (by simp [p2, pD]; omega) (fun u hu => h1 u (by rw [hD] at hu; exact List.mem_of_mem_drop hu))
    rw [this, hL2]
  have hend : After w (W1.drew.setRow w.heap.size L2) none w.heap.size G (cur.toList.take (i * 2) ++ vs ++ cur.toList.drop (i * 2)) := by
    refine ⟨?_, _, setRow_heap W1.drew w.heap.size _ _ 65 (0, 0) hb1, by rw [hL2]; simpa using p3, ?_⟩
    · rw [hW1, hW0]
      refine ⟨rfl, rfl, rfl, by simp, fun k hk _ => ?_⟩
      rw [setRow_other _ _ _ _ (by omega)]
      show (((w.alloc _).drew).setRow w.heap.size _).heap[k]? = _
      rw [setRow_other _ _ _ _ (by omega)]
      exact Below.heap_alloc w _ k hk
    · have e : (cur.toList.take (i * 2) ++ vs ++ cur.toList.drop (i * 2)).length = (n + 1) * 2 := by simp [hvl, hsz]; omega
      rw [e, hL2]
      simpa using p4
  have HE := Aside0.mk hend
  have HG := Aside0.mk hGn
  have HM := Aside0.mk hGm
  have q0 : (w.drew.alloc (.cells L.toArray 65)) = W0.drew := by rw [hW0]; rfl
  rw [← hW1] at hcpA
  have q1 : ¬ (G = i) := by omega
  have q2 : ¬ (G = i + 1) := by omega
  have q3 : (i : Int) ≤ (G : Int) := by omega
  have q4 : G ≤ 9223372036854775807 := hGm
  rw [q0] at hrz
  have hN : W0.drew.heap.size = w.heap.size + 1 := by rw [hW0]; simp
  clear hend hL2 hL1 hL hD hZ hW1 p4 p3 p2 p0 hcl hvs h1 h1v hGn hGm hG hold hZl q0
  have z1 : ¬ ((1 : Int) = 0) := by omega
  have z2 : ¬ ((i : Int) = (n : Int)) := by omega
  have z3 : (n : Int) < (n : Int) + 1 := by omega
  have z4 : IntKind.i64.wrap ((i : Int) + 1) = (i : Int) + 1 := by rw [IntKind.wrap_i64]; omega
  have z5 : IntKind.i64.wrap ((n : Int) + 1) = (n : Int) + 1 := by rw [IntKind.wrap_i64]; omega
  have z6 : ((i : Int) + 1).toNat = i + 1 := by omega
  have z8 : (0 : Int) ≤ (i : Int) + 1 := by omega
  have z9 : (i : Int) ≤ (n : Int) := by omega
  have y1 : ¬ (n = i) := by omega
  have y3 : (i : Int) + 1 ≤ (n : Int) + 1 := by omega
  have y5 : (i : Int) ≤ (n : Int) + 1 := by omega
  have y6 : IntKind.i64.wrap ((n : Int) + 1 - (i : Int)) = (n : Int) + 1 - (i : Int) := by rw [IntKind.wrap_i64]; omega
  generalize hw0 : W0.drew = Wd at hrz hcpA
  go_enter Try.func42, Try.ntmps42
  go_wp2_with (first | (at_builtin; refine wl_append _ rfl _ _ 26 3 rfl _ _ rfl rfl (hrz _) ?_) | (at_builtin; refine wl_copy _ rfl _ _ 26 26 rfl _ _ rfl rfl (hcpA _ _) ?_))
  go_region_law (refine st_copy rfl _ _ 26 26 rfl _ _ (by simp [Act.eval, Act.put]) (by simp [Act.eval, Act.put]) (hcpB _ _ _) ?_)
  go_wp2
  go_ret
  exact ⟨G, rfl, HG.out, HM.out, HE.out⟩
end Go.Proofs.YtlneimpoholkhaaIns
