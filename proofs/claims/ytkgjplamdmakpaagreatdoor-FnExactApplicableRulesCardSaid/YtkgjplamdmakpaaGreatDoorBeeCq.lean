/- Chapter 23: copies that nobody else knows. -/
import Derived.Test.YtkgjplamdmakpaaGreatDoorBeeW
import Derived.Test.YtkgjplamdmakpaaGreatDoorBeeMt
namespace Go.Bee.Cq
open Go Go.Bee Go.Proofs Go.Bee.Ty Go.Bee.C23 Go.Bee.Mt
theorem tys : type_of% (And.intro Go.Bee.C23.tys Go.Bee.Mt.tys) := And.intro Go.Bee.C23.tys Go.Bee.Mt.tys
end Go.Bee.Cq
namespace Go.Bee.Cq
open Go Go.Bee Go.Proofs Go.Bee.Ty Go.Bee.C23
set_option linter.unusedVariables false
set_option maxRecDepth 20000
attribute [local irreducible] Go.Bee.bwp
theorem th_plain (l : List Th) : ∀ x ∈ flat (l.map Th.e), x.plain = true := by
  intro x hx
  obtain ⟨y, hy, hxy⟩ := List.mem_flatMap.1 hx
  obtain ⟨t, _, rfl⟩ := List.mem_map.1 hy
  simp only [Th.e, PD.cells, List.mem_cons, List.not_mem_nil, or_false] at hxy
  rcases hxy with rfl | rfl <;> rfl
theorem sd_plain (l : List Sd) : ∀ x ∈ flat (l.map Sd.e), x.plain = true := by
  intro x hx
  obtain ⟨y, hy, hxy⟩ := List.mem_flatMap.1 hx
  obtain ⟨t, _, rfl⟩ := List.mem_map.1 hy
  simp only [Sd.e, PD.cells, List.mem_cons, List.not_mem_nil, or_false] at hxy
  rcases hxy with rfl | rfl <;> rfl
theorem ru_sc (l : List Ru) : ∀ x ∈ flat (l.map Ru.e), x.scalar = true := by
  intro x hx
  obtain ⟨y, hy, hxy⟩ := List.mem_flatMap.1 hx
  obtain ⟨r, _, rfl⟩ := List.mem_map.1 hy
  simp only [Ru.e, PD.cells, List.mem_cons, List.not_mem_nil, or_false] at hxy
  rcases hxy with rfl | rfl | rfl | rfl | rfl <;> rfl
theorem toThesisS_q (l : List Th) (hl : l.length ≤ 1048576) : BRet Tryz.prog 71 [] [.d (.sl 2 (l.map Th.e))] (.dp (.sl 2 (l.map Th.e))) [] := (toThesisS_b l hl).less (PLe.ownDp (th_plain l))
theorem toStandardS_q (l : List Sd) (hl : l.length ≤ 1048576) : BRet Tryz.prog 73 [] [.d (.sl 2 (l.map Sd.e))] (.dp (.sl 2 (l.map Sd.e))) [] := (toStandardS_b l hl).less (PLe.ownDp (sd_plain l))
theorem toProofRule_q (r : Ru) (h : RuOk r) : BRet Tryz.prog 117 [] [.agg [.d (.sl 2 (r.ps.map Th.e)), .d (.sl 2 (r.es.map Th.e)), .str r.c.n, .bool r.c.g, .int r.wt]]
    (.agg [.dp (.sl 2 (r.ps.map Th.e)), .dp (.sl 2 (r.es.map Th.e)), .str r.c.n, .bool r.c.g, .int r.wt]) [] :=
  (toProofRule_b r h).less (PLe.aggs (.cons (CLe.ownDp (th_plain _)) (.cons (CLe.ownDp (th_plain _)) (.cons CLe.rfl (.cons CLe.rfl (.cons CLe.rfl .nil))))))
def fillQ (l : List PD) (zero : List PV) (n k : Nat) : List PV := (flat (l.take k)).map dpc ++ (List.replicate (n - k) zero).flatten
theorem fillQ_0 (l : List PD) (zero : List PV) (n : Nat) : fillQ l zero n 0 = (List.replicate n zero).flatten := by simp [fillQ, flat]
theorem fillQ_n (l : List PD) (zero : List PV) : fillQ l zero l.length l.length = (flat l).map dpc := by simp [fillQ]
theorem fillQ_len {l : List PD} {zero : List PV} {sz n k : Nat} (hz : zero.length = sz) (hc : ∀ x ∈ l, x.cells.length = sz) (hl : l.length = n) (hk : k ≤ n) : (fillQ l zero n k).length = n * sz := by
  have h1 := flat_length (sz := sz) (l := l.take k) (fun x hx => hc x (List.mem_of_mem_take hx))
  simp only [fillQ, List.length_append, List.length_map, h1, List.length_take, List.length_flatten, List.map_replicate, hz, List.sum_replicate_nat]
  rw [Nat.min_eq_left (by omega), ← Nat.add_mul]
  congr 1; omega
theorem fillQ_step {l : List PD} {zero : List PV} {sz n k : Nat} (hz : zero.length = sz) (hc : ∀ x ∈ l, x.cells.length = sz) (hl : l.length = n) (hk : k < l.length) :
    (fillQ l zero n k).take (k * sz) ++ (l[k].cells.map dpc) ++ (fillQ l zero n k).drop (k * sz + sz) = fillQ l zero n (k + 1) := by
  have h1 := flat_length (sz := sz) (l := l.take k) (fun x hx => hc x (List.mem_of_mem_take hx))
  rw [List.length_take, Nat.min_eq_left (by omega)] at h1
  have e : n - k = (n - (k + 1)) + 1 := by omega
  have hlen : ((flat (l.take k)).map dpc).length = k * sz := by rw [List.length_map]; exact h1
  unfold fillQ
  rw [List.take_left' hlen, e, List.replicate_succ, List.flatten_cons, ← List.append_assoc, List.drop_left' (by rw [List.length_append, hlen, hz]), List.take_succ_eq_append_getElem hk]
  have : flat (l.take k ++ [l[k]]) = flat (l.take k) ++ l[k].cells := by unfold flat; rw [List.flatMap_append]; simp [-List.take_append_getElem]
  rw [this, List.map_append]
theorem fillQ_ok {l : List PD} {zero : List PV} (hz : ∀ L, zero.all (okC L) = true) (n k : Nat) (L : List BN) : (fillQ l zero n k).all (okC L) = true := by
  unfold fillQ
  rw [List.all_append, Bool.and_eq_true]
  refine ⟨?_, ?_⟩
  · rw [List.all_eq_true]
    intro x hx
    obtain ⟨y, -, rfl⟩ := List.mem_map.1 hx
    unfold dpc; split <;> rfl
  rw [List.all_eq_true]
  intro x hx
  obtain ⟨y, hy, hx⟩ := List.mem_flatten.1 hx
  rw [(List.mem_replicate.1 hy).2] at hx
  exact List.all_eq_true.1 (hz L) x hx
theorem toProofRuleS_q (l : List Ru) (hl : l.length ≤ 1048576) (ho : ∀ r ∈ l, RuOk r) : BRet Tryz.prog 72 [] [.d (.sl 5 (l.map Ru.e))] (.dp (.sl 5 (l.map Ru.e))) [] := by
  refine bof Tryz.func72 ?_
  have hu : ∀ x ∈ l.map Ru.e, x.cells.length = 5 := fun x hx => by obtain ⟨y, _, rfl⟩ := List.mem_map.1 hx; rfl
  have hok := fun n k L => fillQ_ok (l := l.map Ru.e) (zero := Ru.z) (fun _ => rfl) n k L
  refine bgo ?_
  refine ⟨by omega, by omega, ?_⟩
  refine b_lp (ι := Nat × Unit) (fun i => [(0, .d (.sl 5 (l.map Ru.e))), (3, .rsl (.t 7) 36 5 l.length), (4, .int i.1)]) (fun i => [(.t 7, fillQ (l.map Ru.e) Ru.z l.length i.1)]) (fun i => i.1 ≤ l.length) (fun i => l.length - i.1) (0, ())
    ⟨hsT, ⟨_, rfl, HasC.of (by rw [fillQ_0]; rfl) (hok _ _ _)⟩, trivial⟩ (Nat.zero_le _) ?_
  rintro ⟨k, u⟩ hk I nx
  dsimp only at hk ⊢
  by_cases hlt : k < l.length
  · have hx : l[k]? = some l[k] := List.getElem?_eq_getElem hlt
    have hfl := fillQ_len (l := l.map Ru.e) (zero := Ru.z) (n := l.length) (k := k) (sz := 5) rfl hu (by simp) hk
    have hfs := fillQ_step (l := l.map Ru.e) (zero := Ru.z) (n := l.length) (k := k) (sz := 5) rfl hu (by simp) (by simpa using hlt)
    refine bgo ?_
    refine b_call (toProofRule_q _ (ho _ (List.getElem_mem hlt))) rfl rfl rfl rfl ?_
    refine bgo ?_
    refine ⟨by omega, nx.go (k + 1, ()) hlt (by dsimp only; omega) ⟨hsT, ⟨_, rfl, HasC.of ?_ (hok _ _ _)⟩, trivial⟩⟩
    rw [← hfs, List.getElem_map]
    rfl
  · have hk' : k = l.length := by omega
    subst hk'
    refine bgo ?_
    refine wk_fzq 3 (.t 7) 36 5 l.length (l.map Ru.e) [] [] ⟨hsT, ⟨_, rfl, HasC.of ?_ ?_⟩, trivial⟩ (by simp) hu (ru_sc l) ?_
    · have := fillQ_n (l.map Ru.e) Ru.z
      rw [List.length_map] at this
      exact this
    · have := hok l.length l.length [.t 7]
      have h2 := fillQ_n (l.map Ru.e) Ru.z
      rw [List.length_map] at h2
      rw [h2] at this; exact this
    refine bgo ?_
    trivial
theorem toCase_q (c : Cs) (h : CsOk c) : BRet Tryz.prog 24 [] [.agg [.d (.sl 2 (c.fs.map Th.e)), .d (.sl 5 (c.rs.map Ru.e)), .d (.sl 2 (c.ss.map Sd.e))]]
    (.agg [.dp (.sl 2 (c.fs.map Th.e)), .dp (.sl 5 (c.rs.map Ru.e)), .dp (.sl 2 (c.ss.map Sd.e))]) [] := by
  refine bof Tryz.func24 ?_
  refine bgo ?_
  refine b_call (toThesisS_q _ h.1) rfl rfl rfl rfl ?_
  refine bgo ?_
  refine b_call (toProofRuleS_q _ h.2.1 h.2.2.2) rfl rfl rfl rfl ?_
  refine bgo ?_
  refine b_call (toStandardS_q _ h.2.2.1) rfl rfl rfl rfl ?_
  refine bgo ?_
  trivial
end Go.Bee.Cq
