/- A cursor over bytes: what is drawn. -/
import Derived.Test.YtkgjplamdmakpaaGreatDoorBeeU
namespace Go.Bee.Dr
open Go Go.Bee Go.Proofs Go.Bee.Ty
set_option linter.unusedVariables false
set_option maxRecDepth 20000
theorem bofp {f : Nat} {fn : Func} {c : Code} {rs : List ResultVar} {args : List PV} {r : PV} {ci co : List PV} (hf : Tryz.prog.funcs[f]? = some fn) (h : bwp Tryz.prog (fun _ => []) c (endK Tryz.prog rs r [co]) (St.init args [ci])) (hb : fn.body = some c := by exact rfl) (hrs : fn.results = rs.toArray := by exact rfl)
    (hn : (fn.name != "runtime.NumGoroutine") = true := by kernel_rfl) (hd : cOk Tryz.prog (fun _ => []) fn.ntmps c = true := by kernel_rfl) (ha : args.length ≤ fn.ntmps := by exact Nat.le_of_ble_eq_true rfl) : BRet Tryz.prog f [ci] args r [co] :=
  BRet.of_body (fun _ => []) mixed hf hb hn hd hrs rfl ha h
attribute [local irreducible] Go.Bee.bwp
theorem cvI : ∀ (k : IntKind) (n : Int), evConv Tryz.prog 3 (.d (.int k n)) = some (.d (.int .i64 (IntKind.i64.wrap n))) := fun k n => by kernel_rfl
theorem cvU : ∀ (k : IntKind) (n : Int), evConv Tryz.prog 103 (.d (.int k n)) = some (.d (.int .u64 (IntKind.u64.wrap n))) := fun k n => by kernel_rfl
theorem tys : type_of% (And.intro Go.Bee.Ty.tys (And.intro cvI cvU)) := And.intro Go.Bee.Ty.tys (And.intro cvI cvU)
structure Cu where (a : Nat) (x : Int)
def by1 (bs : List UInt8) : List PD := bs.map fun b => .int .u8 (b.toNat : Int)
abbrev Cu.c (bs : List UInt8) (s : Cu) : List PV := [.d (.sl 1 (by1 bs)), .int (s.a : Int), .d (.int .u64 s.x)]
def nxV (bs : List UInt8) (s : Cu) : Int := match bs[s.a]? with
  | some b => b.toNat
  | none => 0
def nxX (bs : List UInt8) (s : Cu) : Int := IntKind.u64.wrap (IntKind.u64.wrap (IntKind.u64.wrap (s.x * 6364136223846793005) + IntKind.u64.wrap (nxV bs s)) + 902902)
def nxS (bs : List UInt8) (s : Cu) : Cu := ⟨s.a + 1, nxX bs s⟩
def nxR (bs : List UInt8) (s : Cu) : Int := if (s.a : Int) + 1 ≤ bs.length then nxV bs s else IntKind.i64.wrap (bAnd .u64 (bShr .u64 (nxX bs s) 40) 255)
theorem by1_len (bs : List UInt8) : (by1 bs).length = bs.length := by simp [by1]
theorem next_b (bs : List UInt8) (s : Cu) (h : s.a ≤ 4611686018427387904) : BRet Tryz.prog 145 [s.c bs] [.ptr (.a 0) 0] (.int (nxR bs s)) [(nxS bs s).c bs] := by
  refine bofp Tryz.func145 ?_
  have hl := by1_len bs
  have key : ∀ (v : Int), nxV bs s = v → (nxS bs s).c bs = [.d (.sl 1 (by1 bs)), .int ((s.a : Int) + 1), .d (.int .u64 (IntKind.u64.wrap (IntKind.u64.wrap (IntKind.u64.wrap (s.x * 6364136223846793005) + IntKind.u64.wrap v) + 902902)))] := by
    rintro v rfl; rfl
  have key2 : ∀ (v : Int), nxV bs s = v → nxR bs s = if (s.a : Int) + 1 ≤ bs.length then v else IntKind.i64.wrap (bAnd .u64 (bShr .u64 (IntKind.u64.wrap (IntKind.u64.wrap (IntKind.u64.wrap (s.x * 6364136223846793005) + IntKind.u64.wrap v) + 902902)) 40) 255) := by
    rintro v rfl; rfl
  have hnx : nxV bs s = match bs[s.a]? with
    | some b => (b.toNat : Int)
    | none => 0 := rfl
  by_cases h1 : (s.a : Int) < bs.length
  · have hlt : s.a < bs.length := by omega
    have hx : (by1 bs)[s.a]? = some (.int .u8 (bs[s.a].toNat : Int)) := by
      unfold by1
      rw [List.getElem?_map, List.getElem?_eq_getElem hlt]; rfl
    have hv : nxV bs s = (bs[s.a].toNat : Int) := by rw [hnx, List.getElem?_eq_getElem hlt]
    have hb : bs[s.a].toNat < 256 := UInt8.toNat_lt _
    have e1 := key _ hv
    have e2 := key2 _ hv
    rw [e1, e2]
    clear key key2 e1 e2 hv hnx
    generalize bs[s.a].toNat = n at *
    have h2 : (s.a : Int) + 1 ≤ bs.length := by omega
    rw [if_pos h2]
    refine bgo ?_
    exact ret_1p rfl rfl rfl (fun k => rfl) rfl
  · have hv : nxV bs s = 0 := by rw [hnx, List.getElem?_eq_none (by omega)]
    have e1 := key _ hv
    have e2 := key2 _ hv
    rw [e1, e2]
    clear key key2 e1 e2 hv hnx
    have h2 : ¬ (s.a : Int) + 1 ≤ bs.length := by omega
    rw [if_neg h2]
    refine bgo ?_
    exact ret_1p rfl rfl rfl (fun k => rfl) rfl
theorem bAnd_in (a : Int) : 0 ≤ bAnd .u64 a 255 ∧ bAnd .u64 a 255 ≤ 255 := by
  have h : (BitVec.ofInt IntKind.u64.bits a &&& BitVec.ofInt IntKind.u64.bits 255).toNat ≤ 255 := by
    rw [BitVec.toNat_and]
    exact Nat.le_trans Nat.and_le_right (by decide)
  generalize hm : (BitVec.ofInt IntKind.u64.bits a &&& BitVec.ofInt IntKind.u64.bits 255).toNat = m at h
  have e : bAnd .u64 a 255 = IntKind.u64.wrap (m : Int) := by unfold bAnd; rw [hm]
  have e2 : IntKind.u64.wrap (m : Int) = m := by
    have : m = 0 ∨ 0 < m := by omega
    simp only [IntKind.wrap]
    simp [IntKind.bits, IntKind.signed]
    omega
  rw [e, e2]; omega
theorem nxV_in (bs : List UInt8) (s : Cu) : 0 ≤ nxV bs s ∧ nxV bs s ≤ 255 := by
  unfold nxV
  split
  · rename_i b _
    have := UInt8.toNat_lt b
    omega
  · omega
theorem nxR_in (bs : List UInt8) (s : Cu) : 0 ≤ nxR bs s ∧ nxR bs s ≤ 255 := by
  unfold nxR
  split
  · exact nxV_in bs s
  · have h := bAnd_in (bShr .u64 (nxX bs s) 40)
    rw [wrap_in _ (by omega) (by omega)]
    exact h
def pkR (bs : List UInt8) (s : Cu) (n : Int) : Int := if n ≤ 1 then 0 else if n > 200 then (nxR bs s * 256 + nxR bs (nxS bs s)).tmod n else (nxR bs s).tmod n
def pkS (bs : List UInt8) (s : Cu) (n : Int) : Cu := if n ≤ 1 then s else if n > 200 then nxS bs (nxS bs s) else nxS bs s
theorem pkR_in (bs : List UInt8) (s : Cu) {n : Int} (h : 1 ≤ n) : 0 ≤ pkR bs s n ∧ pkR bs s n < n := by
  have h1 := nxR_in bs s
  have h2 := nxR_in bs (nxS bs s)
  unfold pkR
  split
  · omega
  · split
    · exact ⟨Int.tmod_nonneg _ (by omega), Int.tmod_lt_of_pos _ (by omega)⟩
    · exact ⟨Int.tmod_nonneg _ (by omega), Int.tmod_lt_of_pos _ (by omega)⟩
theorem pkS_a (bs : List UInt8) (s : Cu) (n : Int) : (pkS bs s n).a ≤ s.a + 2 := by
  unfold pkS
  split
  · omega
  · split
    · show s.a + 1 + 1 ≤ _; omega
    · show s.a + 1 ≤ _; omega
theorem pick_b (bs : List UInt8) (s : Cu) (n : Int) (h : s.a ≤ 4611686018427387000) : BRet Tryz.prog 130 [s.c bs] [.ptr (.a 0) 0, .int n] (.int (pkR bs s n)) [(pkS bs s n).c bs] := by
  refine bofp Tryz.func130 ?_
  unfold pkR pkS
  by_cases h1 : n ≤ 1
  · rw [if_pos h1, if_pos h1]
    refine bgo ?_
    exact ret_1p rfl rfl rfl (fun k => rfl) rfl
  · rw [if_neg h1, if_neg h1]
    have hin := nxR_in bs s
    refine bgo ?_
    refine b_callp (next_b bs s (by omega)) rfl rfl rfl rfl rfl rfl rfl rfl rfl rfl ?_
    by_cases h2 : n > 200
    · rw [if_pos h2, if_pos h2]
      have hin2 := nxR_in bs (nxS bs s)
      have hn0 : ¬ n = 0 := by omega
      refine bgo ?_
      refine b_callp (next_b bs (nxS bs s) (show s.a + 1 ≤ _ by omega)) rfl rfl rfl rfl rfl rfl rfl rfl rfl rfl ?_
      generalize nxR bs (nxS bs s) = v2 at *
      generalize nxR bs s = v1 at *
      refine bgo ?_
      exact ret_1p rfl rfl rfl (fun k => rfl) rfl
    · rw [if_neg h2, if_neg h2]
      have hn0 : ¬ n = 0 := by omega
      generalize nxR bs s = v1 at *
      refine bgo ?_
      exact ret_1p rfl rfl rfl (fun k => rfl) rfl
theorem one_b (bs : List UInt8) (s : Cu) (n : Int) (h : s.a ≤ 4611686018427387000) : BRet Tryz.prog 86 [s.c bs] [.ptr (.a 0) 0, .int n] (.bool (pkR bs s n == 0)) [(pkS bs s n).c bs] := by
  refine bofp Tryz.func86 ?_
  refine bgo ?_
  refine b_callp (pick_b bs s n h) rfl rfl rfl rfl rfl rfl rfl rfl rfl rfl ?_
  generalize pkR bs s n = v
  generalize pkS bs s n = s1
  refine bgo ?_
  exact ret_1p rfl rfl rfl (fun k => rfl) rfl
end Go.Bee.Dr
