/-
Sets of small numbers as bits: what Go's and, or, and-not and shifts by a number give, told by the bits.
-/
import Derived.Test.YtlneimpoholkhaaVBase
import Derived.Laws.BitsLemmas
namespace Go.Proofs.YtlneimpoholkhaaBits
open Go.RowKit Go.Proofs.YtlneimpoholkhaaBase Go.Proofs.YtlneimpoholkhaaW.PrintWords Go.Proofs.YtlneimpoholkhaaW.PrintLast Go.Proofs.YtlneimpoholkhaaW.PrintMore

theorem wrap_i64_small (n : Int) (h0 : 0 ≤ n) (h1 : n < 2 ^ 62) : IntKind.i64.wrap n = n := by rw [IntKind.wrap_i64]; omega
theorem wrap_u64_small (n : Int) (h0 : 0 ≤ n) (h1 : n < 2 ^ 62) : IntKind.u64.wrap n = n := by
  simp [IntKind.wrap, IntKind.bits, IntKind.signed]
  omega
theorem b_and {a b : Nat} (ha : a < 2 ^ 62) (hb : b < 2 ^ 62) : Go.bits .and .i64 (a : Int) (b : Int) = ((a &&& b : Nat) : Int) := (bits_nat .i64 62 (by decide) wrap_i64_small a b ha hb).1
theorem b_or {a b : Nat} (ha : a < 2 ^ 62) (hb : b < 2 ^ 62) : Go.bits .or .i64 (a : Int) (b : Int) = ((a ||| b : Nat) : Int) := (bits_nat .i64 62 (by decide) wrap_i64_small a b ha hb).2
theorem b_one {a i : Nat} (ha : a < 2 ^ 62) (hi : i < 62) : Go.bits .and .i64 (shr .i64 (a : Int) (i : Int)) 1 = if a.testBit i then 1 else 0 := by
  have e : shr .i64 (a : Int) (i : Int) = ((a / 2 ^ i : Nat) : Int) := by
    unfold shr
    rw [Int.toNat_natCast, Nat.min_eq_left (by simp [IntKind.bits]; omega)]
    simp
  rw [e, show (1 : Int) = ((1 : Nat) : Int) from rfl, b_and (Nat.lt_of_le_of_lt (Nat.div_le_self _ _) ha) (by decide), Nat.and_one_is_mod]
  rw [Nat.testBit_eq_decide_div_mod_eq]
  have : a / 2 ^ i % 2 = 0 ∨ a / 2 ^ i % 2 = 1 := by omega
  rcases this with h | h <;> simp [h]
theorem b_shr_pos {a i : Nat} (hi : i < 62) : shr .i64 (a : Int) (i : Int) > 0 ↔ 2 ^ i ≤ a := by
  have e : shr .i64 (a : Int) (i : Int) = ((a / 2 ^ i : Nat) : Int) := by
    unfold shr
    rw [Int.toNat_natCast, Nat.min_eq_left (by simp [IntKind.bits]; omega)]
    simp
  rw [e]
  have hp : 0 < 2 ^ i := Nat.two_pow_pos i
  have : 0 < a / 2 ^ i ↔ 2 ^ i ≤ a := Nat.div_pos_iff.trans ⟨fun h => h.2, fun h => ⟨hp, h⟩⟩
  omega
theorem b_shl {i : Nat} (hi : i < 62) : shl .i64 1 (i : Int) = ((2 ^ i : Nat) : Int) := by
  unfold shl
  rw [Int.toNat_natCast, Nat.min_eq_left (by simp [IntKind.bits]; omega), Int.one_mul, wrap_i64_small]
  · simp
  · exact Int.le_of_lt (Int.pow_pos (by decide))
  · have : (2 : Nat) ^ i < 2 ^ 62 := Nat.pow_lt_pow_right (by decide) hi
    exact_mod_cast this
theorem pow62 {i : Nat} (hi : i < 62) : 2 ^ i < 2 ^ 62 := Nat.pow_lt_pow_right (by decide) hi
theorem or62 {a b : Nat} (ha : a < 2 ^ 62) (hb : b < 2 ^ 62) : a ||| b < 2 ^ 62 := Nat.or_lt_two_pow ha hb
theorem b_orshl {a i : Nat} (ha : a < 2 ^ 62) (hi : i < 62) : Go.bits .or .i64 (a : Int) (shl .i64 1 (i : Int)) = ((a ||| 2 ^ i : Nat) : Int) := by rw [b_shl hi, b_or ha (pow62 hi)]
/-- a without b. -/
def less (a b : Nat) : Nat := a ^^^ (a &&& b)
theorem less_bit (a b i : Nat) : (less a b).testBit i = (a.testBit i && !b.testBit i) := by
  unfold less
  rw [Nat.testBit_xor, Nat.testBit_and]
  cases a.testBit i <;> cases b.testBit i <;> rfl
theorem lt_of_bits {a n : Nat} (h : ∀ i, a.testBit i = true → i < n) : a < 2 ^ n := by
  refine Nat.lt_pow_two_of_testBit a (fun i hi => ?_)
  cases hb : a.testBit i with
  | false => rfl
  | true => exact absurd (h i hb) (by omega)
theorem bit_lt {a n i : Nat} (h : a < 2 ^ n) (hb : a.testBit i = true) : i < n := by
  rcases Nat.lt_or_ge i n with hi | hi
  · exact hi
  · rw [Nat.testBit_lt_two_pow (Nat.lt_of_lt_of_le h (Nat.pow_le_pow_right (by decide) hi))] at hb
    cases hb
theorem less_lt {a b n : Nat} (h : a < 2 ^ n) : less a b < 2 ^ n := lt_of_bits (fun i hi => by
  rw [less_bit, Bool.and_eq_true] at hi
  exact bit_lt h hi.1)
theorem b_less {a b : Nat} (ha : a < 2 ^ 62) (hb : b < 2 ^ 62) : Go.bits .andNot .i64 (a : Int) (b : Int) = ((less a b : Nat) : Int) := by
  have e : (BitVec.ofNat 64 a &&& ~~~ BitVec.ofNat 64 b).toNat = less a b := by
    refine Nat.eq_of_testBit_eq (fun i => ?_)
    have h1 : a < 2 ^ 64 := Nat.lt_trans ha (by decide)
    have h2 : b < 2 ^ 64 := Nat.lt_trans hb (by decide)
    rw [less_bit, BitVec.testBit_toNat, BitVec.getLsbD_and, BitVec.getLsbD_not, BitVec.getLsbD_ofNat, BitVec.getLsbD_ofNat]
    rcases Nat.lt_or_ge i 64 with hi | hi
    · simp [hi]
    · rw [Nat.testBit_lt_two_pow (Nat.lt_of_lt_of_le h1 (Nat.pow_le_pow_right (by decide) hi))]
      simp
  simp only [Go.bits, BitVec.ofInt_natCast]
  show IntKind.i64.wrap (((BitVec.ofNat 64 a &&& ~~~ BitVec.ofNat 64 b).toNat : Nat) : Int) = _
  rw [e]
  exact wrap_i64_small _ (Int.natCast_nonneg _) (by have := less_lt (b := b) ha; exact_mod_cast this)
theorem bit_or_pow (a i j : Nat) : (a ||| 2 ^ i).testBit j = (a.testBit j || decide (i = j)) := by
  rw [Nat.testBit_or, Nat.testBit_two_pow]
theorem bit_less_pow (a i j : Nat) : (less a (2 ^ i)).testBit j = (a.testBit j && !decide (i = j)) := by
  rw [less_bit, Nat.testBit_two_pow]
theorem eq_zero_bits (a : Nat) : a = 0 ↔ ∀ i, a.testBit i = false := ⟨fun h i => by rw [h, Nat.zero_testBit], fun h => Nat.eq_of_testBit_eq (fun i => by rw [h i, Nat.zero_testBit])⟩
end Go.Proofs.YtlneimpoholkhaaBits
