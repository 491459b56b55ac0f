/- Words of 64 bits as functions to Bool. -/
import Derived.Test.YtiofmbiapngnmaaMore2
namespace Go.X
open Go
/-- the number of n bits -/
def wbits (f : Nat → Bool) : Nat → Nat
  | 0 => 0
  | n + 1 => 2 ^ n * (if f n = true then 1 else 0) + wbits f n
theorem wbits_lt (f : Nat → Bool) : ∀ n, wbits f n < 2 ^ n
  | 0 => Nat.one_pos
  | n + 1 => by
    have := wbits_lt f n
    simp only [wbits, Nat.pow_succ]
    split <;> omega
theorem wbits_test (f : Nat → Bool) : ∀ n k, (wbits f n).testBit k = (decide (k < n) && f k)
  | 0, k => by simp [wbits]
  | n + 1, k => by
    have ih := wbits_test f n k
    have hlt := wbits_lt f n
    rw [wbits, Nat.testBit_two_pow_mul_add _ hlt]
    by_cases h : k < n
    · rw [if_pos h, ih]; simp [h, Nat.lt_succ_of_lt h]
    · rw [if_neg h]
      by_cases hk : k = n
      · subst hk; cases hf : f k <;> simp
      · have h2 : ¬ k < n + 1 := by omega
        have h3 : k - n ≠ 0 := by omega
        obtain ⟨j, hj⟩ : ∃ j, k - n = j + 1 := ⟨k - n - 1, by omega⟩
        rw [hj]
        simp only [h2, decide_false, Bool.false_and]
        split
        · cases hb : Nat.testBit 1 (j + 1) with
          | false => rfl
          | true => exact absurd (Nat.testBit_one_eq_true_iff_self_eq_zero.1 hb) (by omega)
        · simp
theorem u64_wrap {n : Nat} (h : n < 2 ^ 64) : IntKind.u64.wrap (n : Int) = n := wrap_in (by simp only [inR]; omega)
theorem bits_nat (op : BinOp) (a b : Nat) : bitsOp op .u64 (a : Int) (b : Int) = IntKind.u64.wrap (match op with
    | .and => (BitVec.ofNat 64 a &&& BitVec.ofNat 64 b).toNat
    | .or => (BitVec.ofNat 64 a ||| BitVec.ofNat 64 b).toNat
    | .xor => (BitVec.ofNat 64 a ^^^ BitVec.ofNat 64 b).toNat
    | _ => (BitVec.ofNat 64 a &&& ~~~ BitVec.ofNat 64 b).toNat) := by
  unfold bitsOp
  show IntKind.u64.wrap (match op with
    | .and => (BitVec.ofInt 64 a &&& BitVec.ofInt 64 b).toNat
    | .or => (BitVec.ofInt 64 a ||| BitVec.ofInt 64 b).toNat
    | .xor => (BitVec.ofInt 64 a ^^^ BitVec.ofInt 64 b).toNat
    | _ => (BitVec.ofInt 64 a &&& ~~~ BitVec.ofInt 64 b).toNat) = _
  rw [BitVec.ofInt_natCast, BitVec.ofInt_natCast]
theorem bv_test (x : BitVec 64) (i : Nat) : x.toNat.testBit i = x.getLsbD i := rfl
theorem wb_or (f : Nat → Bool) (k : Nat) : bitsOp .or .u64 (wbits f 64 : Nat) ((2 ^ k : Nat) : Int) = (wbits (fun i => decide (i = k) || f i) 64 : Nat) := by
  rw [bits_nat]
  simp only
  rw [u64_wrap (BitVec.isLt _)]
  refine congrArg (Nat.cast : Nat → Int) (Nat.eq_of_testBit_eq fun i => ?_)
  rw [wbits_test, bv_test, BitVec.getLsbD_or, BitVec.getLsbD_ofNat, BitVec.getLsbD_ofNat, wbits_test, Nat.testBit_two_pow]
  by_cases h : i < 64 <;> by_cases h2 : k = i <;> simp [h, h2, eq_comm]
theorem wb_andNot (f : Nat → Bool) (k : Nat) : bitsOp .andNot .u64 (wbits f 64 : Nat) ((2 ^ k : Nat) : Int) = (wbits (fun i => !decide (i = k) && f i) 64 : Nat) := by
  rw [bits_nat]
  simp only
  rw [u64_wrap (BitVec.isLt _)]
  refine congrArg (Nat.cast : Nat → Int) (Nat.eq_of_testBit_eq fun i => ?_)
  rw [wbits_test, bv_test, BitVec.getLsbD_and, BitVec.getLsbD_not, BitVec.getLsbD_ofNat, BitVec.getLsbD_ofNat, wbits_test, Nat.testBit_two_pow]
  by_cases h : i < 64 <;> by_cases h2 : k = i <;> simp [h, h2, eq_comm]
theorem wb_and (f : Nat → Bool) (k : Nat) (hk : k < 64) : bitsOp .and .u64 (wbits f 64 : Nat) ((2 ^ k : Nat) : Int) = (if f k = true then 2 ^ k else 0 : Nat) := by
  rw [bits_nat]
  simp only
  rw [u64_wrap (BitVec.isLt _)]
  refine congrArg (Nat.cast : Nat → Int) (Nat.eq_of_testBit_eq fun i => ?_)
  rw [bv_test, BitVec.getLsbD_and, BitVec.getLsbD_ofNat, BitVec.getLsbD_ofNat, wbits_test, Nat.testBit_two_pow]
  by_cases h : i < 64 <;> by_cases h2 : k = i <;> cases hf : f k <;> simp [h, h2]
  all_goals first | (subst h2; simp_all) | omega | skip
theorem wb_shl (k : Nat) (hk : k < 64) : shlOp .u64 1 (k : Int) = ((2 ^ k : Nat) : Int) := by
  unfold shlOp
  have : min (k : Int).toNat IntKind.u64.bits = k := by show min (k : Int).toNat 64 = k; omega
  rw [this, Int.one_mul]
  have h2 : (2 : Nat) ^ k < 2 ^ 64 := Nat.pow_lt_pow_right (by decide) hk
  rw [show ((2 : Int) ^ k) = ((2 ^ k : Nat) : Int) from by simp]
  exact u64_wrap h2
end Go.X
