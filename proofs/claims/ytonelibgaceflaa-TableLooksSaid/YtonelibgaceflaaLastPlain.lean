
/-
  Proved here: plain arithmetic of the last address of a prefix. No program.
-/
import Derived.Test.YtonelibgaceflaaPlain2
namespace Go.Proofs.Ytonelibgaceflaa
set_option linter.unusedVariables false

theorem int_bit (x j : Nat) : ((x : Int) / 2 ^ j % 2) = ((x.testBit j).toNat : Int) := by
  have e : ((x : Int) / 2 ^ j % 2) = ((x / 2 ^ j % 2 : Nat) : Int) := by simp
  rw [e, Nat.testBit_eq_decide_div_mod_eq]
  rcases (by omega : x / 2 ^ j % 2 = 0 ∨ x / 2 ^ j % 2 = 1) with h | h <;> simp [h]

theorem onesI_keep (n : Int) : onesI n = keepW 18446744073709551615 n := by
  have h := and_ones_int 18446744073709551615 n (by omega) (by omega)
  have hr := onesI_range n
  rw [← h, Nat.and_comm, show (18446744073709551615 : Int).toNat = 2 ^ 64 - 1 from by decide, Nat.and_two_pow_sub_one_eq_mod]
  have : (2 ^ 64 : Nat) = 18446744073709551616 := by decide
  rw [Nat.mod_eq_of_lt (by omega)]
  omega

theorem ones_bit (n : Int) (j : Nat) (hj : j < 64) : (onesI n).toNat.testBit j = decide (64 - n ≤ j) := by
  have h1 := int_bit (onesI n).toNat j
  rw [Int.toNat_of_nonneg (onesI_range n).1, onesI_keep, bit_keepW _ n j hj] at h1
  have h2 : (18446744073709551615 : Int) / 2 ^ j % 2 = 1 := by
    have := int_bit (2 ^ 64 - 1) j
    rw [Nat.testBit_two_pow_sub_one] at this
    have e : ((2 ^ 64 - 1 : Nat) : Int) = 18446744073709551615 := by decide
    rw [e] at this
    rw [this]
    simp [hj]
  rw [h2] at h1
  cases hb : (onesI n).toNat.testBit j
  · rw [← onesI_keep, hb] at h1
    by_cases hc : 64 - n ≤ (j : Int)
    · rw [if_pos hc] at h1; simp at h1
    · simp [hc]
  · rw [← onesI_keep, hb] at h1
    by_cases hc : 64 - n ≤ (j : Int)
    · simp [hc]
    · rw [if_neg hc] at h1; simp at h1

/-- A word behind whose first n bits all is 1. -/
def fillN (x m : Int) : Nat := x.toNat ||| (18446744073709551615 ^^^ m.toNat)

theorem fillN_lt (x m : Int) (hx : 0 ≤ x ∧ x < 18446744073709551616) (hm : 0 ≤ m ∧ m < 18446744073709551616) : fillN x m < 2 ^ 64 := by
  have e : (2 ^ 64 : Nat) = 18446744073709551616 := by decide
  exact Nat.or_lt_two_pow (by omega) (Nat.xor_lt_two_pow (by omega) (by omega))
theorem fillN_bit (x m : Int) (j : Nat) (hj : j < 64) : (fillN x m).testBit j = (x.toNat.testBit j || !m.toNat.testBit j) := by
  unfold fillN
  rw [Nat.testBit_or, Nat.testBit_xor, show (18446744073709551615 : Nat) = 2 ^ 64 - 1 from by decide, Nat.testBit_two_pow_sub_one]
  simp [hj]

/-- All bits of the last address of a prefix. -/
def lastL (six : Bool) (hi lo n : Int) : List Int := (List.range (wideI six).toNat).map fun (i : Nat) => if (i : Int) < n then bitI six hi lo i else 1
def lastHi (six : Bool) (hi lo n : Int) : Int := hiOf six (lastL six hi lo n)
def lastLo (six : Bool) (hi lo n : Int) : Int := loOf six (lastL six hi lo n)

theorem lastL_length (six : Bool) (hi lo n : Int) : ((lastL six hi lo n).length : Int) = wideI six := by
  unfold lastL wideI
  cases six <;> simp
theorem lastL_bits (six : Bool) (hi lo n : Int) : Bits (lastL six hi lo n) := by
  intro b hb
  unfold lastL at hb
  obtain ⟨i, _, rfl⟩ := List.mem_map.1 hb
  have := bitI_01 six hi lo i
  split <;> omega
theorem lastL_at (six : Bool) (hi lo n : Int) (i : Nat) (hi' : (i : Int) < wideI six) : (lastL six hi lo n)[i]? = some (if (i : Int) < n then bitI six hi lo i else 1) := by
  unfold lastL
  rw [List.getElem?_map, List.getElem?_range (by omega)]
  rfl

theorem last_range (six : Bool) (hi lo n : Int) : (0 ≤ lastHi six hi lo n ∧ lastHi six hi lo n < 18446744073709551616) ∧ (0 ≤ lastLo six hi lo n ∧ lastLo six hi lo n < 18446744073709551616) ∧ mayB six (lastHi six hi lo n) (lastLo six hi lo n) = true :=
  of_range six _ (lastL_bits six hi lo n) (lastL_length six hi lo n)
theorem last_bit (six : Bool) (hi lo n : Int) (i : Nat) (hi' : (i : Int) < wideI six) : bitI six (lastHi six hi lo n) (lastLo six hi lo n) i = if (i : Int) < n then bitI six hi lo i else 1 :=
  of_bit six _ (lastL_bits six hi lo n) (lastL_length six hi lo n) i _ (lastL_at six hi lo n i hi')

theorem last_six_eq (hi lo n : Int) (h1 : 0 ≤ hi ∧ hi < 18446744073709551616) (h2 : 0 ≤ lo ∧ lo < 18446744073709551616) :
    lastHi true hi lo n = (fillN hi (onesI n) : Int) ∧ lastLo true hi lo n = (fillN lo (onesI (n - 64)) : Int) := by
  have e : (2 ^ 64 : Nat) = 18446744073709551616 := by decide
  have f1 := fillN_lt hi (onesI n) h1 (onesI_range n)
  have f2 := fillN_lt lo (onesI (n - 64)) h2 (onesI_range _)
  refine of_unique true _ (lastL_bits true hi lo n) (lastL_length true hi lo n) _ _ (by omega) (by omega) (by simp [mayB]) fun i hi' => ?_
  rw [lastL_at true hi lo n i hi']
  have h128 : (i : Int) < 128 := hi'
  congr 1
  unfold bitI
  simp only [↓reduceIte]
  by_cases h64 : (i : Int) < 64
  · rw [if_pos h64, if_pos h64]
    rw [int_bit, fillN_bit _ _ _ (by omega), ones_bit _ _ (by omega)]
    have := int_bit hi.toNat (63 - (i : Int)).toNat
    rw [Int.toNat_of_nonneg h1.1] at this
    rw [this]
    by_cases hc : (i : Int) < n
    · rw [if_pos hc, show decide (64 - n ≤ ((63 - (i : Int)).toNat : Int)) = true from by simp; omega]
      simp
    · rw [if_neg hc, show decide (64 - n ≤ ((63 - (i : Int)).toNat : Int)) = false from by simp; omega]
      simp
  · rw [if_neg h64, if_neg h64]
    rw [int_bit, fillN_bit _ _ _ (by omega), ones_bit _ _ (by omega)]
    have := int_bit lo.toNat (127 - (i : Int)).toNat
    rw [Int.toNat_of_nonneg h2.1] at this
    rw [this]
    by_cases hc : (i : Int) < n
    · rw [if_pos hc, show decide (64 - (n - 64) ≤ ((127 - (i : Int)).toNat : Int)) = true from by simp; omega]
      simp
    · rw [if_neg hc, show decide (64 - (n - 64) ≤ ((127 - (i : Int)).toNat : Int)) = false from by simp; omega]
      simp

theorem last_four_eq (hi lo n : Int) (h2 : 0 ≤ lo ∧ lo < 18446744073709551616) :
    lastHi false hi lo n = 0 ∧ lastLo false hi lo n = ((fillN lo (onesI n / 4294967296) % 2 ^ 32 : Nat) : Int) := by
  have e : (2 ^ 32 : Nat) = 4294967296 := by decide
  have hlt : fillN lo (onesI n / 4294967296) % 2 ^ 32 < 2 ^ 32 := Nat.mod_lt _ (by omega)
  refine of_unique false _ (lastL_bits false hi lo n) (lastL_length false hi lo n) _ _ (by omega) (by omega) (by simp [mayB]; omega) fun i hi' => ?_
  rw [lastL_at false hi lo n i hi']
  have h32 : (i : Int) < 32 := hi'
  congr 1
  unfold bitI
  simp only [Bool.false_eq_true, ↓reduceIte]
  rw [int_bit, Nat.testBit_mod_two_pow, fillN_bit _ _ _ (by omega)]
  have hm : (onesI n / 4294967296).toNat.testBit (31 - (i : Int)).toNat = (onesI n).toNat.testBit (63 - (i : Int)).toNat := by
    rw [show (onesI n / 4294967296).toNat = (onesI n).toNat / 2 ^ 32 from by have := onesI_range n; omega, Nat.testBit_div_two_pow, show (31 - (i : Int)).toNat + 32 = (63 - (i : Int)).toNat from by omega]
  rw [hm, ones_bit _ _ (by omega)]
  have := int_bit lo.toNat (31 - (i : Int)).toNat
  rw [Int.toNat_of_nonneg h2.1] at this
  rw [this, show decide ((31 - (i : Int)).toNat < 32) = true from by simp; omega]
  by_cases hc : (i : Int) < n
  · rw [if_pos hc, show decide (64 - n ≤ ((63 - (i : Int)).toNat : Int)) = true from by simp; omega]
    simp
  · rw [if_neg hc, show decide (64 - n ≤ ((63 - (i : Int)).toNat : Int)) = false from by simp; omega]
    simp

end Go.Proofs.Ytonelibgaceflaa
