
/-
  Proved here: plain arithmetic of the upper half of a prefix: one bit set. No program.
-/
import Derived.Test.YtonelibgaceflaaLastPlain
namespace Go.Proofs.Ytonelibgaceflaa
set_option linter.unusedVariables false

/-- A word with bit k set. -/
def setN (x : Int) (k : Nat) : Nat := x.toNat ||| 2 ^ k
theorem setN_lt (x : Int) (k : Nat) (hx : 0 ≤ x ∧ x < 18446744073709551616) (hk : k < 64) : setN x k < 2 ^ 64 := by
  have e : (2 ^ 64 : Nat) = 18446744073709551616 := by decide
  exact Nat.or_lt_two_pow (by omega) (Nat.pow_lt_pow_right (by omega) hk)
theorem setN_lt4 (x : Int) (k : Nat) (hx : 0 ≤ x ∧ x < 4294967296) (hk : k < 32) : setN x k < 2 ^ 32 := by
  have e : (2 ^ 32 : Nat) = 4294967296 := by decide
  exact Nat.or_lt_two_pow (by omega) (Nat.pow_lt_pow_right (by omega) hk)
theorem setN_bit (x : Int) (k j : Nat) (hx : 0 ≤ x) : ((setN x k : Nat) : Int) / 2 ^ j % 2 = if j = k then 1 else x / 2 ^ j % 2 := by
  rw [int_bit]
  unfold setN
  rw [Nat.testBit_or, Nat.testBit_two_pow]
  have h := int_bit x.toNat j
  rw [Int.toNat_of_nonneg hx] at h
  rw [h]
  by_cases hj : j = k
  · subst hj
    simp
  · rw [if_neg hj, show decide (k = j) = false from by simp; omega]
    simp

def setHi (six : Bool) (hi : Int) (n : Nat) : Int := if six = true ∧ n < 64 then (setN hi (63 - n) : Int) else hi
def setLo (six : Bool) (lo : Int) (n : Nat) : Int := if six = true then (if n < 64 then lo else (setN lo (127 - n) : Int)) else (setN lo (31 - n) : Int)

theorem set_range (six : Bool) (hi lo : Int) (n : Nat) (h1 : 0 ≤ hi ∧ hi < 18446744073709551616) (h2 : 0 ≤ lo ∧ lo < 18446744073709551616) (hm : mayB six hi lo = true) (hn : (n : Int) < wideI six) :
    (0 ≤ setHi six hi n ∧ setHi six hi n < 18446744073709551616) ∧ (0 ≤ setLo six lo n ∧ setLo six lo n < 18446744073709551616) ∧ mayB six (setHi six hi n) (setLo six lo n) = true := by
  have e : (2 ^ 64 : Nat) = 18446744073709551616 := by decide
  have e' : (2 ^ 32 : Nat) = 4294967296 := by decide
  cases six
  · have hn' : (n : Int) < 32 := hn
    have hq := mayB_four hm
    have := setN_lt4 lo (31 - n) ⟨h2.1, hq.2⟩ (by omega)
    unfold setHi setLo
    simp only [Bool.false_eq_true, false_and, ↓reduceIte]
    refine ⟨h1, by omega, ?_⟩
    simp only [mayB, Bool.false_or, Bool.and_eq_true, beq_iff_eq, decide_eq_true_eq]
    exact ⟨hq.1, by omega⟩
  · have hn' : (n : Int) < 128 := hn
    unfold setHi setLo
    simp only [true_and, ↓reduceIte]
    by_cases h64 : n < 64
    · rw [if_pos h64, if_pos h64]
      have := setN_lt hi (63 - n) h1 (by omega)
      exact ⟨by omega, h2, by simp [mayB]⟩
    · rw [if_neg h64, if_neg h64]
      have := setN_lt lo (127 - n) h2 (by omega)
      exact ⟨h1, by omega, by simp [mayB]⟩

theorem set_bit (six : Bool) (hi lo : Int) (n i : Nat) (h1 : 0 ≤ hi ∧ hi < 18446744073709551616) (h2 : 0 ≤ lo ∧ lo < 18446744073709551616) (hn : (n : Int) < wideI six) (hi' : (i : Int) < wideI six) :
    bitI six (setHi six hi n) (setLo six lo n) i = if i = n then 1 else bitI six hi lo i := by
  cases six
  · have hn' : (n : Int) < 32 := hn
    have hi2 : (i : Int) < 32 := hi'
    unfold bitI setLo
    simp only [Bool.false_eq_true, ↓reduceIte]
    rw [setN_bit _ _ _ h2.1]
    by_cases hc : i = n
    · rw [if_pos (by omega), if_pos hc]
    · rw [if_neg (by omega), if_neg hc]
  · have hn' : (n : Int) < 128 := hn
    have hi2 : (i : Int) < 128 := hi'
    unfold bitI setHi setLo
    simp only [true_and, ↓reduceIte]
    by_cases h64 : n < 64
    · rw [if_pos h64, if_pos h64]
      by_cases hi64 : (i : Int) < 64
      · rw [if_pos hi64, if_pos hi64, setN_bit _ _ _ h1.1]
        by_cases hc : i = n
        · rw [if_pos (by omega), if_pos hc]
        · rw [if_neg (by omega), if_neg hc]
      · rw [if_neg hi64, if_neg hi64, if_neg (by omega)]
    · rw [if_neg h64, if_neg h64]
      by_cases hi64 : (i : Int) < 64
      · rw [if_pos hi64, if_pos hi64, if_neg (by omega)]
      · rw [if_neg hi64, if_neg hi64, setN_bit _ _ _ h2.1]
        by_cases hc : i = n
        · rw [if_pos (by omega), if_pos hc]
        · rw [if_neg (by omega), if_neg hc]

/-- The bits of an address, one of them set, make that address. -/
theorem set_bits (six : Bool) (hi lo : Int) (n : Nat) (h1 : 0 ≤ hi ∧ hi < 18446744073709551616) (h2 : 0 ≤ lo ∧ lo < 18446744073709551616) (hm : mayB six hi lo = true) (hn : (n : Int) < wideI six) :
    hiOf six ((bitsL six hi lo).set n 1) = setHi six hi n ∧ loOf six ((bitsL six hi lo).set n 1) = setLo six lo n := by
  have hr := set_range six hi lo n h1 h2 hm hn
  have hlen : (bitsL six hi lo).length = (wideI six).toNat := bitsL_length six hi lo
  have hw := wideI_le six
  refine of_unique six _ ?_ (by rw [List.length_set, hlen]; omega) _ _ hr.1 hr.2.1 hr.2.2 fun i hi' => ?_
  · intro b hb
    rcases List.mem_or_eq_of_mem_set hb with hb | rfl
    · obtain ⟨j, _, rfl⟩ := List.mem_map.1 hb
      exact bitI_01 six hi lo j
    · omega
  · rw [set_bit six hi lo n i h1 h2 hn hi', List.getElem?_set]
    by_cases hc : i = n
    · subst hc
      rw [if_pos rfl, if_pos rfl, if_pos (by omega)]
    · rw [if_neg (fun h => hc h.symm), if_neg hc]
      unfold bitsL
      rw [List.getElem?_map, List.getElem?_range (by omega)]
      rfl

end Go.Proofs.Ytonelibgaceflaa
