
/-
  Proved here: plain arithmetic of masks, bits and prefixes. No program.
-/
namespace Go.Proofs.Ytonelibgaceflaa
set_option linter.unusedVariables false

/-- The first n of 64 bits are 1. -/
def onesI (n : Int) : Int := if n ≤ 0 then 0 else if 64 ≤ n then 18446744073709551615 else 18446744073709551616 - 2 ^ (64 - n).toNat

theorem two_pow_pos (k : Nat) : (0 : Int) < 2 ^ k := Int.pow_pos (by omega)
theorem two_pow_le (k : Nat) (h : k ≤ 64) : (2 : Int) ^ k ≤ 18446744073709551616 := by
  have : (2 : Nat) ^ k ≤ 2 ^ 64 := Nat.pow_le_pow_right (by omega) h
  have e : ((2 ^ k : Nat) : Int) = 2 ^ k := by simp
  rw [← e]
  have : (2 ^ 64 : Nat) = 18446744073709551616 := by decide
  omega

theorem onesI_range (n : Int) : 0 ≤ onesI n ∧ onesI n < 18446744073709551616 := by
  unfold onesI
  split
  · omega
  · split
    · omega
    · have h1 := two_pow_pos (64 - n).toNat
      have h2 := two_pow_le (64 - n).toNat (by omega)
      omega

theorem ones_wrap (k : Nat) (h : k ≤ 64) : (18446744073709551615 * 2 ^ k : Int) % 18446744073709551616 = 18446744073709551616 - 2 ^ k := by
  have h1 := two_pow_pos k
  have h2 := two_pow_le k h
  generalize (2 : Int) ^ k = p at *
  have e : (18446744073709551615 * p : Int) = (18446744073709551616 - p) + 18446744073709551616 * (p - 1) := by omega
  rw [e, Int.add_mul_emod_self_left]
  rw [Int.emod_eq_of_lt (by omega) (by omega)]

theorem and_ones_nat (x k : Nat) (hx : x < 2 ^ 64) (hk : k ≤ 64) : x &&& (2 ^ 64 - 2 ^ k) = x / 2 ^ k * 2 ^ k := by
  have e : (2 : Nat) ^ 64 - 2 ^ k = (2 ^ (64 - k) - 1) * 2 ^ k := by
    rw [Nat.sub_mul, ← Nat.pow_add, Nat.sub_add_cancel hk, Nat.one_mul]
  rw [e]
  apply Nat.eq_of_testBit_eq
  intro i
  rw [Nat.testBit_and, ← Nat.shiftLeft_eq, ← Nat.shiftLeft_eq, Nat.testBit_shiftLeft, Nat.testBit_shiftLeft, Nat.testBit_two_pow_sub_one, Nat.testBit_div_two_pow]
  by_cases h : k ≤ i
  · simp only [ge_iff_le, h, decide_true, Bool.true_and, Nat.sub_add_cancel h]
    by_cases h2 : i - k < 64 - k
    · simp [h2]
    · have : x.testBit i = false := by
        apply Nat.testBit_lt_two_pow
        exact Nat.lt_of_lt_of_le hx (Nat.pow_le_pow_right (by omega) (by omega))
      simp [this]
  · simp [h]

/-- What is left of a word when all but its first n bits are cleared. -/
def keepW (x n : Int) : Int := if n ≤ 0 then 0 else if 64 ≤ n then x else x / 2 ^ (64 - n).toNat * 2 ^ (64 - n).toNat

/-! ADDRESSES AND PREFIXES, AS NUMBERS -/
/-- Is an address valid? -/
def mayB (six : Bool) (hi lo : Int) : Bool := six || (hi == 0 && decide (lo < 4294967296))

def wideI (six : Bool) : Int := if six then 128 else 32

/-- Bit i of an address, the highest first. -/
def bitI (six : Bool) (hi lo i : Int) : Int :=
  if six then (if i < 64 then hi / 2 ^ (63 - i).toNat % 2 else lo / 2 ^ (127 - i).toNat % 2) else lo / 2 ^ (31 - i).toNat % 2

theorem bitI_01 (six : Bool) (hi lo i : Int) : 0 ≤ bitI six hi lo i ∧ bitI six hi lo i ≤ 1 := by
  unfold bitI
  split
  · split <;> omega
  · omega

/-- All bits of an address. -/
def bitsL (six : Bool) (hi lo : Int) : List Int := (List.range (wideI six).toNat).map fun (i : Nat) => bitI six hi lo (i : Int)
theorem bitsL_length (six : Bool) (hi lo : Int) : (bitsL six hi lo).length = (wideI six).toNat := by simp [bitsL]

def cutHi (six : Bool) (hi n : Int) : Int := if six then keepW hi n else 0
def cutLo (six : Bool) (lo n : Int) : Int := if six then keepW lo (n - 64) else keepW (lo * 4294967296) n / 4294967296

def cleanB (six : Bool) (hi lo n : Int) : Bool := cutHi six hi n == hi && cutLo six lo n == lo

/-- The fault of a prefix. -/
def chk (six : Bool) (hi lo n : Int) : Int :=
  if mayB six hi lo = false then 4 else if n < 0 ∨ wideI six < n then 2 else if cleanB six hi lo n = true then 0 else 5

theorem mayB_four {hi lo : Int} (h : mayB false hi lo = true) : hi = 0 ∧ lo < 4294967296 := by simpa [mayB] using h
theorem wideI_le (six : Bool) : 32 ≤ wideI six ∧ wideI six ≤ 128 := by unfold wideI; split <;> omega


theorem and_ones_int (x n : Int) (h1 : 0 ≤ x) (h2 : x < 18446744073709551616) : ((x.toNat &&& (onesI n).toNat : Nat) : Int) = keepW x n := by
  unfold onesI keepW
  split
  · simp
  · split
    · have : x.toNat &&& (18446744073709551615 : Int).toNat = x.toNat := by
        have := Nat.and_two_pow_sub_one_eq_mod x.toNat 64
        rw [show (18446744073709551615 : Int).toNat = 2 ^ 64 - 1 from by decide, this]
        apply Nat.mod_eq_of_lt
        omega
      rw [this]
      omega
    · obtain ⟨k, hk⟩ : ∃ k : Nat, (64 - n).toNat = k := ⟨_, rfl⟩
      have hk2 : k ≤ 64 := by omega
      rw [hk]
      have e : (18446744073709551616 - 2 ^ k : Int).toNat = 2 ^ 64 - 2 ^ k := by
        have h3 := two_pow_le k hk2
        have h4 : ((2 ^ k : Nat) : Int) = 2 ^ k := by simp
        have h5 : (2 ^ 64 : Nat) = 18446744073709551616 := by decide
        rw [h5]
        omega
      rw [e, and_ones_nat _ _ (by have : (2 ^ 64 : Nat) = 18446744073709551616 := by decide
                                  omega) hk2]
      simp [Int.toNat_of_nonneg h1]

/-- The low bits of a word are 0 just if each of them is. -/
theorem low_zero (x : Int) : ∀ k : Nat, x % 2 ^ k = 0 ↔ ∀ j, j < k → x / 2 ^ j % 2 = 0
  | 0 => by simp [Int.emod_one]
  | k + 1 => by
    have ih := low_zero x k
    have hp := two_pow_pos k
    have e : x % 2 ^ (k + 1) = x % 2 ^ k + 2 ^ k * (x / 2 ^ k % 2) := by
      rw [Int.pow_succ]
      generalize (2 : Int) ^ k = p at *
      have h1 := Int.mul_ediv_add_emod x (p * 2)
      have h2 := Int.mul_ediv_add_emod x p
      have h3 := Int.mul_ediv_add_emod (x / p) 2
      have h4 : x / (p * 2) = x / p / 2 := by rw [Int.ediv_ediv_of_nonneg (by omega)]
      rw [h4] at h1
      generalize x / p / 2 = q at *
      generalize x / p % 2 = r at *
      have h5 : x / p = 2 * q + r := by omega
      rw [h5, Int.mul_add] at h2
      have h6 : p * (2 * q) = p * 2 * q := by rw [Int.mul_assoc]
      omega
    rw [e]
    have hn := Int.emod_nonneg x (show (2 : Int) ^ k ≠ 0 by omega)
    have hr : 0 ≤ x / 2 ^ k % 2 ∧ x / 2 ^ k % 2 ≤ 1 := by omega
    constructor
    · intro h j hj
      have hz : x / 2 ^ k % 2 = 0 := by
        rcases (by omega : x / 2 ^ k % 2 = 0 ∨ x / 2 ^ k % 2 = 1) with h0 | h0
        · exact h0
        · rw [h0] at h; omega
      rw [hz] at h
      rcases Nat.lt_or_ge j k with hjk | hjk
      · exact ih.1 (by omega) j hjk
      · obtain rfl : j = k := by omega
        exact hz
    · intro h
      rw [h k (by omega), ih.2 (fun j hj => h j (by omega))]
      omega

theorem keepW_eq (x n : Int) (h1 : 0 ≤ x) (h2 : x < 18446744073709551616) (hn0 : 0 ≤ n) (hn : n ≤ 64) : keepW x n = x ↔ x % 2 ^ (64 - n).toNat = 0 := by
  unfold keepW
  by_cases hz : n ≤ 0
  · rw [if_pos hz]
    obtain rfl : n = 0 := by omega
    rw [show (64 - (0 : Int)).toNat = 64 from rfl, show (2 : Int) ^ 64 = 18446744073709551616 from by decide, Int.emod_eq_of_lt h1 h2]
    omega
  · rw [if_neg hz]
    by_cases h64 : 64 ≤ n
    · rw [if_pos h64]
      obtain rfl : n = 64 := by omega
      simp [Int.emod_one]
    · rw [if_neg h64]
      have := Int.mul_ediv_add_emod x (2 ^ (64 - n).toNat)
      rw [Int.mul_comm] at this
      omega

theorem keepW_range (x n : Int) (h1 : 0 ≤ x) (h2 : x < 18446744073709551616) : 0 ≤ keepW x n ∧ keepW x n < 18446744073709551616 := by
  unfold keepW
  split
  · omega
  · split
    · omega
    · have hp := two_pow_pos (64 - n).toNat
      have := Int.mul_ediv_add_emod x (2 ^ (64 - n).toNat)
      rw [Int.mul_comm] at this
      have h3 := Int.emod_nonneg x (show (2 : Int) ^ (64 - n).toNat ≠ 0 by omega)
      have h4 : 0 ≤ x / 2 ^ (64 - n).toNat * 2 ^ (64 - n).toNat := Int.mul_nonneg (Int.ediv_nonneg h1 (by omega)) (by omega)
      omega

/-! CLEAN PREFIXES, BIT BY BIT -/
theorem keep4_eq (lo n : Int) : keepW (lo * 4294967296) n / 4294967296 = if n ≤ 0 then 0 else if 32 ≤ n then lo else lo / 2 ^ (32 - n).toNat * 2 ^ (32 - n).toNat := by
  unfold keepW
  by_cases hn : n ≤ 0
  · rw [if_pos hn, if_pos hn]; rfl
  · rw [if_neg hn, if_neg hn]
    by_cases h64 : 64 ≤ n
    · rw [if_pos h64, if_pos (by omega)]
      omega
    · rw [if_neg h64]
      by_cases h32 : 32 ≤ n
      · rw [if_pos h32]
        obtain ⟨k, hk⟩ : ∃ k : Nat, (64 - n).toNat = k := ⟨_, rfl⟩
        rw [hk]
        have e : (4294967296 : Int) = 2 ^ (32 - k) * 2 ^ k := by
          rw [← Int.pow_add, show 32 - k + k = 32 from by omega]; decide
        have hp := two_pow_pos k
        have e2 : lo * 4294967296 / 2 ^ k * 2 ^ k = lo * 4294967296 := by
          rw [e, ← Int.mul_assoc, Int.mul_ediv_cancel _ (by omega)]
        rw [e2]
        omega
      · rw [if_neg h32]
        obtain ⟨k, hk⟩ : ∃ k : Nat, (32 - n).toNat = k := ⟨_, rfl⟩
        have hk2 : (64 - n).toNat = k + 32 := by omega
        rw [hk, hk2, Int.pow_add, show (2 : Int) ^ 32 = 4294967296 from by decide]
        have hp := two_pow_pos k
        have e : lo * 4294967296 / (2 ^ k * 4294967296) = lo / 2 ^ k := Int.mul_ediv_mul_of_pos_left _ _ (by omega)
        rw [e, ← Int.mul_assoc]
        omega

theorem keep4_iff (lo n : Int) (h1 : 0 ≤ lo) (h2 : lo < 4294967296) (hn0 : 0 ≤ n) (hn : n ≤ 32) : keepW (lo * 4294967296) n / 4294967296 = lo ↔ lo % 2 ^ (32 - n).toNat = 0 := by
  rw [keep4_eq lo n]
  by_cases hz : n ≤ 0
  · rw [if_pos hz]
    obtain rfl : n = 0 := by omega
    rw [show (32 - (0 : Int)).toNat = 32 from rfl, show (2 : Int) ^ 32 = 4294967296 from by decide]
    omega
  · rw [if_neg hz]
    by_cases h : 32 ≤ n
    · rw [if_pos h]
      obtain rfl : n = 32 := by omega
      simp [Int.emod_one]
    · rw [if_neg h]
      have := Int.mul_ediv_add_emod lo (2 ^ (32 - n).toNat)
      rw [Int.mul_comm] at this
      omega

theorem clean_iff (six : Bool) (hi lo : Int) (n : Nat) (h1 : 0 ≤ hi ∧ hi < 18446744073709551616) (h2 : 0 ≤ lo ∧ lo < 18446744073709551616) (hm : mayB six hi lo = true) (hn : (n : Int) ≤ wideI six) :
    cleanB six hi lo n = true ↔ ∀ i : Nat, n ≤ i → (i : Int) < wideI six → bitI six hi lo i = 0 := by
  unfold cleanB
  rw [Bool.and_eq_true, beq_iff_eq, beq_iff_eq]
  cases six
  · have hf := mayB_four hm
    have hn' : (n : Int) ≤ 32 := hn
    unfold cutHi cutLo bitI wideI
    simp only [Bool.false_eq_true, if_false]
    rw [keep4_iff lo n h2.1 hf.2 (by omega) hn', low_zero]
    constructor
    · rintro ⟨_, h⟩ i hi1 hi2
      exact h _ (by omega)
    · intro h
      refine ⟨hf.1.symm, fun j hj => ?_⟩
      have := h (31 - j) (by omega) (by omega)
      rwa [show (31 - ((31 - j : Nat) : Int)).toNat = j from by omega] at this
  · have hn' : (n : Int) ≤ 128 := hn
    unfold cutHi cutLo bitI wideI
    simp only [if_true]
    by_cases h64 : n ≤ 64
    · rw [keepW_eq hi n h1.1 h1.2 (by omega) (by omega), low_zero]
      have e : keepW lo ((n : Int) - 64) = lo ↔ lo % 2 ^ 64 = 0 := by
        unfold keepW
        rw [if_pos (by omega), show (2 : Int) ^ 64 = 18446744073709551616 from by decide]
        omega
      rw [e, low_zero]
      constructor
      · rintro ⟨ha, hb⟩ i hi1 hi2
        split
        · exact ha _ (by omega)
        · exact hb _ (by omega)
      · intro h
        refine ⟨fun j hj => ?_, fun j hj => ?_⟩
        · have := h (63 - j) (by omega) (by omega)
          rw [if_pos (by omega)] at this
          rwa [show (63 - ((63 - j : Nat) : Int)).toNat = j from by omega] at this
        · have := h (127 - j) (by omega) (by omega)
          rw [if_neg (by omega)] at this
          rwa [show (127 - ((127 - j : Nat) : Int)).toNat = j from by omega] at this
    · have e : keepW hi n = hi := by
        unfold keepW
        rw [if_neg (by omega), if_pos (by omega)]
      rw [e, keepW_eq lo _ h2.1 h2.2 (by omega) (by omega), low_zero]
      constructor
      · rintro ⟨_, hb⟩ i hi1 hi2
        rw [if_neg (by omega)]
        exact hb _ (by omega)
      · intro h
        refine ⟨rfl, fun j hj => ?_⟩
        have := h (127 - j) (by omega) (by omega)
        rw [if_neg (by omega)] at this
        rwa [show (127 - ((127 - j : Nat) : Int)).toNat = j from by omega] at this

/-! BITS OF WORDS -/
theorem mod_succ (x : Int) (k : Nat) : x % 2 ^ (k + 1) = x % 2 ^ k + 2 ^ k * (x / 2 ^ k % 2) := by
  have hp := two_pow_pos k
  rw [Int.pow_succ]
  generalize (2 : Int) ^ k = p at *
  have h1 := Int.mul_ediv_add_emod x (p * 2)
  have h2 := Int.mul_ediv_add_emod x p
  have h3 := Int.mul_ediv_add_emod (x / p) 2
  have h4 : x / (p * 2) = x / p / 2 := by rw [Int.ediv_ediv_of_nonneg (by omega)]
  rw [h4] at h1
  generalize x / p / 2 = q at *
  generalize x / p % 2 = r at *
  have h5 : x / p = 2 * q + r := by omega
  rw [h5, Int.mul_add] at h2
  have h6 : p * (2 * q) = p * 2 * q := by rw [Int.mul_assoc]
  omega

theorem mod_ext (x y : Int) : ∀ k : Nat, (∀ j, j < k → x / 2 ^ j % 2 = y / 2 ^ j % 2) → x % 2 ^ k = y % 2 ^ k
  | 0, _ => by simp [Int.emod_one]
  | k + 1, h => by rw [mod_succ, mod_succ, mod_ext x y k (fun j hj => h j (by omega)), h k (by omega)]

theorem word_ext (x y : Int) (k : Nat) (hx : 0 ≤ x ∧ x < 2 ^ k) (hy : 0 ≤ y ∧ y < 2 ^ k) (h : ∀ j, j < k → x / 2 ^ j % 2 = y / 2 ^ j % 2) : x = y := by
  have := mod_ext x y k h
  rwa [Int.emod_eq_of_lt hx.1 hx.2, Int.emod_eq_of_lt hy.1 hy.2] at this

theorem bit_trunc (x : Int) (k j : Nat) : x / 2 ^ k * 2 ^ k / 2 ^ j % 2 = if k ≤ j then x / 2 ^ j % 2 else 0 := by
  have hk := two_pow_pos k
  have hj := two_pow_pos j
  split
  · rename_i h
    obtain ⟨d, rfl⟩ : ∃ d, j = k + d := ⟨j - k, by omega⟩
    rw [Int.pow_add, ← Int.ediv_ediv_of_nonneg (by omega), Int.mul_ediv_cancel _ (by omega), ← Int.ediv_ediv_of_nonneg (by omega)]
  · rename_i h
    obtain ⟨d, rfl⟩ : ∃ d, k = j + (d + 1) := ⟨k - j - 1, by omega⟩
    have e : x / 2 ^ (j + (d + 1)) * 2 ^ (j + (d + 1)) = (x / 2 ^ (j + (d + 1)) * 2 ^ d * 2) * 2 ^ j := by
      rw [Int.mul_assoc, Int.mul_assoc]
      congr 1
      rw [Int.pow_add, Int.pow_succ, Int.mul_comm, Int.mul_assoc]
    rw [e, Int.mul_ediv_cancel _ (by omega)]
    omega

theorem bit_keepW (x n : Int) (j : Nat) (hj : j < 64) : keepW x n / 2 ^ j % 2 = if 64 - n ≤ j then x / 2 ^ j % 2 else 0 := by
  unfold keepW
  by_cases h0 : n ≤ 0
  · rw [if_pos h0, if_neg (by omega)]
    simp
  · rw [if_neg h0]
    by_cases h64 : 64 ≤ n
    · rw [if_pos h64, if_pos (by omega)]
    · rw [if_neg h64, bit_trunc]
      by_cases h : 64 - n ≤ j
      · rw [if_pos h, if_pos (by omega)]
      · rw [if_neg h, if_neg (by omega)]

/-- Valid addresses whose bits are alike are one. -/
theorem addr_ext (six : Bool) (hi lo hi' lo' : Int) (h1 : 0 ≤ hi ∧ hi < 18446744073709551616) (h2 : 0 ≤ lo ∧ lo < 18446744073709551616) (h3 : 0 ≤ hi' ∧ hi' < 18446744073709551616) (h4 : 0 ≤ lo' ∧ lo' < 18446744073709551616)
    (hm : mayB six hi lo = true) (hm' : mayB six hi' lo' = true) (h : ∀ i : Nat, (i : Int) < wideI six → bitI six hi lo i = bitI six hi' lo' i) : hi = hi' ∧ lo = lo' := by
  have e64 : (2 : Int) ^ 64 = 18446744073709551616 := by decide
  have e32 : (2 : Int) ^ 32 = 4294967296 := by decide
  cases six
  · have f1 := mayB_four hm
    have f2 := mayB_four hm'
    refine ⟨by omega, word_ext lo lo' 32 (by omega) (by omega) fun j hj => ?_⟩
    have := h (31 - j) (by unfold wideI; simp; omega)
    unfold bitI at this
    rw [if_neg (by simp), if_neg (by simp), show (31 - ((31 - j : Nat) : Int)).toNat = j from by omega] at this
    exact this
  · refine ⟨word_ext hi hi' 64 (by omega) (by omega) fun j hj => ?_, word_ext lo lo' 64 (by omega) (by omega) fun j hj => ?_⟩
    · have := h (63 - j) (by unfold wideI; simp; omega)
      unfold bitI at this
      rw [if_pos rfl, if_pos rfl, if_pos (by omega), if_pos (by omega), show (63 - ((63 - j : Nat) : Int)).toNat = j from by omega] at this
      exact this
    · have := h (127 - j) (by unfold wideI; simp; omega)
      unfold bitI at this
      rw [if_pos rfl, if_pos rfl, if_neg (by omega), if_neg (by omega), show (127 - ((127 - j : Nat) : Int)).toNat = j from by omega] at this
      exact this

theorem cutHi_range (six : Bool) (hi n : Int) (h1 : 0 ≤ hi ∧ hi < 18446744073709551616) : 0 ≤ cutHi six hi n ∧ cutHi six hi n < 18446744073709551616 := by
  unfold cutHi
  split
  · exact keepW_range hi n h1.1 h1.2
  · omega
theorem cutLo_range (six : Bool) (hi lo n : Int) (h2 : 0 ≤ lo ∧ lo < 18446744073709551616) (hm : mayB six hi lo = true) : (0 ≤ cutLo six lo n ∧ cutLo six lo n < 18446744073709551616) ∧ mayB six (cutHi six hi n) (cutLo six lo n) = true := by
  cases six
  · have f := mayB_four hm
    have := keepW_range (lo * 4294967296) n (by omega) (by omega)
    unfold cutLo cutHi mayB
    simp only [Bool.false_eq_true, if_false, Bool.false_or, Bool.and_eq_true, beq_self_eq_true, decide_eq_true_eq, true_and]
    omega
  · exact ⟨keepW_range lo _ h2.1 h2.2, by simp [mayB]⟩

/-- The bits of an address cut behind n bits. -/
theorem bit_cut (six : Bool) (hi lo n : Int) (i : Nat) (hm : mayB six hi lo = true) (hi' : (i : Int) < wideI six) :
    bitI six (cutHi six hi n) (cutLo six lo n) i = if (i : Int) < n then bitI six hi lo i else 0 := by
  cases six
  · have f := mayB_four hm
    have h32 : (i : Int) < 32 := hi'
    unfold bitI cutLo
    simp only [Bool.false_eq_true, ↓reduceIte]
    rw [keep4_eq]
    by_cases h0 : n ≤ 0
    · rw [if_pos h0, if_neg (by omega)]
      simp
    · rw [if_neg h0]
      by_cases h3 : 32 ≤ n
      · rw [if_pos h3, if_pos (by omega)]
      · rw [if_neg h3, bit_trunc]
        by_cases h : (i : Int) < n
        · rw [if_pos h, if_pos (by omega)]
        · rw [if_neg h, if_neg (by omega)]
  · have h128 : (i : Int) < 128 := hi'
    unfold bitI cutLo cutHi
    simp only [↓reduceIte]
    by_cases h64 : (i : Int) < 64
    · rw [if_pos h64, if_pos h64, bit_keepW hi n _ (by omega)]
      by_cases h : (i : Int) < n
      · rw [if_pos h, if_pos (by omega)]
      · rw [if_neg h, if_neg (by omega)]
    · rw [if_neg h64, if_neg h64, bit_keepW lo _ _ (by omega)]
      by_cases h : (i : Int) < n
      · rw [if_pos h, if_pos (by omega)]
      · rw [if_neg h, if_neg (by omega)]

/-- Has a prefix an address of its family? -/
def inB (six : Bool) (hi lo n : Int) (six' : Bool) (hi' lo' : Int) : Bool :=
  (six' == six) && (cutHi six' hi' n == hi && cutLo six' lo' n == lo)

/-- A valid prefix. -/
structure Pfx (six : Bool) (hi lo n : Int) : Prop where
  rhi : 0 ≤ hi ∧ hi < 18446744073709551616
  rlo : 0 ≤ lo ∧ lo < 18446744073709551616
  may : mayB six hi lo = true
  len : 0 ≤ n ∧ n ≤ wideI six
  clean : cleanB six hi lo n = true

theorem chk_zero {six : Bool} {hi lo n : Int} (h1 : 0 ≤ hi ∧ hi < 18446744073709551616) (h2 : 0 ≤ lo ∧ lo < 18446744073709551616) (h : chk six hi lo n = 0) : Pfx six hi lo n := by
  unfold chk at h
  by_cases hm : mayB six hi lo = false
  · rw [if_pos hm] at h; omega
  · rw [if_neg hm] at h
    by_cases hr : n < 0 ∨ wideI six < n
    · rw [if_pos hr] at h; omega
    · rw [if_neg hr] at h
      by_cases hc : cleanB six hi lo n = true
      · exact ⟨h1, h2, by simpa using hm, by omega, hc⟩
      · rw [if_neg hc] at h; omega

theorem inB_iff {six : Bool} {hi lo hi' lo' : Int} {n : Nat} (hp : Pfx six hi lo n) (h1 : 0 ≤ hi' ∧ hi' < 18446744073709551616) (h2 : 0 ≤ lo' ∧ lo' < 18446744073709551616) (hm : mayB six hi' lo' = true) :
    inB six hi lo n six hi' lo' = true ↔ ∀ i : Nat, i < n → bitI six hi lo i = bitI six hi' lo' i := by
  have hc := (clean_iff six hi lo n hp.rhi hp.rlo hp.may hp.len.2).1 hp.clean
  unfold inB
  simp only [beq_self_eq_true, Bool.true_and, Bool.and_eq_true, beq_iff_eq]
  constructor
  · rintro ⟨e1, e2⟩ i hi0
    have := bit_cut six hi' lo' n i hm (by have := hp.len.2; omega)
    rw [e1, e2, if_pos (by omega)] at this
    exact this
  · intro h
    have hr := cutLo_range six hi' lo' n h2 hm
    refine addr_ext six _ _ _ _ (cutHi_range six hi' n h1) hr.1 hp.rhi hp.rlo hr.2 hp.may fun i hi0 => ?_
    rw [bit_cut six hi' lo' n i hm hi0]
    split
    · exact (h i (by omega)).symm
    · exact (hc i (by omega) hi0).symm

end Go.Proofs.Ytonelibgaceflaa
