
/-
  Proved here: how many bits two addresses have in common, from the first one on. No program but the library's plain functions on numbers.
-/
import Derived.Test.YtonelibgaceflaaHalfPlain
import Derived.Lib.BitFns
import Derived.Lib.ItoaNum
namespace Go.Proofs.Ytonelibgaceflaa
set_option linter.unusedVariables false

theorem bitLen_zero : Lib.bitLen 0 = 0 := Lib.bitLenAux_zero _
theorem bitLen_bounds (x : Nat) (h : x < 2 ^ 64) (h0 : x ≠ 0) : 1 ≤ Lib.bitLen x ∧ 2 ^ (Lib.bitLen x - 1) ≤ x ∧ x < 2 ^ Lib.bitLen x := Lib.bitLenAux_bounds 64 x h h0

/-- The bits above a number's length are 0. -/
theorem bitLen_above (x j : Nat) (h : x < 2 ^ 64) (hj : Lib.bitLen x ≤ j) : x.testBit j = false := by
  by_cases h0 : x = 0
  · subst h0; simp
  · exact Nat.testBit_lt_two_pow (Nat.lt_of_lt_of_le (bitLen_bounds x h h0).2.2 (Nat.pow_le_pow_right (by omega) hj))
/-- Its highest bit is 1. -/
theorem bitLen_top (x : Nat) (h : x < 2 ^ 64) (h0 : x ≠ 0) : x.testBit (Lib.bitLen x - 1) = true := by
  have hb := bitLen_bounds x h h0
  rw [Nat.testBit_eq_decide_div_mod_eq]
  have h1 : x / 2 ^ (Lib.bitLen x - 1) = 1 := by
    have hp : (2 : Nat) ^ Lib.bitLen x = 2 ^ (Lib.bitLen x - 1) * 2 := by rw [← Nat.pow_succ, show (Lib.bitLen x - 1).succ = Lib.bitLen x from by omega]
    apply Nat.div_eq_of_lt_le
    · omega
    · omega
  rw [h1]
  rfl

theorem xor_bit (x y : Int) (j : Nat) (hx : 0 ≤ x) (hy : 0 ≤ y) : (x.toNat ^^^ y.toNat).testBit j = false ↔ x / 2 ^ j % 2 = y / 2 ^ j % 2 := by
  rw [Nat.testBit_xor]
  have h1 := int_bit x.toNat j
  have h2 := int_bit y.toNat j
  rw [Int.toNat_of_nonneg hx] at h1
  rw [Int.toNat_of_nonneg hy] at h2
  rw [h1, h2]
  cases x.toNat.testBit j <;> cases y.toNat.testBit j <;> simp

/-- How many of the first W bits of two words are alike. -/
def wordAlike (W : Nat) (x y : Int) : Int := W - (Lib.bitLen (x.toNat ^^^ y.toNat) : Int)

theorem xor_lt (W : Nat) (x y : Int) (hx : 0 ≤ x ∧ x < 2 ^ W) (hy : 0 ≤ y ∧ y < 2 ^ W) : x.toNat ^^^ y.toNat < 2 ^ W := by
  have h1 : x.toNat < 2 ^ W := by
    have : ((2 ^ W : Nat) : Int) = (2 : Int) ^ W := by simp
    omega
  have h2 : y.toNat < 2 ^ W := by
    have : ((2 ^ W : Nat) : Int) = (2 : Int) ^ W := by simp
    omega
  exact Nat.xor_lt_two_pow h1 h2

theorem bitLen_le_of_lt (x W : Nat) (hW : W ≤ 64) (h : x < 2 ^ W) : Lib.bitLen x ≤ W := by
  by_cases h0 : x = 0
  · subst h0; rw [bitLen_zero]; omega
  · have h64 : x < 2 ^ 64 := Nat.lt_of_lt_of_le h (Nat.pow_le_pow_right (by omega) hW)
    have hb := bitLen_bounds x h64 h0
    rcases Nat.lt_or_ge W (Lib.bitLen x) with hlt | hge
    · exfalso
      have : (2 : Nat) ^ W ≤ 2 ^ (Lib.bitLen x - 1) := Nat.pow_le_pow_right (by omega) (by omega)
      omega
    · exact hge

theorem wordAlike_range (W : Nat) (x y : Int) (hW : W ≤ 64) (hx : 0 ≤ x ∧ x < 2 ^ W) (hy : 0 ≤ y ∧ y < 2 ^ W) : 0 ≤ wordAlike W x y ∧ wordAlike W x y ≤ W := by
  have := bitLen_le_of_lt _ W hW (xor_lt W x y hx hy)
  unfold wordAlike
  omega

/-- The first n bits of two words are the same just if n is at most so much. -/
theorem wordAlike_iff (W : Nat) (x y : Int) (n : Nat) (hW : W ≤ 64) (hn : n ≤ W) (hx : 0 ≤ x ∧ x < 2 ^ W) (hy : 0 ≤ y ∧ y < 2 ^ W) :
    (n : Int) ≤ wordAlike W x y ↔ ∀ i : Nat, i < n → x / 2 ^ (W - 1 - i) % 2 = y / 2 ^ (W - 1 - i) % 2 := by
  have hlt := xor_lt W x y hx hy
  have h64 : x.toNat ^^^ y.toNat < 2 ^ 64 := Nat.lt_of_lt_of_le hlt (Nat.pow_le_pow_right (by omega) hW)
  have hle := bitLen_le_of_lt _ W hW hlt
  unfold wordAlike
  constructor
  · intro h i hi
    rw [← xor_bit x y _ hx.1 hy.1]
    exact bitLen_above _ _ h64 (by omega)
  · intro h
    by_cases h0 : x.toNat ^^^ y.toNat = 0
    · rw [h0, bitLen_zero]; omega
    · have hb := bitLen_bounds _ h64 h0
      have ht := bitLen_top _ h64 h0
      generalize Lib.bitLen (x.toNat ^^^ y.toNat) = L at *
      rcases Nat.lt_or_ge (W - L) n with hc | hc
      · exfalso
        have := h (W - L) hc
        rw [show W - 1 - (W - L) = L - 1 from by omega, ← xor_bit x y _ hx.1 hy.1] at this
        rw [this] at ht
        cases ht
      · omega

theorem wordAlike_eq (W : Nat) (x : Int) : wordAlike W x x = W := by
  unfold wordAlike
  rw [Nat.xor_self, bitLen_zero]
  simp

/-- How many bits two addresses of one family have in common, from the first one on. -/
def alikeI (six : Bool) (hi lo hi' lo' : Int) : Int :=
  if six = false then wordAlike 32 lo lo' else if hi = hi' then 64 + wordAlike 64 lo lo' else wordAlike 64 hi hi'

theorem alike_iff (six : Bool) (hi lo hi' lo' : Int) (n : Nat) (h1 : 0 ≤ hi ∧ hi < 18446744073709551616) (h2 : 0 ≤ lo ∧ lo < 18446744073709551616) (h3 : 0 ≤ hi' ∧ hi' < 18446744073709551616) (h4 : 0 ≤ lo' ∧ lo' < 18446744073709551616)
    (hm : mayB six hi lo = true) (hm' : mayB six hi' lo' = true) (hn : (n : Int) ≤ wideI six) :
    (n : Int) ≤ alikeI six hi lo hi' lo' ↔ ∀ i : Nat, i < n → bitI six hi lo i = bitI six hi' lo' i := by
  have e : (2 : Int) ^ 64 = 18446744073709551616 := by decide
  have e' : (2 : Int) ^ 32 = 4294967296 := by decide
  cases six
  · have hn' : (n : Int) ≤ 32 := hn
    have q := mayB_four hm
    have q' := mayB_four hm'
    unfold alikeI
    rw [if_pos rfl, wordAlike_iff 32 lo lo' n (by omega) (by omega) (by omega) (by omega)]
    have hb : ∀ (hi lo : Int) (i : Nat), i < n → bitI false hi lo i = lo / 2 ^ (32 - 1 - i) % 2 := by
      intro hi lo i hi0
      unfold bitI
      rw [if_neg (by simp), show (31 - (i : Int)).toNat = 32 - 1 - i from by omega]
    constructor
    · intro h i hi0; rw [hb _ _ _ hi0, hb _ _ _ hi0]; exact h i hi0
    · intro h i hi0; have := h i hi0; rw [hb _ _ _ hi0, hb _ _ _ hi0] at this; exact this
  · have hn' : (n : Int) ≤ 128 := hn
    have hH : ∀ (hi lo : Int) (i : Nat), i < 64 → bitI true hi lo i = hi / 2 ^ (64 - 1 - i) % 2 := by
      intro hi lo i hi0
      unfold bitI
      rw [if_pos rfl, if_pos (by omega), show (63 - (i : Int)).toNat = 64 - 1 - i from by omega]
    have hL : ∀ (hi lo : Int) (i : Nat), i < 64 → bitI true hi lo ((64 + i : Nat) : Int) = lo / 2 ^ (64 - 1 - i) % 2 := by
      intro hi lo i hi0
      unfold bitI
      rw [if_pos rfl, if_neg (by omega), show (127 - ((64 + i : Nat) : Int)).toNat = 64 - 1 - i from by omega]
    unfold alikeI
    rw [if_neg (by simp)]
    by_cases hh : hi = hi'
    · subst hh
      rw [if_pos rfl]
      have r := wordAlike_range 64 lo lo' (by omega) (by omega) (by omega)
      rcases Nat.lt_or_ge n 64 with hc | hc
      · constructor
        · intro _ i hi0; rw [hH _ _ _ (by omega), hH _ _ _ (by omega)]
        · intro _; omega
      · have hw := wordAlike_iff 64 lo lo' (n - 64) (by omega) (by omega) (by omega) (by omega)
        have e1 : (n : Int) ≤ 64 + wordAlike 64 lo lo' ↔ ((n - 64 : Nat) : Int) ≤ wordAlike 64 lo lo' := by omega
        rw [e1, hw]
        constructor
        · intro h i hi0
          rcases Nat.lt_or_ge i 64 with hi64 | hi64
          · rw [hH _ _ _ hi64, hH _ _ _ hi64]
          · obtain ⟨j, rfl⟩ : ∃ j, i = 64 + j := ⟨i - 64, by omega⟩
            rw [hL _ _ _ (by omega), hL _ _ _ (by omega)]
            exact h j (by omega)
        · intro h j hj
          have := h (64 + j) (by omega)
          rw [hL _ _ _ (by omega), hL _ _ _ (by omega)] at this
          exact this
    · rw [if_neg hh]
      have r := wordAlike_range 64 hi hi' (by omega) (by omega) (by omega)
      have hne : ∃ j : Nat, j < 64 ∧ ¬ hi / 2 ^ (64 - 1 - j) % 2 = hi' / 2 ^ (64 - 1 - j) % 2 := by
        apply Classical.byContradiction
        intro hcon
        apply hh
        refine word_ext hi hi' 64 (by omega) (by omega) fun j hj => ?_
        apply Classical.byContradiction
        intro hb
        exact hcon ⟨63 - j, by omega, by rw [show 64 - 1 - (63 - j) = j from by omega]; exact hb⟩
      obtain ⟨j, hj, hbj⟩ := hne
      rcases Nat.lt_or_ge 64 n with hc | hc
      · constructor
        · intro h; omega
        · intro h
          exfalso
          have := h j (by omega)
          rw [hH _ _ _ hj, hH _ _ _ hj] at this
          exact hbj this
      · rw [wordAlike_iff 64 hi hi' n (by omega) hc (by omega) (by omega)]
        constructor
        · intro h i hi0; rw [hH _ _ _ (by omega), hH _ _ _ (by omega)]; exact h i hi0
        · intro h i hi0; have := h i hi0; rw [hH _ _ _ (by omega), hH _ _ _ (by omega)] at this; exact this

theorem alike_range (six : Bool) (hi lo hi' lo' : Int) (h1 : 0 ≤ hi ∧ hi < 18446744073709551616) (h2 : 0 ≤ lo ∧ lo < 18446744073709551616) (h3 : 0 ≤ hi' ∧ hi' < 18446744073709551616) (h4 : 0 ≤ lo' ∧ lo' < 18446744073709551616)
    (hm : mayB six hi lo = true) (hm' : mayB six hi' lo' = true) : 0 ≤ alikeI six hi lo hi' lo' ∧ alikeI six hi lo hi' lo' ≤ wideI six := by
  have e : (2 : Int) ^ 64 = 18446744073709551616 := by decide
  have e' : (2 : Int) ^ 32 = 4294967296 := by decide
  unfold alikeI wideI
  cases six
  · have q := mayB_four hm
    have q' := mayB_four hm'
    simp only [↓reduceIte, Bool.false_eq_true]
    exact wordAlike_range 32 lo lo' (by omega) (by omega) (by omega)
  · simp only [Bool.true_eq_false, ↓reduceIte]
    have r1 := wordAlike_range 64 lo lo' (by omega) (by omega) (by omega)
    have r2 := wordAlike_range 64 hi hi' (by omega) (by omega) (by omega)
    split <;> omega

end Go.Proofs.Ytonelibgaceflaa
