
/-
  Proved here: plain arithmetic of numbers read off bits. No program.
-/
import Derived.Test.YtonelibgaceflaaPlain
namespace Go.Proofs.Ytonelibgaceflaa
set_option linter.unusedVariables false

/-- The number that bits make, the highest first. -/
def numL (l : List Int) : Int := l.foldl (fun a b => 2 * a + b) 0
def Bits (l : List Int) : Prop := ∀ b ∈ l, 0 ≤ b ∧ b ≤ 1

theorem numL_nil : numL [] = 0 := rfl
theorem numL_snoc (l : List Int) (b : Int) : numL (l ++ [b]) = 2 * numL l + b := by simp [numL, List.foldl_append]
theorem numL_range (l : List Int) (h : Bits l) : 0 ≤ numL l ∧ numL l < 2 ^ l.length := by
  induction hk : l.length generalizing l with
  | zero =>
    have : l = [] := List.eq_nil_of_length_eq_zero hk
    subst this
    simp [numL]
  | succ m ih =>
    rcases List.eq_nil_or_concat l with rfl | ⟨l', b, rfl⟩
    · simp at hk
    · rw [List.concat_eq_append] at *
      have hb := h b (by simp)
      have := ih l' (fun x hx => h x (by simp [hx])) (by simpa using hk)
      rw [numL_snoc, Int.pow_succ]
      omega

/-- The bits of such a number are the bits. -/
theorem numL_bit (l : List Int) (h : Bits l) : ∀ (i : Nat) (b : Int), l[i]? = some b → numL l / 2 ^ (l.length - 1 - i) % 2 = b := by
  induction hk : l.length generalizing l with
  | zero =>
    intro i b hb
    have : l = [] := List.eq_nil_of_length_eq_zero hk
    subst this
    simp at hb
  | succ m ih =>
    intro i b hb
    rcases List.eq_nil_or_concat l with rfl | ⟨l', c, rfl⟩
    · simp at hk
    · rw [List.concat_eq_append] at *
      have hc := h c (by simp)
      have hl : l'.length = m := by simpa using hk
      rw [numL_snoc]
      rcases Nat.lt_or_ge i m with hi | hi
      · rw [List.getElem?_append_left (by omega)] at hb
        have := ih l' (fun x hx => h x (by simp [hx])) hl i b hb
        rw [show m + 1 - 1 - i = (m - 1 - i) + 1 from by omega, Int.pow_succ, Int.mul_comm (2 ^ (m - 1 - i)) 2, ← Int.ediv_ediv_of_nonneg (by omega)]
        rw [show (2 * numL l' + c) / 2 = numL l' from by omega]
        exact this
      · rw [List.getElem?_append_right (by omega)] at hb
        have hz : i - l'.length = 0 := by
          rcases Nat.eq_zero_or_pos (i - l'.length) with h0 | h0
          · exact h0
          · rw [List.getElem?_eq_none (by simp; omega)] at hb; cases hb
        rw [hz] at hb
        simp at hb
        subst hb
        rw [show m + 1 - 1 - i = 0 from by omega]
        simp
        omega

theorem Bits.take {l : List Int} (h : Bits l) (k : Nat) : Bits (l.take k) := fun b hb => h b (List.mem_of_mem_take hb)
theorem Bits.drop {l : List Int} (h : Bits l) (k : Nat) : Bits (l.drop k) := fun b hb => h b (List.mem_of_mem_drop hb)

/-- The words that bits of an address make. -/
def hiOf (six : Bool) (l : List Int) : Int := if six then numL (l.take 64) else 0
def loOf (six : Bool) (l : List Int) : Int := if six then numL (l.drop 64) else numL l

theorem e64 : (2 : Int) ^ 64 = 18446744073709551616 := by decide
theorem e32 : (2 : Int) ^ 32 = 4294967296 := by decide

theorem of_range (six : Bool) (l : List Int) (h : Bits l) (hl : (l.length : Int) = wideI six) :
    (0 ≤ hiOf six l ∧ hiOf six l < 18446744073709551616) ∧ (0 ≤ loOf six l ∧ loOf six l < 18446744073709551616) ∧ mayB six (hiOf six l) (loOf six l) = true := by
  cases six
  · have hl' : (l.length : Int) = 32 := hl
    have hl2 : l.length = 32 := by omega
    have r := numL_range l h
    rw [hl2, e32] at r
    unfold hiOf loOf mayB
    simp only [Bool.false_eq_true, ↓reduceIte, Bool.false_or, Bool.and_eq_true, beq_self_eq_true, decide_eq_true_eq, true_and]
    omega
  · have hl' : (l.length : Int) = 128 := hl
    have r1 := numL_range (l.take 64) (h.take 64)
    have r2 := numL_range (l.drop 64) (h.drop 64)
    rw [List.length_take, show min 64 l.length = 64 from by omega, e64] at r1
    rw [List.length_drop, show l.length - 64 = 64 from by omega, e64] at r2
    unfold hiOf loOf
    simp only [↓reduceIte]
    exact ⟨r1, r2, by simp [mayB]⟩

theorem of_bit (six : Bool) (l : List Int) (h : Bits l) (hl : (l.length : Int) = wideI six) (i : Nat) (b : Int) (hb : l[i]? = some b) : bitI six (hiOf six l) (loOf six l) i = b := by
  have hil := (List.getElem?_eq_some_iff.1 hb).1
  cases six
  · have hl' : (l.length : Int) = 32 := hl
    have := numL_bit l h i b hb
    unfold bitI loOf
    simp only [Bool.false_eq_true, ↓reduceIte]
    rwa [show (31 - (i : Int)).toNat = l.length - 1 - i from by omega]
  · have hl' : (l.length : Int) = 128 := hl
    unfold bitI loOf hiOf
    simp only [↓reduceIte]
    by_cases h64 : i < 64
    · rw [if_pos (by omega)]
      have := numL_bit (l.take 64) (h.take 64) i b (by rw [List.getElem?_take_of_lt h64]; exact hb)
      rw [List.length_take, show min 64 l.length = 64 from by omega] at this
      rwa [show (63 - (i : Int)).toNat = 64 - 1 - i from by omega]
    · rw [if_neg (by omega)]
      have := numL_bit (l.drop 64) (h.drop 64) (i - 64) b (by rw [List.getElem?_drop, show 64 + (i - 64) = i from by omega]; exact hb)
      rw [List.length_drop, show l.length - 64 = 64 from by omega] at this
      rwa [show (127 - (i : Int)).toNat = 64 - 1 - (i - 64) from by omega]

/-- Words whose bits are given. -/
theorem of_unique (six : Bool) (l : List Int) (h : Bits l) (hl : (l.length : Int) = wideI six) (hi lo : Int) (h1 : 0 ≤ hi ∧ hi < 18446744073709551616) (h2 : 0 ≤ lo ∧ lo < 18446744073709551616) (hm : mayB six hi lo = true)
    (hb : ∀ i : Nat, (i : Int) < wideI six → l[i]? = some (bitI six hi lo i)) : hiOf six l = hi ∧ loOf six l = lo := by
  have r := of_range six l h hl
  exact addr_ext six _ _ _ _ r.1 r.2.1 h1 h2 r.2.2 hm fun i hi' => of_bit six l h hl i _ (hb i hi')

end Go.Proofs.Ytonelibgaceflaa
