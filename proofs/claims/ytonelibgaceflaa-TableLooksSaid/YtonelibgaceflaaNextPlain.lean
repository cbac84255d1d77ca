
/-
  Proved here: plain arithmetic of an address so many further on. No program.
-/
import Derived.Test.YtonelibgaceflaaPlain2
namespace Go.Proofs.Ytonelibgaceflaa
set_option linter.unusedVariables false

/-- The sum, as a number of any size. -/
def sumI (hi lo by' : Int) : Int := hi * 18446744073709551616 + lo + by'
def plusHi (hi lo by' : Int) : Int := sumI hi lo by' / 18446744073709551616 % 18446744073709551616
def plusLo (hi lo by' : Int) : Int := sumI hi lo by' % 18446744073709551616
/-- Does the sum not go over the end? -/
def plusOk (six : Bool) (hi lo by' : Int) : Bool := decide (0 ≤ sumI hi lo by' ∧ sumI hi lo by' < 340282366920938463463374607431768211456) && mayB six (plusHi hi lo by') (plusLo hi lo by')

theorem plus_range (hi lo by' : Int) : (0 ≤ plusHi hi lo by' ∧ plusHi hi lo by' < 18446744073709551616) ∧ (0 ≤ plusLo hi lo by' ∧ plusLo hi lo by' < 18446744073709551616) := by
  unfold plusHi plusLo
  omega

/-- The number of an address. -/
def valI (six : Bool) (hi lo : Int) : Int := if six then hi * 18446744073709551616 + lo else lo
def topI (six : Bool) : Int := if six then 340282366920938463463374607431768211456 else 4294967296

theorem valI_range (six : Bool) (hi lo : Int) (h1 : 0 ≤ hi ∧ hi < 18446744073709551616) (h2 : 0 ≤ lo ∧ lo < 18446744073709551616) (hm : mayB six hi lo = true) : 0 ≤ valI six hi lo ∧ valI six hi lo < topI six := by
  unfold valI topI
  cases six
  · have := mayB_four hm
    simp only [Bool.false_eq_true, ↓reduceIte]
    omega
  · simp only [↓reduceIte]
    omega

theorem sum_val (six : Bool) (hi lo by' : Int) (hm : mayB six hi lo = true) : sumI hi lo by' = valI six hi lo + by' := by
  unfold sumI valI
  cases six
  · have := mayB_four hm
    simp only [Bool.false_eq_true, ↓reduceIte]
    omega
  · simp only [↓reduceIte]

/-- It does not go over the end just if the number stays one of an address. -/
theorem plusOk_iff (six : Bool) (hi lo by' : Int) (h1 : 0 ≤ hi ∧ hi < 18446744073709551616) (h2 : 0 ≤ lo ∧ lo < 18446744073709551616) (hm : mayB six hi lo = true) (hb : -1099511627776 ≤ by' ∧ by' ≤ 1099511627776) :
    plusOk six hi lo by' = true ↔ 0 ≤ valI six hi lo + by' ∧ valI six hi lo + by' < topI six := by
  have hs := sum_val six hi lo by' hm
  unfold plusOk
  rw [Bool.and_eq_true, decide_eq_true_eq, ← hs]
  unfold topI
  cases six
  · have := mayB_four hm
    have e : sumI hi lo by' = lo + by' := by unfold sumI; omega
    simp only [mayB, Bool.false_eq_true, ↓reduceIte, Bool.false_or, Bool.and_eq_true, beq_iff_eq, decide_eq_true_eq]
    unfold plusHi plusLo
    rw [e]
    omega
  · simp only [mayB, Bool.true_or, ↓reduceIte, and_true]

theorem valI_bit (six : Bool) (hi lo : Int) (i : Nat) (h1 : 0 ≤ hi ∧ hi < 18446744073709551616) (h2 : 0 ≤ lo ∧ lo < 18446744073709551616) {m : Nat} (hw : wideI six = m) (hi' : i < m) :
    bitI six hi lo i = valI six hi lo / 2 ^ (m - 1 - i) % 2 := by
  cases six
  · have hm : (32 : Int) = m := hw
    unfold bitI valI
    simp only [Bool.false_eq_true, ↓reduceIte]
    rw [show (31 - (i : Int)).toNat = m - 1 - i from by omega]
  · have hm : (128 : Int) = m := hw
    unfold bitI valI
    simp only [↓reduceIte]
    by_cases h64 : (i : Int) < 64
    · rw [if_pos h64, show (63 - (i : Int)).toNat = 63 - i from by omega, show m - 1 - i = 64 + (63 - i) from by omega, Int.pow_add, ← Int.ediv_ediv_of_nonneg (by decide)]
      have e : (2 : Int) ^ 64 = 18446744073709551616 := by decide
      rw [e, show (hi * 18446744073709551616 + lo) / 18446744073709551616 = hi from by omega]
    · rw [if_neg h64, show (127 - (i : Int)).toNat = m - 1 - i from by omega]
      obtain ⟨j, hj⟩ : ∃ j, m - 1 - i = j := ⟨_, rfl⟩
      have hj64 : j < 64 := by omega
      rw [hj]
      have e : (18446744073709551616 : Int) = 2 ^ j * (2 * 2 ^ (63 - j)) := by
        rw [show (2 : Int) * 2 ^ (63 - j) = 2 ^ (64 - j) from by rw [show 64 - j = (63 - j) + 1 from by omega, Int.pow_succ, Int.mul_comm], ← Int.pow_add, show j + (64 - j) = 64 from by omega]
        decide
      have hp : (0 : Int) < 2 ^ j := Int.pow_pos (by omega)
      rw [e, show hi * (2 ^ j * (2 * 2 ^ (63 - j))) + lo = lo + 2 ^ j * (hi * (2 * 2 ^ (63 - j))) from by rw [← Int.mul_assoc, Int.mul_comm hi, Int.mul_assoc, Int.add_comm], Int.add_mul_ediv_left _ _ (by omega)]
      rw [show hi * (2 * 2 ^ (63 - j)) = 2 * (hi * 2 ^ (63 - j)) from by rw [← Int.mul_assoc, Int.mul_comm hi 2, Int.mul_assoc]]
      omega

/-- The words of the sum are those of an address whose number is the sum. -/
theorem plus_val (six : Bool) (hi lo by' : Int) (h1 : 0 ≤ hi ∧ hi < 18446744073709551616) (h2 : 0 ≤ lo ∧ lo < 18446744073709551616) (hm : mayB six hi lo = true) (hok : plusOk six hi lo by' = true) :
    valI six (plusHi hi lo by') (plusLo hi lo by') = valI six hi lo + by' ∧ mayB six (plusHi hi lo by') (plusLo hi lo by') = true := by
  unfold plusOk at hok
  rw [Bool.and_eq_true, decide_eq_true_eq] at hok
  obtain ⟨h3, h4⟩ := hok
  refine ⟨?_, h4⟩
  have e1 := sum_val six (plusHi hi lo by') (plusLo hi lo by') 0 h4
  have e2 := sum_val six hi lo by' hm
  rw [← e2]
  have e3 : sumI (plusHi hi lo by') (plusLo hi lo by') 0 = plusHi hi lo by' * 18446744073709551616 + plusLo hi lo by' + 0 := rfl
  have e4 : plusHi hi lo by' = sumI hi lo by' / 18446744073709551616 % 18446744073709551616 := rfl
  have e5 : plusLo hi lo by' = sumI hi lo by' % 18446744073709551616 := rfl
  rw [e3] at e1
  generalize plusHi hi lo by' = a at *
  generalize plusLo hi lo by' = b at *
  generalize sumI hi lo by' = s at *
  omega

/-! Bit by bit, from the lowest on. -/
/-- What is carried behind the lowest r bits. -/
def carryI (v by' : Int) (r : Nat) : Int := (v % 2 ^ r + by') / 2 ^ r
theorem carry_zero (v by' : Int) : carryI v by' 0 = by' := by unfold carryI; simp [Int.emod_one]
theorem carry_bit (v by' : Int) (r : Nat) : (v / 2 ^ r % 2 + carryI v by' r) % 2 = (v + by') / 2 ^ r % 2 := by
  unfold carryI
  have hp : (0 : Int) < 2 ^ r := Int.pow_pos (by omega)
  have e : v + by' = (v % 2 ^ r + by') + 2 ^ r * (v / 2 ^ r) := by
    have := Int.mul_ediv_add_emod v (2 ^ r)
    omega
  rw [show (v + by') / 2 ^ r = (v % 2 ^ r + by') / 2 ^ r + v / 2 ^ r from by
    conv => lhs; rw [e]
    rw [Int.add_mul_ediv_left _ _ (by omega)]]
  omega
theorem carry_succ (v by' : Int) (r : Nat) : carryI v by' (r + 1) = (v / 2 ^ r % 2 + carryI v by' r) / 2 := by
  unfold carryI
  have hp : (0 : Int) < 2 ^ r := Int.pow_pos (by omega)
  rw [mod_succ, show v % 2 ^ r + 2 ^ r * (v / 2 ^ r % 2) + by' = (v % 2 ^ r + by') + 2 ^ r * (v / 2 ^ r % 2) from by omega, Int.pow_succ, ← Int.ediv_ediv_of_nonneg (by omega), Int.add_mul_ediv_left _ _ (by omega)]
  congr 1
  omega
theorem carry_range (v by' : Int) (r : Nat) (hb : -1099511627776 ≤ by' ∧ by' ≤ 1099511627776) : -1099511627776 ≤ carryI v by' r ∧ carryI v by' r ≤ 1099511627777 := by
  induction r with
  | zero => rw [carry_zero]; omega
  | succ r ih =>
    rw [carry_succ]
    omega
theorem carry_end (v by' top : Int) (r : Nat) (ht : top = 2 ^ r) (hv : 0 ≤ v ∧ v < top) : carryI v by' r = 0 ↔ 0 ≤ v + by' ∧ v + by' < top := by
  unfold carryI
  have hp : (0 : Int) < 2 ^ r := Int.pow_pos (by omega)
  rw [Int.emod_eq_of_lt hv.1 (by omega)]
  constructor
  · intro h
    have := Int.mul_ediv_add_emod (v + by') (2 ^ r)
    have h3 := Int.emod_lt_of_pos (v + by') hp
    have h4 := Int.emod_nonneg (v + by') (by omega : (2 : Int) ^ r ≠ 0)
    rw [h] at this
    omega
  · rintro ⟨h1, h2⟩
    exact Int.ediv_eq_zero_of_lt h1 (by omega)

/-- The bits, the lowest r of them those of the sum. -/
def nextTo (six : Bool) (hi lo by' : Int) (m r : Nat) : List Int := (List.range m).map fun (j : Nat) => if j < m - r then bitI six hi lo j else (valI six hi lo + by') / 2 ^ (m - 1 - j) % 2
theorem nextTo_length (six : Bool) (hi lo by' : Int) (m r : Nat) : (nextTo six hi lo by' m r).length = m := by simp [nextTo]
theorem nextTo_zero {six : Bool} {hi lo by' : Int} {m : Nat} (hm : wideI six = m) : nextTo six hi lo by' m 0 = bitsL six hi lo := by
  unfold nextTo bitsL
  rw [hm]
  apply List.map_congr_left
  intro j hj
  have : j < m := by simpa using hj
  rw [if_pos (by omega)]
theorem nextTo_at {six : Bool} {hi lo by' : Int} {m r : Nat} (hr : r < m) : (nextTo six hi lo by' m r)[m - 1 - r]? = some (bitI six hi lo ((m - 1 - r : Nat) : Int)) := by
  unfold nextTo
  rw [List.getElem?_map, List.getElem?_range (by omega)]
  simp only [Option.map_some, Option.some.injEq]
  rw [if_pos (by omega)]
theorem nextTo_set {six : Bool} {hi lo by' : Int} {m r : Nat} (hr : r < m) : (nextTo six hi lo by' m r).set (m - 1 - r) ((valI six hi lo + by') / 2 ^ r % 2) = nextTo six hi lo by' m (r + 1) := by
  apply List.ext_getElem?
  intro j
  unfold nextTo
  rw [List.getElem?_set]
  by_cases h : m - 1 - r = j
  · subst h
    rw [if_pos rfl, if_pos (by simp; omega), List.getElem?_map, List.getElem?_range (by omega)]
    simp only [Option.map_some, Option.some.injEq]
    rw [if_neg (by omega), show m - 1 - (m - 1 - r) = r from by omega]
  · rw [if_neg h, List.getElem?_map, List.getElem?_map]
    rcases Nat.lt_or_ge j m with hj | hj
    · rw [List.getElem?_range hj]
      simp only [Option.map_some, Option.some.injEq]
      by_cases h1 : j < m - r
      · rw [if_pos h1, if_pos (by omega)]
      · rw [if_neg h1, if_neg (by omega)]
    · rw [List.getElem?_eq_none (by simpa using hj)]
      rfl
theorem nextTo_bits (six : Bool) (hi lo by' : Int) (m r : Nat) : Bits (nextTo six hi lo by' m r) := by
  intro b hb
  unfold nextTo at hb
  obtain ⟨i, _, rfl⟩ := List.mem_map.1 hb
  have := bitI_01 six hi lo i
  split <;> omega
theorem nextTo_words {six : Bool} {hi lo by' : Int} {m : Nat} (hm : wideI six = m) (h1 : 0 ≤ hi ∧ hi < 18446744073709551616) (h2 : 0 ≤ lo ∧ lo < 18446744073709551616) (hmay : mayB six hi lo = true) (hok : plusOk six hi lo by' = true) :
    hiOf six (nextTo six hi lo by' m m) = plusHi hi lo by' ∧ loOf six (nextTo six hi lo by' m m) = plusLo hi lo by' := by
  have hr := plus_range hi lo by'
  have hv := plus_val six hi lo by' h1 h2 hmay hok
  refine of_unique six _ (nextTo_bits six hi lo by' m m) (by rw [nextTo_length, hm]) _ _ hr.1 hr.2 hv.2 fun i hi' => ?_
  rw [valI_bit six _ _ i hr.1 hr.2 hm (by omega), hv.1]
  unfold nextTo
  rw [List.getElem?_map, List.getElem?_range (by omega)]
  simp only [Option.map_some, Option.some.injEq]
  rw [if_neg (by omega)]

end Go.Proofs.Ytonelibgaceflaa
