
/-
  Proved here: the bits of an address, those from one place on turned to 0, make the cut address; the longest common prefix. No program.
-/
import Derived.Test.YtonelibgaceflaaAlikePlain
import Derived.Test.YtonelibgaceflaaCoverPlain
namespace Go.Proofs.Ytonelibgaceflaa
set_option linter.unusedVariables false

/-- The bits of an address, k of them from the n-th on turned to 0. -/
def zeroAt (six : Bool) (hi lo : Int) (m n k : Nat) : List Int := (List.range m).map fun (j : Nat) => if j < n then bitI six hi lo j else if j < n + k then 0 else bitI six hi lo j
theorem zeroAt_length (six : Bool) (hi lo : Int) (m n k : Nat) : (zeroAt six hi lo m n k).length = m := by simp [zeroAt]
theorem zeroAt_zero {six : Bool} {hi lo : Int} {m n : Nat} (hm : wideI six = m) : zeroAt six hi lo m n 0 = bitsL six hi lo := by
  unfold zeroAt bitsL
  rw [hm]
  apply List.map_congr_left
  intro j _
  split
  · rfl
  · rw [if_neg (by omega)]
theorem zeroAt_set {six : Bool} {hi lo : Int} {m n k : Nat} (hk : n + k < m) : (zeroAt six hi lo m n k).set (n + k) 0 = zeroAt six hi lo m n (k + 1) := by
  apply List.ext_getElem?
  intro j
  unfold zeroAt
  rw [List.getElem?_set]
  by_cases h : n + k = j
  · subst h
    rw [if_pos rfl, if_pos (by simpa using hk), List.getElem?_map, List.getElem?_range hk]
    simp only [Option.map_some, Option.some.injEq]
    rw [if_neg (by omega), if_pos (by omega)]
  · rw [if_neg h, List.getElem?_map, List.getElem?_map]
    rcases Nat.lt_or_ge j m with hj | hj
    · rw [List.getElem?_range hj]
      simp only [Option.map_some, Option.some.injEq]
      by_cases h1 : j < n
      · rw [if_pos h1, if_pos h1]
      · rw [if_neg h1, if_neg h1]
        by_cases h2 : j < n + k
        · rw [if_pos h2, if_pos (by omega)]
        · rw [if_neg h2, if_neg (by omega)]
    · rw [List.getElem?_eq_none (by simpa using hj)]
      rfl
theorem zeroAt_bits (six : Bool) (hi lo : Int) (m n k : Nat) : Bits (zeroAt six hi lo m n k) := by
  intro b hb
  unfold zeroAt at hb
  obtain ⟨i, _, rfl⟩ := List.mem_map.1 hb
  have := bitI_01 six hi lo i
  split
  · omega
  · split <;> omega
theorem zeroAt_words {six : Bool} {hi lo : Int} {m n k : Nat} (hm : wideI six = m) (hk : n + k = m) (h1 : 0 ≤ hi ∧ hi < 18446744073709551616) (h2 : 0 ≤ lo ∧ lo < 18446744073709551616) (hmay : mayB six hi lo = true) :
    hiOf six (zeroAt six hi lo m n k) = cutHi six hi n ∧ loOf six (zeroAt six hi lo m n k) = cutLo six lo n := by
  have hr := cutLo_range six hi lo n h2 hmay
  refine of_unique six _ (zeroAt_bits six hi lo m n k) (by rw [zeroAt_length, hm]) _ _ (cutHi_range six hi n h1) hr.1 hr.2 fun i hi' => ?_
  rw [bit_cut six hi lo n i hmay hi']
  unfold zeroAt
  rw [List.getElem?_map, List.getElem?_range (by omega)]
  simp only [Option.map_some, Option.some.injEq]
  by_cases h : i < n
  · rw [if_pos h, if_pos (by omega)]
  · rw [if_neg h, if_pos (show i < n + k by omega), if_neg (by omega)]

/-- A cut address is a prefix of that length. -/
theorem cut_pfx {six : Bool} {hi lo : Int} {n : Nat} (h1 : 0 ≤ hi ∧ hi < 18446744073709551616) (h2 : 0 ≤ lo ∧ lo < 18446744073709551616) (hm : mayB six hi lo = true) (hn : (n : Int) ≤ wideI six) :
    Pfx six (cutHi six hi n) (cutLo six lo n) n := by
  have hr := cutLo_range six hi lo n h2 hm
  have hh := cutHi_range six hi n h1
  refine ⟨hh, hr.1, hr.2, ⟨by omega, hn⟩, ?_⟩
  rw [clean_iff six _ _ n hh hr.1 hr.2 hn]
  intro i h3 h4
  rw [bit_cut six hi lo n i hm h4, if_neg (by omega)]

/-- The prefix of length n of an address covers another prefix just if n is at most that one's length, and the first n bits are the same. -/
theorem cut_over {six : Bool} {hi lo hi' lo' : Int} {n k' : Nat} (h1 : 0 ≤ hi ∧ hi < 18446744073709551616) (h2 : 0 ≤ lo ∧ lo < 18446744073709551616) (hm : mayB six hi lo = true) (hn : (n : Int) ≤ wideI six) (hq : Pfx six hi' lo' k') (hk : n ≤ k') :
    overB six (cutHi six hi n) (cutLo six lo n) n six hi' lo' k' = decide ((n : Int) ≤ alikeI six hi lo hi' lo') := by
  have hp := cut_pfx h1 h2 hm hn
  have hib := inB_iff hp hq.rhi hq.rlo hq.may
  have ha := alike_iff six hi lo hi' lo' n h1 h2 hq.rhi hq.rlo hm hq.may hn
  unfold overB
  rw [Bool.eq_iff_iff, Bool.and_eq_true, decide_eq_true_eq, decide_eq_true_eq, hib, ha]
  constructor
  · rintro ⟨_, h⟩ i hi0
    have := h i hi0
    rwa [bit_cut six hi lo n i hm (by omega), if_pos (by omega)] at this
  · intro h
    refine ⟨by omega, fun i hi0 => ?_⟩
    rw [bit_cut six hi lo n i hm (by omega), if_pos (by omega)]
    exact h i hi0

end Go.Proofs.Ytonelibgaceflaa
