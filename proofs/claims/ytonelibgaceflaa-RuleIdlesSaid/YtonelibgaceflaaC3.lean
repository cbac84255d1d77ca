/-
  
  
  
  
  
  
  
  Proved here: contracts of library functions, laid by the shelf at this dump. No conditions but those of each theorem.
  
  
  
  
  
  
-/
import Derived.Test.YtonelibgaceflaaC2
import Derived.Lib.BitFns
import Derived.Lib.ItoaNum
import Derived.Test.YtonelibgaceflaaC1
import Derived.Deep.LoopGhost
import Derived.Deep.RegionHeld3
import Derived.Deep.RegionWith
import Derived.Shelf.Small.Bits
import Derived.Shelf.Small.Wraps
import Derived.Shelf.Strconv.Itoa0
import Derived.Shelf.Bits.Mul64
import Derived.Shelf.Slices.Turned
import Derived.Ground.Names2Prog
import Derived.Shelf.Slices.SearchI
import Derived.Test.YtonelibgaceflaaProg
import Derived.Test.YtonelibgaceflaaChecked
import Derived.Laws.StructEq
namespace Go.Proofs.Ytonelibgaceflaa
set_option linter.unusedVariables false

theorem bitLen_zero : Lib.bitLen 0 = 0 := Lib.bitLenAux_zero _
theorem bitLen_bounds (x : Nat) (h : x < 2 ^ 64) (h0 : x ≠ 0) : 1 ≤ Lib.bitLen x ∧ 2 ^ (Lib.bitLen x - 1) ≤ x ∧ x < 2 ^ Lib.bitLen x := Lib.bitLenAux_bounds 64 x h h0

/-- The bits above a number's length are 0. -/
theorem bitLen_above (x j : Nat) (h : x < 2 ^ 64) (hj : Lib.bitLen x ≤ j) : x.testBit j = false := by
  by_cases h0 : x = 0
  · subst h0; simp
  · exact Nat.testBit_lt_two_pow (Nat.lt_of_lt_of_le (bitLen_bounds x h h0).2.2 (Nat.pow_le_pow_right (by omega) hj))
/-- Its highest bit is 1. -/
theorem bitLen_top (x : Nat) (h : x < 2 ^ 64) (h0 : x ≠ 0) : x.testBit (Lib.bitLen x - 1) = true := by
  have hb := bitLen_bounds x h h0
  rw [Nat.testBit_eq_decide_div_mod_eq]
  have h1 : x / 2 ^ (Lib.bitLen x - 1) = 1 := by
    have hp : (2 : Nat) ^ Lib.bitLen x = 2 ^ (Lib.bitLen x - 1) * 2 := by rw [← Nat.pow_succ, show (Lib.bitLen x - 1).succ = Lib.bitLen x from by omega]
    apply Nat.div_eq_of_lt_le
    · omega
    · omega
  rw [h1]
  rfl

theorem xor_bit (x y : Int) (j : Nat) (hx : 0 ≤ x) (hy : 0 ≤ y) : (x.toNat ^^^ y.toNat).testBit j = false ↔ x / 2 ^ j % 2 = y / 2 ^ j % 2 := by
  rw [Nat.testBit_xor]
  have h1 := int_bit x.toNat j
  have h2 := int_bit y.toNat j
  rw [Int.toNat_of_nonneg hx] at h1
  rw [Int.toNat_of_nonneg hy] at h2
  rw [h1, h2]
  cases x.toNat.testBit j <;> cases y.toNat.testBit j <;> simp

/-- How many of the first W bits of two words are alike. -/
def wordAlike (W : Nat) (x y : Int) : Int := W - (Lib.bitLen (x.toNat ^^^ y.toNat) : Int)

theorem xor_lt (W : Nat) (x y : Int) (hx : 0 ≤ x ∧ x < 2 ^ W) (hy : 0 ≤ y ∧ y < 2 ^ W) : x.toNat ^^^ y.toNat < 2 ^ W := by
  have h1 : x.toNat < 2 ^ W := by
    have : ((2 ^ W : Nat) : Int) = (2 : Int) ^ W := by simp
    omega
  have h2 : y.toNat < 2 ^ W := by
    have : ((2 ^ W : Nat) : Int) = (2 : Int) ^ W := by simp
    omega
  exact Nat.xor_lt_two_pow h1 h2

theorem bitLen_le_of_lt (x W : Nat) (hW : W ≤ 64) (h : x < 2 ^ W) : Lib.bitLen x ≤ W := by
  by_cases h0 : x = 0
  · subst h0; rw [bitLen_zero]; omega
  · have h64 : x < 2 ^ 64 := Nat.lt_of_lt_of_le h (Nat.pow_le_pow_right (by omega) hW)
    have hb := bitLen_bounds x h64 h0
    rcases Nat.lt_or_ge W (Lib.bitLen x) with hlt | hge
    · exfalso
      have : (2 : Nat) ^ W ≤ 2 ^ (Lib.bitLen x - 1) := Nat.pow_le_pow_right (by omega) (by omega)
      omega
    · exact hge

theorem wordAlike_range (W : Nat) (x y : Int) (hW : W ≤ 64) (hx : 0 ≤ x ∧ x < 2 ^ W) (hy : 0 ≤ y ∧ y < 2 ^ W) : 0 ≤ wordAlike W x y ∧ wordAlike W x y ≤ W := by
  have := bitLen_le_of_lt _ W hW (xor_lt W x y hx hy)
  unfold wordAlike
  omega

/-- The first n bits of two words are the same just if n is at most so much. -/
theorem wordAlike_iff (W : Nat) (x y : Int) (n : Nat) (hW : W ≤ 64) (hn : n ≤ W) (hx : 0 ≤ x ∧ x < 2 ^ W) (hy : 0 ≤ y ∧ y < 2 ^ W) :
    (n : Int) ≤ wordAlike W x y ↔ ∀ i : Nat, i < n → x / 2 ^ (W - 1 - i) % 2 = y / 2 ^ (W - 1 - i) % 2 := by
  have hlt := xor_lt W x y hx hy
  have h64 : x.toNat ^^^ y.toNat < 2 ^ 64 := Nat.lt_of_lt_of_le hlt (Nat.pow_le_pow_right (by omega) hW)
  have hle := bitLen_le_of_lt _ W hW hlt
  unfold wordAlike
  constructor
  · intro h i hi
    rw [← xor_bit x y _ hx.1 hy.1]
    exact bitLen_above _ _ h64 (by omega)
  · intro h
    by_cases h0 : x.toNat ^^^ y.toNat = 0
    · rw [h0, bitLen_zero]; omega
    · have hb := bitLen_bounds _ h64 h0
      have ht := bitLen_top _ h64 h0
      generalize Lib.bitLen (x.toNat ^^^ y.toNat) = L at *
      rcases Nat.lt_or_ge (W - L) n with hc | hc
      · exfalso
        have := h (W - L) hc
        rw [show W - 1 - (W - L) = L - 1 from by omega, ← xor_bit x y _ hx.1 hy.1] at this
        rw [this] at ht
        cases ht
      · omega

theorem wordAlike_eq (W : Nat) (x : Int) : wordAlike W x x = W := by
  unfold wordAlike
  rw [Nat.xor_self, bitLen_zero]
  simp

/-- How many bits two addresses of one family have in common, from the first one on. -/
def alikeI (six : Bool) (hi lo hi' lo' : Int) : Int :=
  if six = false then wordAlike 32 lo lo' else if hi = hi' then 64 + wordAlike 64 lo lo' else wordAlike 64 hi hi'

theorem alike_iff (six : Bool) (hi lo hi' lo' : Int) (n : Nat) (h1 : 0 ≤ hi ∧ hi < 18446744073709551616) (h2 : 0 ≤ lo ∧ lo < 18446744073709551616) (h3 : 0 ≤ hi' ∧ hi' < 18446744073709551616) (h4 : 0 ≤ lo' ∧ lo' < 18446744073709551616)
    (hm : mayB six hi lo = true) (hm' : mayB six hi' lo' = true) (hn : (n : Int) ≤ wideI six) :
    (n : Int) ≤ alikeI six hi lo hi' lo' ↔ ∀ i : Nat, i < n → bitI six hi lo i = bitI six hi' lo' i := by
  have e : (2 : Int) ^ 64 = 18446744073709551616 := by decide
  have e' : (2 : Int) ^ 32 = 4294967296 := by decide
  cases six
  · have hn' : (n : Int) ≤ 32 := hn
    have q := mayB_four hm
    have q' := mayB_four hm'
    unfold alikeI
    rw [if_pos rfl, wordAlike_iff 32 lo lo' n (by omega) (by omega) (by omega) (by omega)]
    have hb : ∀ (hi lo : Int) (i : Nat), i < n → bitI false hi lo i = lo / 2 ^ (32 - 1 - i) % 2 := by
      intro hi lo i hi0
      unfold bitI
      rw [if_neg (by simp), show (31 - (i : Int)).toNat = 32 - 1 - i from by omega]
    constructor
    · intro h i hi0; rw [hb _ _ _ hi0, hb _ _ _ hi0]; exact h i hi0
    · intro h i hi0; have := h i hi0; rw [hb _ _ _ hi0, hb _ _ _ hi0] at this; exact this
  · have hn' : (n : Int) ≤ 128 := hn
    have hH : ∀ (hi lo : Int) (i : Nat), i < 64 → bitI true hi lo i = hi / 2 ^ (64 - 1 - i) % 2 := by
      intro hi lo i hi0
      unfold bitI
      rw [if_pos rfl, if_pos (by omega), show (63 - (i : Int)).toNat = 64 - 1 - i from by omega]
    have hL : ∀ (hi lo : Int) (i : Nat), i < 64 → bitI true hi lo ((64 + i : Nat) : Int) = lo / 2 ^ (64 - 1 - i) % 2 := by
      intro hi lo i hi0
      unfold bitI
      rw [if_pos rfl, if_neg (by omega), show (127 - ((64 + i : Nat) : Int)).toNat = 64 - 1 - i from by omega]
    unfold alikeI
    rw [if_neg (by simp)]
    by_cases hh : hi = hi'
    · subst hh
      rw [if_pos rfl]
      have r := wordAlike_range 64 lo lo' (by omega) (by omega) (by omega)
      rcases Nat.lt_or_ge n 64 with hc | hc
      · constructor
        · intro _ i hi0; rw [hH _ _ _ (by omega), hH _ _ _ (by omega)]
        · intro _; omega
      · have hw := wordAlike_iff 64 lo lo' (n - 64) (by omega) (by omega) (by omega) (by omega)
        have e1 : (n : Int) ≤ 64 + wordAlike 64 lo lo' ↔ ((n - 64 : Nat) : Int) ≤ wordAlike 64 lo lo' := by omega
        rw [e1, hw]
        constructor
        · intro h i hi0
          rcases Nat.lt_or_ge i 64 with hi64 | hi64
          · rw [hH _ _ _ hi64, hH _ _ _ hi64]
          · obtain ⟨j, rfl⟩ : ∃ j, i = 64 + j := ⟨i - 64, by omega⟩
            rw [hL _ _ _ (by omega), hL _ _ _ (by omega)]
            exact h j (by omega)
        · intro h j hj
          have := h (64 + j) (by omega)
          rw [hL _ _ _ (by omega), hL _ _ _ (by omega)] at this
          exact this
    · rw [if_neg hh]
      have r := wordAlike_range 64 hi hi' (by omega) (by omega) (by omega)
      have hne : ∃ j : Nat, j < 64 ∧ ¬ hi / 2 ^ (64 - 1 - j) % 2 = hi' / 2 ^ (64 - 1 - j) % 2 := by
        apply Classical.byContradiction
        intro hcon
        apply hh
        refine word_ext hi hi' 64 (by omega) (by omega) fun j hj => ?_
        apply Classical.byContradiction
        intro hb
        exact hcon ⟨63 - j, by omega, by rw [show 64 - 1 - (63 - j) = j from by omega]; exact hb⟩
      obtain ⟨j, hj, hbj⟩ := hne
      rcases Nat.lt_or_ge 64 n with hc | hc
      · constructor
        · intro h; omega
        · intro h
          exfalso
          have := h j (by omega)
          rw [hH _ _ _ hj, hH _ _ _ hj] at this
          exact hbj this
      · rw [wordAlike_iff 64 hi hi' n (by omega) hc (by omega) (by omega)]
        constructor
        · intro h i hi0; rw [hH _ _ _ (by omega), hH _ _ _ (by omega)]; exact h i hi0
        · intro h i hi0; have := h i hi0; rw [hH _ _ _ (by omega), hH _ _ _ (by omega)] at this; exact this

theorem alike_range (six : Bool) (hi lo hi' lo' : Int) (h1 : 0 ≤ hi ∧ hi < 18446744073709551616) (h2 : 0 ≤ lo ∧ lo < 18446744073709551616) (h3 : 0 ≤ hi' ∧ hi' < 18446744073709551616) (h4 : 0 ≤ lo' ∧ lo' < 18446744073709551616)
    (hm : mayB six hi lo = true) (hm' : mayB six hi' lo' = true) : 0 ≤ alikeI six hi lo hi' lo' ∧ alikeI six hi lo hi' lo' ≤ wideI six := by
  have e : (2 : Int) ^ 64 = 18446744073709551616 := by decide
  have e' : (2 : Int) ^ 32 = 4294967296 := by decide
  unfold alikeI wideI
  cases six
  · have q := mayB_four hm
    have q' := mayB_four hm'
    simp only [↓reduceIte, Bool.false_eq_true]
    exact wordAlike_range 32 lo lo' (by omega) (by omega) (by omega)
  · simp only [Bool.true_eq_false, ↓reduceIte]
    have r1 := wordAlike_range 64 lo lo' (by omega) (by omega) (by omega)
    have r2 := wordAlike_range 64 hi hi' (by omega) (by omega) (by omega)
    split <;> omega

end Go.Proofs.Ytonelibgaceflaa

namespace Go.Proofs.Ytonelibgaceflaa
set_option linter.unusedVariables false

/-- The bits of an address, k of them from the n-th on turned to 0. -/
def zeroAt (six : Bool) (hi lo : Int) (m n k : Nat) : List Int := (List.range m).map fun (j : Nat) => if j < n then bitI six hi lo j else if j < n + k then 0 else bitI six hi lo j
theorem zeroAt_length (six : Bool) (hi lo : Int) (m n k : Nat) : (zeroAt six hi lo m n k).length = m := by simp [zeroAt]
theorem zeroAt_zero {six : Bool} {hi lo : Int} {m n : Nat} (hm : wideI six = m) : zeroAt six hi lo m n 0 = bitsL six hi lo := by
  unfold zeroAt bitsL
  rw [hm]
  apply List.map_congr_left
  intro j _
  split
  · rfl
  · rw [if_neg (by omega)]
theorem zeroAt_set {six : Bool} {hi lo : Int} {m n k : Nat} (hk : n + k < m) : (zeroAt six hi lo m n k).set (n + k) 0 = zeroAt six hi lo m n (k + 1) := by
  apply List.ext_getElem?
  intro j
  unfold zeroAt
  rw [List.getElem?_set]
  by_cases h : n + k = j
  · subst h
    rw [if_pos rfl, if_pos (by simpa using hk), List.getElem?_map, List.getElem?_range hk]
    simp only [Option.map_some, Option.some.injEq]
    rw [if_neg (by omega), if_pos (by omega)]
  · rw [if_neg h, List.getElem?_map, List.getElem?_map]
    rcases Nat.lt_or_ge j m with hj | hj
    · rw [List.getElem?_range hj]
      simp only [Option.map_some, Option.some.injEq]
      by_cases h1 : j < n
      · rw [if_pos h1, if_pos h1]
      · rw [if_neg h1, if_neg h1]
        by_cases h2 : j < n + k
        · rw [if_pos h2, if_pos (by omega)]
        · rw [if_neg h2, if_neg (by omega)]
    · rw [List.getElem?_eq_none (by simpa using hj)]
      rfl
theorem zeroAt_bits (six : Bool) (hi lo : Int) (m n k : Nat) : Bits (zeroAt six hi lo m n k) := by
  intro b hb
  unfold zeroAt at hb
  obtain ⟨i, _, rfl⟩ := List.mem_map.1 hb
  have := bitI_01 six hi lo i
  split
  · omega
  · split <;> omega
theorem zeroAt_words {six : Bool} {hi lo : Int} {m n k : Nat} (hm : wideI six = m) (hk : n + k = m) (h1 : 0 ≤ hi ∧ hi < 18446744073709551616) (h2 : 0 ≤ lo ∧ lo < 18446744073709551616) (hmay : mayB six hi lo = true) :
    hiOf six (zeroAt six hi lo m n k) = cutHi six hi n ∧ loOf six (zeroAt six hi lo m n k) = cutLo six lo n := by
  have hr := cutLo_range six hi lo n h2 hmay
  refine of_unique six _ (zeroAt_bits six hi lo m n k) (by rw [zeroAt_length, hm]) _ _ (cutHi_range six hi n h1) hr.1 hr.2 fun i hi' => ?_
  rw [bit_cut six hi lo n i hmay hi']
  unfold zeroAt
  rw [List.getElem?_map, List.getElem?_range (by omega)]
  simp only [Option.map_some, Option.some.injEq]
  by_cases h : i < n
  · rw [if_pos h, if_pos (by omega)]
  · rw [if_neg h, if_pos (show i < n + k by omega), if_neg (by omega)]

/-- A cut address is a prefix of that length. -/
theorem cut_pfx {six : Bool} {hi lo : Int} {n : Nat} (h1 : 0 ≤ hi ∧ hi < 18446744073709551616) (h2 : 0 ≤ lo ∧ lo < 18446744073709551616) (hm : mayB six hi lo = true) (hn : (n : Int) ≤ wideI six) :
    Pfx six (cutHi six hi n) (cutLo six lo n) n := by
  have hr := cutLo_range six hi lo n h2 hm
  have hh := cutHi_range six hi n h1
  refine ⟨hh, hr.1, hr.2, ⟨by omega, hn⟩, ?_⟩
  rw [clean_iff six _ _ n hh hr.1 hr.2 hn]
  intro i h3 h4
  rw [bit_cut six hi lo n i hm h4, if_neg (by omega)]

/-- The prefix of length n of an address covers another prefix just if n is at most that one's length, and the first n bits are the same. -/
theorem cut_over {six : Bool} {hi lo hi' lo' : Int} {n k' : Nat} (h1 : 0 ≤ hi ∧ hi < 18446744073709551616) (h2 : 0 ≤ lo ∧ lo < 18446744073709551616) (hm : mayB six hi lo = true) (hn : (n : Int) ≤ wideI six) (hq : Pfx six hi' lo' k') (hk : n ≤ k') :
    overB six (cutHi six hi n) (cutLo six lo n) n six hi' lo' k' = decide ((n : Int) ≤ alikeI six hi lo hi' lo') := by
  have hp := cut_pfx h1 h2 hm hn
  have hib := inB_iff hp hq.rhi hq.rlo hq.may
  have ha := alike_iff six hi lo hi' lo' n h1 h2 hq.rhi hq.rlo hm hq.may hn
  unfold overB
  rw [Bool.eq_iff_iff, Bool.and_eq_true, decide_eq_true_eq, decide_eq_true_eq, hib, ha]
  constructor
  · rintro ⟨_, h⟩ i hi0
    have := h i hi0
    rwa [bit_cut six hi lo n i hm (by omega), if_pos (by omega)] at this
  · intro h
    refine ⟨by omega, fun i hi0 => ?_⟩
    rw [bit_cut six hi lo n i hm (by omega), if_pos (by omega)]
    exact h i hi0

end Go.Proofs.Ytonelibgaceflaa

namespace Go.Proofs.Ytonelibgaceflaa
set_option linter.unusedVariables false

/-- A prefix as numbers. -/
structure PV where
  six : Bool
  hi : Int
  lo : Int
  n : Int

theorem PV.ext' {p q : PV} (h1 : p.six = q.six) (h2 : p.hi = q.hi) (h3 : p.lo = q.lo) (h4 : p.n = q.n) : p = q := by
  cases p; cases q; simp_all
instance : DecidableEq PV := fun a b => decidable_of_iff (a.six = b.six ∧ a.hi = b.hi ∧ a.lo = b.lo ∧ a.n = b.n)
  ⟨fun h => PV.ext' h.1 h.2.1 h.2.2.1 h.2.2.2, fun h => by subst h; exact ⟨rfl, rfl, rfl, rfl⟩⟩

def PV.Ok (p : PV) : Prop := Pfx p.six p.hi p.lo p.n
def PV.bit (p : PV) (i : Int) : Int := bitI p.six p.hi p.lo i
def PV.over (p q : PV) : Bool := overB p.six p.hi p.lo p.n q.six q.hi q.lo q.n
def PV.comN (p q : PV) : Int := min (min p.n q.n) (alikeI p.six p.hi p.lo q.hi q.lo)
def PV.com (p q : PV) : PV := ⟨p.six, cutHi p.six p.hi (p.comN q), cutLo p.six p.lo (p.comN q), p.comN q⟩

theorem PV.bit01 (p : PV) (i : Int) : p.bit i = 0 ∨ p.bit i = 1 := by have := bitI_01 p.six p.hi p.lo i; unfold PV.bit; omega

theorem over_iff' {p q : PV} (hp : p.Ok) (hq : q.Ok) : p.over q = true ↔ p.six = q.six ∧ p.n ≤ q.n ∧ ∀ i : Nat, (i : Int) < p.n → p.bit i = q.bit i := by
  obtain ⟨six, hi, lo, n⟩ := p
  obtain ⟨six', hi', lo', n'⟩ := q
  unfold PV.Ok at hp hq
  simp only at hp hq
  obtain ⟨k, rfl⟩ : ∃ k : Nat, n = k := ⟨n.toNat, by have := hp.len; omega⟩
  unfold PV.over PV.bit overB
  simp only [Bool.and_eq_true, decide_eq_true_eq]
  by_cases h6 : six = six'
  · subst h6
    have := inB_iff hp hq.rhi hq.rlo hq.may
    rw [this]
    constructor
    · rintro ⟨a, b⟩; exact ⟨rfl, a, fun i hi => b i (by omega)⟩
    · rintro ⟨_, a, b⟩; exact ⟨a, fun i hi => b i (by omega)⟩
  · constructor
    · rintro ⟨_, b⟩
      unfold inB at b
      simp at b
      exact absurd b.1.symm h6
    · rintro ⟨a, _⟩; exact absurd a h6

theorem ok_clean {p : PV} (hp : p.Ok) : ∀ i : Nat, p.n ≤ (i : Int) → (i : Int) < wideI p.six → p.bit i = 0 := by
  obtain ⟨six, hi, lo, n⟩ := p
  unfold PV.Ok at hp
  simp only at hp
  obtain ⟨k, rfl⟩ : ∃ k : Nat, n = k := ⟨n.toNat, by have := hp.len; omega⟩
  have hc := (clean_iff six hi lo k hp.rhi hp.rlo hp.may hp.len.2).1 hp.clean
  intro i h1 h2
  exact hc i (by simp only at h1; omega) h2

theorem over_eq {p q : PV} (hp : p.Ok) (hq : q.Ok) (h : p.over q = true) (hn : q.n ≤ p.n) : p = q := by
  obtain ⟨h6, h1, h2⟩ := (over_iff' hp hq).1 h
  have he : p.n = q.n := by omega
  have cp := ok_clean hp
  have cq := ok_clean hq
  obtain ⟨six, hi, lo, n⟩ := p
  obtain ⟨six', hi', lo', n'⟩ := q
  simp only at h6 he hn h1
  subst h6
  subst he
  unfold PV.Ok at hp hq
  simp only at hp hq
  have := addr_ext six hi lo hi' lo' hp.rhi hp.rlo hq.rhi hq.rlo hp.may hq.may fun i hi0 => by
    by_cases hlt : (i : Int) < n
    · exact h2 i hlt
    · have a := cp i (by simp only; omega) hi0
      have b := cq i (by simp only; omega) hi0
      exact a.trans b.symm
  rw [this.1, this.2]

theorem over_refl {p : PV} (hp : p.Ok) : p.over p = true := (over_iff' hp hp).2 ⟨rfl, Int.le_refl _, fun _ _ => rfl⟩
theorem over_trans {a b c : PV} (ha : a.Ok) (hb : b.Ok) (hc : c.Ok) (h1 : a.over b = true) (h2 : b.over c = true) : a.over c = true := by
  obtain ⟨x1, x2, x3⟩ := (over_iff' ha hb).1 h1
  obtain ⟨y1, y2, y3⟩ := (over_iff' hb hc).1 h2
  exact (over_iff' ha hc).2 ⟨x1.trans y1, by omega, fun i hi => (x3 i hi).trans (y3 i (by omega))⟩
/-- Of two that cover a third one the shorter covers the longer. -/
theorem over_two {a b c : PV} (ha : a.Ok) (hb : b.Ok) (hc : c.Ok) (h1 : a.over c = true) (h2 : b.over c = true) (hn : a.n ≤ b.n) : a.over b = true := by
  obtain ⟨x1, x2, x3⟩ := (over_iff' ha hc).1 h1
  obtain ⟨y1, y2, y3⟩ := (over_iff' hb hc).1 h2
  exact (over_iff' ha hb).2 ⟨x1.trans y1.symm, hn, fun i hi => (x3 i hi).trans (y3 i (by omega)).symm⟩
theorem over_n {p q : PV} (hp : p.Ok) (hq : q.Ok) (h : p.over q = true) : p.n ≤ q.n := ((over_iff' hp hq).1 h).2.1
theorem over_six {p q : PV} (hp : p.Ok) (hq : q.Ok) (h : p.over q = true) : p.six = q.six := ((over_iff' hp hq).1 h).1
theorem over_bit {p q : PV} (hp : p.Ok) (hq : q.Ok) (h : p.over q = true) {i : Int} (h0 : 0 ≤ i) (hi : i < p.n) : p.bit i = q.bit i := by
  obtain ⟨k, rfl⟩ : ∃ k : Nat, i = k := ⟨i.toNat, by omega⟩
  exact ((over_iff' hp hq).1 h).2.2 k hi

theorem ok_n {p : PV} (hp : p.Ok) : 0 ≤ p.n ∧ p.n ≤ wideI p.six := Pfx.len hp

theorem com_facts {p q : PV} (hp : p.Ok) (hq : q.Ok) (h6 : p.six = q.six) :
    (p.com q).Ok ∧ (p.com q).n ≤ p.n ∧ (p.com q).n ≤ q.n ∧ (p.com q).over p = true ∧ (p.com q).over q = true ∧
      (∀ k : Nat, (k : Int) ≤ p.n → (k : Int) ≤ q.n → (∀ i : Nat, i < k → p.bit i = q.bit i) → (k : Int) ≤ (p.com q).n) := by
  obtain ⟨six, hi, lo, n⟩ := p
  obtain ⟨six', hi', lo', n'⟩ := q
  simp only at h6
  subst h6
  have HP := hp
  have HQ := hq
  unfold PV.Ok at hp hq
  simp only at hp hq
  have ra := alike_range six hi lo hi' lo' hp.rhi hp.rlo hq.rhi hq.rlo hp.may hq.may
  have l1 := hp.len
  have l2 := hq.len
  have hm : ∃ m : Nat, min (min n n') (alikeI six hi lo hi' lo') = m := ⟨(min (min n n') (alikeI six hi lo hi' lo')).toNat, by omega⟩
  obtain ⟨m, hm⟩ := hm
  have hcom : PV.com ⟨six, hi, lo, n⟩ ⟨six, hi', lo', n'⟩ = ⟨six, cutHi six hi m, cutLo six lo m, m⟩ := by unfold PV.com PV.comN; rw [hm]
  have hmw : (m : Int) ≤ wideI six := by omega
  have hok : PV.Ok ⟨six, cutHi six hi m, cutLo six lo m, m⟩ := cut_pfx hp.rhi hp.rlo hp.may hmw
  have hbit : ∀ i : Nat, i < m → PV.bit ⟨six, cutHi six hi m, cutLo six lo m, m⟩ i = bitI six hi lo i := by
    intro i hi0
    unfold PV.bit
    simp only
    rw [bit_cut six hi lo m i hp.may (by omega), if_pos (by omega)]
  have hal := alike_iff six hi lo hi' lo' m hp.rhi hp.rlo hq.rhi hq.rlo hp.may hq.may hmw
  have heq := hal.1 (by omega)
  rw [hcom]
  refine ⟨hok, by simp only; omega, by simp only; omega, ?_, ?_, ?_⟩
  · exact (over_iff' hok HP).2 ⟨rfl, by simp only; omega, fun i hi0 => hbit i (by simp only at hi0; omega)⟩
  · exact (over_iff' hok HQ).2 ⟨rfl, by simp only; omega, fun i hi0 => (hbit i (by simp only at hi0; omega)).trans (heq i (by simp only at hi0; omega))⟩
  · intro k h1 h2 h3
    have := (alike_iff six hi lo hi' lo' k hp.rhi hp.rlo hq.rhi hq.rlo hp.may hq.may (by simp only at h1; omega)).2 h3
    simp only at *
    omega

theorem com_bit {p q : PV} (hp : p.Ok) (hq : q.Ok) (h6 : p.six = q.six) (h1 : (p.com q).n < p.n) (h2 : (p.com q).n < q.n) : ¬ p.bit (p.com q).n = q.bit (p.com q).n := by
  obtain ⟨ok, _, _, o1, o2, hk⟩ := com_facts hp hq h6
  intro he
  have h0 := ok_n ok
  obtain ⟨m, hm⟩ : ∃ m : Nat, (p.com q).n = m := ⟨(p.com q).n.toNat, by omega⟩
  have := hk (m + 1) (by omega) (by omega) fun i hi => by
    by_cases hlt : i < m
    · exact ((over_bit ok hp o1 (Int.natCast_nonneg i) (by omega)).symm).trans (over_bit ok hq o2 (Int.natCast_nonneg i) (by omega))
    · obtain rfl : i = m := by omega
      rw [hm] at he
      exact he
  omega
theorem com_lt {q p : PV} (hq : q.Ok) (hp : p.Ok) (h6 : q.six = p.six) (h : q.over p = false) : (q.com p).n < q.n := by
  obtain ⟨ok, l1, l2, o1, o2, hk⟩ := com_facts hq hp h6
  rcases Int.lt_or_le (q.com p).n q.n with hlt | hge
  · exact hlt
  · exfalso
    have := over_eq ok hq o1 (by omega)
    rw [this] at o2
    rw [o2] at h
    cases h

/-! TREES -/
inductive Tr where
  | nil : Tr
  | node (g : Nat) (p : PV) (h : Int) (l r : Tr) : Tr

/-- A node with a part on the side of a bit, and another part on the other side. -/
def node2 (g : Nat) (p : PV) (h : Int) (b : Int) (x y : Tr) : Tr := if b = 0 then .node g p h x y else .node g p h y x

/-- What stands below q, on the side of a bit. -/
def Under (q : PV) (b : Bool) (p : PV) : Prop := q.n < p.n ∧ q.over p = true ∧ (p.bit q.n = 0 ↔ b = true)

def Inv (six : Bool) : (PV → Prop) → Tr → Prop
  | _, .nil => True
  | U, .node _ q h l r => q.Ok ∧ q.six = six ∧ U q ∧ (0 ≤ h ∧ h ≤ 999) ∧ Inv six (Under q true) l ∧ Inv six (Under q false) r

def hopAt : Tr → PV → Int
  | .nil, _ => 0
  | .node _ q h l r, p => if q = p then h else if q.over p = false then 0 else if p.bit q.n = 0 then hopAt l p else hopAt r p

def forkT (q p : PV) (hop : Int) (G1 G2 : Nat) (t : Tr) : Tr :=
  if q.com p = p then node2 G1 p hop (q.bit (q.com p).n) t .nil else node2 G1 (q.com p) 0 (q.bit (q.com p).n) t (.node G2 p hop .nil .nil)

def putT (p : PV) (hop : Int) (G1 G2 : Nat) : Tr → Tr
  | .nil => .node G1 p hop .nil .nil
  | .node g q h l r => if q = p then .node g q hop l r
    else if q.over p = false then forkT q p hop G1 G2 (.node g q h l r)
    else if p.bit q.n = 0 then .node g q h (putT p hop G1 G2 l) r else .node g q h l (putT p hop G1 G2 r)

theorem Inv.weak {six : Bool} {U U' : PV → Prop} {t : Tr} (h : Inv six U t) (hU : ∀ p, p.Ok → U p → U' p) : Inv six U' t := by
  cases t with
  | nil => trivial
  | node g q hh l r => exact ⟨h.1, h.2.1, hU q h.1 h.2.2.1, h.2.2.2⟩

theorem hopAt_ne {g : Nat} {q p : PV} {h : Int} {l r : Tr} (hne : ¬ hopAt (.node g q h l r) p = 0) : q = p ∨ q.over p = true := by
  by_cases he : q = p
  · exact .inl he
  · right
    unfold hopAt at hne
    rw [if_neg he] at hne
    cases ho : q.over p with
    | true => rfl
    | false => rw [if_pos ho] at hne; exact absurd rfl hne

theorem hopAt_node2 (g : Nat) (q : PV) (h b : Int) (x y : Tr) (p : PV) :
    hopAt (node2 g q h b x y) p = if q = p then h else if q.over p = false then 0 else if (p.bit q.n = 0 ↔ b = 0) then hopAt x p else hopAt y p := by
  unfold node2
  by_cases hb : b = 0
  · rw [if_pos hb]
    show (if q = p then h else if q.over p = false then 0 else if p.bit q.n = 0 then hopAt x p else hopAt y p) = _
    simp only [hb, iff_true]
  · rw [if_neg hb]
    show (if q = p then h else if q.over p = false then 0 else if p.bit q.n = 0 then hopAt y p else hopAt x p) = _
    by_cases e1 : q = p
    · rw [if_pos e1, if_pos e1]
    · rw [if_neg e1, if_neg e1]
      by_cases e2 : q.over p = false
      · rw [if_pos e2, if_pos e2]
      · rw [if_neg e2, if_neg e2]
        by_cases e3 : p.bit q.n = 0
        · rw [if_pos e3, if_neg (by rw [iff_true_left e3]; exact hb)]
        · rw [if_neg e3, if_pos (iff_of_false e3 hb)]

theorem under_com {q a b : PV} {s : Bool} {six : Bool} (hq : q.Ok) (ha : a.Ok) (hb : b.Ok) (h6 : a.six = six) (h6' : b.six = six) (h1 : Under q s a) (h2 : Under q s b) : Under q s (a.com b) := by
  obtain ⟨ok, l1, l2, o1, o2, hk⟩ := com_facts ha hb (h6.trans h6'.symm)
  have h0 := ok_n hq
  obtain ⟨m, hm⟩ : ∃ m : Nat, q.n = m := ⟨q.n.toNat, by omega⟩
  have hx : a.bit q.n = b.bit q.n := by
    have x1 := h1.2.2
    have x2 := h2.2.2
    rcases a.bit01 q.n with e | e <;> rcases b.bit01 q.n with e' | e' <;> cases s <;> simp_all
  have hlt := hk (m + 1) (by have := h1.1; omega) (by have := h2.1; omega) fun i hi => by
    by_cases hlt : i < m
    · exact ((over_bit hq ha h1.2.1 (Int.natCast_nonneg i) (by omega)).symm).trans (over_bit hq hb h2.2.1 (Int.natCast_nonneg i) (by omega))
    · obtain rfl : i = m := by omega
      rw [hm] at hx
      exact hx
  refine ⟨by omega, over_two hq ok ha h1.2.1 o1 (by omega), ?_⟩
  rw [over_bit ok ha o1 (by omega) (by omega)]
  exact h1.2.2

theorem side_of {b : Int} {s : Bool} {t : Tr} {six : Bool} {q : PV} : (if b = 0 then Inv six (Under q true) t else Inv six (Under q false) t) → Inv six (Under q (decide (b = 0))) t := by
  intro h
  by_cases hb : b = 0
  · rw [if_pos hb] at h; simpa [hb] using h
  · rw [if_neg hb] at h; simpa [hb] using h

theorem inv_node2 {six : Bool} {U : PV → Prop} {g : Nat} {q : PV} {h b : Int} {x y : Tr} (h1 : q.Ok) (h2 : q.six = six) (h3 : U q) (h4 : 0 ≤ h ∧ h ≤ 999) (hx : Inv six (Under q (decide (b = 0))) x) (hy : Inv six (Under q (!decide (b = 0))) y) :
    Inv six U (node2 g q h b x y) := by
  unfold node2
  by_cases hb : b = 0
  · rw [if_pos hb]
    simp only [hb, decide_true, Bool.not_true] at hx hy
    exact ⟨h1, h2, h3, h4, hx, hy⟩
  · rw [if_neg hb]
    simp only [hb, decide_false, Bool.not_false] at hx hy
    exact ⟨h1, h2, h3, h4, hy, hx⟩

theorem inv_fork {six : Bool} {U : PV → Prop} {p : PV} {hop : Int} {G1 G2 g : Nat} {q : PV} {h : Int} {l r : Tr} (hp : p.Ok) (h6 : p.six = six) (hop2 : 0 ≤ hop ∧ hop ≤ 999) (hU : U p) (hcl : U (q.com p)) (hi : Inv six U (.node g q h l r))
    (hov : q.over p = false) : Inv six U (forkT q p hop G1 G2 (.node g q h l r)) := by
  obtain ⟨hq, hq6, hUq, hh, hl, hr⟩ := hi
  obtain ⟨ok, l1, l2, o1, o2, hk⟩ := com_facts hq hp (hq6.trans h6.symm)
  have hlt := com_lt hq hp (hq6.trans h6.symm) hov
  have hbq : Under (q.com p) (decide (q.bit (q.com p).n = 0)) q := ⟨hlt, o1, by simp⟩
  have ht : Inv six (Under (q.com p) (decide (q.bit (q.com p).n = 0))) (.node g q h l r) := ⟨hq, hq6, hbq, hh, hl, hr⟩
  unfold forkT
  by_cases hc : q.com p = p
  · rw [if_pos hc]
    rw [hc] at ht ⊢
    exact inv_node2 hp h6 hU hop2 ht trivial
  · rw [if_neg hc]
    have hltp : (q.com p).n < p.n := by
      rcases Int.lt_or_le (q.com p).n p.n with hx | hx
      · exact hx
      · exact absurd (over_eq ok hp o2 (by omega)) hc
    have hb := com_bit hq hp (hq6.trans h6.symm) hlt hltp
    refine inv_node2 ok hq6 hcl (by omega) ht ⟨hp, h6, ⟨hltp, o2, ?_⟩, hop2, trivial, trivial⟩
    rcases q.bit01 (q.com p).n with e | e <;> rcases p.bit01 (q.com p).n with e' | e' <;> simp_all

theorem inv_put {six : Bool} {p : PV} {hop : Int} {G1 G2 : Nat} (hp : p.Ok) (h6 : p.six = six) (hop2 : 0 ≤ hop ∧ hop ≤ 999) :
    ∀ (t : Tr) (U : PV → Prop), Inv six U t → U p → (∀ a b, a.Ok → b.Ok → a.six = six → b.six = six → U a → U b → U (a.com b)) → Inv six U (putT p hop G1 G2 t) := by
  intro t
  induction t with
  | nil => intro U _ hU _; exact ⟨hp, h6, hU, hop2, trivial, trivial⟩
  | node g q h l r ihl ihr =>
    intro U hi hU hcl
    unfold putT
    by_cases he : q = p
    · rw [if_pos he]; exact ⟨hi.1, hi.2.1, hi.2.2.1, hop2, hi.2.2.2.2⟩
    · rw [if_neg he]
      by_cases ho : q.over p = false
      · rw [if_pos ho]
        exact inv_fork hp h6 hop2 hU (hcl q p hi.1 hp hi.2.1 h6 hi.2.2.1 hU) hi ho
      · rw [if_neg ho]
        have ho' : q.over p = true := by simpa using ho
        have hn := over_n hi.1 hp ho'
        have hlt : q.n < p.n := by
          rcases Int.lt_or_le q.n p.n with hx | hx
          · exact hx
          · exact absurd (over_eq hi.1 hp ho' hx) he
        by_cases hb : p.bit q.n = 0
        · rw [if_pos hb]
          exact ⟨hi.1, hi.2.1, hi.2.2.1, hi.2.2.2.1, ihl _ hi.2.2.2.2.1 ⟨hlt, ho', by simpa using hb⟩ (fun a b ha hb' x y => under_com hi.1 ha hb' x y), hi.2.2.2.2.2⟩
        · rw [if_neg hb]
          exact ⟨hi.1, hi.2.1, hi.2.2.1, hi.2.2.2.1, hi.2.2.2.2.1, ihr _ hi.2.2.2.2.2 ⟨hlt, ho', by simpa using hb⟩ (fun a b ha hb' x y => under_com hi.1 ha hb' x y)⟩

theorem hopAt_fork {six : Bool} {U : PV → Prop} {p : PV} {hop : Int} {G1 G2 g : Nat} {q : PV} {h : Int} {l r : Tr} (hp : p.Ok) (h6 : p.six = six) (hi : Inv six U (.node g q h l r)) (hov : q.over p = false) (p' : PV) (hp' : p'.Ok) :
    hopAt (forkT q p hop G1 G2 (.node g q h l r)) p' = if p' = p then hop else hopAt (.node g q h l r) p' := by
  obtain ⟨hq, hq6, _, _, _, _⟩ := hi
  obtain ⟨ok, l1, l2, o1, o2, hk⟩ := com_facts hq hp (hq6.trans h6.symm)
  have hlt := com_lt hq hp (hq6.trans h6.symm) hov
  have hb := fun hx => com_bit hq hp (hq6.trans h6.symm) hlt hx
  have hpn : (q.com p).n < p.n ∨ q.com p = p := by
    rcases Int.lt_or_le (q.com p).n p.n with hx | hx
    · exact .inl hx
    · exact .inr (over_eq ok hp o2 (by omega))
  generalize hcc : q.com p = c at *
  -- what t has is under c, on q's side
  have hun : ¬ hopAt (.node g q h l r) p' = 0 → c.n < p'.n ∧ c.over p' = true ∧ p'.bit c.n = q.bit c.n := by
    intro hne
    have hqp : q.over p' = true := by
      rcases hopAt_ne hne with rfl | e
      · exact over_refl hp'
      · exact e
    have := over_n hq hp' hqp
    exact ⟨by omega, over_trans ok hq hp' o1 hqp, (over_bit hq hp' hqp (ok_n ok).1 hlt).symm⟩
  have hside : (p'.bit c.n = 0 ↔ q.bit c.n = 0) ↔ p'.bit c.n = q.bit c.n := by
    rcases q.bit01 c.n with e | e <;> rcases p'.bit01 c.n with e' | e' <;> simp [e, e']
  unfold forkT
  rw [hcc]
  by_cases hc : c = p
  · rw [if_pos hc, hopAt_node2]
    subst hc
    by_cases e : c = p'
    · rw [if_pos e, if_pos e.symm]
    · have e' : ¬ p' = c := fun h => e h.symm
      rw [if_neg e, if_neg e']
      by_cases h0 : hopAt (.node g q h l r) p' = 0
      · rw [h0]
        by_cases e2 : c.over p' = false
        · rw [if_pos e2]
        · rw [if_neg e2]; split <;> rfl
      · obtain ⟨_, a, b⟩ := hun h0
        rw [if_neg (by simp [a]), if_pos (hside.2 b)]
  · rw [if_neg hc, hopAt_node2]
    have hltp : c.n < p.n := by
      rcases hpn with h | h
      · exact h
      · exact absurd h hc
    have hb := hb hltp
    by_cases e : c = p'
    · subst e
      rw [if_pos rfl, if_neg hc]
      apply Classical.byContradiction
      intro hne
      have := (hun (fun h => hne h.symm)).1
      omega
    · rw [if_neg e]
      by_cases ep : p' = p
      · subst ep
        rw [if_pos rfl, if_neg (by simp [o2]), if_neg (fun h => hb ((hside.1 h).symm))]
        unfold hopAt
        rw [if_pos rfl]
      · rw [if_neg ep]
        by_cases h0 : hopAt (.node g q h l r) p' = 0
        · rw [h0]
          by_cases e2 : c.over p' = false
          · rw [if_pos e2]
          · rw [if_neg e2]
            split
            · rfl
            · show (if p = p' then hop else if p.over p' = false then 0 else if p'.bit p.n = 0 then hopAt .nil p' else hopAt .nil p') = 0
              rw [if_neg (fun h => ep h.symm)]
              unfold hopAt
              split <;> simp
        · obtain ⟨_, a, b⟩ := hun h0
          rw [if_neg (by simp [a]), if_pos (hside.2 b)]

theorem hopAt_put {six : Bool} {p : PV} {hop : Int} {G1 G2 : Nat} (hp : p.Ok) (h6 : p.six = six) (p' : PV) (hp' : p'.Ok) :
    ∀ (t : Tr) (U : PV → Prop), Inv six U t → hopAt (putT p hop G1 G2 t) p' = if p' = p then hop else hopAt t p' := by
  intro t
  induction t with
  | nil =>
    intro U _
    show (if p = p' then hop else if p.over p' = false then 0 else if p'.bit p.n = 0 then hopAt .nil p' else hopAt .nil p') = _
    by_cases e : p' = p
    · rw [if_pos e, if_pos e.symm]
    · rw [if_neg e, if_neg (fun h => e h.symm)]
      unfold hopAt
      split <;> simp
  | node g q h l r ihl ihr =>
    intro U hi
    unfold putT
    by_cases he : q = p
    · subst he
      rw [if_pos rfl]
      show (if q = p' then hop else if q.over p' = false then 0 else if p'.bit q.n = 0 then hopAt l p' else hopAt r p') = _
      by_cases e : p' = q
      · rw [if_pos e, if_pos e.symm]
      · have e' : ¬ q = p' := fun h => e h.symm
        rw [if_neg e, if_neg e']
        conv => rhs; unfold hopAt
        rw [if_neg e']
    · rw [if_neg he]
      by_cases ho : q.over p = false
      · rw [if_pos ho]
        exact hopAt_fork hp h6 hi ho p' hp'
      · rw [if_neg ho]
        have hl := ihl _ hi.2.2.2.2.1
        have hr := ihr _ hi.2.2.2.2.2
        by_cases hb : p.bit q.n = 0
        · rw [if_pos hb]
          show (if q = p' then h else if q.over p' = false then 0 else if p'.bit q.n = 0 then hopAt (putT p hop G1 G2 l) p' else hopAt r p') = _
          rw [hl]
          conv => rhs; unfold hopAt
          by_cases e : p' = p
          · subst e
            rw [if_neg he, if_neg ho, if_pos hb, if_pos rfl, if_pos rfl]
          · rw [if_neg e, if_neg e]
        · rw [if_neg hb]
          show (if q = p' then h else if q.over p' = false then 0 else if p'.bit q.n = 0 then hopAt l p' else hopAt (putT p hop G1 G2 r) p') = _
          rw [hr]
          conv => rhs; unfold hopAt
          by_cases e : p' = p
          · subst e
            rw [if_neg he, if_neg ho, if_neg hb, if_pos rfl, if_pos rfl]
          · rw [if_neg e, if_neg e]

/-- The hop and the length of the longest prefix that covers p; acc: where there is none. -/
def lookT (p : PV) : Tr → Int × Int → Int × Int
  | .nil, acc => acc
  | .node _ q h l r, acc => if q.over p = false then acc else
    if q = p then (if h = 0 then acc else (h, q.n)) else if p.bit q.n = 0 then lookT p l (if h = 0 then acc else (h, q.n)) else lookT p r (if h = 0 then acc else (h, q.n))

def Best (six : Bool) (t : PV → Int) (p : PV) (acc res : Int × Int) : Prop :=
  (res = acc ∧ ∀ q, q.Ok → q.over p = true → t q = 0) ∨
    ∃ q, q.Ok ∧ q.over p = true ∧ ¬ t q = 0 ∧ res = (t q, q.n) ∧ ∀ q', q'.Ok → q'.over p = true → ¬ t q' = 0 → q'.n ≤ q.n

theorem hopAt_under {six : Bool} {q p : PV} {b : Bool} {t : Tr} (hq : q.Ok) (hp : p.Ok) (hi : Inv six (Under q b) t) (hne : ¬ hopAt t p = 0) : Under q b p := by
  cases t with
  | nil => exact absurd rfl hne
  | node g x h l r =>
    obtain ⟨hx, _, hu, _⟩ := hi
    have hxp : x.over p = true := by
      rcases hopAt_ne hne with rfl | e
      · exact over_refl hp
      · exact e
    have := over_n hx hp hxp
    have := hu.1
    refine ⟨by omega, over_trans hq hx hp hu.2.1 hxp, ?_⟩
    rw [← over_bit hx hp hxp (ok_n hq).1 hu.1]
    exact hu.2.2

theorem look_best {six : Bool} {p : PV} (hp : p.Ok) (h6 : p.six = six) : ∀ (t : Tr) (U : PV → Prop) (acc : Int × Int), Inv six U t → Best six (hopAt t) p acc (lookT p t acc) := by
  intro t
  induction t with
  | nil => intro U acc _; exact .inl ⟨rfl, fun _ _ _ => rfl⟩
  | node g q h l r ihl ihr =>
    intro U acc hi
    have hq := hi.1
    unfold lookT
    by_cases ho : q.over p = false
    · rw [if_pos ho]
      refine .inl ⟨rfl, fun q' hq' hov => ?_⟩
      apply Classical.byContradiction
      intro hne
      have : q.over p = true := by
        rcases hopAt_ne hne with rfl | e
        · exact hov
        · exact over_trans hq hq' hp e hov
      rw [this] at ho
      cases ho
    · rw [if_neg ho]
      have ho' : q.over p = true := by simpa using ho
      have hself : hopAt (.node g q h l r) q = h := by unfold hopAt; rw [if_pos rfl]
      -- another one that is there, and covers p, lies on p's side
      have hside : ∀ q', q'.Ok → q'.over p = true → ¬ hopAt (.node g q h l r) q' = 0 → ¬ q' = q → q.n < q'.n ∧ hopAt (.node g q h l r) q' = if p.bit q.n = 0 then hopAt l q' else hopAt r q' := by
        intro q' hq' hov hne hnq
        have hqq : q.over q' = true := by
          rcases hopAt_ne hne with e | e
          · exact absurd e.symm hnq
          · exact e
        have hle := over_n hq hq' hqq
        have hlt : q.n < q'.n := by
          rcases Int.lt_or_le q.n q'.n with hx | hx
          · exact hx
          · exact absurd (over_eq hq hq' hqq hx).symm hnq
        refine ⟨hlt, ?_⟩
        have hbit := over_bit hq' hp hov (ok_n hq).1 hlt
        conv => lhs; unfold hopAt
        rw [if_neg (fun h => hnq h.symm), if_neg (by simp [hqq]), hbit]
      by_cases he : q = p
      · subst he
        rw [if_pos rfl]
        by_cases h0 : h = 0
        · rw [if_pos h0]
          refine .inl ⟨rfl, fun q' hq' hov => ?_⟩
          apply Classical.byContradiction
          intro hne
          by_cases e : q' = q
          · subst e; rw [hself] at hne; exact hne h0
          · have a := (hside q' hq' hov hne e).1
            have b := over_n hq' hp hov
            omega
        · rw [if_neg h0]
          exact .inr ⟨q, hq, ho', by rw [hself]; exact h0, by rw [hself], fun q' hq' hov _ => over_n hq' hp hov⟩
      · rw [if_neg he]
        have hnode : ∀ {b : Bool} {k : Tr}, Inv six (Under q b) k → (b = true ↔ p.bit q.n = 0) → (hopAt (.node g q h l r) = fun q' => if q = q' then h else if q.over q' = false then 0 else if q'.bit q.n = 0 then hopAt l q' else hopAt r q') →
            (k = if p.bit q.n = 0 then l else r) → Best six (hopAt k) p (if h = 0 then acc else (h, q.n)) (lookT p k (if h = 0 then acc else (h, q.n))) → Best six (hopAt (.node g q h l r)) p acc (lookT p k (if h = 0 then acc else (h, q.n))) := by
          intro b k hk hb _ hkk hbest
          have hkid : ∀ q', (if p.bit q.n = 0 then hopAt l q' else hopAt r q') = hopAt k q' := by intro q'; rw [hkk]; split <;> rfl
          rcases hbest with ⟨hres, hall⟩ | ⟨q', hq', hov, hne, hres, hmax⟩
          · rw [hres]
            by_cases h0 : h = 0
            · rw [if_pos h0]
              refine .inl ⟨rfl, fun q' hq' hov => ?_⟩
              apply Classical.byContradiction
              intro hne
              by_cases e : q' = q
              · subst e; rw [hself] at hne; exact hne h0
              · have a := (hside q' hq' hov hne e).2
                rw [hkid, hall q' hq' hov] at a
                exact hne a
            · rw [if_neg h0]
              refine .inr ⟨q, hq, ho', by rw [hself]; exact h0, by rw [hself], fun q' hq' hov hne => ?_⟩
              by_cases e : q' = q
              · subst e; exact Int.le_refl _
              · have a := (hside q' hq' hov hne e).2
                rw [hkid, hall q' hq' hov] at a
                exact absurd a hne
          · have hu := hopAt_under hq hq' hk hne
            have hnq : ¬ q = q' := by intro e; subst e; exact absurd hu.1 (by omega)
            have hat : hopAt (.node g q h l r) q' = hopAt k q' := by
              rw [← hkid]
              conv => lhs; unfold hopAt
              rw [if_neg hnq, if_neg (by simp [hu.2.1]), over_bit hq' hp hov (ok_n hq).1 hu.1]
            rw [hres]
            refine .inr ⟨q', hq', hov, by rw [hat]; exact hne, by rw [hat], fun q'' hq'' hov'' hne'' => ?_⟩
            by_cases e : q'' = q
            · subst e; have := hu.1; omega
            · have a := (hside q'' hq'' hov'' hne'' e).2
              rw [hkid] at a
              exact hmax q'' hq'' hov'' (by rw [← a]; exact hne'')
        by_cases hb : p.bit q.n = 0
        · rw [if_pos hb]
          exact hnode hi.2.2.2.2.1 (by simp [hb]) rfl (by rw [if_pos hb]) (ihl _ _ hi.2.2.2.2.1)
        · rw [if_neg hb]
          exact hnode hi.2.2.2.2.2 (by simp [hb]) rfl (by rw [if_neg hb]) (ihr _ _ hi.2.2.2.2.2)

end Go.Proofs.Ytonelibgaceflaa

namespace Go.Proofs.Ytonelibgaceflaa
open Go.ChangeShapes Go.WideShapes Go.ChangeAt Go.RowKit

def PV.cells (p : PV) : List Value := [.bool p.six, .int .u64 p.hi, .int .u64 p.lo, .int .i64 p.n]
theorem PV.cells_length (p : PV) : p.cells.length = 4 := rfl
def PV.val (p : PV) : Value := .agg #[.bool p.six, .int .u64 p.hi, .int .u64 p.lo, .int .i64 p.n]
def Tr.ptr : Tr → Value
  | .nil => .pointer none
  | .node g _ _ _ _ => .pointer (some ⟨g, 0, none⟩)
def nodeCs (p : PV) (h : Int) (a b : Value) : Array Value := #[.bool p.six, .int .u64 p.hi, .int .u64 p.lo, .int .i64 p.n, .int .i64 h, a, b]
def Tr.blocks : Tr → List Nat
  | .nil => []
  | .node g _ _ l r => g :: (l.blocks ++ r.blocks)
def Tr.size : Tr → Nat
  | .nil => 0
  | .node _ _ _ l r => l.size + r.size + 1
def Tr.Lies (w : World) (B : Nat) : Tr → Prop
  | .nil => True
  | .node g p h l r => B ≤ g ∧ Blk w g 244 (nodeCs p h l.ptr r.ptr) ∧ l.Lies w B ∧ r.Lies w B

theorem Tr.Lies.keep {w w' : World} {B : Nat} : ∀ {t : Tr}, t.Lies w B → (∀ g ∈ t.blocks, w'.heap[g]? = w.heap[g]?) → t.Lies w' B
  | .nil, _, _ => trivial
  | .node g p h l r, h1, h2 => ⟨h1.1, (h2 g (by simp [Tr.blocks])).trans h1.2.1, h1.2.2.1.keep fun k hk => h2 k (by simp [Tr.blocks, hk]), h1.2.2.2.keep fun k hk => h2 k (by simp [Tr.blocks, hk])⟩
theorem Tr.Lies.lt {w : World} {B : Nat} : ∀ {t : Tr}, t.Lies w B → ∀ g ∈ t.blocks, B ≤ g ∧ g < w.heap.size
  | .nil, _, g, hg => by simp [Tr.blocks] at hg
  | .node g p h l r, h1, k, hk => by
    simp only [Tr.blocks, List.mem_cons, List.mem_append] at hk
    rcases hk with rfl | hk | hk
    · exact ⟨h1.1, h1.2.1.lt⟩
    · exact h1.2.2.1.lt k hk
    · exact h1.2.2.2.lt k hk
theorem Tr.Lies.below {w w' : World} {B : Nat} {t : Tr} (h : t.Lies w B) (hb : Below w.heap.size w w') : t.Lies w' B := h.keep fun g hg => hb.block g (h.lt g hg).2
theorem Tr.Lies.far {w : World} {B : Nat} {t : Tr} (h : t.Lies w B) {p : Addr} (hp : p.block ∉ t.blocks) (u : Value) : t.Lies (w.setCell p u) B :=
  h.keep fun g hg => Below.heap_setCell w p u g (fun e => by subst e; exact hp hg)

/-- What stands round a place of a tree. -/
inductive Ctx where
  | top : Ctx
  | left (C : Ctx) (g : Nat) (p : PV) (h : Int) (r : Tr) : Ctx
  | right (C : Ctx) (g : Nat) (p : PV) (h : Int) (l : Tr) : Ctx

def Ctx.plug : Ctx → Tr → Tr
  | .top, t => t
  | .left C g p h r, t => C.plug (.node g p h t r)
  | .right C g p h l, t => C.plug (.node g p h l t)
def slotOf (tb : Nat) (six : Bool) : Addr := ⟨tb, if six then 1 else 0, none⟩
def Ctx.slot (tb : Nat) (six : Bool) : Ctx → Addr
  | .top => slotOf tb six
  | .left _ g _ _ _ => ⟨g, 5, none⟩
  | .right _ g _ _ _ => ⟨g, 6, none⟩
def Ctx.outer : Ctx → Value → Value
  | .top, v => v
  | .left C g _ _ _, _ => C.outer (.pointer (some ⟨g, 0, none⟩))
  | .right C g _ _ _, _ => C.outer (.pointer (some ⟨g, 0, none⟩))
def Ctx.blocks : Ctx → List Nat
  | .top => []
  | .left C g _ _ r => g :: (r.blocks ++ C.blocks)
  | .right C g _ _ l => g :: (l.blocks ++ C.blocks)
def Ctx.Lies (w : World) (B : Nat) : Ctx → Value → Prop
  | .top, _ => True
  | .left C g p h r, v => B ≤ g ∧ Blk w g 244 (nodeCs p h v r.ptr) ∧ r.Lies w B ∧ C.Lies w B (.pointer (some ⟨g, 0, none⟩))
  | .right C g p h l, v => B ≤ g ∧ Blk w g 244 (nodeCs p h l.ptr v) ∧ l.Lies w B ∧ C.Lies w B (.pointer (some ⟨g, 0, none⟩))
/-- p's way leads to the place. -/
def Ctx.OnPath (p : PV) : Ctx → Prop
  | .top => True
  | .left C _ q _ _ => ¬ q = p ∧ q.over p = true ∧ p.bit q.n = 0 ∧ C.OnPath p
  | .right C _ q _ _ => ¬ q = p ∧ q.over p = true ∧ ¬ p.bit q.n = 0 ∧ C.OnPath p

theorem plug_ptr : ∀ (C : Ctx) (t : Tr), (C.plug t).ptr = C.outer t.ptr
  | .top, _ => rfl
  | .left C g p h r, t => plug_ptr C (.node g p h t r)
  | .right C g p h l, t => plug_ptr C (.node g p h l t)
theorem plug_lies {w : World} {B : Nat} : ∀ (C : Ctx) (t : Tr), (C.plug t).Lies w B ↔ C.Lies w B t.ptr ∧ t.Lies w B
  | .top, t => by simp [Ctx.plug, Ctx.Lies]
  | .left C g p h r, t => by
    show (C.plug (.node g p h t r)).Lies w B ↔ _
    rw [plug_lies C]
    constructor
    · rintro ⟨h1, h2, h3, h4, h5⟩; exact ⟨⟨h2, h3, h5, h1⟩, h4⟩
    · rintro ⟨⟨h2, h3, h5, h1⟩, h4⟩; exact ⟨h1, h2, h3, h4, h5⟩
  | .right C g p h l, t => by
    show (C.plug (.node g p h l t)).Lies w B ↔ _
    rw [plug_lies C]
    constructor
    · rintro ⟨h1, h2, h3, h4, h5⟩; exact ⟨⟨h2, h3, h4, h1⟩, h5⟩
    · rintro ⟨⟨h2, h3, h4, h1⟩, h5⟩; exact ⟨h1, h2, h3, h4, h5⟩
theorem plug_blocks : ∀ (C : Ctx) (t : Tr), (C.plug t).blocks.Perm (t.blocks ++ C.blocks)
  | .top, t => by simp [Ctx.plug, Ctx.blocks]
  | .left C g p h r, t => by
    refine (plug_blocks C (.node g p h t r)).trans ?_
    simp only [Tr.blocks, Ctx.blocks, List.cons_append, List.append_assoc]
    exact (List.perm_middle).symm
  | .right C g p h l, t => by
    refine (plug_blocks C (.node g p h l t)).trans ?_
    simp only [Tr.blocks, Ctx.blocks, List.cons_append, List.append_assoc]
    refine List.Perm.trans ?_ (List.perm_middle).symm
    refine List.Perm.cons _ ?_
    rw [← List.append_assoc, ← List.append_assoc]
    exact List.Perm.append_right _ List.perm_append_comm
theorem plug_put {p : PV} {hop : Int} {G1 G2 : Nat} : ∀ (C : Ctx) (t : Tr), C.OnPath p → putT p hop G1 G2 (C.plug t) = C.plug (putT p hop G1 G2 t)
  | .top, _, _ => rfl
  | .left C g q h r, t, hp => by
    show putT p hop G1 G2 (C.plug (.node g q h t r)) = C.plug (.node g q h (putT p hop G1 G2 t) r)
    rw [plug_put C _ hp.2.2.2]
    congr 1
    conv => lhs; unfold putT
    rw [if_neg hp.1, if_neg (by simp [hp.2.1]), if_pos hp.2.2.1]
  | .right C g q h l, t, hp => by
    show putT p hop G1 G2 (C.plug (.node g q h l t)) = C.plug (.node g q h l (putT p hop G1 G2 t))
    rw [plug_put C _ hp.2.2.2]
    congr 1
    conv => lhs; unfold putT
    rw [if_neg hp.1, if_neg (by simp [hp.2.1]), if_neg hp.2.2.1]
theorem plug_hop {p : PV} : ∀ (C : Ctx) (t : Tr), C.OnPath p → hopAt (C.plug t) p = hopAt t p
  | .top, _, _ => rfl
  | .left C g q h r, t, hp => by
    show hopAt (C.plug (.node g q h t r)) p = _
    rw [plug_hop C _ hp.2.2.2]
    conv => lhs; unfold hopAt
    rw [if_neg hp.1, if_neg (by simp [hp.2.1]), if_pos hp.2.2.1]
  | .right C g q h l, t, hp => by
    show hopAt (C.plug (.node g q h l t)) p = _
    rw [plug_hop C _ hp.2.2.2]
    conv => lhs; unfold hopAt
    rw [if_neg hp.1, if_neg (by simp [hp.2.1]), if_neg hp.2.2.1]
theorem Ctx.Lies.keep {w w' : World} {B : Nat} : ∀ {C : Ctx} {v : Value}, C.Lies w B v → (∀ g ∈ C.blocks, w'.heap[g]? = w.heap[g]?) → C.Lies w' B v
  | .top, _, _, _ => trivial
  | .left C g p h r, v, h1, h2 => ⟨h1.1, (h2 g (by simp [Ctx.blocks])).trans h1.2.1, h1.2.2.1.keep fun k hk => h2 k (by simp [Ctx.blocks, hk]), h1.2.2.2.keep fun k hk => h2 k (by simp [Ctx.blocks, hk])⟩
  | .right C g p h l, v, h1, h2 => ⟨h1.1, (h2 g (by simp [Ctx.blocks])).trans h1.2.1, h1.2.2.1.keep fun k hk => h2 k (by simp [Ctx.blocks, hk]), h1.2.2.2.keep fun k hk => h2 k (by simp [Ctx.blocks, hk])⟩
theorem Ctx.Lies.far {w : World} {B : Nat} {C : Ctx} {v : Value} (h : C.Lies w B v) {p : Addr} (hp : p.block ∉ C.blocks) (u : Value) : C.Lies (w.setCell p u) B v :=
  h.keep fun g hg => Below.heap_setCell w p u g (fun e => by subst e; exact hp hg)
/-- A store at a place that is not the top one. -/
theorem Ctx.Lies.store {w : World} {B tb : Nat} {six : Bool} {v : Value} (u : Value) : ∀ {C : Ctx}, ¬ C = .top → C.Lies w B v → C.blocks.Nodup → C.Lies (w.setCell (C.slot tb six) u) B u
  | .top, h0, _, _ => absurd rfl h0
  | .left C g p h r, _, h1, hn => by
    simp only [Ctx.blocks, List.nodup_cons, List.mem_append, not_or] at hn
    exact ⟨h1.1, h1.2.1.set_ 5 u, h1.2.2.1.far (p := ⟨g, 5, none⟩) hn.1.1 u, h1.2.2.2.far (p := ⟨g, 5, none⟩) hn.1.2 u⟩
  | .right C g p h l, _, h1, hn => by
    simp only [Ctx.blocks, List.nodup_cons, List.mem_append, not_or] at hn
    exact ⟨h1.1, h1.2.1.set_ 6 u, h1.2.2.1.far (p := ⟨g, 6, none⟩) hn.1.1 u, h1.2.2.2.far (p := ⟨g, 6, none⟩) hn.1.2 u⟩
theorem Ctx.slot_cell {w : World} {B tb : Nat} {six : Bool} {v : Value} : ∀ {C : Ctx}, ¬ C = .top → C.Lies w B v → w.cell? (C.slot tb six) = some v ∧ w.frozen? (C.slot tb six) = false ∧ (C.slot tb six).block ∈ C.blocks
  | .top, h0, _ => absurd rfl h0
  | .left C g p h r, _, h1 => ⟨h1.2.1.cell 5, h1.2.1.frozen 5, by simp [Ctx.slot, Ctx.blocks]⟩
  | .right C g p h l, _, h1 => ⟨h1.2.1.cell 6, h1.2.1.frozen 6, by simp [Ctx.slot, Ctx.blocks]⟩
theorem outer_const {C : Ctx} (h : ¬ C = .top) (u v : Value) : C.outer u = C.outer v := by
  cases C with
  | top => exact absurd rfl h
  | left C g p h r => rfl
  | right C g p h l => rfl

/-- A table as it lies in memory. -/
structure Tab (w : World) (B tb : Nat) (R : Bool → Tr) (c : Int) : Prop where
  blk : Blk w tb 241 #[(R false).ptr, (R true).ptr, .int .i64 c]
  base : B ≤ tb
  lies : ∀ s, (R s).Lies w B
  nodup : (tb :: ((R false).blocks ++ (R true).blocks)).Nodup
def tabBlocks (tb : Nat) (R : Bool → Tr) : List Nat := tb :: ((R false).blocks ++ (R true).blocks)
theorem mem_tab {tb : Nat} {R : Bool → Tr} {s : Bool} {g : Nat} (h : g ∈ (R s).blocks) : g ∈ tabBlocks tb R := by
  cases s <;> simp [tabBlocks, h]
theorem Tab.keep {w w' : World} {B tb : Nat} {R : Bool → Tr} {c : Int} (h : Tab w B tb R c) (hk : ∀ g ∈ tabBlocks tb R, w'.heap[g]? = w.heap[g]?) : Tab w' B tb R c :=
  ⟨(hk tb (by simp [tabBlocks])).trans h.blk, h.base, fun s => (h.lies s).keep fun g hg => hk g (mem_tab hg), h.nodup⟩
theorem Tab.lt {w : World} {B tb : Nat} {R : Bool → Tr} {c : Int} (h : Tab w B tb R c) : ∀ g ∈ tabBlocks tb R, B ≤ g ∧ g < w.heap.size := by
  intro g hg
  simp only [tabBlocks, List.mem_cons, List.mem_append] at hg
  rcases hg with rfl | hg | hg
  · exact ⟨h.base, h.blk.lt⟩
  · exact (h.lies false).lt g hg
  · exact (h.lies true).lt g hg
theorem Tab.below {w w' : World} {B tb : Nat} {R : Bool → Tr} {c : Int} (h : Tab w B tb R c) (hb : Below w.heap.size w w') : Tab w' B tb R c := h.keep fun g hg => hb.block g (h.lt g hg).2

def upd (R : Bool → Tr) (s : Bool) (t : Tr) : Bool → Tr := fun s' => if s' = s then t else R s'
theorem upd_same (R : Bool → Tr) (s : Bool) (t : Tr) : upd R s t s = t := by simp [upd]
theorem upd_other (R : Bool → Tr) (s : Bool) (t : Tr) : upd R s t (!s) = R (!s) := by cases s <;> simp [upd]

theorem nodup_parts {w : World} {B tb : Nat} {R : Bool → Tr} {c : Int} {s : Bool} {C : Ctx} {cur : Tr} (h : Tab w B tb R c) (hR : R s = C.plug cur) :
    tb ∉ cur.blocks ∧ tb ∉ C.blocks ∧ tb ∉ (R (!s)).blocks ∧ cur.blocks.Nodup ∧ C.blocks.Nodup ∧ (∀ g ∈ cur.blocks, g ∉ C.blocks ∧ g ∉ (R (!s)).blocks) ∧ (∀ g ∈ C.blocks, g ∉ (R (!s)).blocks) ∧ (R (!s)).blocks.Nodup := by
  have hp := plug_blocks C cur
  rw [← hR] at hp
  have hn := h.nodup
  have hall : (tb :: ((R s).blocks ++ (R (!s)).blocks)).Nodup := by
    cases s
    · exact hn
    · refine (List.Perm.nodup_iff ?_).1 hn
      exact List.Perm.cons _ List.perm_append_comm
  have hall2 : (tb :: ((cur.blocks ++ C.blocks) ++ (R (!s)).blocks)).Nodup := (List.Perm.nodup_iff (List.Perm.cons _ (List.Perm.append_right _ hp))).1 hall
  simp only [List.nodup_cons, List.mem_append, not_or, List.nodup_append] at hall2
  obtain ⟨⟨⟨a1, a2⟩, a3⟩, ⟨b1, b2, b3⟩, b4, b5⟩ := hall2
  exact ⟨a1, a2, a3, b1, b2, fun g hg => ⟨fun h => b3 g hg g h rfl, fun h => b5 g (.inl hg) g h rfl⟩, fun g hg h => b5 g (.inr hg) g h rfl, b4⟩

theorem tab_of {w : World} {B tb : Nat} {R : Bool → Tr} {c : Int} {s : Bool} {C : Ctx} {new : Tr} (hb : Blk w tb 241 #[(upd R s (C.plug new) false).ptr, (upd R s (C.plug new) true).ptr, .int .i64 c]) (h0 : B ≤ tb)
    (h1 : C.Lies w B new.ptr) (h2 : new.Lies w B) (h3 : (R (!s)).Lies w B)
    (n1 : tb ∉ new.blocks) (n2 : tb ∉ C.blocks) (n3 : tb ∉ (R (!s)).blocks) (n4 : new.blocks.Nodup) (n5 : C.blocks.Nodup) (n6 : ∀ g ∈ new.blocks, g ∉ C.blocks ∧ g ∉ (R (!s)).blocks) (n7 : ∀ g ∈ C.blocks, g ∉ (R (!s)).blocks) (n8 : (R (!s)).blocks.Nodup) :
    Tab w B tb (upd R s (C.plug new)) c := by
  have hp := plug_blocks C new
  have hx : (tb :: ((C.plug new).blocks ++ (R (!s)).blocks)).Nodup := by
    refine (List.Perm.nodup_iff (List.Perm.cons _ (List.Perm.append_right _ hp))).2 ?_
    simp only [List.nodup_cons, List.mem_append, not_or, List.nodup_append]
    exact ⟨⟨⟨n1, n2⟩, n3⟩, ⟨n4, n5, fun a ha b hb e => by subst e; exact (n6 a ha).1 hb⟩, n8, fun a ha b hb e => by
      subst e
      rcases ha with ha | ha
      · exact (n6 a ha).2 hb
      · exact n7 a ha hb⟩
  refine ⟨hb, h0, fun s' => ?_, ?_⟩
  · by_cases e : s' = s
    · subst e; rw [upd_same]; exact (plug_lies C new).2 ⟨h1, h2⟩
    · have : s' = !s := by cases s <;> cases s' <;> simp_all
      subst this
      rw [upd_other]; exact h3
  · cases s
    · simpa [upd] using hx
    · have : (tb :: ((R false).blocks ++ (C.plug new).blocks)).Nodup := (List.Perm.nodup_iff (List.Perm.cons _ List.perm_append_comm)).1 hx
      simpa [upd] using this

/-- A store at a place of a tree. -/
theorem Tab.store {w : World} {B tb : Nat} {R : Bool → Tr} {c : Int} {s : Bool} {C : Ctx} {cur new : Tr} (h : Tab w B tb R c) (hR : R s = C.plug cur) (hl : new.Lies w B) (hn : new.blocks.Nodup)
    (hd : ∀ g ∈ new.blocks, g ∈ cur.blocks ∨ g ∉ tabBlocks tb R) : Tab (w.setCell (C.slot tb s) new.ptr) B tb (upd R s (C.plug new)) c := by
  obtain ⟨n1, n2, n3, n4, n5, n6, n7, n8⟩ := nodup_parts h hR
  have hC : ∀ g ∈ C.blocks, g ∈ tabBlocks tb R := by
    intro g hg
    have : g ∈ (R s).blocks := by rw [hR]; exact (plug_blocks C cur).mem_iff.2 (by simp [hg])
    exact mem_tab this
  have m1 : tb ∉ new.blocks := fun hx => by
    rcases hd tb hx with h' | h'
    · exact n1 h'
    · exact h' (by simp [tabBlocks])
  have m6 : ∀ g ∈ new.blocks, g ∉ C.blocks ∧ g ∉ (R (!s)).blocks := fun g hg => by
    rcases hd g hg with h' | h'
    · exact n6 g h'
    · exact ⟨fun hx => h' (hC g hx), fun hx => h' (mem_tab hx)⟩
  have hCl := (plug_lies C cur).1 (hR ▸ h.lies s)
  by_cases ht : C = .top
  · subst ht
    refine tab_of ?_ h.base trivial (hl.far (p := slotOf tb s) m1 _) ((h.lies (!s)).far (p := slotOf tb s) n3 _) m1 n2 n3 hn n5 m6 n7 n8
    have := h.blk.set_ (if s then 1 else 0) new.ptr
    cases s
    · simpa [upd, Ctx.plug, Ctx.slot, slotOf] using this
    · simpa [upd, Ctx.plug, Ctx.slot, slotOf] using this
  · have hsl := (Ctx.slot_cell (tb := tb) (six := s) ht hCl.1).2.2
    refine tab_of ?_ h.base (hCl.1.store new.ptr ht n5) (hl.far (fun hx => (m6 _ hx).1 hsl) _) ((h.lies (!s)).far (fun hx => n7 _ hsl hx) _) m1 n2 n3 hn n5 m6 n7 n8
    have := h.blk.far (p := C.slot tb s) (fun e => by rw [e] at n2; exact n2 hsl) new.ptr
    have e : (C.plug new).ptr = (R s).ptr := by rw [hR, plug_ptr, plug_ptr]; exact outer_const ht _ _
    cases s
    · simpa [upd, e] using this
    · simpa [upd, e] using this

/-- A node's hop is stored. -/
theorem Tab.hop {w : World} {B tb : Nat} {R : Bool → Tr} {c : Int} {s : Bool} {C : Ctx} {g : Nat} {q : PV} {h0 : Int} {l r : Tr} (h : Tab w B tb R c) (hR : R s = C.plug (.node g q h0 l r)) (hop : Int) :
    Tab (w.setCell ⟨g, 4, none⟩ (.int .i64 hop)) B tb (upd R s (C.plug (.node g q hop l r))) c := by
  obtain ⟨n1, n2, n3, n4, n5, n6, n7, n8⟩ := nodup_parts h hR
  have hCl := (plug_lies C _).1 (hR ▸ h.lies s)
  obtain ⟨b1, b2, b3, b4⟩ := hCl.2
  have hg : g ∈ (Tr.node g q h0 l r).blocks := by simp [Tr.blocks]
  have n4' := n4
  simp only [Tr.blocks, List.nodup_cons, List.mem_append, not_or] at n4'
  refine tab_of ?_ h.base (hCl.1.far (p := ⟨g, 4, none⟩) (n6 g hg).1 _) ⟨b1, b2.set_ 4 _, b3.far (p := ⟨g, 4, none⟩) n4'.1.1 _, b4.far (p := ⟨g, 4, none⟩) n4'.1.2 _⟩ ((h.lies (!s)).far (p := ⟨g, 4, none⟩) (n6 g hg).2 _) n1 n2 n3 n4 n5 n6 n7 n8
  have := h.blk.far (p := ⟨g, 4, none⟩) (fun e => by subst e; exact n1 hg) (.int .i64 hop)
  have e : (C.plug (.node g q hop l r)).ptr = (R s).ptr := by rw [hR, plug_ptr, plug_ptr]; rfl
  cases s
  · simpa [upd, e] using this
  · simpa [upd, e] using this
theorem Tab.count {w : World} {B tb : Nat} {R : Bool → Tr} {c : Int} (h : Tab w B tb R c) (c' : Int) : Tab (w.setCell ⟨tb, 2, none⟩ (.int .i64 c')) B tb R c' := by
  have hn := h.nodup
  simp only [List.nodup_cons, List.mem_append, not_or] at hn
  refine ⟨h.blk.set_ 2 _, h.base, fun s => (h.lies s).far (p := ⟨tb, 2, none⟩) (by cases s; exact hn.1.1; exact hn.1.2) _, h.nodup⟩

theorem Tab.slot {w : World} {B tb : Nat} {R : Bool → Tr} {c : Int} {s : Bool} {C : Ctx} {cur : Tr} (h : Tab w B tb R c) (hR : R s = C.plug cur) :
    w.cell? (C.slot tb s) = some cur.ptr ∧ w.frozen? (C.slot tb s) = false ∧ (C.slot tb s).block ∈ tabBlocks tb R := by
  by_cases ht : C = .top
  · subst ht
    have e : (R s).ptr = cur.ptr := by rw [hR]; rfl
    refine ⟨?_, h.blk.frozen _, by simp [Ctx.slot, slotOf, tabBlocks]⟩
    show w.cell? ⟨tb, _, none⟩ = _
    rw [h.blk.cell, ← e]
    cases s <;> rfl
  · have hCl := (plug_lies C cur).1 (hR ▸ h.lies s)
    obtain ⟨a, b, d⟩ := Ctx.slot_cell (tb := tb) (six := s) ht hCl.1
    refine ⟨a, b, mem_tab (s := s) ?_⟩
    rw [hR]
    exact (plug_blocks C cur).mem_iff.2 (by simp [d])
theorem Tab.node {w : World} {B tb : Nat} {R : Bool → Tr} {c : Int} {s : Bool} {C : Ctx} {g : Nat} {q : PV} {h0 : Int} {l r : Tr} (h : Tab w B tb R c) (hR : R s = C.plug (.node g q h0 l r)) :
    Blk w g 244 (nodeCs q h0 l.ptr r.ptr) ∧ g ∈ tabBlocks tb R := by
  have hCl := (plug_lies C _).1 (hR ▸ h.lies s)
  refine ⟨hCl.2.2.1, mem_tab (s := s) ?_⟩
  rw [hR]
  exact (plug_blocks C _).mem_iff.2 (by simp [Tr.blocks])

/-- All blocks but some are as they were. -/
structure Kept (S : List Nat) (w w' : World) : Prop where
  os : w'.os = w.os
  tape : w'.tape = w.tape
  output : w'.output = w.output
  size : w.heap.size ≤ w'.heap.size
  block : ∀ k, k < w.heap.size → k ∉ S → w'.heap[k]? = w.heap[k]?

end Go.Proofs.Ytonelibgaceflaa

namespace Go.Proofs.Ytonelibgaceflaa
open Go.ChangeShapes Go.WideShapes Go.ChangeAt Go.RowKit

theorem root_any (p : PV) (tb : Nat) (w : World) :
    Calls Try.prog 203 #[.pointer (some ⟨tb, 0, none⟩), p.val] w fun e w' => e = .returned (.pointer (some (slotOf tb p.six))) ∧ Below w.heap.size w w' := by
  obtain ⟨six, hi, lo, n⟩ := p
  unfold PV.val slotOf
  simp only
  cases six
  · go_enter Try.func203, Try.ntmps203
    go_wp2
    go_ret
    exact ⟨rfl, (Below.refl _ _).alloc (Nat.le_refl _) _⟩
  · go_enter Try.func203, Try.ntmps203
    go_wp2
    go_ret
    exact ⟨rfl, (Below.refl _ _).alloc (Nat.le_refl _) _⟩

def Stop (p : PV) : Tr → Prop
  | .nil => True
  | .node _ q _ _ _ => q = p ∨ q.over p = false
def PlaceAt (w : World) (tb : Nat) (R : Bool → Tr) (p : PV) (e : Ending) (w' : World) : Prop :=
  ∃ (C : Ctx) (cur : Tr), R p.six = C.plug cur ∧ C.OnPath p ∧ Stop p cur ∧ e = .returned (.pointer (some (C.slot tb p.six))) ∧ Below w.heap.size w w'
/-- Where the search stands. -/
def At (tb : Nat) (R : Bool → Tr) (p : PV) (k : Nat) (v : Value) : Prop :=
  ∃ (C : Ctx) (cur : Tr), R p.six = C.plug cur ∧ C.OnPath p ∧ cur.size ≤ k ∧ v = .pointer (some (C.slot tb p.six))

theorem inv_plug {six : Bool} : ∀ (C : Ctx) (t : Tr) (U : PV → Prop), Inv six U (C.plug t) → ∃ U', Inv six U' t
  | .top, t, U, h => ⟨U, h⟩
  | .left C g q h r, t, U, hi => by
    obtain ⟨U', h'⟩ := inv_plug C (.node g q h t r) U hi
    exact ⟨_, h'.2.2.2.2.1⟩
  | .right C g q h l, t, U, hi => by
    obtain ⟨U', h'⟩ := inv_plug C (.node g q h l t) U hi
    exact ⟨_, h'.2.2.2.2.2⟩

set_option maxRecDepth 100000 in
set_option maxHeartbeats 1600000 in
theorem place_any {w : World} {B tb : Nat} {R : Bool → Tr} {c : Int} (h : Tab w B tb R c) (p : PV) (hp : p.Ok) (hI : ∀ s, Inv s (fun _ => True) (R s)) :
    Calls Try.prog 154 #[.pointer (some ⟨tb, 0, none⟩), p.val, .nilFunc] w (PlaceAt w tb R p) := by
  have HT := Lib.hid h
  have HP := Lib.hid hp
  have HI := Lib.hid hI
  have hRt := Lib.hid (fun w => root_any p tb w)
  obtain ⟨six, hi, lo, n⟩ := p
  have hrng := hp
  unfold PV.Ok at hrng
  simp only at hrng
  have r1 := hrng.rhi
  have r2 := hrng.rlo
  have hm5 := Lib.hid (fun hs : six = false => by have := hrng.may; rw [hs] at this; exact (mayB_four this).2 : six = false → lo < 4294967296)
  have hlen := hrng.len
  have hwl := wideI_le six
  clear h hp hI hrng
  have hnf : ∀ w, (binOp .neq 245 .nilFunc .nilFunc).run Try.prog w = .ok (.bool false) w := fun _ => by kernel_rfl
  unfold PV.val at hRt ⊢
  simp only at hRt ⊢
  go_enter Try.func154, Try.ntmps154
  go_wp2_with fail
  refine (hRt.out _).mono ?_
  rintro e X ⟨rfl, hb⟩
  obtain ⟨HBX, hsx, hbx⟩ := box1 (cs := [.bool six, .int .u64 hi, .int .u64 lo, .int .i64 n]) hb
  have e0 := hbx 0 _ rfl
  have e1 := hbx 1 _ rfl
  have e2 := hbx 2 _ rfl
  have e3 := hbx 3 _ rfl
  have HTX := Lib.hid (HT.out.below HBX)
  have HB := Lib.hid HBX
  clear hb hbx HBX
  go_wp2
  go_loopg [7, 8] (R six).size (fun k at_ _ wr => At tb R ⟨six, hi, lo, n⟩ k at_ ∧ Below X.heap.size X wr)
  case atStart => exact ⟨⟨.top, R six, rfl, trivial, Nat.le_refl _, rfl⟩, Below.refl _ _⟩
  case round =>
    obtain ⟨⟨C, cur, hR, hon, hsz, rfl⟩, hb⟩ := hrel
    have hs := ((HTX.out.below hb).slot hR).1
    have q0 := (hb.cell (p := ⟨w.heap.size, 0, none⟩) hsx).trans e0
    have q1 := (hb.cell (p := ⟨w.heap.size, 1, none⟩) hsx).trans e1
    have q2 := (hb.cell (p := ⟨w.heap.size, 2, none⟩) hsx).trans e2
    have q3 := (hb.cell (p := ⟨w.heap.size, 3, none⟩) hsx).trans e3
    have HR := Lib.hid hR
    have HON := Lib.hid hon
    have HBW := Lib.hid hb
    have hsw := hb.size
    obtain ⟨U', hiv⟩ := inv_plug C cur _ (by rw [← hR]; exact HI.out six)
    cases cur with
    | nil =>
      clear hR hon hb hiv
      change wr.cell? (Ctx.slot tb six C) = some (.pointer none) at hs
      show Code.wp _ _ _ _ _
      simp only at hs ⊢
      generalize hsl : Ctx.slot tb six C = sl at *
      have HSL := Lib.hid hsl
      clear hsl
      go_wp2
      go_ret
      exact ⟨C, .nil, HR.out, HON.out, trivial, by rw [HSL.out]; rfl, HB.out.trans (HBW.out.mono HB.out.size)⟩
    | node g q h l r =>
      obtain ⟨hq, hq6, _, hh, _, _⟩ := hiv
      obtain ⟨hblk, hgm⟩ := (HTX.out.below hb).node hR
      have n0 := hblk.cell 0
      have n1 := hblk.cell 1
      have n2 := hblk.cell 2
      have n3 := hblk.cell 3
      have HQ := Lib.hid hq
      obtain ⟨qs, qh, ql, qn⟩ := q
      simp only [nodeCs] at n0 n1 n2 n3 hq6
      simp at n0 n1 n2 n3
      subst hq6
      have hgl := hblk.lt
      clear hR hon hb hblk hgm hq hh
      change wr.cell? (Ctx.slot tb qs C) = some (.pointer (some ⟨g, 0, none⟩)) at hs
      generalize hsl : Ctx.slot tb qs C = sl at *
      have HSL := Lib.hid hsl
      clear hsl
      by_cases he : qh = hi ∧ ql = lo ∧ qn = n
      · obtain ⟨rfl, rfl, rfl⟩ := he
        go_wp2_with fail
        go_quiet (fail)
        go_wp2
        go_ret
        exact ⟨C, _, HR.out, HON.out, .inl rfl, by rw [HSL.out]; rfl, below_drewN (HB.out.trans (HBW.out.mono HB.out.size)) _⟩
      · have CO := Lib.hid (fun w => over_any qs qh ql qn qs hi lo n w r1 r2 hm5.out (by have := ok_n HQ.out; simp only at this; have := wideI_le qs; omega) (by have := ok_n HQ.out; simp only at this; have := wideI_le qs; omega))
        have CA := Lib.hid (fun w h3 h4 => at_any qs hi lo qn w r1 r2 h3 h4)
        have HE := Lib.hid he
        have HNE : Hid (¬ (⟨qs, qh, ql, qn⟩ : PV) = ⟨qs, hi, lo, n⟩) := fun hx => by injection hx with _ e1 e2 e3; exact he ⟨e1, e2, e3⟩
        have hsxw : w.heap.size < wr.heap.size := by omega
        have key : (qh == hi) = false ∨ (qh = hi ∧ (ql == lo) = false) ∨ (qh = hi ∧ ql = lo ∧ (qn == n) = false) := by
          by_cases a : qh = hi
          · by_cases b : ql = lo
            · exact .inr (.inr ⟨a, b, by simpa using fun h => he ⟨a, b, h⟩⟩)
            · exact .inr (.inl ⟨a, by simpa using b⟩)
          · exact .inl (by simpa using a)
        clear he
        obtain ⟨ov, hov⟩ : ∃ ov : Bool, overB qs qh ql qn qs hi lo n = ov := ⟨_, rfl⟩
        rw [hov] at CO
        have HOV := Lib.hid hov
        clear hov
        cases ov with
        | false =>
          rcases key with k1 | ⟨rfl, k1⟩ | ⟨rfl, rfl, k1⟩
          all_goals
            go_wp2_with fail
            go_region_held3 (fun w' => (∀ b o, b < wr.heap.size → w'.cell? ⟨b, o, none⟩ = wr.cell? ⟨b, o, none⟩) ∧ wr.heap.size ≤ w'.heap.size ∧ Hid (Below wr.heap.size wr w'))
              ((first | assumption | exact keep0 _ | exact keep1 (by assumption) (by assumption) | exact keepD (by assumption) | exact keepB (by assumption) (by assumption) | exact keepA (by assumption) _ | exact ⟨fun _ _ _ => rfl, Nat.le_refl _, Below.refl _ _⟩))
              (first | (go_at_call 137; refine (CO.out _).mono ?_; rintro e w2 ⟨rfl, hb2⟩))
            go_wp2
            go_ret
            exact ⟨C, _, HR.out, HON.out, .inr HOV.out, by rw [HSL.out]; rfl, (HB.out.trans (HBW.out.mono HB.out.size)).trans ((keepBelow (by assumption)).mono (by omega))⟩
        | true =>
          have hnn := over_n HQ.out HP.out HOV.out
          simp only at hnn
          have hlt : qn < n := by
            rcases Int.lt_or_le qn n with hx | hx
            · exact hx
            · have := over_eq HQ.out HP.out HOV.out hx
              injection this with _ e1 e2 e3
              exact absurd ⟨e1, e2, e3⟩ HE.out
          have hq0 := (ok_n HQ.out).1
          simp only at hq0
          have CB := Lib.hid (fun w => CA.out w hq0 (by omega))
          obtain ⟨bv, hbv⟩ : ∃ bv, bitI qs hi lo qn = bv := ⟨_, rfl⟩
          have hb01 : bv = 0 ∨ bv = 1 := by rw [← hbv]; exact PV.bit01 ⟨qs, hi, lo, n⟩ qn
          rw [hbv] at CB
          have HBV : Hid (PV.bit ⟨qs, hi, lo, n⟩ qn = bv) := hbv
          clear hbv
          rcases key with k1 | ⟨rfl, k1⟩ | ⟨rfl, rfl, k1⟩
          all_goals
            go_wp2_with fail
            go_region_held3 (fun w' => (∀ b o, b < wr.heap.size → w'.cell? ⟨b, o, none⟩ = wr.cell? ⟨b, o, none⟩) ∧ wr.heap.size ≤ w'.heap.size ∧ Hid (Below wr.heap.size wr w'))
              ((first | assumption | exact keep0 _ | exact keep1 (by assumption) (by assumption) | exact keepD (by assumption) | exact keepB (by assumption) (by assumption) | exact keepA (by assumption) _ | exact ⟨fun _ _ _ => rfl, Nat.le_refl _, Below.refl _ _⟩))
              (first | (go_at_call 137; refine (CO.out _).mono ?_; rintro e w2 ⟨rfl, hb2⟩))
            obtain ⟨fc2, z2, H2⟩ : (∀ b o, b < wr.heap.size → w2.cell? ⟨b, o, none⟩ = wr.cell? ⟨b, o, none⟩) ∧ wr.heap.size ≤ w2.heap.size ∧ Hid (Below wr.heap.size wr w2) := by assumption
            have z3 : w.heap.size < w2.heap.size := by omega
            have z4 : g < w2.heap.size := by omega
            rcases hb01 with rfl | rfl
            all_goals
              go_wp2
              go_region_held3 (fun w' => (∀ b o, b < w2.heap.size → w'.cell? ⟨b, o, none⟩ = w2.cell? ⟨b, o, none⟩) ∧ w2.heap.size ≤ w'.heap.size ∧ Hid (Below w2.heap.size w2 w'))
                ((first | assumption | exact keep0 _ | exact keep1 (by assumption) (by assumption) | exact keepD (by assumption) | exact keepB (by assumption) (by assumption) | exact keepA (by assumption) _ | exact ⟨fun _ _ _ => rfl, Nat.le_refl _, Below.refl _ _⟩))
                (first | (go_at_call 165; refine (CB.out _).mono ?_; rintro e w3 ⟨rfl, hb3⟩))
              obtain ⟨fc3, z5, H3⟩ : (∀ b o, b < w2.heap.size → w3.cell? ⟨b, o, none⟩ = w2.cell? ⟨b, o, none⟩) ∧ w2.heap.size ≤ w3.heap.size ∧ Hid (Below w2.heap.size w2 w3) := by assumption
              go_wp2
              first
                | (go_roundg l.size
                   case measure => (simp [Tr.size] at hsz; omega)
                   case rel => exact ⟨⟨.left C g _ h r, l, HR.out, ⟨HNE.out, HOV.out, HBV.out, HON.out⟩, Nat.le_refl _, rfl⟩, below_step HBW.out (below_step H2.out H3.out)⟩)
                | (go_roundg r.size
                   case measure => (simp [Tr.size] at hsz; omega)
                   case rel => exact ⟨⟨.right C g _ h l, r, HR.out, ⟨HNE.out, HOV.out, by rw [HBV.out]; decide, HON.out⟩, Nat.le_refl _, rfl⟩, below_step HBW.out (below_step H2.out H3.out)⟩)

end Go.Proofs.Ytonelibgaceflaa

namespace Go.Proofs.Ytonelibgaceflaa
open Go.ChangeShapes Go.WideShapes Go.ChangeAt Go.RowKit

set_option maxHeartbeats 400000 in
theorem half_low (six : Bool) (hi lo n : Int) (w : World) (h3 : 0 ≤ n) (h4 : n ≤ 128) :
    Calls Try.prog 155 #[.agg #[.bool six, .int .u64 hi, .int .u64 lo, .int .i64 n], .int .i64 0] w fun e w' => e = .returned (.agg #[.bool six, .int .u64 hi, .int .u64 lo, .int .i64 (n + 1)]) ∧ Below w.heap.size w w' := by
  go_enter Try.func155, Try.ntmps155
  go_wp2
  exact bodyPost_ret (v := .agg #[.bool six, .int .u64 hi, .int .u64 lo, .int .i64 (n + 1)]) (by simp [results, Try.results155, go_sem]) rfl
    ⟨rfl, ((Below.refl _ _).alloc (Nat.le_refl _) _).alloc (by simp) _⟩

theorem or_set (x : Int) (k : Nat) (hx : 0 ≤ x ∧ x < 18446744073709551616) (hk : k < 64) : bits .or .u64 x (IntKind.u64.wrap (2 ^ k)) = (setN x k : Int) := by
  have e : (2 ^ 64 : Nat) = 18446744073709551616 := by decide
  have h1 : (2 : Nat) ^ k < 2 ^ 64 := Nat.pow_lt_pow_right (by omega) hk
  have h2 : IntKind.u64.wrap (2 ^ k) = ((2 ^ k : Nat) : Int) := by
    have h3 : ((2 ^ k : Nat) : Int) = (2 : Int) ^ k := by simp
    rw [← h3]
    generalize (2 ^ k : Nat) = m at *
    show (m : Int) % 2 ^ 64 = _
    have e2 : (2 : Int) ^ 64 = 18446744073709551616 := by decide
    rw [e2]
    omega
  rw [h2, u64_or x _ hx.1 hx.2 (Int.natCast_nonneg _) (by generalize (2 ^ k : Nat) = m at *; omega)]
  rfl

set_option maxHeartbeats 400000 in
theorem half_high (six : Bool) (hi lo : Int) (n : Nat) (w : World) (h1 : 0 ≤ hi ∧ hi < 18446744073709551616) (h2 : 0 ≤ lo ∧ lo < 18446744073709551616) (h4 : (n : Int) < wideI six) :
    Calls Try.prog 155 #[.agg #[.bool six, .int .u64 hi, .int .u64 lo, .int .i64 n], .int .i64 1] w fun e w' => e = .returned (.agg #[.bool six, .int .u64 (setHi six hi n), .int .u64 (setLo six lo n), .int .i64 (n + 1)]) ∧ Below w.heap.size w w' := by
  cases six
  · have h5 : n < 32 := by have : (n : Int) < 32 := h4; omega
    have e1 : setHi false hi n = hi := by simp [setHi]
    have e2 : setLo false lo n = bits .or .u64 lo (IntKind.u64.wrap (2 ^ (31 - n))) := by rw [or_set lo _ h2 (by omega)]; simp [setLo]
    rw [e1, e2]
    clear e1 e2 h4
    go_enter Try.func155, Try.ntmps155
    go_wp2
    go_region
    all_goals go_wp2
    all_goals exact bodyPost_ret (v := .agg #[.bool false, .int .u64 hi, .int .u64 (bits .or .u64 lo (IntKind.u64.wrap (2 ^ (31 - n)))), .int .i64 (n + 1)]) (by simp [results, Try.results155, go_sem]) rfl ⟨rfl, (((Below.refl _ _).alloc (Nat.le_refl _) _).alloc (by simp) _).drew⟩
  · have h5 : n < 128 := by have : (n : Int) < 128 := h4; omega
    by_cases h6 : n < 64
    · have e1 : setLo true lo n = lo := by simp [setLo, h6]
      have e2 : setHi true hi n = bits .or .u64 hi (IntKind.u64.wrap (2 ^ (63 - n))) := by rw [or_set hi _ h1 (by omega)]; simp [setHi, h6]
      rw [e1, e2]
      clear e1 e2 h4 h5
      go_enter Try.func155, Try.ntmps155
      go_wp2
      go_region
      all_goals go_wp2
      all_goals exact bodyPost_ret (v := .agg #[.bool true, .int .u64 (bits .or .u64 hi (IntKind.u64.wrap (2 ^ (63 - n)))), .int .u64 lo, .int .i64 (n + 1)]) (by simp [results, Try.results155, go_sem]) rfl ⟨rfl, (((Below.refl _ _).alloc (Nat.le_refl _) _).alloc (by simp) _).drew⟩
    · have e1 : setHi true hi n = hi := by simp [setHi, h6]
      have e2 : setLo true lo n = bits .or .u64 lo (IntKind.u64.wrap (2 ^ (127 - n))) := by rw [or_set lo _ h2 (by omega)]; simp [setLo, h6]
      rw [e1, e2]
      clear e1 e2 h4
      go_enter Try.func155, Try.ntmps155
      go_wp2
      go_region
      all_goals go_wp2
      all_goals exact bodyPost_ret (v := .agg #[.bool true, .int .u64 hi, .int .u64 (bits .or .u64 lo (IntKind.u64.wrap (2 ^ (127 - n)))), .int .i64 (n + 1)]) (by simp [results, Try.results155, go_sem]) rfl ⟨rfl, (((Below.refl _ _).alloc (Nat.le_refl _) _).alloc (by simp) _).drew⟩

end Go.Proofs.Ytonelibgaceflaa

namespace Go.Proofs.Ytonelibgaceflaa
open Go.ChangeShapes Go.WideShapes Go.ChangeAt Go.RowKit

def ZP : Value := .agg #[.bool false, .int .u64 0, .int .u64 0, .int .i64 0]

end Go.Proofs.Ytonelibgaceflaa

namespace Go.Proofs
open Go.Shelf
def Try.lays128_ren : Go.Shelf.Ren := ⟨fun | 128 => 225 | n => n, fun | 51 => 310 | 3 => 3 | 4 => 4 | 46 => 234 | 5 => 5 | 9 => 9 | n => n, fun | n => n⟩
theorem Try.lays128 : Go.Proofs.Lays.n128 Try.prog Try.lays128_ren := {
  mixed := by kernel_rfl
  f128 := Try.func225.trans (congrArg some (by kernel_rfl))
  t3 := Try.underlying3
  a3 := Try.isAgg3
  z3 := Try.sizeOf3
  v3 := Try.zeroValue3
  t4 := Try.underlying4
  a4 := Try.isAgg4
  z4 := Try.sizeOf4
  v4 := Try.zeroValue4
  t5 := Try.underlying5
  a5 := Try.isAgg5
  z5 := Try.sizeOf5
  v5 := Try.zeroValue5
  t9 := Try.underlying9
  a9 := Try.isAgg9
  z9 := Try.sizeOf9
  v9 := Try.zeroValue9
  t46 := Try.underlying234
  a46 := Try.isAgg234
  z46 := Try.sizeOf234
  v46 := Try.zeroValue234
  t51 := Try.underlying310
  a51 := Try.isAgg310
  z51 := Try.sizeOf310
  v51 := Try.zeroValue310 }
theorem Try.bits_Len32 (x : Int) (w : World) (h0 : 0 ≤ x) (h1 : x ≤ 4294967295) :
    Calls Try.prog 225 #[.int .u32 x] w fun e w' => e = .returned (.int .i64 (Lib.bitLen x.toNat)) ∧ w' = w := Any.bits_Len32 Try.lays128 x w h0 h1
def Try.lays125_ren : Go.Shelf.Ren := ⟨fun | 125 => 189 | 128 => 225 | 129 => 226 | n => n, fun | 46 => 234 | 3 => 3 | 51 => 310 | 53 => 22 | 4 => 4 | 5 => 5 | 9 => 9 | n => n, fun | n => n⟩
theorem Try.lays125 : Go.Proofs.Lays.n125 Try.prog Try.lays125_ren := {
  mixed := by kernel_rfl
  f125 := Try.func189.trans (congrArg some (by kernel_rfl))
  f128 := Try.func225.trans (congrArg some (by kernel_rfl))
  f129 := Try.func226.trans (congrArg some (by kernel_rfl))
  t3 := Try.underlying3
  a3 := Try.isAgg3
  z3 := Try.sizeOf3
  v3 := Try.zeroValue3
  t4 := Try.underlying4
  a4 := Try.isAgg4
  z4 := Try.sizeOf4
  v4 := Try.zeroValue4
  t5 := Try.underlying5
  a5 := Try.isAgg5
  z5 := Try.sizeOf5
  v5 := Try.zeroValue5
  t9 := Try.underlying9
  a9 := Try.isAgg9
  z9 := Try.sizeOf9
  v9 := Try.zeroValue9
  t46 := Try.underlying234
  a46 := Try.isAgg234
  z46 := Try.sizeOf234
  v46 := Try.zeroValue234
  t51 := Try.underlying310
  a51 := Try.isAgg310
  z51 := Try.sizeOf310
  v51 := Try.zeroValue310
  t53 := Try.underlying22
  a53 := Try.isAgg22
  z53 := Try.sizeOf22
  v53 := Try.zeroValue22 }
theorem Try.bits_Len (x : Int) (w : World) (h0 : 0 ≤ x) (h1 : x ≤ 18446744073709551615) :
    Calls Try.prog 189 #[.int .u64 x] w fun e w' => e = .returned (.int .i64 (Lib.bitLen x.toNat)) ∧ w' = w := Any.bits_Len Try.lays125 x w h0 h1
def Try.lays133_ren : Go.Shelf.Ren := ⟨fun | 133 => 256 | 128 => 225 | n => n, fun | 51 => 310 | 3 => 3 | 4 => 4 | 46 => 234 | 5 => 5 | 9 => 9 | n => n, fun | n => n⟩
theorem Try.lays133 : Go.Proofs.Lays.n133 Try.prog Try.lays133_ren := {
  mixed := by kernel_rfl
  f128 := Try.func225.trans (congrArg some (by kernel_rfl))
  f133 := Try.func256.trans (congrArg some (by kernel_rfl))
  t3 := Try.underlying3
  a3 := Try.isAgg3
  z3 := Try.sizeOf3
  v3 := Try.zeroValue3
  t4 := Try.underlying4
  a4 := Try.isAgg4
  z4 := Try.sizeOf4
  v4 := Try.zeroValue4
  t5 := Try.underlying5
  a5 := Try.isAgg5
  z5 := Try.sizeOf5
  v5 := Try.zeroValue5
  t9 := Try.underlying9
  a9 := Try.isAgg9
  z9 := Try.sizeOf9
  v9 := Try.zeroValue9
  t46 := Try.underlying234
  a46 := Try.isAgg234
  z46 := Try.sizeOf234
  v46 := Try.zeroValue234
  t51 := Try.underlying310
  a51 := Try.isAgg310
  z51 := Try.sizeOf310
  v51 := Try.zeroValue310 }
theorem Try.bits_LeadingZeros32 (x : Int) (w : World) (h0 : 0 ≤ x) (h1 : x ≤ 4294967295) :
    Calls Try.prog 256 #[.int .u32 x] w fun e w' => e = .returned (.int .i64 (32 - (Lib.bitLen x.toNat : Int))) ∧ w' = w := Any.bits_LeadingZeros32 Try.lays133 x w h0 h1
def Try.lays134_ren : Go.Shelf.Ren := ⟨fun | 134 => 257 | 129 => 226 | n => n, fun | 53 => 22 | 3 => 3 | 4 => 4 | 46 => 234 | 5 => 5 | 9 => 9 | n => n, fun | n => n⟩
theorem Try.lays134 : Go.Proofs.Lays.n134 Try.prog Try.lays134_ren := {
  mixed := by kernel_rfl
  f129 := Try.func226.trans (congrArg some (by kernel_rfl))
  f134 := Try.func257.trans (congrArg some (by kernel_rfl))
  t3 := Try.underlying3
  a3 := Try.isAgg3
  z3 := Try.sizeOf3
  v3 := Try.zeroValue3
  t4 := Try.underlying4
  a4 := Try.isAgg4
  z4 := Try.sizeOf4
  v4 := Try.zeroValue4
  t5 := Try.underlying5
  a5 := Try.isAgg5
  z5 := Try.sizeOf5
  v5 := Try.zeroValue5
  t9 := Try.underlying9
  a9 := Try.isAgg9
  z9 := Try.sizeOf9
  v9 := Try.zeroValue9
  t46 := Try.underlying234
  a46 := Try.isAgg234
  z46 := Try.sizeOf234
  v46 := Try.zeroValue234
  t53 := Try.underlying22
  a53 := Try.isAgg22
  z53 := Try.sizeOf22
  v53 := Try.zeroValue22 }
theorem Try.bits_LeadingZeros64 (x : Int) (w : World) (h0 : 0 ≤ x) (h1 : x ≤ 18446744073709551615) :
    Calls Try.prog 257 #[.int .u64 x] w fun e w' => e = .returned (.int .i64 (64 - (Lib.bitLen x.toNat : Int))) ∧ w' = w := Any.bits_LeadingZeros64 Try.lays134 x w h0 h1
def Try.lays215_ren : Go.Shelf.Ren := ⟨fun | 215 => 190 | n => n, fun | 3 => 3 | 4 => 4 | n => n, fun | n => n⟩
theorem Try.lays215 : Go.Proofs.Lays.n215 Try.prog Try.lays215_ren := {
  mixed := by kernel_rfl
  f215 := Try.func190.trans (congrArg some (by kernel_rfl))
  t3 := Try.underlying3
  a3 := Try.isAgg3
  z3 := Try.sizeOf3
  v3 := Try.zeroValue3
  t4 := Try.underlying4
  a4 := Try.isAgg4
  z4 := Try.sizeOf4
  v4 := Try.zeroValue4 }
open Go.RowKit in
theorem Try.cmp_isNaN_int (x : Int) (w : World) :
    Calls Try.prog 190 #[.int .i64 x] w fun e w' => e = .returned (.bool false) ∧ w' = w := Any.cmp_isNaN_int Try.lays215 x w
def Try.lays122_ren : Go.Shelf.Ren := ⟨fun | 122 => 125 | 215 => 190 | n => n, fun | 3 => 3 | 4 => 4 | n => n, fun | n => n⟩
theorem Try.lays122 : Go.Proofs.Lays.n122 Try.prog Try.lays122_ren := {
  mixed := by kernel_rfl
  f122 := Try.func125.trans (congrArg some (by kernel_rfl))
  f215 := Try.func190.trans (congrArg some (by kernel_rfl))
  t3 := Try.underlying3
  a3 := Try.isAgg3
  z3 := Try.sizeOf3
  v3 := Try.zeroValue3
  t4 := Try.underlying4
  a4 := Try.isAgg4
  z4 := Try.sizeOf4
  v4 := Try.zeroValue4 }
open Go.RowKit in
theorem Try.cmp_Compare_int (x y : Int) (w : World) :
    Calls Try.prog 125 #[.int .i64 x, .int .i64 y] w fun e w' => e = .returned (.int .i64 (Lib.compareInt x y)) ∧ w' = w := Any.cmp_Compare_int Try.lays122 x y w
def Try.lays129_ren : Go.Shelf.Ren := ⟨fun | 129 => 226 | n => n, fun | 53 => 22 | 3 => 3 | 4 => 4 | 46 => 234 | 5 => 5 | 9 => 9 | n => n, fun | n => n⟩
theorem Try.lays129 : Go.Proofs.Lays.n129 Try.prog Try.lays129_ren := {
  mixed := by kernel_rfl
  f129 := Try.func226.trans (congrArg some (by kernel_rfl))
  t3 := Try.underlying3
  a3 := Try.isAgg3
  z3 := Try.sizeOf3
  v3 := Try.zeroValue3
  t4 := Try.underlying4
  a4 := Try.isAgg4
  z4 := Try.sizeOf4
  v4 := Try.zeroValue4
  t5 := Try.underlying5
  a5 := Try.isAgg5
  z5 := Try.sizeOf5
  v5 := Try.zeroValue5
  t9 := Try.underlying9
  a9 := Try.isAgg9
  z9 := Try.sizeOf9
  v9 := Try.zeroValue9
  t46 := Try.underlying234
  a46 := Try.isAgg234
  z46 := Try.sizeOf234
  v46 := Try.zeroValue234
  t53 := Try.underlying22
  a53 := Try.isAgg22
  z53 := Try.sizeOf22
  v53 := Try.zeroValue22 }
theorem Try.bits_Len64 (x : Int) (w : World) (h0 : 0 ≤ x) (h1 : x ≤ 18446744073709551615) :
    Calls Try.prog 226 #[.int .u64 x] w fun e w' => e = .returned (.int .i64 (Lib.bitLen x.toNat)) ∧ w' = w := Any.bits_Len64 Try.lays129 x w h0 h1
def Try.lays264_ren : Go.Shelf.Ren := ⟨fun | 264 => 212 | n => n, fun | 53 => 22 | 46 => 234 | n => n, fun | n => n⟩
theorem Try.lays264 : Go.Proofs.Lays.n264 Try.prog Try.lays264_ren := {
  mixed := by kernel_rfl
  f264 := Try.func212.trans (congrArg some (by kernel_rfl))
  t46 := Try.underlying234
  a46 := Try.isAgg234
  z46 := Try.sizeOf234
  v46 := Try.zeroValue234
  t53 := Try.underlying22
  a53 := Try.isAgg22
  z53 := Try.sizeOf22
  v53 := Try.zeroValue22 }
open Go.RowKit Go.Lib in
theorem Try.bits_Mul64 (x y : Nat) (hx : x < 18446744073709551616) (hy : y < 18446744073709551616) (w : World) :
    Calls Try.prog 212 #[.int .u64 x, .int .u64 y] w fun e w' => e = .returned (.tuple #[.int .u64 ((x * y / 18446744073709551616 : Nat) : Int), .int .u64 ((x * y % 18446744073709551616 : Nat) : Int)]) ∧ w' = w := Any.bits_Mul64 Try.lays264 x y hx hy w
def Try.lays212_ren : Go.Shelf.Ren := ⟨fun | 212 => 180 | 263 => 211 | 264 => 212 | n => n, fun | 46 => 234 | 51 => 310 | 146 => 311 | 53 => 22 | 148 => 235 | n => n, fun | n => n⟩
theorem Try.lays212 : Go.Proofs.Lays.n212 Try.prog Try.lays212_ren := {
  mixed := by kernel_rfl
  f212 := Try.func180.trans (congrArg some (by kernel_rfl))
  f263 := Try.func211.trans (congrArg some (by kernel_rfl))
  f264 := Try.func212.trans (congrArg some (by kernel_rfl))
  t46 := Try.underlying234
  a46 := Try.isAgg234
  z46 := Try.sizeOf234
  v46 := Try.zeroValue234
  t51 := Try.underlying310
  a51 := Try.isAgg310
  z51 := Try.sizeOf310
  v51 := Try.zeroValue310
  t53 := Try.underlying22
  a53 := Try.isAgg22
  z53 := Try.sizeOf22
  v53 := Try.zeroValue22
  t146 := Try.underlying311
  a146 := Try.isAgg311
  z146 := Try.sizeOf311
  v146 := Try.zeroValue311
  t148 := Try.underlying235
  a148 := Try.isAgg235
  z148 := Try.sizeOf235
  v148 := Try.zeroValue235 }
open Go.RowKit Go.Lib in
theorem Try.bits_Mul (x y : Nat) (hx : x < 18446744073709551616) (hy : y < 18446744073709551616) (w : World) :
    Calls Try.prog 180 #[.int .u64 x, .int .u64 y] w fun e w' => e = .returned (.tuple #[.int .u64 ((x * y / 18446744073709551616 : Nat) : Int), .int .u64 ((x * y % 18446744073709551616 : Nat) : Int)]) ∧ w' = w := Any.bits_Mul Try.lays212 x y hx hy w
def Try.lays108_ren : Go.Shelf.Ren := ⟨fun | 108 => 216 | n => n, fun | 28 => 44 | 3 => 3 | 0 => 0 | 4 => 4 | n => n, fun | n => n⟩
theorem Try.lays108 : Go.Proofs.Lays.n108 Try.prog Try.lays108_ren := {
  mixed := by kernel_rfl
  f108 := Try.func216.trans (congrArg some (by kernel_rfl))
  t0 := Try.underlying0
  a0 := Try.isAgg0
  z0 := Try.sizeOf0
  v0 := Try.zeroValue0
  t3 := Try.underlying3
  a3 := Try.isAgg3
  z3 := Try.sizeOf3
  v3 := Try.zeroValue3
  t4 := Try.underlying4
  a4 := Try.isAgg4
  z4 := Try.sizeOf4
  v4 := Try.zeroValue4
  t28 := Try.underlying44
  a28 := Try.isAgg44
  z28 := Try.sizeOf44
  v28 := Try.zeroValue44 }
open Go.Lib in
theorem Try.slices_Index_int (b off n c : Nat) (zs : List Int) (x : Int) (w : World) (hz : n ≤ zs.length) (hbig : n ≤ 9223372036854775807) (hc : ∀ j, j < zs.length → w.cell? ⟨b, off + j, none⟩ = some (.int .i64 (zs.getD j 0))) :
    Calls Try.prog 216 #[.slice (some ⟨b, off, none⟩) n c, .int .i64 x] w fun e w' => e = .returned (.int .i64 (Lib.idxOf (zs.take n) x)) ∧ w' = w := Any.slices_Index_int Try.lays108 b off n c zs x w hz hbig hc
open Go.Lib in
theorem Try.slices_Index_int_empty (a : Option Addr) (c : Nat) (x : Int) (w : World) :
    Calls Try.prog 216 #[.slice a 0 c, .int .i64 x] w fun e w' => e = .returned (.int .i64 (Lib.idxOf [] x)) ∧ w' = w := Any.slices_Index_int_empty Try.lays108 a c x w
def Try.lays107_ren : Go.Shelf.Ren := ⟨fun | 107 => 187 | 108 => 216 | n => n, fun | 28 => 44 | 3 => 3 | 4 => 4 | 0 => 0 | n => n, fun | n => n⟩
theorem Try.lays107 : Go.Proofs.Lays.n107 Try.prog Try.lays107_ren := {
  mixed := by kernel_rfl
  f107 := Try.func187.trans (congrArg some (by kernel_rfl))
  f108 := Try.func216.trans (congrArg some (by kernel_rfl))
  t0 := Try.underlying0
  a0 := Try.isAgg0
  z0 := Try.sizeOf0
  v0 := Try.zeroValue0
  t3 := Try.underlying3
  a3 := Try.isAgg3
  z3 := Try.sizeOf3
  v3 := Try.zeroValue3
  t4 := Try.underlying4
  a4 := Try.isAgg4
  z4 := Try.sizeOf4
  v4 := Try.zeroValue4
  t28 := Try.underlying44
  a28 := Try.isAgg44
  z28 := Try.sizeOf44
  v28 := Try.zeroValue44 }
open Go.Lib in
theorem Try.slices_Contains_int (b off n c : Nat) (zs : List Int) (x : Int) (w : World) (hz : n ≤ zs.length) (hbig : n ≤ 9223372036854775807) (hc : ∀ j, j < zs.length → w.cell? ⟨b, off + j, none⟩ = some (.int .i64 (zs.getD j 0))) :
    Calls Try.prog 187 #[.slice (some ⟨b, off, none⟩) n c, .int .i64 x] w fun e w' => e = .returned (.bool ((zs.take n).contains x)) ∧ w' = w := Any.slices_Contains_int Try.lays107 b off n c zs x w hz hbig hc
open Go.Lib in
theorem Try.slices_Contains_int_empty (a : Option Addr) (c : Nat) (x : Int) (w : World) :
    Calls Try.prog 187 #[.slice a 0 c, .int .i64 x] w fun e w' => e = .returned (.bool false) ∧ w' = w := Any.slices_Contains_int_empty Try.lays107 a c x w
def Try.laysNm237_ren : Go.Shelf.Ren := ⟨fun | 37 => 190 | n => n, fun | 3 => 3 | 4 => 4 | n => n, fun | n => n⟩
theorem Try.laysNm237 : Go.Proofs.Lays2.n37 Try.prog Try.laysNm237_ren := {
  mixed := by kernel_rfl
  f37 := Try.func190.trans (congrArg some (by kernel_rfl))
  t3 := Try.underlying3
  a3 := Try.isAgg3
  z3 := Try.sizeOf3
  v3 := Try.zeroValue3
  t4 := Try.underlying4
  a4 := Try.isAgg4
  z4 := Try.sizeOf4
  v4 := Try.zeroValue4 }
open Go.RowKit Go.Lib in
theorem Try.cmp_isNaN_int2 (x : Int) (w : World) :
    Calls Try.prog 190 #[.int .i64 x] w fun e w' => e = .returned (.bool false) ∧ w' = w := Any.cmp_isNaN_int2 Try.laysNm237 x w
end Go.Proofs

namespace Go.Proofs.Ytonelibgaceflaa
open Go.ChangeShapes Go.WideShapes Go.ChangeAt Go.RowKit

theorem zeros64 (x y : Int) (w : World) (hx : 0 ≤ x ∧ x < 18446744073709551616) (hy : 0 ≤ y ∧ y < 18446744073709551616) :
    Calls Try.prog 257 #[.int .u64 (bits .xor .u64 x y)] w fun e w' => e = .returned (.int .i64 (wordAlike 64 x y)) ∧ w = w' := by
  have e : (2 : Int) ^ 64 = 18446744073709551616 := by decide
  have hl := xor_lt 64 x y (by omega) (by omega)
  have e2 : (2 : Nat) ^ 64 = 18446744073709551616 := by decide
  rw [u64_xor x y hx.1 hx.2 hy.1 hy.2]
  refine (Try.bits_LeadingZeros64 _ w (by omega) (by omega)).mono ?_
  rintro e w' ⟨rfl, rfl⟩
  exact ⟨ret_int (by unfold wordAlike; simp), rfl⟩
theorem zeros32 (x y : Int) (w : World) (hx : 0 ≤ x ∧ x < 4294967296) (hy : 0 ≤ y ∧ y < 4294967296) :
    Calls Try.prog 256 #[.int .u32 (bits .xor .u64 x y % 4294967296)] w fun e w' => e = .returned (.int .i64 (wordAlike 32 x y)) ∧ w = w' := by
  have e : (2 : Int) ^ 32 = 4294967296 := by decide
  have hl := xor_lt 32 x y (by omega) (by omega)
  have e2 : (2 : Nat) ^ 32 = 4294967296 := by decide
  rw [u64_xor x y hx.1 (by omega) hy.1 (by omega), show ((x.toNat ^^^ y.toNat : Nat) : Int) % 4294967296 = ((x.toNat ^^^ y.toNat : Nat) : Int) from by omega]
  refine (Try.bits_LeadingZeros32 _ w (by omega) (by omega)).mono ?_
  rintro e w' ⟨rfl, rfl⟩
  exact ⟨ret_int (by unfold wordAlike; simp), rfl⟩

set_option maxRecDepth 100000 in
set_option maxHeartbeats 400000 in
theorem alike_any (six six' : Bool) (hi lo hi' lo' : Int) (w : World) (h1 : 0 ≤ hi ∧ hi < 18446744073709551616) (h2 : 0 ≤ lo ∧ lo < 18446744073709551616) (h3 : 0 ≤ hi' ∧ hi' < 18446744073709551616) (h4 : 0 ≤ lo' ∧ lo' < 18446744073709551616)
    (hm : mayB six hi lo = true) (hm' : mayB six hi' lo' = true) :
    Calls Try.prog 241 #[.agg #[.bool six, .int .u64 hi, .int .u64 lo], .agg #[.bool six', .int .u64 hi', .int .u64 lo']] w fun e w' => e = .returned (.int .i64 (alikeI six hi lo hi' lo')) ∧ Below w.heap.size w w' := by
  have e : (2 : Int) ^ 64 = 18446744073709551616 := by decide
  have e2 : (2 : Int) ^ 32 = 4294967296 := by decide
  cases six
  · have q := mayB_four hm
    have q' := mayB_four hm'
    have HE : Hid (alikeI false hi lo hi' lo' = wordAlike 32 lo lo') := rfl
    have HC := Lib.hid (fun w => zeros32 lo lo' w ⟨h2.1, q.2⟩ ⟨h4.1, q'.2⟩)
    clear q q' hm hm' e e2
    go_enter Try.func241, Try.ntmps241
    go_wp2_with fail
    refine (HC.out _).mono ?_
    rintro e w' ⟨rfl, rfl⟩
    go_wp2
    go_ret
    exact ⟨ret_int HE.out.symm, ((Below.refl _ _).alloc (Nat.le_refl _) _).alloc (by simp) _⟩
  · by_cases hh : hi = hi'
    · have HE : Hid (alikeI true hi lo hi' lo' = 64 + wordAlike 64 lo lo') := by show alikeI true hi lo hi' lo' = _; unfold alikeI; rw [if_neg (by simp), if_pos hh]
      have hr := wordAlike_range 64 lo lo' (by omega) (by omega) (by omega)
      have hb : (hi != hi') = false := by simpa using hh
      have HC := Lib.hid (fun w => zeros64 lo lo' w h2 h4)
      generalize wordAlike 64 lo lo' = x at *
      clear hm hm' e e2 hh
      go_enter Try.func241, Try.ntmps241
      go_wp2_with fail
      refine (HC.out _).mono ?_
      rintro e w' ⟨rfl, rfl⟩
      go_wp2
      go_ret
      exact ⟨ret_int HE.out.symm, ((Below.refl _ _).alloc (Nat.le_refl _) _).alloc (by simp) _⟩
    · have HE : Hid (alikeI true hi lo hi' lo' = wordAlike 64 hi hi') := by show alikeI true hi lo hi' lo' = _; unfold alikeI; rw [if_neg (by simp), if_neg hh]
      have HC := Lib.hid (fun w => zeros64 hi hi' w h1 h3)
      have hb : (hi != hi') = true := by simpa using hh
      clear hm hm' e e2 hh
      go_enter Try.func241, Try.ntmps241
      go_wp2_with fail
      refine (HC.out _).mono ?_
      rintro e w' ⟨rfl, rfl⟩
      go_wp2
      go_ret
      exact ⟨ret_int HE.out.symm, ((Below.refl _ _).alloc (Nat.le_refl _) _).alloc (by simp) _⟩

end Go.Proofs.Ytonelibgaceflaa

namespace Go.Proofs.Ytonelibgaceflaa
open Go.ChangeShapes Go.WideShapes Go.ChangeAt Go.RowKit

def comN (k k' a : Int) : Int := min (min k k') a

set_option maxRecDepth 100000 in
set_option maxHeartbeats 800000 in
theorem common_bad (six : Bool) (hi lo k : Int) (six' : Bool) (hi' lo' k' : Int) (w : World) (h1 : 0 ≤ hi ∧ hi < 18446744073709551616) (h2 : 0 ≤ lo ∧ lo < 18446744073709551616) (h3 : 0 ≤ hi' ∧ hi' < 18446744073709551616) (h4 : 0 ≤ lo' ∧ lo' < 18446744073709551616) (hz : ¬ bothE six hi lo k six' hi' lo' k' = 0) :
    Calls Try.prog 202 #[.agg #[.bool six, .int .u64 hi, .int .u64 lo, .int .i64 k], .agg #[.bool six', .int .u64 hi', .int .u64 lo', .int .i64 k']] w fun e w' => e = .returned (.tuple #[ZP, .int .i64 (bothE six hi lo k six' hi' lo' k')]) ∧ Below w.heap.size w w' := by
  have c := fun w => both_any six hi lo k six' hi' lo' k' w h1 h2 h3 h4
  generalize bothE six hi lo k six' hi' lo' k' = z at *
  have CC := Lib.hid c
  have hb1 : (z == 0) = false := by simpa using hz
  have hb2 : (z != 0) = true := by simpa using hz
  clear c
  go_enter Try.func202, Try.ntmps202
  go_wp2_with fail
  refine (CC.out _).mono ?_
  rintro e w1 ⟨rfl, hb⟩
  obtain ⟨fc, ff⟩ := bcell hb
  obtain ⟨s1, s2, s3⟩ := bsize3 hb
  have HB := Lib.hid (balloc3 hb)
  clear hb
  go_wp2
  refine bodyPost_ret (v := .tuple #[ZP, .int .i64 z]) (by simp [results, Try.results202, go_sem, fc, ZP]) rfl ⟨rfl, ?_⟩
  (repeat' first | with_reducible exact HB.out | with_reducible exact Below.refl _ _ | with_reducible refine Below.drew ?_ | with_reducible refine below_drewN ?_ _ | with_reducible refine Below.setCell ?_ ?_ _ | with_reducible refine Below.alloc ?_ ?_ _ | (simp; done) | (simp; omega) | omega)

set_option maxRecDepth 100000 in
set_option maxHeartbeats 1600000 in
theorem common_ok (six : Bool) (hi lo k hi' lo' k' : Int) (w : World) (hp : Pfx six hi lo k) (hq : Pfx six hi' lo' k') (hz : bothE six hi lo k six hi' lo' k' = 0) :
    Calls Try.prog 202 #[.agg #[.bool six, .int .u64 hi, .int .u64 lo, .int .i64 k], (.agg #[.bool six, .int .u64 hi', .int .u64 lo', .int .i64 k'])] w fun e w' => e = .returned (.tuple #[.agg #[.bool six, .int .u64 (cutHi six hi (comN k k' (alikeI six hi lo hi' lo'))), .int .u64 (cutLo six lo (comN k k' (alikeI six hi lo hi' lo'))), .int .i64 (comN k k' (alikeI six hi lo hi' lo'))], .int .i64 0]) ∧ Below w.heap.size w w' := by
  have c := fun w => both_any six hi lo k six hi' lo' k' w hp.rhi hp.rlo hq.rhi hq.rlo
  rw [hz] at c
  have CC := Lib.hid c
  have CA := Lib.hid (fun w => alike_any six six hi lo hi' lo' w hp.rhi hp.rlo hq.rhi hq.rlo hp.may hq.may)
  have ra := alike_range six hi lo hi' lo' hp.rhi hp.rlo hq.rhi hq.rlo hp.may hq.may
  have HU := Lib.hid (fun n w h3 h4 => cut_any six hi lo n w hp.rhi hp.rlo (fun h => by subst h; exact (mayB_four hp.may).2) h3 h4)
  have hwl := wideI_le six
  have hkl := hp.len
  have hkl' := hq.len
  generalize alikeI six hi lo hi' lo' = a at *
  have hc : 0 ≤ comN k k' a ∧ comN k k' a ≤ 128 := by unfold comN; omega
  have hcm : Hid (comN k k' a = min (min k k') a) := rfl
  generalize comN k k' a = m at *
  clear c hz hp hq
  go_enter Try.func202, Try.ntmps202
  go_wp2_with fail
  refine (CC.out _).mono ?_
  rintro e w1 ⟨rfl, hb⟩
  obtain ⟨fc, ff⟩ := bcell hb
  obtain ⟨s1, s2, s3⟩ := bsize3 hb
  have HB := Lib.hid (balloc3 hb)
  clear hb
  go_wp2_with fail
  go_region_held3 (fun w' => (∀ b o, b < w1.heap.size → w'.cell? ⟨b, o, none⟩ = w1.cell? ⟨b, o, none⟩) ∧ w1.heap.size ≤ w'.heap.size ∧ Hid (Below w1.heap.size w1 w'))
  ((first | assumption | exact keep0 _ | exact keep1 (by assumption) (by assumption) | exact keepD (by assumption) | exact ⟨fun _ _ _ => rfl, Nat.le_refl _, Below.refl _ _⟩))
  (first | (go_at_call 241; refine (CA.out _).mono ?_; rintro e w2 ⟨rfl, hb2⟩))
  obtain ⟨fc2, z2, HB2⟩ : (∀ b o, b < w1.heap.size → w2.cell? ⟨b, o, none⟩ = w1.cell? ⟨b, o, none⟩) ∧ w1.heap.size ≤ w2.heap.size ∧ Hid (Below w1.heap.size w1 w2) := by assumption
  have ff2 := (bcell HB2.out).2
  have s4 : w.heap.size < w2.heap.size := by omega
  have s5 : w.heap.size + 1 < w2.heap.size := by omega
  have s6 : w.heap.size + 1 + 1 < w2.heap.size := by omega
  have hmin : (if a < if k' < k then k' else k then a else if k' < k then k' else k) = m := by rw [hcm.out]; split <;> split at * <;> omega
  rw [hmin]
  have HB3 := Lib.hid (below_step HB.out HB2.out)
  clear hmin
  go_wp2_with fail
  refine (HU.out m _ (by omega) (by omega)).mono ?_
  rintro e w3 ⟨rfl, hb⟩
  obtain ⟨fc3, ff3⟩ := bcell hb
  have s7 : w.heap.size + 1 + 1 < w3.heap.size := by have := hb.size; omega
  have HB4 := Lib.hid (below_step HB3.out hb)
  clear hb
  go_wp2
  refine bodyPost_ret (v := .tuple #[.agg #[.bool six, .int .u64 (cutHi six hi m), .int .u64 (cutLo six lo m), .int .i64 m], .int .i64 0]) ?_ rfl ⟨rfl, ?_⟩
  · simp [results, Try.results202, go_sem, fc3, fc2, fc, s3, s6]
  · (repeat' first | with_reducible exact HB4.out | with_reducible exact Below.refl _ _ | with_reducible refine Below.drew ?_ | with_reducible refine below_drewN ?_ _ | with_reducible refine Below.setCell ?_ ?_ _ | with_reducible refine Below.alloc ?_ ?_ _ | (simp; done) | (simp; omega) | omega)

end Go.Proofs.Ytonelibgaceflaa

namespace Go.Proofs.Ytonelibgaceflaa

/-- The first fault of a list, each element having one (0: none). -/
def firstF {α : Type} (f : α → Int) : List α → Int
  | [] => 0
  | r :: l => if f r = 0 then firstF f l else f r
def NoneTo {α : Type} (f : α → Int) (l : List α) (k : Nat) : Prop := firstF f (l.take k) = 0

theorem firstF_append {α : Type} (f : α → Int) : ∀ (a b : List α), firstF f a = 0 → firstF f (a ++ b) = firstF f b
  | [], _, _ => rfl
  | r :: a, b, h => by
    unfold firstF at h
    by_cases hf : f r = 0
    · rw [if_pos hf] at h
      rw [List.cons_append, show firstF f (r :: (a ++ b)) = if f r = 0 then firstF f (a ++ b) else f r from rfl, if_pos hf]
      exact firstF_append f a b h
    · rw [if_neg hf] at h
      exact absurd h hf
theorem firstF_at {α : Type} {f : α → Int} {l : List α} {k : Nat} {r : α} (h : NoneTo f l k) (hk : l[k]? = some r) (hf : ¬ f r = 0) : firstF f l = f r := by
  have e : l = l.take k ++ l.drop k := (List.take_append_drop k l).symm
  have hl : k < l.length := (List.getElem?_eq_some_iff.1 hk).1
  have e2 : l.drop k = r :: l.drop (k + 1) := by
    rw [List.drop_eq_getElem_cons hl]
    rw [List.getElem?_eq_getElem hl] at hk
    injection hk with hk
    rw [hk]
  rw [e, firstF_append _ _ _ h, e2]
  unfold firstF
  rw [if_neg hf]
theorem noneTo_succ {α : Type} {f : α → Int} {l : List α} {k : Nat} {r : α} (h : NoneTo f l k) (hk : l.take (k + 1) = l.take k ++ [r]) (hf : f r = 0) : NoneTo f l (k + 1) := by
  unfold NoneTo
  rw [hk, firstF_append _ _ _ h]
  unfold firstF
  rw [if_pos hf]
  rfl
theorem firstF_end {α : Type} {f : α → Int} {l : List α} {k : Nat} (h : NoneTo f l k) (hl : l.length = k) : firstF f l = 0 := by
  unfold NoneTo at h
  rwa [← hl, List.take_length] at h

theorem fault_here {α : Type} {f : α → Int} {l : List α} {k : Nat} {x : α} {v u r : Int} (h : NoneTo f l k) (hk : l[k]? = some x) (hf : f x = u) (hr : r = firstF f l) (hu : u = v) (hv : ¬ v = 0) : v = r := by
  rw [hr, firstF_at h hk (by rw [hf, hu]; exact hv), hf, hu]

/-! The same by places. -/
theorem range_at {n k : Nat} (h : k < n) : (List.range n)[k]? = some k := List.getElem?_range h
theorem range_take {n k : Nat} (h : k < n) : (List.range n).take (k + 1) = (List.range n).take k ++ [k] := by
  rw [List.take_add_one, range_at h]
  rfl
end Go.Proofs.Ytonelibgaceflaa

namespace Go.Proofs.Ytonelibgaceflaa

structure RouteV where
  p : PV
  hop : Int

structure RouteV.Ok (r : RouteV) : Prop where
  a : 0 ≤ r.p.hi ∧ r.p.hi < 18446744073709551616
  b : 0 ≤ r.p.lo ∧ r.p.lo < 18446744073709551616
  c : -9223372036854775808 ≤ r.p.n ∧ r.p.n ≤ 9223372036854775807
  d : -9223372036854775808 ≤ r.hop ∧ r.hop ≤ 9223372036854775807

def PV.chk (p : PV) : Int := Go.Proofs.Ytonelibgaceflaa.chk p.six p.hi p.lo p.n
def hasR (l : List RouteV) (p : PV) : Bool := l.any (fun r => decide (r.p = p))
/-- The fault of a route behind some others. -/
def routeF (before : List RouteV) (p : PV) (hop : Int) : Int :=
  if ¬ p.chk = 0 then p.chk else if hop < 1 ∨ 999 < hop then 2 else if hasR before p = true then 8 else 0
def routeAt (l : List RouteV) (i : Nat) : Int := match l[i]? with
  | some s => routeF (l.take i) s.p s.hop
  | none => 0
/-- The first fault of a list of routes. -/
def routesE (l : List RouteV) : Int := firstF (routeAt l) (List.range l.length)
def routesF (l : List RouteV) : Int := if 60 < l.length then 1 else routesE l

/-- The hop of a prefix. -/
def getR : List RouteV → PV → Int
  | [], _ => 0
  | r :: l, p => if r.p = p then r.hop else getR l p
/-- Routes that may be, no prefix twice. -/
def Valid (l : List RouteV) : Prop := (∀ r ∈ l, r.p.Ok ∧ 1 ≤ r.hop ∧ r.hop ≤ 999) ∧ (l.map RouteV.p).Nodup

theorem getR_none {l : List RouteV} {p : PV} (h : hasR l p = false) : getR l p = 0 := by
  induction l with
  | nil => rfl
  | cons r l ih =>
    unfold hasR at h
    simp only [List.any_cons, Bool.or_eq_false_iff, decide_eq_false_iff_not] at h
    unfold getR
    rw [if_neg h.1]
    exact ih h.2
theorem getR_some {l : List RouteV} {p : PV} (hv : ∀ r ∈ l, 1 ≤ r.hop) (h : hasR l p = true) : ¬ getR l p = 0 := by
  induction l with
  | nil => simp [hasR] at h
  | cons r l ih =>
    unfold getR
    by_cases hp : r.p = p
    · rw [if_pos hp]; have := hv r (by simp); omega
    · rw [if_neg hp]
      unfold hasR at h
      simp only [List.any_cons, Bool.or_eq_true, decide_eq_true_eq] at h
      rcases h with h | h
      · exact absurd h hp
      · exact ih (fun r hr => hv r (by simp [hr])) h
theorem getR_snoc {l : List RouteV} {p p' : PV} {hop : Int} (h : hasR l p = false) : getR (l ++ [⟨p, hop⟩]) p' = if p' = p then hop else getR l p' := by
  induction l with
  | nil =>
    show (if p = p' then hop else getR [] p') = _
    by_cases e : p' = p
    · rw [if_pos e, if_pos e.symm]
    · have e' : ¬ p = p' := fun h => e h.symm
      rw [if_neg e, if_neg e']
  | cons r l ih =>
    unfold hasR at h
    simp only [List.any_cons, Bool.or_eq_false_iff, decide_eq_false_iff_not] at h
    show (if r.p = p' then r.hop else getR (l ++ [⟨p, hop⟩]) p') = _
    rw [ih h.2]
    conv => rhs; unfold getR
    by_cases e : r.p = p'
    · have : ¬ p' = p := fun h' => h.1 (e.trans h')
      rw [if_pos e, if_neg this, if_pos e]
    · rw [if_neg e, if_neg e]
theorem valid_snoc {l : List RouteV} {p : PV} {hop : Int} (hv : Valid l) (hp : p.Ok) (hh : 1 ≤ hop ∧ hop ≤ 999) (h : hasR l p = false) : Valid (l ++ [⟨p, hop⟩]) := by
  refine ⟨fun r hr => ?_, ?_⟩
  · rcases List.mem_append.1 hr with hr | hr
    · exact hv.1 r hr
    · simp at hr; subst hr; exact ⟨hp, hh.1, hh.2⟩
  · rw [List.map_append, List.nodup_append]
    refine ⟨hv.2, by simp, fun a ha b hb e => ?_⟩
    simp at hb
    subst hb
    subst e
    obtain ⟨r, hr, he⟩ := List.mem_map.1 ha
    unfold hasR at h
    rw [List.any_eq_false] at h
    exact h r hr (by simpa using he)

end Go.Proofs.Ytonelibgaceflaa

namespace Go.Proofs.Ytonelibgaceflaa
open Go.ChangeShapes Go.WideShapes Go.ChangeAt Go.RowKit

def RouteV.cells (r : RouteV) : List Value := [.bool r.p.six, .int .u64 r.p.hi, .int .u64 r.p.lo, .int .i64 r.p.n, .int .i64 r.hop]
theorem RouteV.cells_length (r : RouteV) : r.cells.length = 5 := rfl
/-- What is known of a slice of routes. -/
def IsRoutes (w : World) (A : Option Addr) (n c : Nat) (l : List RouteV) : Prop :=
  l.length = n ∧ (n ≤ c ∧ c ≤ maxLen) ∧ (∀ r ∈ l, r.Ok) ∧ Reads w w.heap.size 5 A n (l.flatMap RouteV.cells)
theorem IsRoutes.below {w w' : World} {A : Option Addr} {n c : Nat} {l : List RouteV} (h : IsRoutes w A n c l) (hb : Below w.heap.size w w') : IsRoutes w' A n c l :=
  ⟨h.1, h.2.1, h.2.2.1, (h.2.2.2.below hb).more hb.size⟩

set_option maxRecDepth 100000 in
theorem open_routes {H : Type} {enc : TypeId × Value → H} {W : World} {base : Nat} {sp : Nat → Bool} {held : Bool} {a0 : Option Addr} {len0 cap0 : Nat} {d : DataW H} {p : List MemPlace}
    (h : DataW.Trod enc Try.prog W base sp held 33 (.slice a0 len0 cap0) d p) : ∃ l : List RouteV, IsRoutes W a0 len0 cap0 l := by
  have hk : flat Try.prog 9 37 = some [none, some .u64, some .u64, some .i64, some .i64] := by kernel_rfl
  obtain ⟨css, hcl, hfit, hr, hl, hm⟩ := open_flats Try.underlying33 hk (by kernel_rfl) (by simp) h
  obtain ⟨l, rfl, hz⟩ := choose_list (f := RouteV.cells) (Q := RouteV.Ok) css (fun cs hc => by
    have hf := hfit cs hc
    clear hr hcl hfit
    obtain ⟨six, _, rfl, hf0⟩ := hf.bool_inv
    obtain ⟨hi, _, rfl, w1, hf1⟩ := hf0.int_inv
    obtain ⟨lo, _, rfl, w2, hf2⟩ := hf1.int_inv
    obtain ⟨n, _, rfl, w3, hf3⟩ := hf2.int_inv
    obtain ⟨hop, _, rfl, w4, hf4⟩ := hf3.int_inv
    obtain rfl := hf4.nil_inv
    exact ⟨⟨⟨six, hi, lo, n⟩, hop⟩, ⟨range_u64 w1, range_u64 w2, bounds_i64 w3, bounds_i64 w4⟩, rfl⟩)
  exact ⟨l, by simpa using hcl, ⟨hl, hm⟩, hz, by rw [List.flatMap_def]; exact hr⟩

/-- The table holds the routes. -/
def Holds (w : World) (B tb : Nat) (l : List RouteV) : Prop :=
  ∃ R c, Tab w B tb R c ∧ (∀ s, Inv s (fun _ => True) (R s)) ∧ (∀ p : PV, p.Ok → hopAt (R p.six) p = getR l p) ∧ c = l.length
theorem Holds.below {w w' : World} {B tb : Nat} {l : List RouteV} (h : Holds w B tb l) (hb : Below w.heap.size w w') : Holds w' B tb l := by
  obtain ⟨R, c, h1, h2⟩ := h
  exact ⟨R, c, h1.below hb, h2⟩
theorem holds_new (w : World) : Holds (w.alloc (.cells #[.pointer none, .pointer none, .int .i64 0] 241)) w.heap.size w.heap.size [] := by
  refine ⟨fun _ => .nil, 0, ⟨Blk.new _ _ _, Nat.le_refl _, fun _ => trivial, by simp [Tr.blocks]⟩, fun _ => trivial, fun _ _ => rfl, rfl⟩

theorem holds_put {w' : World} {B tb G1 G2 : Nat} {R : Bool → Tr} {c : Int} {l : List RouteV} {p : PV} {hop : Int} (hI : ∀ s, Inv s (fun _ => True) (R s)) (hm : ∀ p : PV, p.Ok → hopAt (R p.six) p = getR l p) (hc : c = l.length)
    (hp : p.Ok) (hh : 1 ≤ hop ∧ hop ≤ 999) (hn : hasR l p = false) (hT : Tab w' B tb (upd R p.six (putT p hop G1 G2 (R p.six))) (if hopAt (R p.six) p = 0 then c + 1 else c)) : Holds w' B tb (l ++ [⟨p, hop⟩]) := by
  rw [hm p hp, getR_none hn, if_pos rfl] at hT
  refine ⟨_, _, hT, fun s => ?_, fun p' hp' => ?_, by rw [hc]; simp⟩
  · unfold upd
    split
    · rename_i e; subst e
      exact inv_put hp rfl (by omega) _ _ (hI p.six) trivial (fun _ _ _ _ _ _ _ _ => trivial)
    · exact hI s
  · rw [getR_snoc hn]
    unfold upd
    by_cases e : p'.six = p.six
    · rw [if_pos e]
      have := hopAt_put (hop := hop) (G1 := G1) (G2 := G2) hp rfl p' hp' (R p.six) _ (hI p.six)
      rw [this, ← e, hm p' hp']
    · have e2 : ¬ p' = p := fun h => e (by rw [h])
      rw [if_neg e, if_neg e2]
      exact hm p' hp'

end Go.Proofs.Ytonelibgaceflaa

namespace Go.Proofs.Ytonelibgaceflaa
open Go.ChangeShapes Go.WideShapes Go.ChangeAt Go.RowKit

set_option maxRecDepth 100000 in
/-- '==' on addresses. -/
theorem eqAV (d : Nat) (six : Bool) (hi lo : Int) (six' : Bool) (hi' lo' : Int) (w : World) : (Op.equalIn (d + 1 + 1) 24 (.agg #[.bool six, .int .u64 hi, .int .u64 lo]) (.agg #[.bool six', .int .u64 hi', .int .u64 lo'])).run Try.prog w = .ok (six == six' && (hi == hi' && lo == lo')) w := by
  have hS : Try.prog.underlying 24 = some (.struct (Try.prog.fieldsOf 24)) := by kernel_rfl
  have hp : Try.prog.stoodInHeld 24 = false := by kernel_rfl
  rw [run_equalIn_agg w (d + 1) 24 _ _ hS hp]
  clear hS hp
  have a1 := Try.isAgg22
  have z1 := Try.sizeOf22
  have a2 := Try.isAgg4
  have z2 := Try.sizeOf4
  simp only [Program.fieldsOf, Try.underlying24]
  go_simp
  by_cases h1 : six = six' <;> by_cases h2 : hi = hi' <;> by_cases h3 : lo = lo' <;> simp [h1, h2, h3]

set_option maxRecDepth 100000 in
/-- '==' on prefixes. -/
theorem eqPVd (d : Nat) (p q : PV) (w : World) : (Op.equalIn (d + 1 + 1 + 1) 35 p.val q.val).run Try.prog w = .ok (decide (p = q)) w := by
  obtain ⟨six, hi, lo, n⟩ := p
  obtain ⟨six', hi', lo', n'⟩ := q
  have hS : Try.prog.underlying 35 = some (.struct (Try.prog.fieldsOf 35)) := by kernel_rfl
  have hp : Try.prog.stoodInHeld 35 = false := by kernel_rfl
  have inner := fun w => eqAV d six hi lo six' hi' lo' w
  have e : (decide ((⟨six, hi, lo, n⟩ : PV) = ⟨six', hi', lo', n'⟩)) = ((six == six' && (hi == hi' && lo == lo')) && n == n') := by
    rw [Bool.eq_iff_iff]
    simp
    constructor
    · rintro ⟨a, b, c, d⟩; exact ⟨⟨a, b, c⟩, d⟩
    · rintro ⟨⟨a, b, c⟩, d⟩; exact ⟨a, b, c, d⟩
  rw [e]
  unfold PV.val
  simp only
  rw [run_equalIn_agg w (d + 1 + 1) 35 _ _ hS hp]
  clear hS hp e
  generalize (six == six' && (hi == hi' && lo == lo')) = b at *
  have a1 := Try.isAgg24
  have z1 := Try.sizeOf24
  have a2 := Try.isAgg3
  have z2 := Try.sizeOf3
  simp only [Program.fieldsOf, Try.underlying35]
  go_simp
  cases b <;> by_cases h4 : n = n' <;> simp [h4]
theorem eqPV (p q : PV) (w : World) : (Op.equalIn 10000 35 p.val q.val).run Try.prog w = .ok (decide (p = q)) w := eqPVd 9997 p q w

def RouteV.val (r : RouteV) : Value := .agg #[.bool r.p.six, .int .u64 r.p.hi, .int .u64 r.p.lo, .int .i64 r.p.n, .int .i64 r.hop]
theorem RouteV.ext' {r r' : RouteV} (h1 : r.p = r'.p) (h2 : r.hop = r'.hop) : r = r' := by cases r; cases r'; simp_all
instance : DecidableEq RouteV := fun a b => decidable_of_iff (a.p = b.p ∧ a.hop = b.hop) ⟨fun h => RouteV.ext' h.1 h.2, fun h => by subst h; exact ⟨rfl, rfl⟩⟩
set_option maxRecDepth 100000 in
/-- '==' on routes. -/
theorem eqRV (r r' : RouteV) (w : World) : (Op.equalIn 10000 37 r.val r'.val).run Try.prog w = .ok (decide (r = r')) w := by
  obtain ⟨⟨six, hi, lo, n⟩, h⟩ := r
  obtain ⟨⟨six', hi', lo', n'⟩, h'⟩ := r'
  have hS : Try.prog.underlying 37 = some (.struct (Try.prog.fieldsOf 37)) := by kernel_rfl
  have hp : Try.prog.stoodInHeld 37 = false := by kernel_rfl
  have inner := fun w => eqPVd 9996 ⟨six, hi, lo, n⟩ ⟨six', hi', lo', n'⟩ w
  have e : (decide ((⟨⟨six, hi, lo, n⟩, h⟩ : RouteV) = ⟨⟨six', hi', lo', n'⟩, h'⟩)) = (decide ((⟨six, hi, lo, n⟩ : PV) = ⟨six', hi', lo', n'⟩) && h == h') := by
    rw [Bool.eq_iff_iff]
    simp
  rw [e]
  unfold RouteV.val
  unfold PV.val at inner
  simp only at inner ⊢
  rw [show (10000 : Nat) = 9999 + 1 from rfl, run_equalIn_agg w 9999 37 _ _ hS hp]
  clear hS hp e
  generalize decide ((⟨six, hi, lo, n⟩ : PV) = ⟨six', hi', lo', n'⟩) = b at *
  have a1 := Try.isAgg35
  have z1 := Try.sizeOf35
  have a2 := Try.isAgg3
  have z2 := Try.sizeOf3
  simp only [Program.fieldsOf, Try.underlying37]
  go_simp
  cases b <;> by_cases h4 : h = h' <;> simp [h4]

end Go.Proofs.Ytonelibgaceflaa
