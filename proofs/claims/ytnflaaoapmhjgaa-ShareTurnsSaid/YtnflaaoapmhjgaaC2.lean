/-
  
  
  
  
  
  
  
  
  
  
  
  
  
-/
import Derived.Test.YtnflaaoapmhjgaaC1
import Derived.Test.YtnflaaoapmhjgaaChecked
import Derived.Below
import Derived.Laws.OwnMore
import Derived.Deep.AppendLies
import Derived.Deep.Draws
import Derived.Laws.Rows
import Derived.Maps.AppendAt
import Derived.RegionTactic
import Derived.OwnWalk
import Derived.Laws.BitsAllLaws
namespace Go.Proofs.Ytnflaaoapmhjgaa
open Classical
set_option linter.unusedVariables false

/-- The aligned blocks of a set within the block of 2^k numbers at v: (start, exponent). -/
noncomputable def canon (S : Nat → Prop) : Nat → Nat → List (Nat × Nat)
  | 0, v => if S v then [(v, 0)] else []
  | k + 1, v => if ∀ x, v ≤ x → x < v + 2 ^ (k + 1) → S x then [(v, k + 1)] else canon S k v ++ canon S k (v + 2 ^ k)

theorem canon_full {S : Nat → Prop} {k v : Nat} (h : ∀ x, v ≤ x → x < v + 2 ^ k → S x) : canon S k v = [(v, k)] := by
  cases k with
  | zero => unfold canon; rw [if_pos (h v (Nat.le_refl _) (by simp))]
  | succ k => unfold canon; rw [if_pos h]
theorem canon_none {S : Nat → Prop} : ∀ {k v : Nat}, (∀ x, v ≤ x → x < v + 2 ^ k → ¬ S x) → canon S k v = []
  | 0, v, h => by unfold canon; rw [if_neg (h v (Nat.le_refl _) (by simp))]
  | k + 1, v, h => by
    have hp := Nat.two_pow_pos k
    have he : 2 ^ (k + 1) = 2 ^ k + 2 ^ k := by rw [Nat.pow_succ]; omega
    unfold canon
    rw [if_neg (fun hx => h v (Nat.le_refl _) (by omega) (hx v (Nat.le_refl _) (by omega))), canon_none (fun x h1 h2 => h x h1 (by omega)), canon_none (fun x h1 h2 => h x (by omega) (by omega))]
    rfl
theorem canon_split {S : Nat → Prop} {k v : Nat} (h : ¬ ∀ x, v ≤ x → x < v + 2 ^ (k + 1) → S x) : canon S (k + 1) v = canon S k v ++ canon S k (v + 2 ^ k) := by
  conv => lhs; unfold canon
  rw [if_neg h]
theorem canon_congr {S T : Nat → Prop} : ∀ {k v : Nat}, (∀ x, v ≤ x → x < v + 2 ^ k → (S x ↔ T x)) → canon S k v = canon T k v
  | 0, v, h => by unfold canon; rw [show S v = T v from propext (h v (Nat.le_refl _) (by simp))]
  | k + 1, v, h => by
    have hp := Nat.two_pow_pos k
    have he : 2 ^ (k + 1) = 2 ^ k + 2 ^ k := by rw [Nat.pow_succ]; omega
    unfold canon
    rw [canon_congr (S := S) (T := T) (k := k) (v := v) (fun x h1 h2 => h x h1 (by omega)), canon_congr (S := S) (T := T) (k := k) (v := v + 2 ^ k) (fun x h1 h2 => h x (by omega) (by omega))]
    have : (∀ x, v ≤ x → x < v + 2 ^ (k + 1) → S x) = (∀ x, v ≤ x → x < v + 2 ^ (k + 1) → T x) := propext ⟨fun hx x h1 h2 => (h x h1 h2).1 (hx x h1 h2), fun hx x h1 h2 => (h x h1 h2).2 (hx x h1 h2)⟩
    simp only [this]
/-- A single block comes of the whole alone. -/
theorem canon_single {S : Nat → Prop} : ∀ {k v : Nat}, canon S k v = [(v, k)] → ∀ x, v ≤ x → x < v + 2 ^ k → S x
  | 0, v, h, x, h1, h2 => by
    unfold canon at h
    obtain rfl : x = v := by simp at h2; omega
    by_cases hx : S x
    · exact hx
    · rw [if_neg hx] at h; cases h
  | k + 1, v, h, x, h1, h2 => by
    unfold canon at h
    by_cases hx : ∀ x, v ≤ x → x < v + 2 ^ (k + 1) → S x
    · exact hx x h1 h2
    · rw [if_neg hx] at h
      exfalso
      have key : ∀ (S : Nat → Prop) (k v : Nat), ∀ b ∈ canon S k v, b.2 ≤ k := by
        intro S k
        induction k with
        | zero => intro v b hb; unfold canon at hb; split at hb <;> simp at hb; subst hb; simp
        | succ k ih =>
          intro v b hb
          unfold canon at hb
          split at hb
          · simp at hb; subst hb; simp
          · rcases List.mem_append.1 hb with hb | hb
            · exact Nat.le_succ_of_le (ih _ _ hb)
            · exact Nat.le_succ_of_le (ih _ _ hb)
      have hm : (v, k + 1) ∈ canon S k v ++ canon S k (v + 2 ^ k) := by rw [h]; simp
      rcases List.mem_append.1 hm with hm | hm
      · have := key _ _ _ _ hm; simp only at this; omega
      · have := key _ _ _ _ hm; simp only at this; omega

theorem aligned_eq {K a v : Nat} (ha : 2 ^ K ∣ a) (hv : 2 ^ K ∣ v) (h1 : v ≤ a) (h2 : a < v + 2 ^ K) : a = v := by
  obtain ⟨x, rfl⟩ := ha
  obtain ⟨y, rfl⟩ := hv
  have hp := Nat.two_pow_pos K
  have : y ≤ x := Nat.le_of_mul_le_mul_left h1 hp
  have : x < y + 1 := by
    have h3 : 2 ^ K * x < 2 ^ K * (y + 1) := by rw [Nat.mul_succ]; exact h2
    exact Nat.lt_of_mul_lt_mul_left h3
  have : x = y := by omega
  rw [this]
theorem pow_dvd_le {i j a : Nat} (h : 2 ^ j ∣ a) (hij : i ≤ j) : 2 ^ i ∣ a := Nat.dvd_trans (Nat.pow_dvd_pow 2 hij) h
/-- An aligned block at a below m stays below m, where m is aligned as well or better. -/
theorem aligned_below {k K a m : Nat} (ha : 2 ^ k ∣ a) (hm : 2 ^ K ∣ m) (hk : k ≤ K) (h : a < m) : a + 2 ^ k ≤ m := by
  obtain ⟨x, rfl⟩ := ha
  obtain ⟨y, rfl⟩ := pow_dvd_le hm hk
  have hp := Nat.two_pow_pos k
  have : x < y := Nat.lt_of_mul_lt_mul_left h
  calc 2 ^ k * x + 2 ^ k = 2 ^ k * (x + 1) := by rw [Nat.mul_succ]
    _ ≤ 2 ^ k * y := Nat.mul_le_mul_left _ this

def InI (a b : Nat) : Nat → Prop := fun x => a ≤ x ∧ x ≤ b

/-- The greatest aligned block at an interval's start is the first of its blocks. -/
theorem canon_step : ∀ (K : Nat) {v a b k : Nat}, 2 ^ K ∣ v → v ≤ a → a < v + 2 ^ K → a ≤ b → k ≤ K → 2 ^ k ∣ a → a + 2 ^ k ≤ b + 1 → (k = K ∨ ¬ (2 ^ (k + 1) ∣ a ∧ a + 2 ^ (k + 1) ≤ b + 1)) →
    canon (InI a b) K v = (a, k) :: canon (InI (a + 2 ^ k) b) K v := by
  intro K
  induction K with
  | zero =>
    intro v a b k hv h1 h2 hab hk ha hb hmax
    obtain rfl : k = 0 := by omega
    obtain rfl : a = v := by simp at h2; omega
    unfold canon
    rw [if_pos ⟨Nat.le_refl _, hab⟩, if_neg (fun h => by have := h.1; simp at this; omega)]
  | succ K ih =>
    intro v a b k hv h1 h2 hab hk ha hb hmax
    have hp := Nat.two_pow_pos K
    have he : 2 ^ (K + 1) = 2 ^ K + 2 ^ K := by rw [Nat.pow_succ]; omega
    have hpk := Nat.two_pow_pos k
    by_cases hin : ∀ x, v ≤ x → x < v + 2 ^ (K + 1) → InI a b x
    · obtain rfl : a = v := by have := (hin v (Nat.le_refl _) (by omega)).1; omega
      have hend := (hin (a + 2 ^ (K + 1) - 1) (by omega) (by omega)).2
      have hkK : k = K + 1 := by
        rcases hmax with h | h
        · exact h
        · apply Classical.byContradiction
          intro hne
          exact h ⟨pow_dvd_le hv (by omega), by have := Nat.pow_le_pow_right (n := 2) (by omega) (show k + 1 ≤ K + 1 by omega); omega⟩
      subst hkK
      rw [canon_full hin, canon_none (fun x hx1 hx2 hx => by have := hx.1; omega)]
    · have hne : k ≤ K := by
        apply Classical.byContradiction
        intro hgt
        obtain rfl : k = K + 1 := by omega
        obtain rfl := aligned_eq ha hv h1 h2
        exact hin fun x hx1 hx2 => ⟨hx1, by omega⟩
      have hmax' : k = K ∨ ¬ (2 ^ (k + 1) ∣ a ∧ a + 2 ^ (k + 1) ≤ b + 1) := by
        rcases hmax with h | h
        · omega
        · exact .inr h
      have hin2 : ¬ ∀ x, v ≤ x → x < v + 2 ^ (K + 1) → InI (a + 2 ^ k) b x := fun h => by have := (h v (Nat.le_refl _) (by omega)).1; omega
      rw [canon_split hin, canon_split hin2]
      have hm : 2 ^ K ∣ v + 2 ^ K := Nat.dvd_add (pow_dvd_le hv (by omega)) (Nat.dvd_refl _)
      by_cases ham : a < v + 2 ^ K
      · have hle := aligned_below ha hm hne ham
        rw [ih (pow_dvd_le hv (by omega)) h1 ham hab hne ha hb hmax', List.cons_append]
        congr 2
        exact canon_congr fun x hx1 hx2 => ⟨fun h => ⟨by omega, h.2⟩, fun h => ⟨by have := h.1; omega, h.2⟩⟩
      · rw [canon_none (S := InI a b) (k := K) (v := v) (fun x hx1 hx2 h => by have := h.1; omega), canon_none (S := InI (a + 2 ^ k) b) (k := K) (v := v) (fun x hx1 hx2 h => by have := h.1; omega),
          ih hm (by omega) (by omega) hab hne ha hb hmax']
        rfl

/-- Intervals in order, with a gap between each and the next. -/
def Apart : List (Nat × Nat) → Prop
  | [] => True
  | s :: l => s.1 ≤ s.2 ∧ (∀ t ∈ l, s.2 + 1 < t.1) ∧ Apart l
def InL (l : List (Nat × Nat)) : Nat → Prop := fun x => ∃ s ∈ l, InI s.1 s.2 x

theorem apart_one : ∀ {l : List (Nat × Nat)} {v m : Nat}, Apart l → 0 < m → (∀ x, v ≤ x → x < v + m → InL l x) → ∃ s ∈ l, ∀ x, v ≤ x → x < v + m → InI s.1 s.2 x
  | [], v, m, _, hm, h => by obtain ⟨s, hs, _⟩ := h v (Nat.le_refl _) (by omega); cases hs
  | s :: l, v, m, ⟨h1, h2, h3⟩, hm, h => by
    by_cases hv : v ≤ s.2
    · refine ⟨s, by simp, fun x hx1 hx2 => ?_⟩
      have hlow : s.1 ≤ v := by
        obtain ⟨t, ht, hi⟩ := h v (Nat.le_refl _) (by omega)
        rcases List.mem_cons.1 ht with rfl | ht
        · exact hi.1
        · have := h2 t ht; have := hi.1; omega
      refine ⟨by omega, ?_⟩
      apply Classical.byContradiction
      intro hgt
      obtain ⟨t, ht, hi⟩ := h (s.2 + 1) (by omega) (by omega)
      rcases List.mem_cons.1 ht with rfl | ht
      · have := hi.2; omega
      · have := h2 t ht; have := hi.1; omega
    · obtain ⟨t, ht, hi⟩ := apart_one (l := l) (v := v) (m := m) h3 hm (fun x hx1 hx2 => by
        obtain ⟨t, ht, hi⟩ := h x hx1 hx2
        rcases List.mem_cons.1 ht with rfl | ht
        · have := hi.2; omega
        · exact ⟨t, ht, hi⟩)
      exact ⟨t, by simp [ht], hi⟩
theorem apart_tail {s : Nat × Nat} {l : List (Nat × Nat)} (h : Apart (s :: l)) : Apart l := h.2.2
theorem inL_cons {s : Nat × Nat} {l : List (Nat × Nat)} {x : Nat} : InL (s :: l) x ↔ InI s.1 s.2 x ∨ InL l x := by
  unfold InL; simp

/-- The blocks of intervals that lie apart are those of each, one behind another. -/
theorem canon_apart : ∀ (K v : Nat) (l : List (Nat × Nat)), Apart l → canon (InL l) K v = l.flatMap fun s => canon (InI s.1 s.2) K v := by
  intro K
  induction K with
  | zero =>
    intro v l hl
    induction l with
    | nil => unfold canon; rw [if_neg (fun h => by obtain ⟨s, hs, _⟩ := h; cases hs)]; rfl
    | cons s l ih =>
      rw [List.flatMap_cons, ← ih hl.2.2]
      unfold canon
      by_cases hs : InI s.1 s.2 v
      · rw [if_pos (inL_cons.2 (.inl hs)), if_pos hs, if_neg (fun h => by obtain ⟨t, ht, hi⟩ := h; have := hl.2.1 t ht; have := hi.1; have := hs.2; omega)]
        rfl
      · rw [if_neg hs]
        by_cases hl' : InL l v
        · rw [if_pos (inL_cons.2 (.inr hl')), if_pos hl']; rfl
        · rw [if_neg (fun h => (inL_cons.1 h).elim hs hl'), if_neg hl']; rfl
  | succ K ihK =>
    intro v l hl
    have hp := Nat.two_pow_pos K
    have he : 2 ^ (K + 1) = 2 ^ K + 2 ^ K := by rw [Nat.pow_succ]; omega
    by_cases hall : ∀ x, v ≤ x → x < v + 2 ^ (K + 1) → InL l x
    · rw [canon_full hall]
      have key : ∀ l : List (Nat × Nat), Apart l → (∃ s ∈ l, ∀ x, v ≤ x → x < v + 2 ^ (K + 1) → InI s.1 s.2 x) → (l.flatMap fun s => canon (InI s.1 s.2) (K + 1) v) = [(v, K + 1)] := by
        intro l
        induction l with
        | nil => intro _ h; obtain ⟨s, hs, _⟩ := h; cases hs
        | cons s l ih =>
          rintro ⟨h1, h2, h3⟩ ⟨t, ht, hi⟩
          rw [List.flatMap_cons]
          rcases List.mem_cons.1 ht with rfl | ht'
          · rw [canon_full hi]
            have : (l.flatMap fun s => canon (InI s.1 s.2) (K + 1) v) = [] := by
              rw [List.flatMap_eq_nil_iff]
              intro u hu
              refine canon_none fun x hx1 hx2 hx => ?_
              have a1 := h2 u hu
              have a2 := hx.1
              have a3 := (hi x hx1 hx2).2
              omega
            rw [this]; rfl
          · rw [canon_none (S := InI s.1 s.2) (k := K + 1) (v := v) (fun x hx1 hx2 hx => by
              have a1 := h2 t ht'
              have a2 := hx.2
              have a3 := (hi x hx1 hx2).1
              omega), ih h3 ⟨t, ht', hi⟩]
            rfl
      exact (key l hl (apart_one hl (by omega) hall)).symm
    · rw [canon_split hall, ihK v l hl, ihK (v + 2 ^ K) l hl]
      have hone : ∀ s ∈ l, canon (InI s.1 s.2) (K + 1) v = canon (InI s.1 s.2) K v ++ canon (InI s.1 s.2) K (v + 2 ^ K) := by
        intro s hs
        exact canon_split fun h => hall fun x h1 h2 => ⟨s, hs, h x h1 h2⟩
      have key : ∀ l : List (Nat × Nat), Apart l → (l.flatMap fun s => canon (InI s.1 s.2) K v) ++ (l.flatMap fun s => canon (InI s.1 s.2) K (v + 2 ^ K)) = l.flatMap fun s => canon (InI s.1 s.2) K v ++ canon (InI s.1 s.2) K (v + 2 ^ K) := by
        intro l
        induction l with
        | nil => intro _; rfl
        | cons s l ih =>
          rintro ⟨h1, h2, h3⟩
          rw [List.flatMap_cons, List.flatMap_cons, List.flatMap_cons, ← ih h3]
          by_cases hs : s.2 < v + 2 ^ K
          · rw [canon_none (S := InI s.1 s.2) (k := K) (v := v + 2 ^ K) (fun x hx1 hx2 hx => by have := hx.2; omega)]
            simp
          · have : (l.flatMap fun s => canon (InI s.1 s.2) K v) = [] := by
              rw [List.flatMap_eq_nil_iff]
              intro u hu
              refine canon_none fun x hx1 hx2 hx => ?_
              have a1 := h2 u hu
              have a2 := hx.1
              omega
            rw [this]
            simp
      rw [key l hl]
      have : ∀ l' : List (Nat × Nat), (∀ s ∈ l', canon (InI s.1 s.2) (K + 1) v = canon (InI s.1 s.2) K v ++ canon (InI s.1 s.2) K (v + 2 ^ K)) → (l'.flatMap fun s => canon (InI s.1 s.2) K v ++ canon (InI s.1 s.2) K (v + 2 ^ K)) = l'.flatMap fun s => canon (InI s.1 s.2) (K + 1) v := by
        intro l' h
        induction l' with
        | nil => rfl
        | cons s l' ih => rw [List.flatMap_cons, List.flatMap_cons, h s (by simp), ih (fun s hs => h s (by simp [hs]))]
      exact this l hone

end Go.Proofs.Ytnflaaoapmhjgaa

namespace Go.Proofs.Ytnflaaoapmhjgaa
set_option linter.unusedVariables false

/-- An address. -/
structure AV where
  six : Bool
  hi : Int
  lo : Int
structure AV.Ok (a : AV) : Prop where
  rhi : 0 ≤ a.hi ∧ a.hi < 18446744073709551616
  rlo : 0 ≤ a.lo ∧ a.lo < 18446744073709551616
  may : mayB a.six a.hi a.lo = true
def AV.v (a : AV) : Nat := (valI a.six a.hi a.lo).toNat
def widN (six : Bool) : Nat := if six then 128 else 32
theorem widN_eq (six : Bool) : wideI six = (widN six : Int) := by cases six <;> rfl
theorem topI_eq (six : Bool) : topI six = ((2 ^ widN six : Nat) : Int) := by cases six <;> decide

def PV.a (p : PV) : AV := ⟨p.six, p.hi, p.lo⟩
def PV.v (p : PV) : Nat := p.a.v
def PV.k (p : PV) : Nat := (wideI p.six - p.n).toNat
theorem PV.Ok.addr {p : PV} (h : p.Ok) : p.a.Ok := ⟨Pfx.rhi h, Pfx.rlo h, Pfx.may h⟩
theorem PV.k_le {p : PV} (h : p.Ok) : p.k ≤ widN p.six ∧ p.n = (widN p.six : Int) - p.k := by
  have := ok_n h
  unfold PV.k
  rw [widN_eq] at *
  omega

theorem AV.v_val {a : AV} (h : a.Ok) : (a.v : Int) = valI a.six a.hi a.lo := by
  have := (valI_range a.six a.hi a.lo h.rhi h.rlo h.may).1
  unfold AV.v
  omega
theorem AV.v_lt {a : AV} (h : a.Ok) : a.v < 2 ^ widN a.six := by
  have := (valI_range a.six a.hi a.lo h.rhi h.rlo h.may).2
  rw [← AV.v_val h, topI_eq] at this
  omega
theorem AV.bitN {a : AV} (h : a.Ok) {i : Nat} (hi : i < widN a.six) : bitI a.six a.hi a.lo i = ((a.v / 2 ^ (widN a.six - 1 - i) % 2 : Nat) : Int) := by
  rw [valI_bit a.six a.hi a.lo i h.rhi h.rlo (widN_eq a.six) hi, ← AV.v_val h]
  simp
theorem AV.ext' {a b : AV} (h1 : a.six = b.six) (h2 : a.hi = b.hi) (h3 : a.lo = b.lo) : a = b := by cases a; cases b; simp_all
instance : DecidableEq AV := fun a b => decidable_of_iff (a.six = b.six ∧ a.hi = b.hi ∧ a.lo = b.lo)
  ⟨fun h => AV.ext' h.1 h.2.1 h.2.2, fun h => by subst h; exact ⟨rfl, rfl, rfl⟩⟩
theorem AV.v_inj {a b : AV} (ha : a.Ok) (hb : b.Ok) (h6 : a.six = b.six) (h : a.v = b.v) : a = b := by
  have h1 := AV.v_val ha
  have h2 := AV.v_val hb
  rw [h, h2] at h1
  obtain ⟨s, x, y⟩ := a
  obtain ⟨s', x', y'⟩ := b
  simp only at h6
  subst h6
  have r1 := ha.rhi
  have r2 := ha.rlo
  have r3 := hb.rhi
  have r4 := hb.rlo
  simp only at r1 r2 r3 r4 h1
  unfold valI at h1
  cases s
  · simp only [Bool.false_eq_true, ↓reduceIte] at h1
    have m1 := mayB_four ha.may
    have m2 := mayB_four hb.may
    simp only at m1 m2
    rw [h1, m1.1, m2.1]
  · simp only [↓reduceIte] at h1
    have : x = x' := by omega
    have : y = y' := by omega
    simp_all

theorem nat_div_ext {x y m k : Nat} (hx : x < 2 ^ m) (hy : y < 2 ^ m) (h : ∀ j, k ≤ j → j < m → x / 2 ^ j % 2 = y / 2 ^ j % 2) : x / 2 ^ k = y / 2 ^ k := by
  apply Nat.eq_of_testBit_eq
  intro i
  rw [Nat.testBit_div_two_pow, Nat.testBit_div_two_pow]
  by_cases hi : i + k < m
  · have := h (i + k) (by omega) hi
    rw [Nat.testBit_eq_decide_div_mod_eq, Nat.testBit_eq_decide_div_mod_eq]
    try rw [Nat.add_comm k i]
    rw [this]
  · have hm : 2 ^ m ≤ 2 ^ (k + i) := Nat.pow_le_pow_right (by omega) (by omega)
    have e1 : x.testBit (k + i) = false := Nat.testBit_lt_two_pow (by omega)
    have e2 : y.testBit (k + i) = false := Nat.testBit_lt_two_pow (by omega)
    simp only [Nat.add_comm k i] at e1 e2
    first | rw [e1, e2] | (rw [Nat.add_comm i k] at e1 e2; rw [e1, e2])
theorem div_block {x y k : Nat} (hx : 2 ^ k ∣ x) : x / 2 ^ k = y / 2 ^ k ↔ x ≤ y ∧ y < x + 2 ^ k := by
  obtain ⟨c, rfl⟩ := hx
  have hp := Nat.two_pow_pos k
  rw [Nat.mul_div_cancel_left c hp]
  have h1 := Nat.div_add_mod y (2 ^ k)
  have h2 := Nat.mod_lt y hp
  constructor
  · intro h
    rw [← h] at h1
    omega
  · rintro ⟨a, b⟩
    have h3 : 2 ^ k * c < 2 ^ k * (y / 2 ^ k + 1) := by rw [Nat.mul_succ]; omega
    have h4 : 2 ^ k * (y / 2 ^ k) < 2 ^ k * (c + 1) := by rw [Nat.mul_succ]; omega
    have := Nat.lt_of_mul_lt_mul_left h3
    have := Nat.lt_of_mul_lt_mul_left h4
    omega

/-- No bit behind n: the number is a multiple. -/
theorem clean_num {a : AV} (h : a.Ok) {n : Nat} (hn : n ≤ widN a.six) : cleanB a.six a.hi a.lo n = true ↔ 2 ^ (widN a.six - n) ∣ a.v := by
  rw [clean_iff a.six a.hi a.lo n h.rhi h.rlo h.may (by rw [widN_eq]; omega)]
  constructor
  · intro hc
    rw [Nat.dvd_iff_mod_eq_zero]
    have h0 : a.v % 2 ^ (widN a.six - n) = 0 := by
      apply Nat.eq_of_testBit_eq
      intro j
      rw [Nat.testBit_mod_two_pow, Nat.zero_testBit]
      by_cases hj : j < widN a.six - n
      · have := hc (widN a.six - 1 - j) (by omega) (by rw [widN_eq]; omega)
        rw [AV.bitN h (by omega), show widN a.six - 1 - (widN a.six - 1 - j) = j from by omega] at this
        rw [Nat.testBit_eq_decide_div_mod_eq]
        simp only [Bool.and_eq_false_iff, decide_eq_false_iff_not]
        right
        omega
      · simp [hj]
    exact h0
  · rintro ⟨c, hc⟩ i h1 h2
    rw [widN_eq] at h2
    have h2' : i < widN a.six := by omega
    rw [AV.bitN h h2', hc]
    have : widN a.six - n = (widN a.six - 1 - i) + (i - n + 1) := by omega
    rw [this, Nat.pow_add, Nat.mul_assoc, Nat.mul_div_cancel_left _ (Nat.two_pow_pos _), Nat.pow_succ, Nat.mul_comm (2 ^ (i - n)) 2, Nat.mul_assoc]
    omega
theorem chk_num {p : PV} (h : p.a.Ok) (hn : 0 ≤ p.n ∧ p.n ≤ wideI p.six) : Go.Proofs.Ytnflaaoapmhjgaa.chk p.six p.hi p.lo p.n = 0 ↔ 2 ^ p.k ∣ p.v := by
  obtain ⟨n, hn'⟩ : ∃ n : Nat, p.n = n := ⟨p.n.toNat, by omega⟩
  have hm := h.may
  have hw := widN_eq p.six
  have he : p.k = widN p.six - n := by unfold PV.k; omega
  have hc := clean_num h (n := n) (by show n ≤ widN p.six; omega)
  unfold chk
  simp only [PV.a] at hm
  rw [if_neg (by rw [hm]; simp), if_neg (by omega), he, hn']
  simp only [PV.a] at hc
  constructor
  · intro hx
    by_cases hcl : cleanB p.six p.hi p.lo n = true
    · exact hc.1 hcl
    · rw [if_neg hcl] at hx; omega
  · intro hx
    rw [if_pos (hc.2 hx)]
theorem PV.dvd {p : PV} (h : p.Ok) : 2 ^ p.k ∣ p.v := by
  have hk := PV.k_le h
  have hn := ok_n h
  obtain ⟨n, hn'⟩ : ∃ n : Nat, p.n = n := ⟨p.n.toNat, by omega⟩
  have hc := Pfx.clean h
  have he : p.k = widN p.six - n := by have := widN_eq p.six; unfold PV.k; omega
  rw [he]
  refine (clean_num h.addr (n := n) (by have := widN_eq p.six; show n ≤ widN p.six; omega)).1 ?_
  rw [← hn']
  exact hc
theorem PV.end_le {p : PV} (h : p.Ok) : p.v + 2 ^ p.k ≤ 2 ^ widN p.six :=
  aligned_below (PV.dvd h) (Nat.dvd_refl _) (PV.k_le h).1 (AV.v_lt h.addr)

/-- An address of a prefix is a number of its block. -/
theorem in_num {p : PV} {a : AV} (hp : p.Ok) (ha : a.Ok) : inB p.six p.hi p.lo p.n a.six a.hi a.lo = true ↔ p.six = a.six ∧ p.v ≤ a.v ∧ a.v < p.v + 2 ^ p.k := by
  have hn := ok_n hp
  have hd := PV.dvd hp
  have hk := PV.k_le hp
  have hpv := AV.v_lt hp.addr
  have hav := AV.v_lt ha
  obtain ⟨n, hn'⟩ : ∃ n : Nat, p.n = n := ⟨p.n.toNat, by omega⟩
  have hw := widN_eq p.six
  by_cases h6 : p.six = a.six
  · have hp' : Pfx p.six p.hi p.lo n := by rw [← hn']; exact hp
    have key := inB_iff (hi' := a.hi) (lo' := a.lo) hp' ha.rhi ha.rlo (by rw [h6]; exact ha.may)
    rw [hn', ← h6, key, ← div_block hd]
    simp only [true_and]
    have b1 := fun i (hi : i < widN p.six) => AV.bitN hp.addr (i := i) hi
    have b2 := fun i (hi : i < widN a.six) => AV.bitN ha (i := i) hi
    rw [← h6] at b2 hav
    simp only [PV.a] at b1 hpv
    have he : p.k = widN p.six - n := by unfold PV.k; omega
    constructor
    · intro h
      rw [he]
      refine nat_div_ext hpv hav fun j h1 h2 => ?_
      have := h (widN p.six - 1 - j) (by omega)
      rw [b1 _ (by omega), b2 _ (by omega), show widN p.six - 1 - (widN p.six - 1 - j) = j from by omega] at this
      have e : (AV.mk p.six p.hi p.lo).v = p.v := rfl
      rw [e] at this
      exact_mod_cast this
    · intro h i hi
      rw [b1 _ (by omega), b2 _ (by omega)]
      have e : (AV.mk p.six p.hi p.lo).v = p.v := rfl
      rw [e]
      have e2 : ∀ x : Nat, x / 2 ^ (widN p.six - 1 - i) = x / 2 ^ p.k / 2 ^ (n - 1 - i) := by
        intro x
        rw [Nat.div_div_eq_div_mul, ← Nat.pow_add]
        congr 2
        omega
      rw [e2, e2, h]
  · constructor
    · intro h
      unfold inB at h
      simp at h
      exact absurd h.1.symm h6
    · rintro ⟨h, _⟩
      exact absurd h h6

theorem over_num {p q : PV} (hp : p.Ok) (hq : q.Ok) : p.over q = true ↔ p.six = q.six ∧ p.v ≤ q.v ∧ q.v + 2 ^ q.k ≤ p.v + 2 ^ p.k := by
  unfold PV.over overB
  rw [Bool.and_eq_true, decide_eq_true_eq]
  have hi := in_num hp hq.addr
  have e : q.a.v = q.v := rfl
  simp only [PV.a] at hi
  rw [hi]
  show p.n ≤ q.n ∧ p.six = q.six ∧ p.v ≤ q.v ∧ q.v < p.v + 2 ^ p.k ↔ _
  have k1 := PV.k_le hp
  have k2 := PV.k_le hq
  have d1 := PV.dvd hp
  have d2 := PV.dvd hq
  have pk := Nat.two_pow_pos q.k
  constructor
  · rintro ⟨hn, h6, h1, h2⟩
    refine ⟨h6, h1, ?_⟩
    have hkk : q.k ≤ p.k := by rw [h6] at k1; omega
    exact aligned_below d2 (Nat.dvd_add d1 (Nat.dvd_refl _)) hkk h2
  · rintro ⟨h6, h1, h2⟩
    refine ⟨?_, h6, h1, by omega⟩
    rw [h6] at k1
    have : q.k ≤ p.k := by
      apply Classical.byContradiction
      intro hc
      have := Nat.pow_lt_pow_right (a := 2) (by omega) (show p.k < q.k by omega)
      omega
    omega

def PV.last (p : PV) : AV := ⟨p.six, lastHi p.six p.hi p.lo p.n, lastLo p.six p.hi p.lo p.n⟩
theorem PV.last_ok (p : PV) : p.last.Ok := ⟨(last_range p.six p.hi p.lo p.n).1, (last_range p.six p.hi p.lo p.n).2.1, (last_range p.six p.hi p.lo p.n).2.2⟩
theorem last_num {p : PV} (hp : p.Ok) : p.last.v = p.v + 2 ^ p.k - 1 := by
  have hl := PV.last_ok p
  have hn := ok_n hp
  have hk := PV.k_le hp
  have hw := widN_eq p.six
  have hd := PV.dvd hp
  obtain ⟨n, hn'⟩ : ∃ n : Nat, p.n = n := ⟨p.n.toNat, by omega⟩
  have he : p.k = widN p.six - n := by unfold PV.k; omega
  have hlv := AV.v_lt hl
  have hpv := AV.v_lt hp.addr
  have bl := fun i (hi : i < widN p.six) => AV.bitN hl (i := i) hi
  have bp := fun i (hi : i < widN p.six) => AV.bitN hp.addr (i := i) hi
  simp only [PV.last] at bl
  simp only [PV.a] at bp
  have e0 : (AV.mk p.six p.hi p.lo).v = p.v := rfl
  have e1 : (AV.mk p.six (lastHi p.six p.hi p.lo p.n) (lastLo p.six p.hi p.lo p.n)).v = p.last.v := rfl
  have hpp := Nat.two_pow_pos p.k
  -- the upper parts are alike
  have hup : p.v / 2 ^ p.k = p.last.v / 2 ^ p.k := by
    refine nat_div_ext hpv hlv fun j h1 h2 => ?_
    have h2 : j < widN p.six := h2
    have hb := last_bit p.six p.hi p.lo p.n (widN p.six - 1 - j) (by omega)
    rw [if_pos (by omega), bl _ (by omega), bp _ (by omega), show widN p.six - 1 - (widN p.six - 1 - j) = j from by omega, e0, e1] at hb
    omega
  -- the lower parts are all ones
  have hlo : p.last.v % 2 ^ p.k = 2 ^ p.k - 1 := by
    apply Nat.eq_of_testBit_eq
    intro j
    rw [Nat.testBit_mod_two_pow, Nat.testBit_two_pow_sub_one]
    by_cases hj : j < p.k
    · have hb := last_bit p.six p.hi p.lo p.n (widN p.six - 1 - j) (by omega)
      rw [if_neg (by omega), bl _ (by omega), show widN p.six - 1 - (widN p.six - 1 - j) = j from by omega, e1] at hb
      rw [Nat.testBit_eq_decide_div_mod_eq]
      simp [hj]
      omega
    · simp [hj]
  have h1 := Nat.div_add_mod p.last.v (2 ^ p.k)
  rw [← hup, hlo, Nat.mul_div_cancel' hd] at h1
  omega

def PV.low (p : PV) : PV := ⟨p.six, p.hi, p.lo, p.n + 1⟩
def PV.high (p : PV) : PV := ⟨p.six, setHi p.six p.hi p.n.toNat, setLo p.six p.lo p.n.toNat, p.n + 1⟩
theorem low_num {p : PV} (hp : p.Ok) (hn : p.n < wideI p.six) : p.low.Ok ∧ p.low.v = p.v ∧ p.k = p.low.k + 1 := by
  have h := ok_n hp
  have hk : p.k = p.low.k + 1 := by unfold PV.k PV.low; simp only; omega
  refine ⟨?_, rfl, hk⟩
  have : Go.Proofs.Ytnflaaoapmhjgaa.chk p.low.six p.low.hi p.low.lo p.low.n = 0 := (chk_num (p := p.low) hp.addr ⟨by show 0 ≤ p.n + 1; omega, by show p.n + 1 ≤ wideI p.six; omega⟩).2 (pow_dvd_le (j := p.k) (PV.dvd hp) (by omega))
  exact chk_zero (Pfx.rhi hp) (Pfx.rlo hp) this
theorem high_num {p : PV} (hp : p.Ok) (hn : p.n < wideI p.six) : p.high.Ok ∧ p.high.v = p.v + 2 ^ p.high.k ∧ p.k = p.high.k + 1 := by
  have h := ok_n hp
  have hk : p.k = p.high.k + 1 := by unfold PV.k PV.high; simp only; omega
  have hw := widN_eq p.six
  obtain ⟨n, hn'⟩ : ∃ n : Nat, p.n = n := ⟨p.n.toNat, by omega⟩
  have hr := set_range p.six p.hi p.lo n (Pfx.rhi hp) (Pfx.rlo hp) (Pfx.may hp) (by omega)
  have ha : p.high.a.Ok := by
    have e : p.n.toNat = n := by omega
    unfold PV.high PV.a
    simp only [e]
    exact ⟨hr.1, hr.2.1, hr.2.2⟩
  have hd := PV.dvd hp
  have hpv := AV.v_lt hp.addr
  have hhv := AV.v_lt ha
  have bp := fun i (hi : i < widN p.six) => AV.bitN hp.addr (i := i) hi
  have bh := fun i (hi : i < widN p.six) => AV.bitN ha (i := i) hi
  have hs : ∀ i : Nat, i < widN p.six → p.high.v / 2 ^ (widN p.six - 1 - i) % 2 = if i = n then 1 else p.v / 2 ^ (widN p.six - 1 - i) % 2 := by
    intro i hi
    have hb := set_bit p.six p.hi p.lo n i (Pfx.rhi hp) (Pfx.rlo hp) (by omega) (by omega)
    have h1 := bp i hi
    have h2 := bh i hi
    have e : p.n.toNat = n := by omega
    simp only [PV.high, PV.a, e] at h2
    simp only [PV.a] at h1
    rw [h1, h2] at hb
    have e1 : (AV.mk p.six (setHi p.six p.hi n) (setLo p.six p.lo n)).v = p.high.v := by unfold PV.high PV.v PV.a; simp only [e]
    have e0 : (AV.mk p.six p.hi p.lo).v = p.v := rfl
    rw [e0, e1] at hb
    by_cases hin : i = n
    · rw [if_pos hin] at hb ⊢; omega
    · rw [if_neg hin] at hb ⊢; omega
  have hk2 : p.high.k = widN p.six - 1 - n := by unfold PV.k PV.high; simp only; omega
  have hval : p.high.v = p.v + 2 ^ p.high.k := by
    have hlt : p.v + 2 ^ p.k ≤ 2 ^ widN p.six := PV.end_le hp
    have he : 2 ^ p.k = 2 ^ p.high.k + 2 ^ p.high.k := by rw [hk, Nat.pow_succ]; omega
    have hpp := Nat.two_pow_pos p.high.k
    have hsum : p.v + 2 ^ p.high.k = p.v ||| 2 ^ p.high.k := by
      obtain ⟨c, hc⟩ := hd
      rw [hk] at hc
      have : 2 ^ p.high.k < 2 ^ (p.high.k + 1) := by rw [Nat.pow_succ]; omega
      rw [hc, Nat.two_pow_add_eq_or_of_lt this c]
    rw [hsum]
    apply Nat.eq_of_testBit_eq
    intro j
    rw [Nat.testBit_or, Nat.testBit_two_pow]
    by_cases hj : j < widN p.six
    · have hb := hs (widN p.six - 1 - j) (by omega)
      rw [show widN p.six - 1 - (widN p.six - 1 - j) = j from by omega] at hb
      rw [Nat.testBit_eq_decide_div_mod_eq, Nat.testBit_eq_decide_div_mod_eq, hb]
      by_cases hjk : p.high.k = j
      · rw [if_pos (by omega)]; simp [hjk]
      · rw [if_neg (by omega)]; simp [hjk]
    · have hm : 2 ^ widN p.six ≤ 2 ^ j := Nat.pow_le_pow_right (by omega) (by omega)
      have e1 : p.high.v.testBit j = false := Nat.testBit_lt_two_pow (Nat.lt_of_lt_of_le hhv hm)
      have e2 : p.v.testBit j = false := Nat.testBit_lt_two_pow (Nat.lt_of_lt_of_le hpv hm)
      rw [e1, e2]
      have : ¬ p.high.k = j := by omega
      simp [this]
  refine ⟨?_, hval, hk⟩
  have : Go.Proofs.Ytnflaaoapmhjgaa.chk p.high.six p.high.hi p.high.lo p.high.n = 0 := by
    refine (chk_num (p := p.high) ha ⟨by show 0 ≤ p.n + 1; omega, by show p.n + 1 ≤ wideI p.six; omega⟩).2 ?_
    rw [hval]
    exact Nat.dvd_add (pow_dvd_le hd (by omega)) (Nat.dvd_refl _)
  exact chk_zero ha.rhi ha.rlo this

/-- The prefix of an aligned block. -/
def ofBlk (six : Bool) (b : Nat × Nat) : PV := ⟨six, if six then ((b.1 / 18446744073709551616 : Nat) : Int) else 0, if six then ((b.1 % 18446744073709551616 : Nat) : Int) else (b.1 : Int), (widN six : Int) - b.2⟩
theorem ofBlk_self {p : PV} (hp : p.Ok) : ofBlk p.six (p.v, p.k) = p := by
  have hk := PV.k_le hp
  have hv := AV.v_val hp.addr
  have r1 := Pfx.rhi hp
  have r2 := Pfx.rlo hp
  have hm := Pfx.may hp
  have e : (p.a.v : Int) = (p.v : Int) := rfl
  rw [e] at hv
  obtain ⟨six, hi, lo, n⟩ := p
  unfold ofBlk
  simp only [PV.a] at hv hk r1 r2 hm ⊢
  unfold valI at hv
  cases six
  · have := mayB_four hm
    simp only [Bool.false_eq_true, ↓reduceIte] at hv ⊢
    exact PV.ext' rfl this.1.symm hv (by simp only; omega)
  · simp only [↓reduceIte] at hv ⊢
    exact PV.ext' rfl (by simp only; omega) (by simp only; omega) (by simp only; omega)

/-- One stands ahead of another of its family by its number. -/
def lessB (a b : AV) : Bool := if a.six = b.six then decide (a.hi < b.hi) || (decide (a.hi = b.hi) && decide (a.lo < b.lo)) else b.six
theorem less_num {a b : AV} (ha : a.Ok) (hb : b.Ok) (h6 : a.six = b.six) : lessB a b = true ↔ a.v < b.v := by
  have h1 := AV.v_val ha
  have h2 := AV.v_val hb
  have r1 := ha.rhi
  have r2 := ha.rlo
  have r3 := hb.rhi
  have r4 := hb.rlo
  have m1 := ha.may
  have m2 := hb.may
  unfold lessB
  rw [if_pos h6]
  simp only [Bool.or_eq_true, Bool.and_eq_true, decide_eq_true_eq]
  obtain ⟨s, x, y⟩ := a
  obtain ⟨s', x', y'⟩ := b
  simp only at *
  subst h6
  unfold valI at h1 h2
  cases s
  · have := mayB_four m1
    have := mayB_four m2
    simp only [Bool.false_eq_true, ↓reduceIte] at h1 h2
    omega
  · simp only [↓reduceIte] at h1 h2
    omega

def AV.plus (a : AV) (by' : Int) : AV := ⟨a.six, plusHi a.hi a.lo by', plusLo a.hi a.lo by'⟩
theorem up_num {a : AV} (ha : a.Ok) : (plusOk a.six a.hi a.lo 1 = true ↔ a.v + 1 < 2 ^ widN a.six) ∧ (plusOk a.six a.hi a.lo 1 = true → (a.plus 1).Ok ∧ (a.plus 1).v = a.v + 1) := by
  have h := plusOk_iff a.six a.hi a.lo 1 ha.rhi ha.rlo ha.may (by omega)
  have hv := AV.v_val ha
  rw [topI_eq, ← hv] at h
  constructor
  · rw [h]; omega
  · intro hok
    have hp := plus_val a.six a.hi a.lo 1 ha.rhi ha.rlo ha.may hok
    have hr := plus_range a.hi a.lo 1
    have hok2 : (a.plus 1).Ok := ⟨hr.1, hr.2, hp.2⟩
    refine ⟨hok2, ?_⟩
    have := AV.v_val hok2
    simp only [AV.plus] at this ⊢
    rw [hp.1] at this
    omega
theorem down_num {a : AV} (ha : a.Ok) (hv0 : 0 < a.v) : (a.plus (-1)).Ok ∧ (a.plus (-1)).v = a.v - 1 := by
  have h := plusOk_iff a.six a.hi a.lo (-1) ha.rhi ha.rlo ha.may (by omega)
  have hv := AV.v_val ha
  have hlt := AV.v_lt ha
  rw [topI_eq, ← hv] at h
  have hok := h.2 (by omega)
  have hp := plus_val a.six a.hi a.lo (-1) ha.rhi ha.rlo ha.may hok
  have hr := plus_range a.hi a.lo (-1)
  have hok2 : (a.plus (-1)).Ok := ⟨hr.1, hr.2, hp.2⟩
  refine ⟨hok2, ?_⟩
  have := AV.v_val hok2
  simp only [AV.plus] at this ⊢
  rw [hp.1] at this
  omega

end Go.Proofs.Ytnflaaoapmhjgaa

namespace Go.Proofs.Ytnflaaoapmhjgaa

structure ActV where
  kind : Int
  p : PV
  hop : Int
  a : AV
structure AnsV where
  code : Int
  hop : Int
  len : Int

def delR (l : List RouteV) (p : PV) : List RouteV := l.filter fun r => decide (¬ r.p = p)
def setR (l : List RouteV) (p : PV) (hop : Int) : List RouteV := if hasR l p = true then l.map (fun r => if r.p = p then ⟨p, hop⟩ else r) else l ++ [⟨p, hop⟩]

theorem hasR_iff {l : List RouteV} {p : PV} : hasR l p = true ↔ ∃ r ∈ l, r.p = p := by
  unfold hasR
  simp [List.any_eq_true]
theorem hasR_get {l : List RouteV} {p : PV} (hv : ∀ r ∈ l, 1 ≤ r.hop) : hasR l p = true ↔ ¬ getR l p = 0 := by
  constructor
  · exact getR_some hv
  · intro h
    cases hh : hasR l p with
    | true => rfl
    | false => exact absurd (getR_none hh) h

theorem getR_del (l : List RouteV) (p p' : PV) : getR (delR l p) p' = if p' = p then 0 else getR l p' := by
  induction l with
  | nil => unfold delR getR; simp
  | cons r l ih =>
    unfold delR at ih ⊢
    rw [List.filter_cons]
    by_cases h : r.p = p
    · rw [if_neg (by simp [h]), ih]
      conv => rhs; rhs; unfold getR
      by_cases e : p' = p
      · rw [if_pos e, if_pos e]
      · rw [if_neg e, if_neg e, if_neg (fun h' => e (h'.symm.trans h))]
    · rw [if_pos (by simp [h])]
      show (if r.p = p' then r.hop else getR (l.filter _) p') = _
      rw [ih]
      conv => rhs; rhs; unfold getR
      by_cases e : r.p = p'
      · rw [if_pos e, if_neg (fun h' => h (e.trans h')), if_pos e]
      · rw [if_neg e, if_neg e]
theorem del_none {l : List RouteV} {p : PV} (h : hasR l p = false) : delR l p = l := by
  unfold delR
  refine List.filter_eq_self.2 fun r hr => ?_
  unfold hasR at h
  rw [List.any_eq_false] at h
  simpa using h r hr
theorem del_length {l : List RouteV} {p : PV} (hn : (l.map RouteV.p).Nodup) (h : hasR l p = true) : (delR l p).length + 1 = l.length := by
  induction l with
  | nil => simp [hasR] at h
  | cons r l ih =>
    rw [List.map_cons, List.nodup_cons] at hn
    by_cases e : r.p = p
    · have : hasR l p = false := by
        cases hh : hasR l p with
        | false => rfl
        | true =>
          obtain ⟨x, hx, hx2⟩ := hasR_iff.1 hh
          exact absurd (List.mem_map.2 ⟨x, hx, hx2.trans e.symm⟩) hn.1
      have hd := del_none this
      unfold delR at hd ⊢
      rw [List.filter_cons, if_neg (by simp [e]), hd, List.length_cons]
    · have h2 : hasR l p = true := by
        obtain ⟨x, hx, hx2⟩ := hasR_iff.1 h
        rcases List.mem_cons.1 hx with rfl | hx
        · exact absurd hx2 e
        · exact hasR_iff.2 ⟨x, hx, hx2⟩
      have := ih hn.2 h2
      unfold delR at this ⊢
      rw [List.filter_cons, if_pos (by simp [e]), List.length_cons, List.length_cons]
      omega
theorem valid_del {l : List RouteV} (hv : Valid l) (p : PV) : Valid (delR l p) :=
  ⟨fun r hr => hv.1 r (List.mem_filter.1 hr).1, hv.2.sublist (List.filter_sublist.map _)⟩

theorem getR_map {l : List RouteV} {p : PV} {hop : Int} (h : hasR l p = true) (p' : PV) : getR (l.map fun r => if r.p = p then ⟨p, hop⟩ else r) p' = if p' = p then hop else getR l p' := by
  induction l with
  | nil => simp [hasR] at h
  | cons r l ih =>
    rw [List.map_cons]
    by_cases e : r.p = p
    · rw [if_pos e]
      show (if p = p' then hop else getR _ p') = _
      by_cases e' : p' = p
      · rw [if_pos e', if_pos e'.symm]
      · rw [if_neg e', if_neg (fun x => e' x.symm)]
        conv => rhs; unfold getR
        rw [if_neg (fun x => e' (x.symm.trans e))]
        cases hh : hasR l p with
        | true => rw [ih hh, if_neg e']
        | false =>
          congr 1
          conv => rhs; rw [← List.map_id l]
          refine List.map_congr_left fun x hx => ?_
          unfold hasR at hh
          rw [List.any_eq_false] at hh
          rw [if_neg (by simpa using hh x hx)]
          rfl
    · rw [if_neg e]
      show (if r.p = p' then r.hop else getR _ p') = _
      have h2 : hasR l p = true := by
        obtain ⟨x, hx, hx2⟩ := hasR_iff.1 h
        rcases List.mem_cons.1 hx with rfl | hx
        · exact absurd hx2 e
        · exact hasR_iff.2 ⟨x, hx, hx2⟩
      rw [ih h2]
      conv => rhs; rhs; unfold getR
      by_cases e' : r.p = p'
      · rw [if_pos e', if_neg (fun x => e (e'.trans x)), if_pos e']
      · rw [if_neg e', if_neg e']
theorem getR_set (l : List RouteV) (p : PV) (hop : Int) (p' : PV) : getR (setR l p hop) p' = if p' = p then hop else getR l p' := by
  unfold setR
  by_cases h : hasR l p = true
  · rw [if_pos h]; exact getR_map h p'
  · rw [if_neg h]; exact getR_snoc (by simpa using h)
theorem map_p (l : List RouteV) (p : PV) (hop : Int) : (l.map fun r => if r.p = p then (⟨p, hop⟩ : RouteV) else r).map RouteV.p = l.map RouteV.p := by
  rw [List.map_map]
  refine List.map_congr_left fun r _ => ?_
  by_cases e : r.p = p
  · simp [e]
  · simp [e]
theorem valid_set {l : List RouteV} (hv : Valid l) {p : PV} {hop : Int} (hp : p.Ok) (hh : 1 ≤ hop ∧ hop ≤ 999) : Valid (setR l p hop) := by
  unfold setR
  by_cases h : hasR l p = true
  · rw [if_pos h]
    refine ⟨fun r hr => ?_, by rw [map_p]; exact hv.2⟩
    obtain ⟨x, hx, rfl⟩ := List.mem_map.1 hr
    by_cases e : x.p = p
    · rw [if_pos e]; exact ⟨hp, hh.1, hh.2⟩
    · rw [if_neg e]; exact hv.1 x hx
  · rw [if_neg h]; exact valid_snoc hv hp hh (by simpa using h)
theorem set_length (l : List RouteV) (p : PV) (hop : Int) : (setR l p hop).length = if hasR l p = true then l.length else l.length + 1 := by
  unfold setR
  split <;> simp

/-- What an act comes to. -/
def doA (l : List RouteV) (a : ActV) : AnsV :=
  if a.kind < 1 ∨ 4 < a.kind then ⟨3, 0, 0⟩
  else if a.kind = 3 then (if mayB a.a.six a.a.hi a.a.lo = false then ⟨4, 0, 0⟩ else ⟨0, (goesR l a.a.six a.a.hi a.a.lo).1, (goesR l a.a.six a.a.hi a.a.lo).2⟩)
  else if ¬ a.p.chk = 0 then ⟨a.p.chk, 0, 0⟩
  else if a.kind = 2 then (if getR l a.p = 0 then ⟨7, 0, 0⟩ else ⟨0, getR l a.p, 0⟩)
  else if a.kind = 4 then (if getR l a.p = 0 then ⟨7, 0, 0⟩ else ⟨0, getR l a.p, a.p.n⟩)
  else if a.hop < 1 ∨ 999 < a.hop then ⟨2, 0, 0⟩
  else if l.length = 60 ∧ getR l a.p = 0 then ⟨9, 0, 0⟩
  else ⟨0, getR l a.p, 0⟩
/-- The routes behind an act. -/
def doL (l : List RouteV) (a : ActV) : List RouteV :=
  if ¬ (a.kind = 1 ∨ a.kind = 2) then l
  else if ¬ a.p.chk = 0 then l
  else if a.kind = 2 then delR l a.p
  else if a.hop < 1 ∨ 999 < a.hop then l
  else if l.length = 60 ∧ getR l a.p = 0 then l
  else setR l a.p a.hop

end Go.Proofs.Ytnflaaoapmhjgaa

namespace Go.Proofs.Ytnflaaoapmhjgaa
set_option linter.unusedVariables false

structure JobV where
  kind : Int
  act : ActV
  n : Int
structure DoneV where
  code : Int
  merged : Bool
  acts : List ActV

/-- What is refused of an act that is to wait. -/
def faultA (a : ActV) : Int := if ¬ (a.kind = 1 ∨ a.kind = 2) then 3 else if ¬ a.p.chk = 0 then a.p.chk else if a.kind = 1 ∧ (a.hop < 1 ∨ 999 < a.hop) then 2 else 0
def hasW (q : List ActV) (p : PV) : Bool := q.any fun x => decide (x.p = p)
def putW (q : List ActV) (a : ActV) : List ActV := q.map fun x => if x.p = a.p then a else x
/-- What a job comes to, and what waits behind it. -/
def jobD (q : List ActV) (j : JobV) : DoneV :=
  if j.kind = 1 then (if ¬ faultA j.act = 0 then ⟨faultA j.act, false, []⟩ else if hasW q j.act.p = true then ⟨0, true, []⟩ else if 8 ≤ q.length then ⟨9, false, []⟩ else ⟨0, false, []⟩)
  else if ¬ j.kind = 2 then ⟨3, false, []⟩
  else if j.n < 1 ∨ 8 < j.n then ⟨2, false, []⟩
  else if q = [] then ⟨7, false, []⟩ else ⟨0, false, q.take j.n.toNat⟩
def jobQ (q : List ActV) (j : JobV) : List ActV :=
  if j.kind = 1 then (if ¬ faultA j.act = 0 then q else if hasW q j.act.p = true then putW q j.act else if 8 ≤ q.length then q else q ++ [j.act])
  else if ¬ j.kind = 2 then q
  else if j.n < 1 ∨ 8 < j.n then q
  else q.drop j.n.toNat
def playD : List JobV → List ActV → List DoneV
  | [], _ => []
  | j :: l, q => jobD q j :: playD l (jobQ q j)
def playQ : List JobV → List ActV → List ActV
  | [], q => q
  | j :: l, q => playQ l (jobQ q j)
theorem playD_snoc (l : List JobV) (j : JobV) : ∀ q, playD (l ++ [j]) q = playD l q ++ [jobD (playQ l q) j] := by
  induction l with
  | nil => intro q; rfl
  | cons x l ih => intro q; simp only [List.cons_append, playD, playQ, ih]
theorem playQ_snoc (l : List JobV) (j : JobV) : ∀ q, playQ (l ++ [j]) q = jobQ (playQ l q) j := by
  induction l with
  | nil => intro q; rfl
  | cons x l ih => intro q; exact ih _
theorem playD_length (l : List JobV) : ∀ q, (playD l q).length = l.length := by
  induction l with
  | nil => intro q; rfl
  | cons x l ih => intro q; show _ + 1 = _ + 1; rw [ih]

/-- No prefix waits twice, and no more than eight wait. -/
def GoodQ (q : List ActV) : Prop := (q.map ActV.p).Nodup ∧ q.length ≤ 8
theorem putW_p (q : List ActV) (a : ActV) : (putW q a).map ActV.p = q.map ActV.p := by
  unfold putW
  rw [List.map_map]
  refine List.map_congr_left fun x _ => ?_
  by_cases h : x.p = a.p
  · simp [h]
  · simp [h]
theorem good_job {q : List ActV} (h : GoodQ q) (j : JobV) : GoodQ (jobQ q j) := by
  unfold jobQ
  by_cases h1 : j.kind = 1
  · rw [if_pos h1]
    by_cases h2 : ¬ faultA j.act = 0
    · rw [if_pos h2]; exact h
    · rw [if_neg h2]
      by_cases h3 : hasW q j.act.p = true
      · rw [if_pos h3]; exact ⟨by rw [putW_p]; exact h.1, by unfold putW; rw [List.length_map]; exact h.2⟩
      · rw [if_neg h3]
        by_cases h4 : 8 ≤ q.length
        · rw [if_pos h4]; exact h
        · rw [if_neg h4]
          refine ⟨?_, by rw [List.length_append]; simp; omega⟩
          rw [List.map_append, List.nodup_append]
          refine ⟨h.1, by simp, fun x hx y hy e => h3 ?_⟩
          simp at hy
          subst hy
          subst e
          obtain ⟨z, hz, e⟩ := List.mem_map.1 hx
          unfold hasW
          rw [List.any_eq_true]
          exact ⟨z, hz, by simpa using e⟩
  · rw [if_neg h1]
    by_cases h2 : ¬ j.kind = 2
    · rw [if_pos h2]; exact h
    · rw [if_neg h2]
      by_cases h3 : j.n < 1 ∨ 8 < j.n
      · rw [if_pos h3]; exact h
      · rw [if_neg h3]
        exact ⟨h.1.sublist ((List.drop_sublist _ _).map _), by rw [List.length_drop]; have := h.2; omega⟩
theorem good_play {q : List ActV} (h : GoodQ q) : ∀ l : List JobV, GoodQ (playQ l q) := by
  intro l
  induction l generalizing q with
  | nil => exact h
  | cons j l ih => exact ih (good_job h j)

/-- The one that waits is the one at a place. -/
theorem put_at {q : List ActV} (h : (q.map ActV.p).Nodup) {a x : ActV} {i : Nat} (hi : q[i]? = some x) (hx : x.p = a.p) : putW q a = q.set i a := by
  induction q generalizing i with
  | nil => simp at hi
  | cons y q ih =>
    rw [List.map_cons, List.nodup_cons] at h
    cases i with
    | zero =>
      simp at hi
      subst hi
      have : putW q a = q := by
        unfold putW
        conv => rhs; rw [← List.map_id q]
        refine List.map_congr_left fun z hz => ?_
        rw [if_neg (fun e => h.1 (by rw [hx, ← e]; exact List.mem_map.2 ⟨z, hz, rfl⟩))]
        rfl
      unfold putW at this ⊢
      rw [List.map_cons, if_pos hx, this, List.set_cons_zero]
    | succ i =>
      have hi' : q[i]? = some x := by simpa using hi
      have := ih h.2 hi'
      unfold putW at this ⊢
      rw [List.map_cons, this, List.set_cons_succ, if_neg]
      intro e
      refine h.1 ?_
      rw [e, ← hx]
      exact List.mem_map.2 ⟨x, (List.getElem?_eq_some_iff.1 hi').2 ▸ List.getElem_mem _, rfl⟩
theorem has_at {q : List ActV} {p : PV} {i : Nat} {x : ActV} (hi : q[i]? = some x) (hx : x.p = p) : hasW q p = true := by
  unfold hasW
  rw [List.any_eq_true]
  exact ⟨x, (List.getElem?_eq_some_iff.1 hi).2 ▸ List.getElem_mem _, by simpa using hx⟩
theorem has_none {q : List ActV} {p : PV} (h : ∀ (i : Nat) (x : ActV), q[i]? = some x → ¬ x.p = p) : hasW q p = false := by
  unfold hasW
  rw [List.any_eq_false]
  intro x hx
  obtain ⟨i, hi, e⟩ := List.mem_iff_getElem.1 hx
  simpa using h i x (by rw [List.getElem?_eq_getElem hi, e])

/-! A ring of eight. -/
def zeroA : ActV := ⟨0, ⟨false, 0, 0, 0⟩, 0, ⟨false, 0, 0⟩⟩
def ringL (r : List ActV) (f m : Nat) : List ActV := (List.range m).map fun i => r[(f + i) % 8]?.getD zeroA
theorem ring_length (r : List ActV) (f m : Nat) : (ringL r f m).length = m := by unfold ringL; simp
theorem ring_get (r : List ActV) (f : Nat) {m i : Nat} (hi : i < m) : (ringL r f m)[i]? = some (r[(f + i) % 8]?.getD zeroA) := by
  unfold ringL
  rw [List.getElem?_map, List.getElem?_range hi]
  rfl
theorem ring_set {r : List ActV} (hr : r.length = 8) (f : Nat) {m i : Nat} (hi : i < m) (hm : m ≤ 8) (a : ActV) : ringL (r.set ((f + i) % 8) a) f m = (ringL r f m).set i a := by
  apply List.ext_getElem?
  intro k
  by_cases hk : k < m
  · by_cases e : i = k
    · subst e
      rw [ring_get _ _ hk, List.getElem?_set_self (by omega), List.getElem?_set_self (by rw [ring_length]; exact hi)]
      rfl
    · rw [ring_get _ _ hk, List.getElem?_set_ne (by omega), List.getElem?_set_ne (by omega), ring_get _ _ hk]
  · rw [List.getElem?_eq_none (by rw [ring_length]; omega), List.getElem?_eq_none (by rw [List.length_set, ring_length]; omega)]
theorem ring_push {r : List ActV} (hr : r.length = 8) (f : Nat) {m : Nat} (hm : m < 8) (a : ActV) : ringL (r.set ((f + m) % 8) a) f (m + 1) = ringL r f m ++ [a] := by
  apply List.ext_getElem?
  intro k
  by_cases hk : k < m
  · rw [ring_get _ _ (by omega), List.getElem?_append_left (by rw [ring_length]; exact hk), ring_get _ _ hk, List.getElem?_set_ne (by omega)]
  · by_cases e : k = m
    · subst e
      rw [ring_get _ _ (by omega), List.getElem?_set_self (by omega), List.getElem?_append_right (by rw [ring_length]; exact Nat.le_refl _), ring_length, Nat.sub_self]
      rfl
    · rw [List.getElem?_eq_none (by rw [ring_length]; omega), List.getElem?_eq_none (by rw [List.length_append, ring_length]; simp; omega)]
theorem ring_pop (r : List ActV) (f m : Nat) : ringL r ((f + 1) % 8) m = (ringL r f (m + 1)).drop 1 := by
  apply List.ext_getElem?
  intro k
  rw [List.getElem?_drop]
  by_cases hk : k < m
  · rw [ring_get _ _ hk, ring_get _ _ (by omega), show ((f + 1) % 8 + k) % 8 = (f + (1 + k)) % 8 by omega]
  · rw [List.getElem?_eq_none (by rw [ring_length]; omega), List.getElem?_eq_none (by rw [ring_length]; omega)]

end Go.Proofs.Ytnflaaoapmhjgaa

namespace Go.Proofs.Ytnflaaoapmhjgaa
open Go.ChangeShapes Go.WideShapes Go.ChangeAt Go.RowKit

theorem ret_bool {a b : Bool} (h : a = b) : Ending.returned (.bool a) = .returned (.bool b) := by rw [h]

set_option maxHeartbeats 400000 in
theorem may_any (six : Bool) (hi lo : Int) (w : World) (h1 : 0 ≤ lo) :
    Calls Try.prog 76 #[.agg #[.bool six, .int .u64 hi, .int .u64 lo]] w fun e w' => e = .returned (.bool (mayB six hi lo)) ∧ Below w.heap.size w w' := by
  cases six
  · by_cases hh : hi = 0
    · subst hh
      go_enter Try.func76, Try.ntmps76
      go_wp2
      go_ret
      exact ⟨ret_bool (by simp only [mayB]; rw [Bool.eq_iff_iff]; simp; omega), (Below.refl _ _).alloc (Nat.le_refl _) _⟩
    · have hb : (hi == 0) = false := by simpa using hh
      go_enter Try.func76, Try.ntmps76
      go_wp2
      go_ret
      exact ⟨ret_bool (by simp [mayB, hh]), (Below.refl _ _).alloc (Nat.le_refl _) _⟩
  · go_enter Try.func76, Try.ntmps76
    go_wp2
    go_ret
    exact ⟨ret_bool (by simp [mayB]), (Below.refl _ _).alloc (Nat.le_refl _) _⟩

set_option maxHeartbeats 400000 in
theorem refMay_any (six : Bool) (hi lo : Int) (w : World) (h1 : 0 ≤ lo) :
    Calls Try.prog 130 #[.agg #[.bool six, .int .u64 hi, .int .u64 lo]] w fun e w' => e = .returned (.bool (mayB six hi lo)) ∧ Below w.heap.size w w' := by
  cases six
  · by_cases hh : hi = 0
    · subst hh
      go_enter Try.func130, Try.ntmps130
      go_wp2
      all_goals go_ret
      all_goals exact ⟨ret_bool (by simp only [mayB]; rw [Bool.eq_iff_iff]; simp; omega), (Below.refl _ _).alloc (Nat.le_refl _) _⟩
    · have hb : (hi == 0) = false := by simpa using hh
      go_enter Try.func130, Try.ntmps130
      go_wp2
      go_ret
      exact ⟨ret_bool (by simp [mayB, hh]), (Below.refl _ _).alloc (Nat.le_refl _) _⟩
  · go_enter Try.func130, Try.ntmps130
    go_wp2
    go_ret
    exact ⟨ret_bool (by simp [mayB]), (Below.refl _ _).alloc (Nat.le_refl _) _⟩

set_option maxRecDepth 100000 in
/-- An address that came in. -/
theorem open_addr {H : Type} {enc : TypeId × Value → H} {W : World} {base : Nat} {sp : Nat → Bool} {held : Bool} {b0 : Nat} {v : Value} {d : DataW H} {p : List MemPlace}
    (hv : Value.okWide Try.prog W .any b0 44 v) (h : DataW.Trod enc Try.prog W base sp held 44 v d p) :
    ∃ six hi lo, v = .agg #[.bool six, .int .u64 hi, .int .u64 lo] ∧ (0 ≤ hi ∧ hi < 18446744073709551616) ∧ (0 ≤ lo ∧ lo < 18446744073709551616) := by
  have hc : Try.prog.cellsOf 44 = 3 := by kernel_rfl
  have hk : flat Try.prog 9 44 = some [none, some .u64, some .u64] := by kernel_rfl
  obtain ⟨cs, rfl, hf⟩ := open_flat (fun fuel cs x hl hx => trod_flat 9 _ _ fuel cs x hk hl (by rw [hc]; rfl) hx) Try.underlying44 hv h
  obtain ⟨six, _, rfl, hf1⟩ := hf.bool_inv
  obtain ⟨hi, _, rfl, wy, hf2⟩ := hf1.int_inv
  obtain ⟨lo, _, rfl, wz, hf3⟩ := hf2.int_inv
  obtain rfl := hf3.nil_inv
  exact ⟨six, hi, lo, rfl, range_u64 wy, range_u64 wz⟩

end Go.Proofs.Ytnflaaoapmhjgaa

namespace Go.Proofs.Ytnflaaoapmhjgaa
open Go.RowKit

theorem block_of_add (a : Addr) (n : Nat) : (a.add n).block = a.block := by unfold Addr.add; split <;> rfl
theorem add_of_add (a : Addr) (i j : Nat) : (a.add i).add j = a.add (i + j) := by
  unfold Addr.add
  by_cases hi : i = 0 <;> by_cases hj : j = 0 <;> simp [hi, hj, Nat.add_assoc]

def Reads (w : World) (B size : Nat) (A : Option Addr) (n : Nat) (xs : List Value) : Prop :=
  xs.length = n * size ∧ (0 < n → ∃ ad, A = some ad ∧ ad.block < B ∧ ∀ j u, xs[j]? = some u → w.cell? (ad.add j) = some u)

section
variable {w w' : World} {B B' size n : Nat} {A : Option Addr} {xs : List Value}
theorem Reads.none_ : Reads w B size A 0 [] := ⟨by simp, fun h => absurd h (by omega)⟩
theorem Reads.at_ {k : Nat} (h : Reads w B 1 A n xs) (hk : k < n) : ∃ ad u, A = some ad ∧ ad.block < B ∧ xs[k]? = some u ∧ w.cell? (ad.add k) = some u := by
  obtain ⟨ad, e, hb, hc⟩ := h.2 (by omega)
  have hl : k < xs.length := by have := h.1; omega
  exact ⟨ad, xs[k], e, hb, List.getElem?_eq_getElem hl, hc k _ (List.getElem?_eq_getElem hl)⟩
theorem Reads.keep (h : Reads w B size A n xs) (hk : ∀ p : Addr, p.block < B → w'.cell? p = w.cell? p) : Reads w' B size A n xs :=
  ⟨h.1, fun hn => by
    obtain ⟨ad, e, hb, hc⟩ := h.2 hn
    exact ⟨ad, e, hb, fun j u hu => (hk _ (by rw [block_of_add]; exact hb)).trans (hc j u hu)⟩⟩
theorem Reads.more (h : Reads w B size A n xs) (hB : B ≤ B') : Reads w B' size A n xs :=
  ⟨h.1, fun hn => by
    obtain ⟨ad, e, hb, hc⟩ := h.2 hn
    exact ⟨ad, e, by omega, hc⟩⟩
theorem Reads.below (h : Reads w B size A n xs) (hb : Below B w w') : Reads w' B size A n xs := h.keep fun _ hp => hb.cell hp
theorem Reads.drew (h : Reads w B size A n xs) : Reads w.drew B size A n xs := h
theorem Reads.drewN (h : Reads w B size A n xs) (k : Nat) : Reads (w.drewN k) B size A n xs := h
theorem Reads.alloc (h : Reads w B size A n xs) (hB : B ≤ w.heap.size) (o : Obj) : Reads (w.alloc o) B size A n xs := h.keep fun p hp => World.cell?_alloc_lt w o p (by omega)
theorem Reads.setCell (h : Reads w B size A n xs) {p : Addr} (hB : B ≤ p.block) (u : Value) : Reads (w.setCell p u) B size A n xs :=
  h.keep fun q hq => World.cell?_setCell_other w p q u (fun e => by subst e; omega)
theorem Reads.grown (h : Reads w B size A n xs) {row : Option Nat} (hg : w.grownBy w' row) (hB : B ≤ w.heap.size) (hr : ∀ g, row = some g → B ≤ g) : Reads w' B size A n xs :=
  h.keep fun p hp => World.cell?_of_block (hg.block p.block (by omega) (fun e => by have := hr _ e.symm; omega))
theorem Reads.cut (h : Reads w B size A n xs) {k cap : Nat} (hk : k ≤ n) (hc : n ≤ cap) :
    Reads w B size (if cap = k then A else A.map (·.add (k * size))) (n - k) (xs.drop (k * size)) := by
  refine ⟨by rw [List.length_drop, h.1, Nat.sub_mul], fun hn => ?_⟩
  obtain ⟨ad, rfl, hb, hcell⟩ := h.2 (by omega)
  rw [if_neg (by omega)]
  refine ⟨ad.add (k * size), rfl, by rw [block_of_add]; exact hb, fun j u hu => ?_⟩
  rw [add_of_add]
  exact hcell _ u (by rw [← hu, List.getElem?_drop])
theorem Reads.of_own {base : Nat} {e : TypeId} {c : Nat} (h : w.ownsRow base e size (.slice A n c) n xs) : Reads w w.heap.size size A n xs := by
  refine ⟨h.1, fun hn => ?_⟩
  obtain ⟨g, cap, hv, _, hlt⟩ := h.form hn
  have hA : A = some ⟨g, 0, none⟩ := by injection hv
  subst hA
  exact ⟨_, rfl, hlt, h.cells (g := g) rfl⟩
end

def Blk (w : World) (g : Nat) (t : TypeId) (cs : Array Value) : Prop := w.heap[g]? = some (.cells cs t (0, 0))

section
variable {w w' : World} {g : Nat} {t : TypeId} {cs : Array Value}
theorem Blk.lt (h : Blk w g t cs) : g < w.heap.size := by
  rcases Nat.lt_or_ge g w.heap.size with hlt | hge
  · exact hlt
  · unfold Blk at h; rw [Array.getElem?_eq_none hge] at h; cases h
theorem Blk.cell (h : Blk w g t cs) (i : Nat) : w.cell? ⟨g, i, none⟩ = cs[i]? := cell_of_row w g i cs t (0, 0) h
theorem Blk.frozen (h : Blk w g t cs) (i : Nat) : w.frozen? ⟨g, i, none⟩ = false := by
  unfold Blk at h
  simp [World.frozen?, h]
theorem Blk.new (w : World) (t : TypeId) (cs : Array Value) : Blk (w.alloc (.cells cs t)) w.heap.size t cs := heap_alloc_new w _
theorem Blk.drew (h : Blk w g t cs) : Blk w.drew g t cs := h
theorem Blk.drewN (h : Blk w g t cs) (n : Nat) : Blk (w.drewN n) g t cs := h
theorem Blk.alloc (h : Blk w g t cs) (o : Obj) : Blk (w.alloc o) g t cs := (Below.heap_alloc w o g h.lt).trans h
theorem Blk.set_ (h : Blk w g t cs) (i : Nat) (u : Value) : Blk (w.setCell ⟨g, i, none⟩ u) g t (cs.setIfInBounds i u) := by
  unfold Blk at h ⊢
  simp [World.setCell, Array.getElem?_modify, h]
theorem Blk.far (h : Blk w g t cs) {p : Addr} (hp : g ≠ p.block) (u : Value) : Blk (w.setCell p u) g t cs := (Below.heap_setCell w p u g hp).trans h
theorem Blk.below {B : Nat} (h : Blk w g t cs) (hb : Below B w w') (hg : g < B) : Blk w' g t cs := (hb.block g hg).trans h
theorem Blk.grown {row : Option Nat} (h : Blk w g t cs) (hb : w.grownBy w' row) (hg : some g ≠ row) : Blk w' g t cs := (hb.block g h.lt hg).trans h
theorem Blk.ne_ {g' : Nat} {t' : TypeId} {cs' : Array Value} (h : Blk w g t cs) (h' : Blk w g' t' cs') (hne : t ≠ t') : g ≠ g' := by
  rintro rfl
  unfold Blk at h h'
  rw [h] at h'
  injection h' with h'
  injection h' with _ ht
  exact hne ht
theorem own_blk_ne {base : Nat} {e : TypeId} {size n : Nat} {v : Value} {xs : List Value} (h : w.ownsRow base e size v n xs) (hg : Blk w g t cs) (hne : e ≠ t) : v.ownBlock ≠ some g := by
  rcases h.2 with ⟨rfl, _⟩ | ⟨g', cap, cur, rfl, _, hh, _⟩
  · simp [Value.ownBlock]
  · intro he
    have : g' = g := by simpa [Value.ownBlock] using he
    subst this
    exact Blk.ne_ (t := e) hh hg hne rfl
end

section
variable {P : Program} (w : World)

theorem run_append_of_nil (base : Nat) (t ty e : TypeId) (i : TypeInfo) (size : Nat) (ht : P.underlying t = some (.slice e)) (hi : P.info? e = some i)
    (v : Value) (n : Nat) (xs : List Value) (hown : w.ownsRow base e size v n xs) (c : Nat) : (Builtin.append_ #[t, t] ty #[v, .slice none 0 c]).run P w = .ok v w := by
  rcases hown.2 with ⟨rfl, rfl⟩ | ⟨g, cap, cur, rfl, _, _, hnc, _⟩
  · simp [Builtin.append_, run_underlying ht, sizeOf, typeInfo, hi, Builtin.lenOf, Builtin.firstCells]
  · simp [Builtin.append_, run_underlying ht, sizeOf, typeInfo, hi, Builtin.lenOf, Builtin.firstCells, hnc, storeCells]

theorem run_append_any (base : Nat) (t ty e : TypeId) (i : TypeInfo) (z : Value) (size bytes : Nat) (ht : P.underlying t = some (.slice e)) (hi : P.info? e = some i) (hz : i.zero = some z)
    (hsize : i.size = size) (hby : i.bytes = bytes) (hzs : z.cells.size = size) (hsz : 0 < size)
    (v : Value) (n : Nat) (xs : List Value) (hown : w.ownsRow base e size v n xs)
    (B : Nat) (A : Option Addr) (m c : Nat) (news : List Value) (hr : Reads w B size A m news) (h1 : ∀ u ∈ news, u.oneCell' = true)
    (h63 : n + m ≤ maxLen) (hbytes : (n + m) * bytes ≤ 140737488355328) (hbase : base ≤ w.heap.size) :
    ∃ v' w', (Builtin.append_ #[t, t] ty #[v, .slice A m c]).run P w = .ok v' w' ∧ w'.ownsRow base e size v' (n + m) (xs ++ news) ∧ w.grownBy w' v.ownBlock ∧
      (v'.ownBlock = v.ownBlock ∨ v'.ownBlock = some w.heap.size) := by
  rcases A with _ | ad
  · have hm : m = 0 := by
      rcases Nat.eq_zero_or_pos m with h0 | h0
      · exact h0
      · obtain ⟨ad, h, _⟩ := hr.2 h0
        cases h
    subst hm
    have hn : news = [] := List.eq_nil_of_length_eq_zero (by simpa using hr.1)
    subst hn
    exact ⟨v, w, run_append_of_nil w base t ty e i size ht hi v n xs hown c, by simpa using hown, World.grownBy.refl w _, .inl rfl⟩
  · have hcells : ∀ j u, news[j]? = some u → w.cell? (ad.add j) = some u := by
      intro j u hu
      rcases Nat.eq_zero_or_pos m with h0 | h0
      · subst h0
        have hn : news = [] := List.eq_nil_of_length_eq_zero (by simpa using hr.1)
        subst hn
        simp at hu
      · obtain ⟨ad', h, _, hc⟩ := hr.2 h0
        injection h with h
        subst h
        exact hc j u hu
    obtain ⟨v', w', hrun, h2, h3, _, h5⟩ := run_append_own_at (P := P) w base t ty e i z size bytes ht hi hz hsize hby hzs hsz v n xs hown ad m c news hr.1 hcells h1 h63 hbytes hbase
    exact ⟨v', w', hrun, h2, h3, h5⟩

theorem wp_append_any {o : Oper} {a : Act} {K : Act → World → Prop} {Q : Exit → Act → World → Prop} (s x : Operand) (t : TypeId)
    (ho : o.op = .call { callee := .builtin .append, args := #[s, x], argTypes := #[t, t] })
    (base : Nat) (e : TypeId) (i : TypeInfo) (z : Value) (size bytes : Nat) (ht : P.underlying t = some (.slice e)) (hi : P.info? e = some i) (hz : i.zero = some z)
    (hsize : i.size = size) (hby : i.bytes = bytes) (hzs : z.cells.size = size) (hsz : 0 < size)
    (v : Value) (n : Nat) (xs : List Value) (hs : a.eval s = v) (hown : w.ownsRow base e size v n xs)
    (B : Nat) (A : Option Addr) (m c : Nat) (news : List Value) (hx : a.eval x = .slice A m c) (hr : Reads w B size A m news) (h1 : ∀ u ∈ news, u.oneCell' = true)
    (h63 : n + m ≤ maxLen) (hbytes : (n + m) * bytes ≤ 140737488355328) (hbase : base ≤ w.heap.size)
    (h : ∀ v' w', w'.ownsRow base e size v' (n + m) (xs ++ news) → w.grownBy w' v.ownBlock → (v'.ownBlock = v.ownBlock ∨ v'.ownBlock = some w.heap.size) → K (a.put o.dst v') w') : o.wp P a w K Q := by
  obtain ⟨v', w', hrun, h2, h3, h4⟩ := run_append_any (P := P) w base t o.type e i z size bytes ht hi hz hsize hby hzs hsz v n xs hown B A m c news hr h1 h63 hbytes hbase
  unfold Oper.wp execOp
  simp only [ho, resolve, invoke, builtin, Sem.run_bind, Sem.run_pure, Result.andThen_ok, List.map_toArray, List.map_cons, List.map_nil, hs, hx, hrun]
  exact h v' w' h2 h3 h4

theorem wpList_append_any {ops : Array Oper} {rest : List Oper} {o : Oper} {a : Act} {Q : Exit → Act → World → Prop} (hgd : o.guard = none) (s x : Operand) (t : TypeId)
    (ho : o.op = .call { callee := .builtin .append, args := #[s, x], argTypes := #[t, t] })
    (base : Nat) (e : TypeId) (i : TypeInfo) (z : Value) (size bytes : Nat) (ht : P.underlying t = some (.slice e)) (hi : P.info? e = some i) (hz : i.zero = some z)
    (hsize : i.size = size) (hby : i.bytes = bytes) (hzs : z.cells.size = size) (hsz : 0 < size)
    (v : Value) (n : Nat) (xs : List Value) (hs : a.eval s = v) (hown : w.ownsRow base e size v n xs)
    (B : Nat) (A : Option Addr) (m c : Nat) (news : List Value) (hx : a.eval x = .slice A m c) (hr : Reads w B size A m news) (h1 : ∀ u ∈ news, u.oneCell' = true)
    (h63 : n + m ≤ maxLen) (hbytes : (n + m) * bytes ≤ 140737488355328) (hbase : base ≤ w.heap.size)
    (h : ∀ v' w', w'.ownsRow base e size v' (n + m) (xs ++ news) → w.grownBy w' v.ownBlock → (v'.ownBlock = v.ownBlock ∨ v'.ownBlock = some w.heap.size) → wpList P ops Q rest (a.put o.dst v') w') : wpList P ops Q (o :: rest) a w :=
  wpList_plain hgd fun _ hK => wp_append_any w s x t ho base e i z size bytes ht hi hz hsize hby hzs hsz v n xs hs hown B A m c news hx hr h1 h63 hbytes hbase fun v' w' h2 h3 h4 => hK _ _ (h v' w' h2 h3 h4)

theorem step_append_any {ops : Array Oper} {o : Oper} {a : Act} {K : Act → World → Prop} {Q : Exit → Act → World → Prop} {E : Prop} (hgd : o.guard = none) (s x : Operand) (t : TypeId)
    (ho : o.op = .call { callee := .builtin .append, args := #[s, x], argTypes := #[t, t] })
    (base : Nat) (e : TypeId) (i : TypeInfo) (z : Value) (size bytes : Nat) (ht : P.underlying t = some (.slice e)) (hi : P.info? e = some i) (hz : i.zero = some z)
    (hsize : i.size = size) (hby : i.bytes = bytes) (hzs : z.cells.size = size) (hsz : 0 < size)
    (v : Value) (n : Nat) (xs : List Value) (hs : a.eval s = v) (hown : w.ownsRow base e size v n xs)
    (B : Nat) (A : Option Addr) (m c : Nat) (news : List Value) (hx : a.eval x = .slice A m c) (hr : Reads w B size A m news) (h1 : ∀ u ∈ news, u.oneCell' = true)
    (h63 : n + m ≤ maxLen) (hbytes : (n + m) * bytes ≤ 140737488355328) (hbase : base ≤ w.heap.size)
    (h : ∀ v' w', w'.ownsRow base e size v' (n + m) (xs ++ news) → w.grownBy w' v.ownBlock → (v'.ownBlock = v.ownBlock ∨ v'.ownBlock = some w.heap.size) → K (a.put o.dst v') w') :
    if Region.wanted o (yielded ops a.tmps) = true then Oper.wp P o a w K Q else E := by
  have hw : Region.wanted o (yielded ops a.tmps) = true := by simp [Region.wanted, hgd]
  rw [if_pos hw]
  exact wp_append_any w s x t ho base e i z size bytes ht hi hz hsize hby hzs hsz v n xs hs hown B A m c news hx hr h1 h63 hbytes hbase h
end

theorem Reads.at1 {w : World} {B n k : Nat} {A : Option Addr} {α : Type} {l : List α} {f : α → Value} (h : Reads w B 1 A n (l.map f)) (hk : k < n) :
    ∃ ad x, A = some ad ∧ w.cell? (ad.add k) = some (f x) ∧ l.take (k + 1) = l.take k ++ [x] ∧ l[k]? = some x ∧ x ∈ l := by
  obtain ⟨ad, u, rfl, _, hx, hc⟩ := h.at_ hk
  rw [List.getElem?_map] at hx
  cases hl : l[k]? with
  | none => rw [hl] at hx; cases hx
  | some x =>
    rw [hl] at hx
    simp only [Option.map_some, Option.some.injEq] at hx
    subst hx
    exact ⟨ad, x, rfl, hc, by rw [List.take_add_one, hl]; rfl, rfl, List.mem_of_getElem? hl⟩

/-- append of one element, laid just before in a block of its own, onto a row of the call's own. -/
theorem wpList_append_one {P : Program} {ops : Array Oper} {rest : List Oper} {o : Oper} {a : Act} {Q : Exit → Act → World → Prop} {w0 : World} {us : List Value} {fr : Nat × Nat} {e : TypeId} (hgd : o.guard = none) (s x : Operand) (t : TypeId)
    (ho : o.op = .call { callee := .builtin .append, args := #[s, x], argTypes := #[t, t] })
    (base : Nat) (z : Value) (size bytes : Nat) (ht : P.underlying t = some (.slice e)) (hi : (P.info? e).map (fun i => (i.zero, i.size, i.bytes)) = some (some z, size, bytes))
    (hzs : z.cells.size = size) (hsz : 0 < size) (v : Value) (n : Nat) (xs : List Value) (hs : a.eval s = v) (hown : w0.ownsRow base e size v n xs) (hbase : base ≤ w0.heap.size)
    (hl : us.length = size) (h1 : ∀ u ∈ us, u.oneCell' = true)
    (hx : a.eval x = .slice (some ⟨w0.heap.size, 0, none⟩) 1 1) (h63 : n + 1 ≤ maxLen) (hbytes : (n + 1) * bytes ≤ 140737488355328)
    (h : ∀ v' w', w'.ownsRow base e size v' (n + 1) (xs ++ us) → Below base w0 w' → w0.heap.size < w'.heap.size → wpList P ops Q rest (a.put o.dst v') w') :
    wpList P ops Q (o :: rest) a (w0.alloc (.cells us.toArray e fr)) := by
  obtain ⟨i0, hi, hz0, hz1, hz2⟩ := info_parts hi
  refine wpList_append_own _ hgd s x t ho base e i0 z size bytes ht hi hz0 hz1 hz2 hzs hsz v n xs hs (hown.alloc _) ⟨w0.heap.size, 0, none⟩ 1 1 us hx (by omega) ?_ h1 h63 hbytes (by simp; omega) ?_
  · intro j u hj
    have e1 : (⟨w0.heap.size, 0, none⟩ : Addr).add j = ⟨w0.heap.size, j, none⟩ := by unfold Addr.add; split <;> simp_all
    rw [e1]
    have : (w0.alloc (.cells us.toArray e fr)).heap[w0.heap.size]? = some (.cells us.toArray e fr) := heap_alloc_new w0 _
    unfold World.cell?
    simp only [this]
    simpa using hj
  · intro v' w' hown' hg _
    have hb : Below base w0 (w0.alloc (.cells us.toArray e fr)) := (Below.refl _ _).alloc hbase _
    refine h v' w' hown' (hb.grown hg (by simp; omega) ?_) ?_
    · intro k hk
      rcases hown.2 with ⟨rfl, _⟩ | ⟨g, cap, cur, rfl, hgb, _⟩
      · simp [Value.ownBlock] at hk
      · simp only [Value.ownBlock, Option.some.injEq] at hk
        omega
    · have := hg.size
      simp at this
      omega

theorem own_mono {w : World} {base base' : Nat} {e : TypeId} {size n : Nat} {v : Value} {xs : List Value} (h : w.ownsRow base e size v n xs) (hb : base' ≤ base) : w.ownsRow base' e size v n xs := by
  obtain ⟨h1, h2⟩ := h
  refine ⟨h1, ?_⟩
  rcases h2 with h2 | ⟨g, cap, cur, hv, hg, r⟩
  · exact .inl h2
  · exact .inr ⟨g, cap, cur, hv, by omega, r⟩

theorem own_below {w w' : World} {base : Nat} {e : TypeId} {size n : Nat} {v : Value} {xs : List Value} (h : w.ownsRow base e size v n xs) (hb : Below w.heap.size w w') : w'.ownsRow base e size v n xs := by
  obtain ⟨h1, h2⟩ := h
  refine ⟨h1, ?_⟩
  rcases h2 with h2 | ⟨g, cap, cur, hv, hg, hh, r⟩
  · exact .inl h2
  · refine .inr ⟨g, cap, cur, hv, hg, ?_, r⟩
    rw [hb.block g ?_]
    · exact hh
    · rcases Nat.lt_or_ge g w.heap.size with h3 | h3
      · exact h3
      · rw [Array.getElem?_eq_none h3] at hh; cases hh

/-- Behind the box of a parameter. -/
theorem below_box {w wr : World} {o : Obj} (h : Below (w.heap.size + 1) (w.alloc o) wr) : Below w.heap.size w wr :=
  ((Below.refl _ _).alloc (Nat.le_refl _) o).trans (h.mono (by omega))
theorem box_cell {w wr : World} {cs : List Value} {t : TypeId} {fr : Nat × Nat} (h : Below (w.heap.size + 1) (w.alloc (.cells cs.toArray t fr)) wr) (j : Nat) : wr.cell? ⟨w.heap.size, j, none⟩ = cs[j]? := by
  rw [h.cell (p := ⟨w.heap.size, j, none⟩) (by simp)]
  have e := heap_alloc_new w (.cells cs.toArray t fr)
  unfold World.cell?
  simp only [e]
  simp

theorem box1 {w w1 : World} {cs : List Value} {t : TypeId} {fr : Nat × Nat} (hb : Below (w.alloc (.cells cs.toArray t fr)).heap.size (w.alloc (.cells cs.toArray t fr)) w1) :
    Below w.heap.size w w1 ∧ w.heap.size < w1.heap.size ∧ ∀ j u, cs[j]? = some u → w1.cell? ⟨w.heap.size, j, none⟩ = some u := by
  have hb' : Below (w.heap.size + 1) (w.alloc (.cells cs.toArray t fr)) w1 := by simpa using hb
  have hs := hb.size
  simp at hs
  exact ⟨below_box hb', by omega, fun j u hj => (box_cell hb' j).trans hj⟩
theorem box3 {w w1 : World} {a b c : Value} {t : TypeId} {fr : Nat × Nat} (hb : Below (w.alloc (.cells #[a, b, c] t fr)).heap.size (w.alloc (.cells #[a, b, c] t fr)) w1) :
    Below w.heap.size w w1 ∧ w.heap.size < w1.heap.size ∧ w1.cell? ⟨w.heap.size, 0, none⟩ = some a ∧ w1.cell? ⟨w.heap.size, 1, none⟩ = some b ∧ w1.cell? ⟨w.heap.size, 2, none⟩ = some c := by
  obtain ⟨h1, h2, h3⟩ := box1 (cs := [a, b, c]) hb
  exact ⟨h1, h2, h3 0 a rfl, h3 1 b rfl, h3 2 c rfl⟩
theorem box4 {w w1 : World} {a b c d : Value} {t : TypeId} {fr : Nat × Nat} (hb : Below (w.alloc (.cells #[a, b, c, d] t fr)).heap.size (w.alloc (.cells #[a, b, c, d] t fr)) w1) :
    Below w.heap.size w w1 ∧ w.heap.size < w1.heap.size ∧ w1.cell? ⟨w.heap.size, 0, none⟩ = some a ∧ w1.cell? ⟨w.heap.size, 1, none⟩ = some b ∧ w1.cell? ⟨w.heap.size, 2, none⟩ = some c ∧ w1.cell? ⟨w.heap.size, 3, none⟩ = some d := by
  obtain ⟨h1, h2, h3⟩ := box1 (cs := [a, b, c, d]) hb
  exact ⟨h1, h2, h3 0 a rfl, h3 1 b rfl, h3 2 c rfl, h3 3 d rfl⟩

theorem choose_list {α β : Type} {f : α → β} {Q : α → Prop} : ∀ (css : List β), (∀ cs ∈ css, ∃ x, Q x ∧ cs = f x) → ∃ l : List α, css = l.map f ∧ ∀ x ∈ l, Q x
  | [], _ => ⟨[], rfl, by simp⟩
  | cs :: css, h => by
    obtain ⟨x, hq, rfl⟩ := h cs (by simp)
    obtain ⟨l, rfl, hl⟩ := choose_list css (fun c hc => h c (by simp [hc]))
    exact ⟨x :: l, rfl, fun y hy => by
      rcases List.mem_cons.1 hy with rfl | hy
      · exact hq
      · exact hl y hy⟩

theorem choose_nat {β : Type} {Q : Nat → β → Prop} : ∀ (n : Nat), (∀ i, i < n → ∃ x, Q i x) → ∃ l : List β, l.length = n ∧ ∀ i x, l[i]? = some x → Q i x
  | 0, _ => ⟨[], rfl, by simp⟩
  | n + 1, h => by
    obtain ⟨l, hl, hq⟩ := choose_nat n (fun i hi => h i (by omega))
    obtain ⟨x, hx⟩ := h n (by omega)
    refine ⟨l ++ [x], by simp [hl], fun i y hy => ?_⟩
    rcases Nat.lt_or_ge i l.length with hi | hi
    · rw [List.getElem?_append_left hi] at hy
      exact hq i y hy
    · rw [List.getElem?_append_right hi] at hy
      have : i - l.length = 0 := by
        rcases Nat.eq_zero_or_pos (i - l.length) with h0 | h0
        · exact h0
        · rw [List.getElem?_eq_none (by simp; omega)] at hy; cases hy
      rw [this] at hy
      simp at hy
      subst hy
      obtain rfl : i = n := by omega
      exact hx

theorem flatten_at {α : Type} {k : Nat} : ∀ (css : List (List α)), (∀ cs ∈ css, cs.length = k) → ∀ (j : Nat) (u : α), css.flatten[j]? = some u → ∃ cs, css[j / k]? = some cs ∧ cs[j % k]? = some u
  | [], _, j, u, h => by simp at h
  | cs :: css, hk, j, u, h => by
    have h0 := hk cs (by simp)
    rw [List.flatten_cons] at h
    rcases Nat.lt_or_ge j cs.length with hj | hj
    · rw [List.getElem?_append_left hj] at h
      refine ⟨cs, ?_, ?_⟩
      · rw [Nat.div_eq_of_lt (by omega)]; rfl
      · rw [Nat.mod_eq_of_lt (by omega)]; exact h
    · rw [List.getElem?_append_right hj] at h
      obtain ⟨c, h1, h2⟩ := flatten_at css (fun c hc => hk c (by simp [hc])) _ u h
      have hkp : 0 < k := by
        rcases Nat.eq_zero_or_pos k with hz | hz
        · subst hz
          have : c = [] := List.eq_nil_of_length_eq_zero (hk c (by simp [List.mem_of_getElem? h1]))
          subst this
          simp at h2
        · exact hz
      have e1 : j / k = (j - cs.length) / k + 1 := by
        rw [h0]
        rw [Nat.div_eq_sub_div hkp (by omega)]
      have e2 : j % k = (j - cs.length) % k := by
        rw [h0]
        exact Nat.mod_eq_sub_mod (by omega)
      exact ⟨c, by rw [e1]; exact h1, by rw [e2]; exact h2⟩

/-- A slice of a flat type that came in. -/
theorem open_flats {H : Type} {enc : TypeId × Value → H} {P : Program} {W : World} {base : Nat} {sp : Nat → Bool} {held : Bool} {t e : TypeId} {ks : List (Option IntKind)} {a0 : Option Addr} {len cap : Nat} {d : DataW H} {p : List MemPlace}
    (ht : P.underlying t = some (.slice e)) (hk : flat P 9 e = some ks) (hC : P.cellsOf e = ks.length) (hpos : 0 < ks.length) (h : DataW.Trod enc P W base sp held t (.slice a0 len cap) d p) :
    ∃ css : List (List Value), css.length = len ∧ (∀ cs ∈ css, FitsAll ks cs) ∧ Reads W W.heap.size ks.length a0 len css.flatten ∧ len ≤ cap ∧ cap ≤ maxLen := by
  obtain ⟨fuel, hf⟩ := h
  rcases Go.Deep.open_slice ht hf with ⟨hcs, _⟩ | ⟨a, len', cap', m, n, D, Pl, hcs, hb, hl, hm, hmm, hx, hi⟩
  · simp [Value.cells] at hcs
    obtain ⟨rfl, rfl, rfl⟩ := hcs
    exact ⟨[], rfl, by simp, by simpa using Reads.none_, Nat.le_refl _, by unfold maxLen; omega⟩
  · simp [Value.cells] at hcs
    obtain ⟨rfl, rfl, rfl⟩ := hcs
    have hml : len ≤ m := by rw [hmm]; split <;> omega
    have h1 : ∀ i, i < len → ∃ cs : List Value, FitsAll ks cs ∧ ∀ j u, cs[j]? = some u → W.cell? ((a.add (i * ks.length)).add j) = some u := by
      intro i hil
      obtain ⟨cs', hc, ht'⟩ := hi i (by omega)
      obtain ⟨_, hcl, hat⟩ := World.cells?_some hc
      refine ⟨cs', trod_flat 9 e ks _ cs' _ hk hcl hC ht', fun j u hj => ?_⟩
      rw [← hC, hat j (by have := (List.getElem?_eq_some_iff.1 hj).1; omega)]
      exact hj
    obtain ⟨css, hcl, hq⟩ := choose_nat len h1
    have hfit : ∀ cs ∈ css, FitsAll ks cs := by
      intro cs hc
      obtain ⟨i, hi⟩ := List.getElem?_of_mem hc
      exact (hq i cs hi).1
    refine ⟨css, hcl, hfit, ⟨?_, fun hn => ⟨a, rfl, ?_, ?_⟩⟩, hl, hm⟩
    · rw [List.length_flatten, ← hcl]
      clear hq hcl
      induction css with
      | nil => simp
      | cons c css ih =>
        rw [List.map_cons, List.sum_cons, ih (fun x hx => hfit x (by simp [hx])), (hfit c (by simp)).length, List.length_cons, Nat.succ_mul]
        omega
    · obtain ⟨cs, hc⟩ : ∃ cs, css[0]? = some cs := ⟨_, List.getElem?_eq_getElem (by omega)⟩
      have hlen := (hq 0 cs hc).1.length
      have hcell := (hq 0 cs hc).2 0 (cs[0]'(by omega)) (List.getElem?_eq_getElem (by omega))
      have := World.block_lt_of_cell? _ _ hcell
      rwa [block_of_add, block_of_add] at this
    · intro j u hj
      obtain ⟨cs, h1, h2⟩ := flatten_at css (fun c hc => (hfit c hc).length) j u hj
      have := (hq _ _ h1).2 _ _ h2
      rw [add_of_add] at this
      rwa [show j / ks.length * ks.length + j % ks.length = j from by rw [Nat.mul_comm]; exact Nat.div_add_mod _ _] at this

theorem ret_int {k : IntKind} {a b : Int} (h : a = b) : Ending.returned (.int k a) = .returned (.int k b) := by rw [h]

end Go.Proofs.Ytnflaaoapmhjgaa

namespace Go.Proofs.Ytnflaaoapmhjgaa
open Go.RowKit

theorem and1_u64 (x : Int) (h1 : 0 ≤ x) (h2 : x < 18446744073709551616) : bits .and .u64 x 1 = x % 2 := by
  rw [u64_and x 1 h1 h2 (by omega) (by omega)]
  rw [show (1 : Int).toNat = 1 from rfl, nat_mask1]
  omega

theorem or_u32 (x y : Int) (h1 : 0 ≤ x) (h2 : x < 65536) (h3 : 0 ≤ y) (h4 : y < 65536) : bits .or .u32 (x * 65536) y = x * 65536 + y := by
  rw [u32_or (x * 65536) y (by omega) (by omega) h3 (by omega), nat_join 16 _ _ (by omega) (by omega)]
  omega

theorem shr_range (x : Int) (k : Nat) (h1 : 0 ≤ x) (h2 : x < 18446744073709551616) : 0 ≤ x / 2 ^ k ∧ x / 2 ^ k < 18446744073709551616 := by
  have hp : (0 : Int) < 2 ^ k := Int.pow_pos (by omega)
  exact ⟨Int.ediv_nonneg h1 (by omega), Int.lt_of_le_of_lt (Int.ediv_le_self _ h1) h2⟩

theorem bit_wrap (x : Int) (k : Nat) (h1 : 0 ≤ x) (h2 : x < 18446744073709551616) : wrap64 (bits .and .u64 (x / 2 ^ k) 1) = x / 2 ^ k % 2 := by
  have h := shr_range x k h1 h2
  rw [and1_u64 _ h.1 h.2]
  unfold wrap64
  omega

theorem bit_wrap0 (x : Int) (h1 : 0 ≤ x) (h2 : x < 18446744073709551616) : wrap64 (bits .and .u64 x 1) = x % 2 := by
  rw [and1_u64 _ h1 h2]
  unfold wrap64
  omega

end Go.Proofs.Ytnflaaoapmhjgaa

namespace Go.Proofs.Ytnflaaoapmhjgaa
open Go.ChangeShapes Go.WideShapes Go.ChangeAt Go.RowKit

theorem wide_any (six : Bool) (w : World) : Calls Try.prog 139 #[.bool six] w fun e w' => e = .returned (.int .i64 (wideI six)) ∧ w = w' := by
  cases six <;>
  · go_enter Try.func139, Try.ntmps139
    go_wp2
    go_ret
    exact ⟨rfl, rfl⟩

set_option maxHeartbeats 800000 in
theorem at_any (six : Bool) (hi lo i : Int) (w : World) (h1 : 0 ≤ hi ∧ hi < 18446744073709551616) (h2 : 0 ≤ lo ∧ lo < 18446744073709551616) (h3 : 0 ≤ i) (h4 : i < wideI six) :
    Calls Try.prog 175 #[.agg #[.bool six, .int .u64 hi, .int .u64 lo], .int .i64 i] w fun e w' => e = .returned (.int .i64 (bitI six hi lo i)) ∧ Below w.heap.size w w' := by
  cases six
  · have h5 : i < 32 := h4
    clear h4
    go_enter Try.func175, Try.ntmps175
    go_wp2
    go_ret
    exact ⟨ret_int (by rw [bit_wrap _ _ h2.1 h2.2]; simp [bitI]), (Below.refl _ _).alloc (Nat.le_refl _) _⟩
  · have h5 : i < 128 := h4
    clear h4
    by_cases h6 : i < 64
    · go_enter Try.func175, Try.ntmps175
      go_wp2
      go_ret
      exact ⟨ret_int (by rw [bit_wrap _ _ h1.1 h1.2]; simp [bitI, h6]), (Below.refl _ _).alloc (Nat.le_refl _) _⟩
    · go_enter Try.func175, Try.ntmps175
      go_wp2
      go_ret
      exact ⟨ret_int (by rw [bit_wrap _ _ h2.1 h2.2]; unfold bitI; rw [if_pos rfl, if_neg (by omega)]), (Below.refl _ _).alloc (Nat.le_refl _) _⟩

theorem infoInt : (Try.prog.info? 3).map (fun i => (i.zero, i.size, i.bytes)) = some (some (.int .i64 0), 1, 8) := by kernel_rfl

def bitsTo (f : Nat → Int) (k : Nat) : List Value := (List.range k).map fun j => Value.int .i64 (f j)
theorem bitsTo_succ (f : Nat → Int) (k : Nat) : bitsTo f (k + 1) = bitsTo f k ++ [Value.int .i64 (f k)] := by simp [bitsTo, List.range_succ]

theorem bits_four_eq (hi lo : Int) : (bitsL false hi lo).map (Value.int .i64) = bitsTo (fun j => lo / 2 ^ (31 - j) % 2) 32 := by
  unfold bitsL bitsTo
  rw [List.map_map]
  apply List.map_congr_left
  intro j hj
  have : j < 32 := by simpa [wideI] using hj
  show Value.int .i64 (bitI false hi lo j) = _
  unfold bitI
  rw [if_neg (by simp), show (31 - (j : Int)).toNat = 31 - j from by omega]

theorem bits_six_eq (hi lo : Int) : (bitsL true hi lo).map (Value.int .i64) = bitsTo (fun j => hi / 2 ^ (63 - j) % 2) 64 ++ bitsTo (fun j => lo / 2 ^ (63 - j) % 2) 64 := by
  have e : ∀ f : Nat → Int, bitsTo f 128 = bitsTo f 64 ++ bitsTo (fun j => f (64 + j)) 64 := by
    intro f
    unfold bitsTo
    rw [show (128 : Nat) = 64 + 64 from rfl, List.range_add, List.map_append, List.map_map]
    rfl
  have h1 : (bitsL true hi lo).map (Value.int .i64) = bitsTo (fun j => bitI true hi lo j) 128 := by
    unfold bitsL bitsTo
    rw [List.map_map]
    rfl
  rw [h1, e]
  refine congr (congrArg _ ?_) ?_
  · unfold bitsTo
    apply List.map_congr_left
    intro j hj
    have : j < 64 := by simpa using hj
    show Value.int .i64 (bitI true hi lo j) = _
    unfold bitI
    rw [if_pos rfl, if_pos (by omega), show (63 - (j : Int)).toNat = 63 - j from by omega]
  · unfold bitsTo
    apply List.map_congr_left
    intro j hj
    have : j < 64 := by simpa using hj
    show Value.int .i64 (bitI true hi lo ((64 + j : Nat) : Int)) = _
    unfold bitI
    rw [if_pos rfl, if_neg (by omega), show (127 - ((64 + j : Nat) : Int)).toNat = 63 - j from by omega]

def OwnBits (six : Bool) (hi lo : Int) (w : World) (e : Ending) (w' : World) : Prop :=
  ∃ v, e = .returned v ∧ w'.ownsRow (w.heap.size + 1) 3 1 v (wideI six).toNat ((bitsL six hi lo).map (Value.int .i64)) ∧ Below w.heap.size w w' ∧ w.heap.size < w'.heap.size

set_option maxHeartbeats 1000000 in
theorem bitsOf_four (hi lo : Int) (w : World) (h2 : 0 ≤ lo ∧ lo < 18446744073709551616) :
    Calls Try.prog 137 #[.agg #[.bool false, .int .u64 hi, .int .u64 lo]] w (OwnBits false hi lo w) := by
  go_enter Try.func137, Try.ntmps137
  go_wp2
  go_loopw [3, 6] (fun v i wr => ∃ k : Nat, k ≤ 32 ∧ i = .int .i64 (31 - k) ∧ wr.ownsRow (w.heap.size + 1) 3 1 v k (bitsTo (fun j => lo / 2 ^ (31 - j) % 2) k) ∧ Below (w.heap.size + 1) (w.alloc (.cells #[.bool false, .int .u64 hi, .int .u64 lo] 44)) wr)
    (fun _ i _ => (intOf i + 1).toNat)
  case atStart => exact ⟨0, by omega, rfl, World.ownsRow_nil _ _ _ _, Below.refl _ _⟩
  case round =>
    obtain ⟨k, hk, rfl, hown, hb⟩ := hrel
    have hc : wr.cell? ⟨w.heap.size, 2, none⟩ = some (.int .u64 lo) := box_cell (cs := [.bool false, .int .u64 hi, .int .u64 lo]) hb 2
    have hs := hb.size
    simp at hs
    by_cases hlt : k < 32
    · have hk1 : (0 : Int) ≤ 31 - (k : Int) := by omega
      go_wp2_with (at_builtin; go_loud (refine wpList_append_one rfl _ _ 33 rfl (w.heap.size + 1) (.int .i64 0) 1 8 Try.underlying33 infoInt rfl (by decide) _ _ _ rfl hown ?c1 rfl ?c2 rfl ?c3 ?c4 ?_))
      case c1 => omega
      case c2 => intro u hu; simp at hu; subst hu; rfl
      case c3 => unfold maxLen; omega
      case c4 => omega
      intro v' w' hown' hb' _
      have R : w'.ownsRow (w.heap.size + 1) 3 1 v' (k + 1) (bitsTo (fun j => lo / 2 ^ (31 - j) % 2) (k + 1)) := by
        rw [bitsTo_succ, ← bit_wrap _ _ h2.1 h2.2]
        exact hown'
      have B := hb.trans hb'
      clear hown' hb' hown hb hc
      go_wp2
      go_roundw
      case rel => exact ⟨k + 1, by omega, by go_num, R, B⟩
      case measure => simp [intOf]; omega
    · obtain rfl : k = 32 := by omega
      go_wp2
      go_ret
      exact ⟨_, rfl, by rw [bits_four_eq]; exact hown, below_box hb, by omega⟩

set_option maxHeartbeats 1000000 in
theorem bitsOf_six (hi lo : Int) (w : World) (h1 : 0 ≤ hi ∧ hi < 18446744073709551616) (h2 : 0 ≤ lo ∧ lo < 18446744073709551616) :
    Calls Try.prog 137 #[.agg #[.bool true, .int .u64 hi, .int .u64 lo]] w (OwnBits true hi lo w) := by
  go_enter Try.func137, Try.ntmps137
  go_wp2
  go_loopw [3, 4] (fun v i wr => ∃ k : Nat, k ≤ 64 ∧ i = .int .i64 (63 - k) ∧ wr.ownsRow (w.heap.size + 1) 3 1 v k (bitsTo (fun j => hi / 2 ^ (63 - j) % 2) k) ∧ Below (w.heap.size + 1) (w.alloc (.cells #[.bool true, .int .u64 hi, .int .u64 lo] 44)) wr)
    (fun _ i _ => (intOf i + 1).toNat)
  case atStart => exact ⟨0, by omega, rfl, World.ownsRow_nil _ _ _ _, Below.refl _ _⟩
  case round =>
    obtain ⟨k, hk, rfl, hown, hb⟩ := hrel
    have hc : wr.cell? ⟨w.heap.size, 1, none⟩ = some (.int .u64 hi) := box_cell (cs := [.bool true, .int .u64 hi, .int .u64 lo]) hb 1
    have hs := hb.size
    simp at hs
    by_cases hlt : k < 64
    · have hk1 : (0 : Int) ≤ 63 - (k : Int) := by omega
      go_wp2_with (at_builtin; go_loud (refine wpList_append_one rfl _ _ 33 rfl (w.heap.size + 1) (.int .i64 0) 1 8 Try.underlying33 infoInt rfl (by decide) _ _ _ rfl hown ?c1 rfl ?c2 rfl ?c3 ?c4 ?_))
      case c1 => omega
      case c2 => intro u hu; simp at hu; subst hu; rfl
      case c3 => unfold maxLen; omega
      case c4 => omega
      intro v' w' hown' hb' _
      have R : w'.ownsRow (w.heap.size + 1) 3 1 v' (k + 1) (bitsTo (fun j => hi / 2 ^ (63 - j) % 2) (k + 1)) := by
        rw [bitsTo_succ, ← bit_wrap _ _ h1.1 h1.2]
        exact hown'
      have B := hb.trans hb'
      clear hown' hb' hown hb hc
      go_wp2
      go_roundw
      case rel => exact ⟨k + 1, by omega, by go_num, R, B⟩
      case measure => simp [intOf]; omega
    · obtain rfl : k = 64 := by omega
      clear hc hs
      go_wp2
      obtain ⟨wo, rfl⟩ : ∃ wo : World, wo = wr := ⟨_, rfl⟩
      go_loopw [3, 5] (fun v i wr => ∃ k : Nat, k ≤ 64 ∧ i = .int .i64 (63 - k) ∧ wr.ownsRow (w.heap.size + 1) 3 1 v (64 + k) (bitsTo (fun j => hi / 2 ^ (63 - j) % 2) 64 ++ bitsTo (fun j => lo / 2 ^ (63 - j) % 2) k) ∧ Below (w.heap.size + 1) (w.alloc (.cells #[.bool true, .int .u64 hi, .int .u64 lo] 44)) wr)
        (fun _ i _ => (intOf i + 1).toNat)
      case atStart => exact ⟨0, by omega, rfl, by simpa [bitsTo] using hown, hb⟩
      case round =>
        obtain ⟨k, hk, rfl, hown, hb⟩ := hrel
        have hc : wr.cell? ⟨w.heap.size, 2, none⟩ = some (.int .u64 lo) := box_cell (cs := [.bool true, .int .u64 hi, .int .u64 lo]) hb 2
        have hs := hb.size
        simp at hs
        by_cases hlt : k < 64
        · have hk1 : (0 : Int) ≤ 63 - (k : Int) := by omega
          go_wp2_with (at_builtin; go_loud (refine wpList_append_one rfl _ _ 33 rfl (w.heap.size + 1) (.int .i64 0) 1 8 Try.underlying33 infoInt rfl (by decide) _ _ _ rfl hown ?c1 rfl ?c2 rfl ?c3 ?c4 ?_))
          case c1 => omega
          case c2 => intro u hu; simp at hu; subst hu; rfl
          case c3 => unfold maxLen; omega
          case c4 => omega
          intro v' w' hown' hb' _
          have R : w'.ownsRow (w.heap.size + 1) 3 1 v' (64 + (k + 1)) (bitsTo (fun j => hi / 2 ^ (63 - j) % 2) 64 ++ bitsTo (fun j => lo / 2 ^ (63 - j) % 2) (k + 1)) := by
            rw [bitsTo_succ _ k, ← bit_wrap _ _ h2.1 h2.2]
            exact hown'
          have B := hb.trans hb'
          clear hown' hb' hown hb hc
          go_wp2
          go_roundw
          case rel => first | exact ⟨k + 1, by omega, by go_num, R, B⟩ | ((repeat apply Exists.intro); exact ⟨⟨k + 1, by omega, by go_num, R, B⟩, rfl⟩)
          case measure => simp [intOf]; omega
        · obtain rfl : k = 64 := by omega
          go_wp2
          go_ret
          exact ⟨_, rfl, by rw [bits_six_eq]; exact hown, below_box hb, by omega⟩

theorem bitsOf_any (six : Bool) (hi lo : Int) (w : World) (h1 : 0 ≤ hi ∧ hi < 18446744073709551616) (h2 : 0 ≤ lo ∧ lo < 18446744073709551616) :
    Calls Try.prog 137 #[.agg #[.bool six, .int .u64 hi, .int .u64 lo]] w (OwnBits six hi lo w) := by
  cases six
  · exact bitsOf_four hi lo w h2
  · exact bitsOf_six hi lo w h1 h2
end Go.Proofs.Ytnflaaoapmhjgaa

namespace Go.Proofs.Ytnflaaoapmhjgaa
open Go.ChangeShapes Go.WideShapes Go.ChangeAt Go.RowKit

set_option maxHeartbeats 400000 in
theorem ones_any (n : Int) (w : World) (h1 : -1000 ≤ n) (h2 : n ≤ 1000) :
    Calls Try.prog 233 #[.int .i64 n] w fun e w' => e = .returned (.int .u64 (onesI n)) ∧ w = w' := by
  rcases (by omega : n ≤ 0 ∨ (0 < n ∧ n < 64) ∨ 64 ≤ n) with h | h | h
  · have e : onesI n = 0 := by unfold onesI; rw [if_pos h]
    rw [e]
    have h4 : n < 64 := by omega
    go_enter Try.func233, Try.ntmps233
    go_wp2
    all_goals go_ret
    all_goals exact ⟨ret_int (by simp [IntKind.wrap, IntKind.bits, IntKind.signed]), rfl⟩
  · have e : onesI n = IntKind.u64.wrap (18446744073709551615 * 2 ^ (64 - n).toNat) := by
      have := ones_wrap (64 - n).toNat (by omega)
      unfold onesI
      rw [if_neg (by omega), if_neg (by omega), ← this]
      simp [IntKind.wrap, IntKind.bits, IntKind.signed]
    rw [e]
    clear e
    have h3 := h.1
    have h4 := h.2
    clear h
    go_enter Try.func233, Try.ntmps233
    go_wp2
    all_goals go_ret
    all_goals exact ⟨rfl, rfl⟩
  · have e : onesI n = 18446744073709551615 := by unfold onesI; rw [if_neg (by omega), if_pos h]
    rw [e]
    go_enter Try.func233, Try.ntmps233
    go_wp2
    all_goals go_ret
    all_goals exact ⟨ret_int (by simp), rfl⟩

def maskHi (six : Bool) (n : Int) : Int := if six then onesI n else 0
def maskLo (six : Bool) (n : Int) : Int := if six then onesI (n - 64) else onesI n / 4294967296
theorem maskHi_range (six : Bool) (n : Int) : 0 ≤ maskHi six n ∧ maskHi six n < 18446744073709551616 := by
  unfold maskHi
  split
  · exact onesI_range n
  · omega
theorem maskLo_range (six : Bool) (n : Int) : 0 ≤ maskLo six n ∧ maskLo six n < 18446744073709551616 := by
  unfold maskLo
  split
  · exact onesI_range _
  · have := onesI_range n
    omega

theorem and_32 (x : Int) (h1 : 0 ≤ x) (h2 : x < 4294967296) : bits .and .u64 x 4294967295 = x := by
  rw [u64_and x _ h1 (by omega) (by omega) (by omega)]
  rw [show (4294967295 : Int).toNat = 2 ^ 32 - 1 from rfl, Nat.and_two_pow_sub_one_eq_mod, Nat.mod_eq_of_lt (by omega)]
  omega

set_option maxHeartbeats 400000 in
theorem mask_any (six : Bool) (n : Int) (w : World) (h1 : -500 ≤ n) (h2 : n ≤ 500) :
    Calls Try.prog 193 #[.bool six, .int .i64 n] w fun e w' => e = .returned (.tuple #[.int .u64 (maskHi six n), .int .u64 (maskLo six n)]) ∧ w = w' := by
  cases six
  · have hr := onesI_range n
    go_enter Try.func193, Try.ntmps193
    go_wp2_with (go_at_call 233; refine (ones_any _ _ (by omega) (by omega)).mono ?_; rintro e w' ⟨rfl, rfl⟩)
    go_ret2
    exact ⟨by rw [and_32 _ (by omega) (by omega)]; rfl, rfl⟩
  · go_enter Try.func193, Try.ntmps193
    go_wp2_with (go_at_call 233; refine (ones_any _ _ (by omega) (by omega)).mono ?_; rintro e w' ⟨rfl, rfl⟩)
    go_ret2
    exact ⟨rfl, rfl⟩

theorem and_hi (six : Bool) (hi n : Int) (h1 : 0 ≤ hi ∧ hi < 18446744073709551616) : bits .and .u64 hi (maskHi six n) = cutHi six hi n := by
  have hm := maskHi_range six n
  rw [u64_and _ _ h1.1 h1.2 hm.1 hm.2]
  unfold maskHi cutHi
  cases six
  · simp
  · exact and_ones_int hi n h1.1 h1.2

theorem and_lo (six : Bool) (lo n : Int) (h1 : 0 ≤ lo ∧ lo < 18446744073709551616) (h2 : six = false → lo < 4294967296) : bits .and .u64 lo (maskLo six n) = cutLo six lo n := by
  have hm := maskLo_range six n
  rw [u64_and _ _ h1.1 h1.2 hm.1 hm.2]
  unfold maskLo cutLo
  cases six
  · have h3 := h2 rfl
    have e := and_ones_int (lo * 4294967296) n (by omega) (by omega)
    rw [if_neg (by simp), if_neg (by simp), ← e]
    have hr := onesI_range n
    have e1 : (onesI n / 4294967296).toNat = (onesI n).toNat / 2 ^ 32 := by omega
    have e2 : lo.toNat = (lo * 4294967296).toNat / 2 ^ 32 := by omega
    rw [e1, e2, ← Nat.and_div_two_pow]
    omega
  · exact and_ones_int lo (n - 64) h1.1 h1.2

set_option maxHeartbeats 800000 in
theorem cut_any (six : Bool) (hi lo n : Int) (w : World) (h1 : 0 ≤ hi ∧ hi < 18446744073709551616) (h2 : 0 ≤ lo ∧ lo < 18446744073709551616) (h3 : six = false → lo < 4294967296) (h4 : -500 ≤ n) (h5 : n ≤ 500) :
    Calls Try.prog 146 #[.agg #[.bool six, .int .u64 hi, .int .u64 lo], .int .i64 n] w fun e w' => e = .returned (.agg #[.bool six, .int .u64 (cutHi six hi n), .int .u64 (cutLo six lo n)]) ∧ Below w.heap.size w w' := by
  rw [← and_hi six hi n h1, ← and_lo six lo n h2 h3]
  clear h3
  go_enter Try.func146, Try.ntmps146
  go_wp2_with (go_at_call 193; refine (mask_any six n _ (by omega) (by omega)).mono ?_; rintro e w' ⟨rfl, rfl⟩)
  exact bodyPost_ret (v := .agg #[.bool six, .int .u64 (bits .and .u64 hi (maskHi six n)), .int .u64 (bits .and .u64 lo (maskLo six n))]) (by simp [results, Try.results146, go_sem]) rfl
    ⟨rfl, ((Below.refl _ _).alloc (Nat.le_refl _) _).alloc (by simp) _⟩

end Go.Proofs.Ytnflaaoapmhjgaa

namespace Go.Proofs.Ytnflaaoapmhjgaa
open Go.ChangeShapes Go.WideShapes Go.ChangeAt Go.RowKit

set_option maxHeartbeats 1600000 in
theorem check_any (six : Bool) (hi lo n : Int) (w : World) (h1 : 0 ≤ hi ∧ hi < 18446744073709551616) (h2 : 0 ≤ lo ∧ lo < 18446744073709551616) :
    Calls Try.prog 78 #[.agg #[.bool six, .int .u64 hi, .int .u64 lo, .int .i64 n]] w fun e w' => e = .returned (.int .i64 (chk six hi lo n)) ∧ Below w.heap.size w w' := by
  unfold chk
  by_cases hm : mayB six hi lo = false
  · rw [if_pos hm]
    go_enter Try.func78, Try.ntmps78
    go_wp2_with (go_at_call 76; refine (may_any six hi lo _ h2.1).mono ?_; rintro e w1 ⟨rfl, hb⟩; obtain ⟨B1, S1, q0, q1, q2, q3⟩ := box4 hb; clear hb)
    go_ret
    exact ⟨rfl, B1⟩
  · rw [if_neg hm]
    have hm' : mayB six hi lo = true := by simpa using hm
    clear hm
    by_cases hr : n < 0
    · rw [if_pos (.inl hr)]
      go_enter Try.func78, Try.ntmps78
      go_wp2_with (go_at_call 76; refine (may_any six hi lo _ h2.1).mono ?_; rintro e w1 ⟨rfl, hb⟩; obtain ⟨B1, S1, q0, q1, q2, q3⟩ := box4 hb; clear hb)
      go_quiet ((go_at_call 139; refine (wide_any six _).mono ?_; rintro e w2 ⟨rfl, rfl⟩))
      go_wp2
      go_ret
      exact ⟨rfl, below_drewN B1 _⟩
    · have hl := wideI_le six
      have hd : decide (n < 0) = false := by simpa using hr
      by_cases hr2 : wideI six < n
      · rw [if_pos (.inr hr2)]
        go_enter Try.func78, Try.ntmps78
        go_wp2_with (go_at_call 76; refine (may_any six hi lo _ h2.1).mono ?_; rintro e w1 ⟨rfl, hb⟩; obtain ⟨B1, S1, q0, q1, q2, q3⟩ := box4 hb; clear hb)
        go_quiet ((go_at_call 139; exact Calls.quiet_of_same ((wide_any six _).mono fun e w' h => ⟨h.1, h.2.symm⟩)))
        go_wp2
        go_ret
        exact ⟨rfl, below_drewN B1 _⟩
      · rw [if_neg (by omega)]
        have hq : six = false → lo < 4294967296 := by
          rintro rfl
          exact (mayB_four hm').2
        have HQ := Lib.hid hq
        clear hq
        by_cases hc : cleanB six hi lo n = true
        · rw [if_pos hc]
          have e1 : cutHi six hi n = hi := by simp only [cleanB, Bool.and_eq_true, beq_iff_eq] at hc; exact hc.1
          have e2 : cutLo six lo n = lo := by simp only [cleanB, Bool.and_eq_true, beq_iff_eq] at hc; exact hc.2
          clear hc
          go_enter Try.func78, Try.ntmps78
          go_wp2_with (go_at_call 76; refine (may_any six hi lo _ h2.1).mono ?_; rintro e w1 ⟨rfl, hb⟩; obtain ⟨B1, S1, q0, q1, q2, q3⟩ := box4 hb; clear hb)
          go_quiet ((go_at_call 139; exact Calls.quiet_of_same ((wide_any six _).mono fun e w' h => ⟨h.1, h.2.symm⟩)))
          go_wp2_with fail
          go_region_held3 (fun w' => Below w.heap.size w w' ∧ w.heap.size < w'.heap.size ∧ w'.cell? ⟨w.heap.size, 0, none⟩ = some (.bool six) ∧ w'.cell? ⟨w.heap.size, 1, none⟩ = some (.int .u64 hi) ∧ w'.cell? ⟨w.heap.size, 2, none⟩ = some (.int .u64 lo) ∧ w'.cell? ⟨w.heap.size, 3, none⟩ = some (.int .i64 n))
            (((try go_split_ands); (repeat' apply And.intro) <;> first | assumption | exact (below_drewN B1 _).drew | exact below_step (by assumption) (by assumption) | exact cell_step (by assumption) (by assumption) | exact size_step (by assumption) (by assumption) | go_keep))
            (first | (go_at_call 146; refine (cut_any six hi lo n _ h1 h2 HQ.out (by omega) (by omega)).mono ?_; rintro e w' ⟨rfl, hb⟩))
          all_goals go_wp2
          all_goals go_ret
          all_goals (go_split_ands; exact ⟨by simp, by assumption⟩)
        · rw [if_neg hc]
          by_cases e1 : cutHi six hi n = hi
          · have e2 : ¬ cutLo six lo n = lo := by
              intro e2
              exact hc (by simp [cleanB, e1, e2])
            have e3 : (cutLo six lo n == lo) = false := by simpa using e2
            clear hc
            go_enter Try.func78, Try.ntmps78
            go_wp2_with (go_at_call 76; refine (may_any six hi lo _ h2.1).mono ?_; rintro e w1 ⟨rfl, hb⟩; obtain ⟨B1, S1, q0, q1, q2, q3⟩ := box4 hb; clear hb)
            go_quiet ((go_at_call 139; exact Calls.quiet_of_same ((wide_any six _).mono fun e w' h => ⟨h.1, h.2.symm⟩)))
            go_wp2_with fail
            go_region_held3 (fun w' => Below w.heap.size w w' ∧ w.heap.size < w'.heap.size ∧ w'.cell? ⟨w.heap.size, 0, none⟩ = some (.bool six) ∧ w'.cell? ⟨w.heap.size, 1, none⟩ = some (.int .u64 hi) ∧ w'.cell? ⟨w.heap.size, 2, none⟩ = some (.int .u64 lo) ∧ w'.cell? ⟨w.heap.size, 3, none⟩ = some (.int .i64 n))
              (((try go_split_ands); (repeat' apply And.intro) <;> first | assumption | exact (below_drewN B1 _).drew | exact below_step (by assumption) (by assumption) | exact cell_step (by assumption) (by assumption) | exact size_step (by assumption) (by assumption) | go_keep))
              (first | (go_at_call 146; refine (cut_any six hi lo n _ h1 h2 HQ.out (by omega) (by omega)).mono ?_; rintro e w' ⟨rfl, hb⟩))
            all_goals go_wp2
            all_goals go_ret
            all_goals (go_split_ands; exact ⟨by simp, by assumption⟩)
          · have e3 : (cutHi six hi n == hi) = false := by simpa using e1
            clear hc
            go_enter Try.func78, Try.ntmps78
            go_wp2_with (go_at_call 76; refine (may_any six hi lo _ h2.1).mono ?_; rintro e w1 ⟨rfl, hb⟩; obtain ⟨B1, S1, q0, q1, q2, q3⟩ := box4 hb; clear hb)
            go_quiet ((go_at_call 139; exact Calls.quiet_of_same ((wide_any six _).mono fun e w' h => ⟨h.1, h.2.symm⟩)))
            go_wp2_with fail
            go_region_held3 (fun w' => Below w.heap.size w w' ∧ w.heap.size < w'.heap.size ∧ w'.cell? ⟨w.heap.size, 0, none⟩ = some (.bool six) ∧ w'.cell? ⟨w.heap.size, 1, none⟩ = some (.int .u64 hi) ∧ w'.cell? ⟨w.heap.size, 2, none⟩ = some (.int .u64 lo) ∧ w'.cell? ⟨w.heap.size, 3, none⟩ = some (.int .i64 n))
              (((try go_split_ands); (repeat' apply And.intro) <;> first | assumption | exact (below_drewN B1 _).drew | exact below_step (by assumption) (by assumption) | exact cell_step (by assumption) (by assumption) | exact size_step (by assumption) (by assumption) | go_keep))
              (first | (go_at_call 146; refine (cut_any six hi lo n _ h1 h2 HQ.out (by omega) (by omega)).mono ?_; rintro e w' ⟨rfl, hb⟩))
            all_goals go_wp2
            all_goals go_ret
            all_goals (go_split_ands; exact ⟨by simp, by assumption⟩)

set_option maxRecDepth 100000 in
/-- A prefix that came in. -/
theorem open_prefix {H : Type} {enc : TypeId × Value → H} {W : World} {base : Nat} {sp : Nat → Bool} {held : Bool} {b0 : Nat} {v : Value} {d : DataW H} {p : List MemPlace}
    (hv : Value.okWide Try.prog W .any b0 51 v) (h : DataW.Trod enc Try.prog W base sp held 51 v d p) :
    ∃ six hi lo n, v = .agg #[.bool six, .int .u64 hi, .int .u64 lo, .int .i64 n] ∧ (0 ≤ hi ∧ hi < 18446744073709551616) ∧ (0 ≤ lo ∧ lo < 18446744073709551616) ∧ (-9223372036854775808 ≤ n ∧ n ≤ 9223372036854775807) := by
  have hc : Try.prog.cellsOf 51 = 4 := by kernel_rfl
  have hk : flat Try.prog 9 51 = some [none, some .u64, some .u64, some .i64] := by kernel_rfl
  obtain ⟨cs, rfl, hf⟩ := open_flat (fun fuel cs x hl hx => trod_flat 9 _ _ fuel cs x hk hl (by rw [hc]; rfl) hx) Try.underlying51 hv h
  obtain ⟨six, _, rfl, hf1⟩ := hf.bool_inv
  obtain ⟨hi, _, rfl, wy, hf2⟩ := hf1.int_inv
  obtain ⟨lo, _, rfl, wz, hf3⟩ := hf2.int_inv
  obtain ⟨n, _, rfl, wu, hf4⟩ := hf3.int_inv
  obtain rfl := hf4.nil_inv
  exact ⟨six, hi, lo, n, rfl, range_u64 wy, range_u64 wz, bounds_i64 wu⟩

end Go.Proofs.Ytnflaaoapmhjgaa

namespace Go.Proofs.Ytnflaaoapmhjgaa
open Go.RowKit

theorem cell_add {w : World} {X : Addr} {j : Nat} {u : Value} (h : w.cell? (X.add j) = some u) : w.cell? ⟨X.block, X.off + j, none⟩ = some u := by
  have hs := World.cell?_spot h
  have e : X.add j = ⟨X.block, X.off + j, none⟩ := by
    obtain ⟨b, o, s⟩ := X
    unfold Addr.add at hs ⊢
    by_cases hj : j = 0
    · subst hj
      simp at hs ⊢
      exact hs
    · simp [hj] at hs ⊢
      try exact hs
  rwa [e] at h

theorem flat_at {α : Type} {size : Nat} {f : α → List Value} (hf : ∀ x, (f x).length = size) : ∀ (l : List α) (k : Nat) (x : α) (j : Nat) (u : Value), l[k]? = some x → (f x)[j]? = some u → (l.flatMap f)[k * size + j]? = some u
  | [], k, x, j, u, h, _ => by simp at h
  | y :: l, 0, x, j, u, h, hu => by
    simp at h
    subst h
    rw [List.flatMap_cons, List.getElem?_append_left (by have := (List.getElem?_eq_some_iff.1 hu).1; omega), Nat.zero_mul, Nat.zero_add]
    exact hu
  | y :: l, k + 1, x, j, u, h, hu => by
    rw [List.flatMap_cons, List.getElem?_append_right (by rw [hf, Nat.succ_mul]; omega), hf, show (k + 1) * size + j - size = k * size + j from by rw [Nat.succ_mul]; omega]
    exact flat_at hf l k x j u (by simpa using h) hu

/-- Element k of a slice of structs, cell by cell, in the walk's own spelling. -/
theorem Reads.atS {w : World} {B n k size : Nat} {A : Option Addr} {α : Type} {l : List α} {f : α → List Value} (hf : ∀ x, (f x).length = size) (hz : l.length = n) (h : Reads w B size A n (l.flatMap f)) (hk : k < n) :
    ∃ ad x, A = some ad ∧ l[k]? = some x ∧ l.take (k + 1) = l.take k ++ [x] ∧ x ∈ l ∧ ad.block < B ∧ (∀ u, (f x)[0]? = some u → w.cell? (ad.add (k * size)) = some u) ∧
      ∀ j u, (f x)[j]? = some u → w.cell? ⟨(ad.add (k * size)).block, (ad.add (k * size)).off + j, none⟩ = some u := by
  obtain ⟨ad, rfl, hb, hc⟩ := h.2 (by omega)
  have hx : l[k]? = some (l[k]'(by omega)) := List.getElem?_eq_getElem (by omega)
  refine ⟨ad, l[k]'(by omega), rfl, hx, by rw [List.take_add_one, hx]; rfl, List.getElem_mem _, hb, fun u hu => ?_, fun j u hu => ?_⟩
  · have := hc _ u (flat_at hf l k _ 0 u hx hu)
    exact this
  · have := hc _ u (flat_at hf l k _ j u hx hu)
    rw [← add_of_add] at this
    exact cell_add this

theorem box1b {w w1 : World} {cs : List Value} {t : TypeId} {fr : Nat × Nat} {o : Obj} (hb : Below ((w.alloc (.cells cs.toArray t fr)).alloc o).heap.size ((w.alloc (.cells cs.toArray t fr)).alloc o) w1) :
    Below w.heap.size w w1 ∧ w.heap.size + 1 < w1.heap.size ∧ ∀ j u, cs[j]? = some u → w1.cell? ⟨w.heap.size, j, none⟩ = some u := by
  have hs := hb.size
  simp at hs
  refine ⟨below_step (((Below.refl _ _).alloc (Nat.le_refl _) _).alloc (by simp) _) hb, by omega, fun j u hj => cell_step hb ?_⟩
  rw [World.cell?_alloc_past _ _ _ (by simp)]
  have e := heap_alloc_new w (.cells cs.toArray t fr)
  unfold World.cell?
  simp only [e]
  simpa using hj
theorem step1 {w1 w2 : World} {o : Obj} (hb : Below (w1.alloc o).heap.size (w1.alloc o) w2) : Below w1.heap.size w1 w2 := below_step ((Below.refl _ _).alloc (Nat.le_refl _) _) hb

end Go.Proofs.Ytnflaaoapmhjgaa

namespace Go.Proofs.Ytnflaaoapmhjgaa
open Go.ChangeShapes Go.WideShapes Go.ChangeAt Go.RowKit

/-- Behind a call that changes nothing that existed all old cells read as before. -/
theorem bcell {W w1 : World} (hb : Below W.heap.size W w1) : (∀ b o, b < W.heap.size → w1.cell? ⟨b, o, none⟩ = W.cell? ⟨b, o, none⟩) ∧ (∀ b o, b < W.heap.size → w1.frozen? ⟨b, o, none⟩ = W.frozen? ⟨b, o, none⟩) :=
  ⟨fun b o h => hb.cell (p := ⟨b, o, none⟩) h, fun b o h => hb.frozen (p := ⟨b, o, none⟩) h⟩

theorem bsize1 {w w1 : World} {o : Obj} (hb : Below (w.alloc o).heap.size (w.alloc o) w1) : w.heap.size < w1.heap.size := by
  have := hb.size
  simp at this
  omega
theorem bsize2 {w w1 : World} {o o' : Obj} (hb : Below ((w.alloc o).alloc o').heap.size ((w.alloc o).alloc o') w1) : w.heap.size < w1.heap.size ∧ w.heap.size + 1 < w1.heap.size := by
  have := hb.size
  simp at this
  omega
theorem bsize3 {w w1 : World} {o o' o'' : Obj} (hb : Below (((w.alloc o).alloc o').alloc o'').heap.size (((w.alloc o).alloc o').alloc o'') w1) :
    w.heap.size < w1.heap.size ∧ w.heap.size + 1 < w1.heap.size ∧ w.heap.size + 1 + 1 < w1.heap.size := by
  have := hb.size
  simp at this
  omega
theorem balloc1 {w w1 : World} {o : Obj} (hb : Below (w.alloc o).heap.size (w.alloc o) w1) : Below w.heap.size w w1 := below_step ((Below.refl _ _).alloc (Nat.le_refl _) _) hb
theorem balloc2 {w w1 : World} {o o' : Obj} (hb : Below ((w.alloc o).alloc o').heap.size ((w.alloc o).alloc o') w1) : Below w.heap.size w w1 :=
  below_step (((Below.refl _ _).alloc (Nat.le_refl _) _).alloc (by simp) _) hb
theorem balloc3 {w w1 : World} {o o' o'' : Obj} (hb : Below (((w.alloc o).alloc o').alloc o'').heap.size (((w.alloc o).alloc o').alloc o'') w1) : Below w.heap.size w w1 :=
  below_step ((((Below.refl _ _).alloc (Nat.le_refl _) _).alloc (by simp) _).alloc (by simp; omega) _) hb

/-- The same behind a world that differs from a named one by draws alone. -/
theorem bcellN {w1 X w2 : World} (hb : Below X.heap.size X w2) (hX : X.heap = w1.heap) :
    (∀ b o, b < w1.heap.size → w2.cell? ⟨b, o, none⟩ = w1.cell? ⟨b, o, none⟩) ∧ (∀ b o, b < w1.heap.size → w2.frozen? ⟨b, o, none⟩ = w1.frozen? ⟨b, o, none⟩) ∧ w1.heap.size ≤ w2.heap.size := by
  have hs : X.heap.size = w1.heap.size := by rw [hX]
  refine ⟨fun b o h => ?_, fun b o h => ?_, by have := hb.size; omega⟩
  · exact (hb.cell (p := ⟨b, o, none⟩) (by show b < _; omega)).trans (World.cell?_of_block (w := w1) (by rw [hX]))
  · exact (hb.frozen (p := ⟨b, o, none⟩) (by show b < _; omega)).trans (World.frozen?_of_block (w := w1) (by rw [hX]))

/-! What a region keeps: all cells of a world w1. -/
theorem keep0 (w1 : World) : (∀ b o, b < w1.heap.size → w1.drew.cell? ⟨b, o, none⟩ = w1.cell? ⟨b, o, none⟩) ∧ w1.heap.size ≤ w1.drew.heap.size ∧ Hid (Below w1.heap.size w1 w1.drew) :=
  ⟨fun _ _ _ => rfl, Nat.le_refl _, (Below.refl _ _).drew⟩
theorem keepD {w1 X : World} (h : (∀ b o, b < w1.heap.size → X.cell? ⟨b, o, none⟩ = w1.cell? ⟨b, o, none⟩) ∧ w1.heap.size ≤ X.heap.size ∧ Hid (Below w1.heap.size w1 X)) :
    (∀ b o, b < w1.heap.size → X.drew.cell? ⟨b, o, none⟩ = w1.cell? ⟨b, o, none⟩) ∧ w1.heap.size ≤ X.drew.heap.size ∧ Hid (Below w1.heap.size w1 X.drew) :=
  ⟨h.1, h.2.1, h.2.2.out.drew⟩
theorem keep1 {w1 X w2 : World} (h : (∀ b o, b < w1.heap.size → X.cell? ⟨b, o, none⟩ = w1.cell? ⟨b, o, none⟩) ∧ w1.heap.size ≤ X.heap.size ∧ Hid (Below w1.heap.size w1 X)) (hb : Below X.heap.size X w2) :
    (∀ b o, b < w1.heap.size → w2.cell? ⟨b, o, none⟩ = w1.cell? ⟨b, o, none⟩) ∧ w1.heap.size ≤ w2.heap.size ∧ Hid (Below w1.heap.size w1 w2) :=
  ⟨fun b o hb' => (hb.cell (p := ⟨b, o, none⟩) (by show b < _; have := h.2.1; omega)).trans (h.1 b o hb'), Nat.le_trans h.2.1 hb.size, below_step h.2.2.out hb⟩

theorem own_block_lt {w : World} {base : Nat} {e : TypeId} {size n : Nat} {v : Value} {xs : List Value} (h : w.ownsRow base e size v n xs) {k : Nat} (hk : w.heap.size ≤ k) : v.ownBlock ≠ some k := by
  rcases h.2 with ⟨rfl, _⟩ | ⟨g, cap, cur, rfl, _, hh, _⟩
  · simp [Value.ownBlock]
  · intro he
    have : g = k := by simpa [Value.ownBlock] using he
    subst this
    rw [Array.getElem?_eq_none hk] at hh
    cases hh

/-- As wpList_append_one, where the number of the new block is spelled otherwise; it tells of all blocks but the row's own. -/
theorem wpList_append_oneN {P : Program} {ops : Array Oper} {rest : List Oper} {o : Oper} {a : Act} {Q : Exit → Act → World → Prop} {w0 : World} {us : List Value} {fr : Nat × Nat} {e : TypeId} {g : Nat} (hgd : o.guard = none) (s x : Operand) (t : TypeId)
    (ho : o.op = .call { callee := .builtin .append, args := #[s, x], argTypes := #[t, t] })
    (base : Nat) (z : Value) (size bytes : Nat) (ht : P.underlying t = some (.slice e)) (hi : (P.info? e).map (fun i => (i.zero, i.size, i.bytes)) = some (some z, size, bytes))
    (hzs : z.cells.size = size) (hsz : 0 < size) (v : Value) (n : Nat) (xs : List Value) (hs : a.eval s = v)
    (hx : a.eval x = .slice (some ⟨g, 0, none⟩) 1 1) (hg : g = w0.heap.size) (hown : w0.ownsRow base e size v n xs) (hbase : base ≤ w0.heap.size)
    (hl : us.length = size) (h1 : ∀ u ∈ us, u.oneCell' = true) (h63 : n + 1 ≤ maxLen) (hbytes : (n + 1) * bytes ≤ 140737488355328)
    (h : ∀ v' w', w'.ownsRow base e size v' (n + 1) (xs ++ us) → Below base w0 w' → w0.heap.size < w'.heap.size → (∀ k, k < w0.heap.size → v.ownBlock ≠ some k → w'.heap[k]? = w0.heap[k]?) → wpList P ops Q rest (a.put o.dst v') w') :
    wpList P ops Q (o :: rest) a (w0.alloc (.cells us.toArray e fr)) := by
  subst hg
  obtain ⟨i0, hi, hz0, hz1, hz2⟩ := info_parts hi
  refine wpList_append_own _ hgd s x t ho base e i0 z size bytes ht hi hz0 hz1 hz2 hzs hsz v n xs hs (hown.alloc _) ⟨w0.heap.size, 0, none⟩ 1 1 us hx (by omega) ?_ h1 h63 hbytes (by simp; omega) ?_
  · intro j u hj
    have e1 : (⟨w0.heap.size, 0, none⟩ : Addr).add j = ⟨w0.heap.size, j, none⟩ := by unfold Addr.add; split <;> simp_all
    rw [e1]
    have : (w0.alloc (.cells us.toArray e fr)).heap[w0.heap.size]? = some (.cells us.toArray e fr) := heap_alloc_new w0 _
    unfold World.cell?
    simp only [this]
    simpa using hj
  · intro v' w' hown' hg _
    have hb : Below base w0 (w0.alloc (.cells us.toArray e fr)) := (Below.refl _ _).alloc hbase _
    refine h v' w' hown' (hb.grown hg (by simp; omega) ?_) ?_ ?_
    · intro k hk
      rcases hown.2 with ⟨rfl, _⟩ | ⟨g, cap, cur, rfl, hgb, _⟩
      · simp [Value.ownBlock] at hk
      · simp only [Value.ownBlock, Option.some.injEq] at hk
        omega
    · have := hg.size
      simp at this
      omega
    · intro k hk hne
      rw [hg.block k (by simp; omega) (fun he => hne he.symm)]
      exact Below.heap_alloc _ _ _ hk

theorem keepB {w1 X w2 : World} (h : (∀ b o, b < w1.heap.size → X.cell? ⟨b, o, none⟩ = w1.cell? ⟨b, o, none⟩) ∧ w1.heap.size ≤ X.heap.size ∧ Hid (Below w1.heap.size w1 X)) (hb : Below w1.heap.size X w2) :
    (∀ b o, b < w1.heap.size → w2.cell? ⟨b, o, none⟩ = w1.cell? ⟨b, o, none⟩) ∧ w1.heap.size ≤ w2.heap.size ∧ Hid (Below w1.heap.size w1 w2) :=
  ⟨fun b o hb' => (hb.cell (p := ⟨b, o, none⟩) hb').trans (h.1 b o hb'), Nat.le_trans h.2.1 hb.size, h.2.2.out.trans hb⟩
theorem keepBelow {w1 X : World} (h : (∀ b o, b < w1.heap.size → X.cell? ⟨b, o, none⟩ = w1.cell? ⟨b, o, none⟩) ∧ w1.heap.size ≤ X.heap.size ∧ Hid (Below w1.heap.size w1 X)) : Below w1.heap.size w1 X := h.2.2.out
theorem keepSize {w1 X : World} (h : (∀ b o, b < w1.heap.size → X.cell? ⟨b, o, none⟩ = w1.cell? ⟨b, o, none⟩) ∧ w1.heap.size ≤ X.heap.size ∧ Hid (Below w1.heap.size w1 X)) : w1.heap.size ≤ X.heap.size := h.2.1
theorem keepA {w1 X : World} (h : (∀ b o, b < w1.heap.size → X.cell? ⟨b, o, none⟩ = w1.cell? ⟨b, o, none⟩) ∧ w1.heap.size ≤ X.heap.size ∧ Hid (Below w1.heap.size w1 X)) (o : Obj) :
    (∀ b o', b < w1.heap.size → (X.alloc o).cell? ⟨b, o', none⟩ = w1.cell? ⟨b, o', none⟩) ∧ w1.heap.size ≤ (X.alloc o).heap.size ∧ Hid (Below w1.heap.size w1 (X.alloc o)) :=
  keepB h ((Below.refl _ _).alloc h.2.1 o)

/-- A builtin append in a region that draws its order: a row of the call's own, and whatever is appended. -/
theorem step_append_below {P : Program} {ops : Array Oper} {o : Oper} {a : Act} {w : World} {K : Act → World → Prop} {Q : Exit → Act → World → Prop} {E : Prop} (hgd : o.guard = none) (s x : Operand) (t : TypeId)
    (ho : o.op = .call { callee := .builtin .append, args := #[s, x], argTypes := #[t, t] })
    (base : Nat) (e : TypeId) (z : Value) (size bytes : Nat) (ht : P.underlying t = some (.slice e)) (hi : (P.info? e).map (fun i => (i.zero, i.size, i.bytes)) = some (some z, size, bytes))
    (hzs : z.cells.size = size) (hsz : 0 < size)
    (v : Value) (n : Nat) (xs : List Value) (hs : a.eval s = v) (hown : w.ownsRow base e size v n xs)
    (B : Nat) (A : Option Addr) (m c : Nat) (news : List Value) (hx : a.eval x = .slice A m c) (hr : Reads w B size A m news) (h1 : ∀ u ∈ news, u.oneCell' = true)
    (h63 : n + m ≤ maxLen) (hbytes : (n + m) * bytes ≤ 140737488355328) (hbase : base ≤ w.heap.size)
    (h : ∀ v' w', w'.ownsRow base e size v' (n + m) (xs ++ news) → Below base w w' → K (a.put o.dst v') w') :
    if Region.wanted o (yielded ops a.tmps) = true then Oper.wp P o a w K Q else E := by
  obtain ⟨i0, hi, hz0, hz1, hz2⟩ := info_parts hi
  refine step_append_any w hgd s x t ho base e i0 z size bytes ht hi hz0 hz1 hz2 hzs hsz v n xs hs hown B A m c news hx hr h1 h63 hbytes hbase fun v' w' h2 h3 _ => h v' w' h2 ((Below.refl _ _).grown h3 hbase ?_)
  intro k hk
  rcases hown.2 with ⟨rfl, _⟩ | ⟨g, cap, cur, rfl, hgb, _⟩
  · simp [Value.ownBlock] at hk
  · simp only [Value.ownBlock, Option.some.injEq] at hk
    omega

/-- A builtin append onto nil in a region that draws its order: a new block; nothing that existed is changed. -/
theorem step_append_nil {P : Program} {ops : Array Oper} {o : Oper} {a : Act} {w : World} {K : Act → World → Prop} {Q : Exit → Act → World → Prop} {E : Prop} (hgd : o.guard = none) (s x : Operand) (t : TypeId)
    (ho : o.op = .call { callee := .builtin .append, args := #[s, x], argTypes := #[t, t] })
    (base : Nat) (e : TypeId) (z : Value) (size bytes : Nat) (ht : P.underlying t = some (.slice e)) (hi : (P.info? e).map (fun i => (i.zero, i.size, i.bytes)) = some (some z, size, bytes))
    (hzs : z.cells.size = size) (hsz : 0 < size) (hs : a.eval s = .slice none 0 0)
    (B : Nat) (A : Option Addr) (m c : Nat) (news : List Value) (hx : a.eval x = .slice A m c) (hr : Reads w B size A m news) (h1 : ∀ u ∈ news, u.oneCell' = true)
    (h63 : m ≤ maxLen) (hbytes : m * bytes ≤ 140737488355328) (hbase : base ≤ w.heap.size)
    (h : ∀ v' w', w'.ownsRow base e size v' m news → Below w.heap.size w w' → K (a.put o.dst v') w') :
    if Region.wanted o (yielded ops a.tmps) = true then Oper.wp P o a w K Q else E := by
  obtain ⟨i0, hi, hz0, hz1, hz2⟩ := info_parts hi
  refine step_append_any w hgd s x t ho base e i0 z size bytes ht hi hz0 hz1 hz2 hzs hsz (.slice none 0 0) 0 [] hs (World.ownsRow_nil _ _ _ _) B A m c news hx hr h1 (by omega) (by rw [Nat.zero_add]; exact hbytes) hbase fun v' w' h2 h3 _ => h v' w' (by rw [Nat.zero_add, List.nil_append] at h2; exact h2) ((Below.refl _ _).grown h3 (Nat.le_refl _) ?_)
  intro k hk
  simp [Value.ownBlock] at hk

theorem reads_one {w : World} {g : Nat} {u : Value} (h : w.cell? ⟨g, 0, none⟩ = some u) (hg : g < w.heap.size) : Reads w w.heap.size 1 (some ⟨g, 0, none⟩) 1 [u] := by
  refine ⟨rfl, fun _ => ⟨_, rfl, hg, fun j v hj => ?_⟩⟩
  have : j = 0 := by
    rcases Nat.eq_zero_or_pos j with h0 | h0
    · exact h0
    · rw [List.getElem?_eq_none (by simp; omega)] at hj; cases hj
  subst this
  simp at hj
  subst hj
  exact h

end Go.Proofs.Ytnflaaoapmhjgaa

namespace Go.Proofs.Ytnflaaoapmhjgaa
open Go.ChangeShapes Go.WideShapes Go.ChangeAt Go.RowKit

theorem own_reads {w : World} {base : Nat} {e : TypeId} {size n : Nat} {v : Value} {xs : List Value} (h : w.ownsRow base e size v n xs) : ∃ A c, v = .slice A n c ∧ (n ≤ c ∧ c ≤ maxLen) ∧ Reads w w.heap.size size A n xs := by
  rcases h.2 with ⟨rfl, rfl⟩ | ⟨g, cap, cur, rfl, _, _, h1, h2, _⟩
  · exact ⟨none, 0, rfl, ⟨Nat.le_refl _, by unfold maxLen; omega⟩, Reads.of_own h⟩
  · exact ⟨_, cap, rfl, ⟨h1, h2⟩, Reads.of_own h⟩

/-- append(own, s...) in a list of operations. -/
theorem wpList_append_reads {P : Program} {ops : Array Oper} {rest : List Oper} {o : Oper} {a : Act} {w : World} {Q : Exit → Act → World → Prop} (hgd : o.guard = none) (s x : Operand) (t : TypeId)
    (ho : o.op = .call { callee := .builtin .append, args := #[s, x], argTypes := #[t, t] })
    (base : Nat) (e : TypeId) (z : Value) (size bytes : Nat) (ht : P.underlying t = some (.slice e)) (hi : (P.info? e).map (fun i => (i.zero, i.size, i.bytes)) = some (some z, size, bytes))
    (hzs : z.cells.size = size) (hsz : 0 < size)
    (v : Value) (n : Nat) (xs : List Value) (hs : a.eval s = v) (A : Option Addr) (m c : Nat) (hx : a.eval x = .slice A m c) (hown : w.ownsRow base e size v n xs)
    (B : Nat) (news : List Value) (hr : Reads w B size A m news) (h1 : ∀ u ∈ news, u.oneCell' = true)
    (h63 : n + m ≤ maxLen) (hbytes : (n + m) * bytes ≤ 140737488355328) (hbase : base ≤ w.heap.size)
    (h : ∀ v' w', w'.ownsRow base e size v' (n + m) (xs ++ news) → Below base w w' → wpList P ops Q rest (a.put o.dst v') w') : wpList P ops Q (o :: rest) a w := by
  obtain ⟨i0, hi, hz0, hz1, hz2⟩ := info_parts hi
  refine wpList_append_any w hgd s x t ho base e i0 z size bytes ht hi hz0 hz1 hz2 hzs hsz v n xs hs hown B A m c news hx hr h1 h63 hbytes hbase fun v' w' h2 h3 _ => h v' w' h2 ((Below.refl _ _).grown h3 hbase ?_)
  intro k hk
  rcases hown.2 with ⟨rfl, _⟩ | ⟨g, cap, cur, rfl, hgb, _⟩
  · simp [Value.ownBlock] at hk
  · simp only [Value.ownBlock, Option.some.injEq] at hk
    omega

theorem own_reads_at {w : World} {base : Nat} {e : TypeId} {size n : Nat} {v : Value} {xs : List Value} (h : w.ownsRow base e size v n xs) : ∃ A c, v = .slice A n c ∧ (n ≤ c ∧ c ≤ maxLen) ∧ Reads w w.heap.size size A n xs ∧ ∀ ad, A = some ad → base ≤ ad.block := by
  rcases h.2 with ⟨rfl, rfl⟩ | ⟨g, cap, cur, rfl, hg, _, h1, h2, _⟩
  · exact ⟨none, 0, rfl, ⟨Nat.le_refl _, by unfold maxLen; omega⟩, Reads.of_own h, fun ad h => by cases h⟩
  · exact ⟨_, cap, rfl, ⟨h1, h2⟩, Reads.of_own h, fun ad h => by injection h with h; subst h; exact hg⟩

/-- A row that grows in a loop, while all that was there before the loop stays, but for the row's own first block. -/
structure RowAt (w3 : World) (G base : Nat) (e : TypeId) (size : Nat) (wr : World) (v : Value) (n : Nat) (xs : List Value) : Prop where
  own : wr.ownsRow base e size v n xs
  blk : ∀ k, v.ownBlock = some k → k = G ∨ w3.heap.size ≤ k
  below : Below base w3 wr
  kept : ∀ k, k < w3.heap.size → k ≠ G → wr.heap[k]? = w3.heap[k]?
  le : base ≤ w3.heap.size
theorem RowAt.step {w3 wr w' : World} {G base : Nat} {e : TypeId} {size n : Nat} {v : Value} {xs : List Value} (h : RowAt w3 G base e size wr v n xs) (hb : Below wr.heap.size wr w') : RowAt w3 G base e size w' v n xs :=
  ⟨own_below h.own hb, h.blk, h.below.trans (hb.mono (Nat.le_trans h.le h.below.size)), fun k hk hne => (hb.block k (by have := h.below.size; omega)).trans (h.kept k hk hne), h.le⟩
theorem RowAt.alloc {w3 wr : World} {G base : Nat} {e : TypeId} {size n : Nat} {v : Value} {xs : List Value} (h : RowAt w3 G base e size wr v n xs) (o : Obj) : RowAt w3 G base e size (wr.alloc o) v n xs := h.step ((Below.refl _ _).alloc (Nat.le_refl _) _)

theorem wpList_append_row {P : Program} {ops : Array Oper} {rest : List Oper} {o : Oper} {a : Act} {Q : Exit → Act → World → Prop} {w0 : World} {us : List Value} {fr : Nat × Nat} {e : TypeId} {g : Nat} (hgd : o.guard = none) (s x : Operand) (t : TypeId)
    (ho : o.op = .call { callee := .builtin .append, args := #[s, x], argTypes := #[t, t] })
    (w3 : World) (G base : Nat) (z : Value) (size bytes : Nat) (ht : P.underlying t = some (.slice e)) (hi : (P.info? e).map (fun i => (i.zero, i.size, i.bytes)) = some (some z, size, bytes))
    (hzs : z.cells.size = size) (hsz : 0 < size) (v : Value) (n : Nat) (xs : List Value) (hs : a.eval s = v)
    (hx : a.eval x = .slice (some ⟨g, 0, none⟩) 1 1) (hg : g = w0.heap.size) (hrow : RowAt w3 G base e size w0 v n xs)
    (hl : us.length = size) (h1 : ∀ u ∈ us, u.oneCell' = true) (h63 : n + 1 ≤ maxLen) (hbytes : (n + 1) * bytes ≤ 140737488355328)
    (h : ∀ v' w', RowAt w3 G base e size w' v' (n + 1) (xs ++ us) → w0.heap.size < w'.heap.size → (∀ k, k < w0.heap.size → v.ownBlock ≠ some k → w'.heap[k]? = w0.heap[k]?) → wpList P ops Q rest (a.put o.dst v') w') :
    wpList P ops Q (o :: rest) a (w0.alloc (.cells us.toArray e fr)) := by
  subst hg
  obtain ⟨i0, hi, hz0, hz1, hz2⟩ := info_parts hi
  have hbase : base ≤ w0.heap.size := Nat.le_trans hrow.le hrow.below.size
  have hr : Reads (w0.alloc (.cells us.toArray e fr)) (w0.alloc (.cells us.toArray e fr)).heap.size size (some ⟨w0.heap.size, 0, none⟩) 1 us := by
    refine ⟨by simp [hl], fun _ => ⟨_, rfl, by simp, fun j u hj => ?_⟩⟩
    have e1 : (⟨w0.heap.size, 0, none⟩ : Addr).add j = ⟨w0.heap.size, j, none⟩ := by unfold Addr.add; split <;> simp_all
    rw [e1]
    have : (w0.alloc (.cells us.toArray e fr)).heap[w0.heap.size]? = some (.cells us.toArray e fr) := heap_alloc_new w0 _
    unfold World.cell?
    simp only [this]
    simpa using hj
  refine wpList_append_any _ hgd s x t ho base e i0 z size bytes ht hi hz0 hz1 hz2 hzs hsz v n xs hs (hrow.own.alloc _) _ _ 1 1 us hx hr h1 h63 hbytes (by simp; omega) ?_
  intro v' w' hown' hgr hblk
  have hne : ∀ k, k < w3.heap.size → k ≠ G → v.ownBlock ≠ some k := by
    intro k hk hne he
    rcases hrow.blk k he with h | h <;> omega
  have hb : Below base w0 (w0.alloc (.cells us.toArray e fr)) := (Below.refl _ _).alloc hbase _
  have hsz' := hgr.size
  simp at hsz'
  refine h v' w' ⟨hown', ?_, hrow.below.trans (hb.grown hgr (by simp; omega) ?_), ?_, hrow.le⟩ (by omega) ?_
  · intro k hk
    rcases hblk with hh | hh
    · rw [hh] at hk
      exact hrow.blk k hk
    · rw [hh] at hk
      injection hk with hk
      have := hrow.below.size
      simp at hk
      omega
  · intro k hk
    rcases hrow.own.2 with ⟨rfl, _⟩ | ⟨g, cap, cur, rfl, hgb, _⟩
    · simp [Value.ownBlock] at hk
    · simp only [Value.ownBlock, Option.some.injEq] at hk
      omega
  · intro k hk hkG
    have := hrow.below.size
    rw [hgr.block k (by simp; omega) (fun he => hne k hk hkG he.symm)]
    exact (Below.heap_alloc _ _ _ (by omega)).trans (hrow.kept k hk hkG)
  · intro k hk hne
    rw [hgr.block k (by simp; omega) (fun he => hne he.symm)]
    exact Below.heap_alloc _ _ _ hk

end Go.Proofs.Ytnflaaoapmhjgaa
