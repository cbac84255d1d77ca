
/-
  Proved here: a set of numbers as the fewest aligned blocks, from the whole on by halves; greedy cutting of an interval gives the same blocks. Plain.
-/
namespace Go.Proofs.Ytonelibgaceflaa
open Classical
set_option linter.unusedVariables false

/-- The aligned blocks of a set within the block of 2^k numbers at v: (start, exponent). -/
noncomputable def canon (S : Nat → Prop) : Nat → Nat → List (Nat × Nat)
  | 0, v => if S v then [(v, 0)] else []
  | k + 1, v => if ∀ x, v ≤ x → x < v + 2 ^ (k + 1) → S x then [(v, k + 1)] else canon S k v ++ canon S k (v + 2 ^ k)

theorem canon_full {S : Nat → Prop} {k v : Nat} (h : ∀ x, v ≤ x → x < v + 2 ^ k → S x) : canon S k v = [(v, k)] := by
  cases k with
  | zero => unfold canon; rw [if_pos (h v (Nat.le_refl _) (by simp))]
  | succ k => unfold canon; rw [if_pos h]
theorem canon_none {S : Nat → Prop} : ∀ {k v : Nat}, (∀ x, v ≤ x → x < v + 2 ^ k → ¬ S x) → canon S k v = []
  | 0, v, h => by unfold canon; rw [if_neg (h v (Nat.le_refl _) (by simp))]
  | k + 1, v, h => by
    have hp := Nat.two_pow_pos k
    have he : 2 ^ (k + 1) = 2 ^ k + 2 ^ k := by rw [Nat.pow_succ]; omega
    unfold canon
    rw [if_neg (fun hx => h v (Nat.le_refl _) (by omega) (hx v (Nat.le_refl _) (by omega))), canon_none (fun x h1 h2 => h x h1 (by omega)), canon_none (fun x h1 h2 => h x (by omega) (by omega))]
    rfl
theorem canon_split {S : Nat → Prop} {k v : Nat} (h : ¬ ∀ x, v ≤ x → x < v + 2 ^ (k + 1) → S x) : canon S (k + 1) v = canon S k v ++ canon S k (v + 2 ^ k) := by
  conv => lhs; unfold canon
  rw [if_neg h]
theorem canon_congr {S T : Nat → Prop} : ∀ {k v : Nat}, (∀ x, v ≤ x → x < v + 2 ^ k → (S x ↔ T x)) → canon S k v = canon T k v
  | 0, v, h => by unfold canon; rw [show S v = T v from propext (h v (Nat.le_refl _) (by simp))]
  | k + 1, v, h => by
    have hp := Nat.two_pow_pos k
    have he : 2 ^ (k + 1) = 2 ^ k + 2 ^ k := by rw [Nat.pow_succ]; omega
    unfold canon
    rw [canon_congr (S := S) (T := T) (k := k) (v := v) (fun x h1 h2 => h x h1 (by omega)), canon_congr (S := S) (T := T) (k := k) (v := v + 2 ^ k) (fun x h1 h2 => h x (by omega) (by omega))]
    have : (∀ x, v ≤ x → x < v + 2 ^ (k + 1) → S x) = (∀ x, v ≤ x → x < v + 2 ^ (k + 1) → T x) := propext ⟨fun hx x h1 h2 => (h x h1 h2).1 (hx x h1 h2), fun hx x h1 h2 => (h x h1 h2).2 (hx x h1 h2)⟩
    simp only [this]
/-- A single block comes of the whole alone. -/
theorem canon_single {S : Nat → Prop} : ∀ {k v : Nat}, canon S k v = [(v, k)] → ∀ x, v ≤ x → x < v + 2 ^ k → S x
  | 0, v, h, x, h1, h2 => by
    unfold canon at h
    obtain rfl : x = v := by simp at h2; omega
    by_cases hx : S x
    · exact hx
    · rw [if_neg hx] at h; cases h
  | k + 1, v, h, x, h1, h2 => by
    unfold canon at h
    by_cases hx : ∀ x, v ≤ x → x < v + 2 ^ (k + 1) → S x
    · exact hx x h1 h2
    · rw [if_neg hx] at h
      exfalso
      have key : ∀ (S : Nat → Prop) (k v : Nat), ∀ b ∈ canon S k v, b.2 ≤ k := by
        intro S k
        induction k with
        | zero => intro v b hb; unfold canon at hb; split at hb <;> simp at hb; subst hb; simp
        | succ k ih =>
          intro v b hb
          unfold canon at hb
          split at hb
          · simp at hb; subst hb; simp
          · rcases List.mem_append.1 hb with hb | hb
            · exact Nat.le_succ_of_le (ih _ _ hb)
            · exact Nat.le_succ_of_le (ih _ _ hb)
      have hm : (v, k + 1) ∈ canon S k v ++ canon S k (v + 2 ^ k) := by rw [h]; simp
      rcases List.mem_append.1 hm with hm | hm
      · have := key _ _ _ _ hm; simp only at this; omega
      · have := key _ _ _ _ hm; simp only at this; omega

theorem aligned_eq {K a v : Nat} (ha : 2 ^ K ∣ a) (hv : 2 ^ K ∣ v) (h1 : v ≤ a) (h2 : a < v + 2 ^ K) : a = v := by
  obtain ⟨x, rfl⟩ := ha
  obtain ⟨y, rfl⟩ := hv
  have hp := Nat.two_pow_pos K
  have : y ≤ x := Nat.le_of_mul_le_mul_left h1 hp
  have : x < y + 1 := by
    have h3 : 2 ^ K * x < 2 ^ K * (y + 1) := by rw [Nat.mul_succ]; exact h2
    exact Nat.lt_of_mul_lt_mul_left h3
  have : x = y := by omega
  rw [this]
theorem pow_dvd_le {i j a : Nat} (h : 2 ^ j ∣ a) (hij : i ≤ j) : 2 ^ i ∣ a := Nat.dvd_trans (Nat.pow_dvd_pow 2 hij) h
/-- An aligned block at a below m stays below m, where m is aligned as well or better. -/
theorem aligned_below {k K a m : Nat} (ha : 2 ^ k ∣ a) (hm : 2 ^ K ∣ m) (hk : k ≤ K) (h : a < m) : a + 2 ^ k ≤ m := by
  obtain ⟨x, rfl⟩ := ha
  obtain ⟨y, rfl⟩ := pow_dvd_le hm hk
  have hp := Nat.two_pow_pos k
  have : x < y := Nat.lt_of_mul_lt_mul_left h
  calc 2 ^ k * x + 2 ^ k = 2 ^ k * (x + 1) := by rw [Nat.mul_succ]
    _ ≤ 2 ^ k * y := Nat.mul_le_mul_left _ this

def InI (a b : Nat) : Nat → Prop := fun x => a ≤ x ∧ x ≤ b

/-- The greatest aligned block at an interval's start is the first of its blocks. -/
theorem canon_step : ∀ (K : Nat) {v a b k : Nat}, 2 ^ K ∣ v → v ≤ a → a < v + 2 ^ K → a ≤ b → k ≤ K → 2 ^ k ∣ a → a + 2 ^ k ≤ b + 1 → (k = K ∨ ¬ (2 ^ (k + 1) ∣ a ∧ a + 2 ^ (k + 1) ≤ b + 1)) →
    canon (InI a b) K v = (a, k) :: canon (InI (a + 2 ^ k) b) K v := by
  intro K
  induction K with
  | zero =>
    intro v a b k hv h1 h2 hab hk ha hb hmax
    obtain rfl : k = 0 := by omega
    obtain rfl : a = v := by simp at h2; omega
    unfold canon
    rw [if_pos ⟨Nat.le_refl _, hab⟩, if_neg (fun h => by have := h.1; simp at this; omega)]
  | succ K ih =>
    intro v a b k hv h1 h2 hab hk ha hb hmax
    have hp := Nat.two_pow_pos K
    have he : 2 ^ (K + 1) = 2 ^ K + 2 ^ K := by rw [Nat.pow_succ]; omega
    have hpk := Nat.two_pow_pos k
    by_cases hin : ∀ x, v ≤ x → x < v + 2 ^ (K + 1) → InI a b x
    · obtain rfl : a = v := by have := (hin v (Nat.le_refl _) (by omega)).1; omega
      have hend := (hin (a + 2 ^ (K + 1) - 1) (by omega) (by omega)).2
      have hkK : k = K + 1 := by
        rcases hmax with h | h
        · exact h
        · apply Classical.byContradiction
          intro hne
          exact h ⟨pow_dvd_le hv (by omega), by have := Nat.pow_le_pow_right (n := 2) (by omega) (show k + 1 ≤ K + 1 by omega); omega⟩
      subst hkK
      rw [canon_full hin, canon_none (fun x hx1 hx2 hx => by have := hx.1; omega)]
    · have hne : k ≤ K := by
        apply Classical.byContradiction
        intro hgt
        obtain rfl : k = K + 1 := by omega
        obtain rfl := aligned_eq ha hv h1 h2
        exact hin fun x hx1 hx2 => ⟨hx1, by omega⟩
      have hmax' : k = K ∨ ¬ (2 ^ (k + 1) ∣ a ∧ a + 2 ^ (k + 1) ≤ b + 1) := by
        rcases hmax with h | h
        · omega
        · exact .inr h
      have hin2 : ¬ ∀ x, v ≤ x → x < v + 2 ^ (K + 1) → InI (a + 2 ^ k) b x := fun h => by have := (h v (Nat.le_refl _) (by omega)).1; omega
      rw [canon_split hin, canon_split hin2]
      have hm : 2 ^ K ∣ v + 2 ^ K := Nat.dvd_add (pow_dvd_le hv (by omega)) (Nat.dvd_refl _)
      by_cases ham : a < v + 2 ^ K
      · have hle := aligned_below ha hm hne ham
        rw [ih (pow_dvd_le hv (by omega)) h1 ham hab hne ha hb hmax', List.cons_append]
        congr 2
        exact canon_congr fun x hx1 hx2 => ⟨fun h => ⟨by omega, h.2⟩, fun h => ⟨by have := h.1; omega, h.2⟩⟩
      · rw [canon_none (S := InI a b) (k := K) (v := v) (fun x hx1 hx2 h => by have := h.1; omega), canon_none (S := InI (a + 2 ^ k) b) (k := K) (v := v) (fun x hx1 hx2 h => by have := h.1; omega),
          ih hm (by omega) (by omega) hab hne ha hb hmax']
        rfl

/-- Intervals in order, with a gap between each and the next. -/
def Apart : List (Nat × Nat) → Prop
  | [] => True
  | s :: l => s.1 ≤ s.2 ∧ (∀ t ∈ l, s.2 + 1 < t.1) ∧ Apart l
def InL (l : List (Nat × Nat)) : Nat → Prop := fun x => ∃ s ∈ l, InI s.1 s.2 x

theorem apart_one : ∀ {l : List (Nat × Nat)} {v m : Nat}, Apart l → 0 < m → (∀ x, v ≤ x → x < v + m → InL l x) → ∃ s ∈ l, ∀ x, v ≤ x → x < v + m → InI s.1 s.2 x
  | [], v, m, _, hm, h => by obtain ⟨s, hs, _⟩ := h v (Nat.le_refl _) (by omega); cases hs
  | s :: l, v, m, ⟨h1, h2, h3⟩, hm, h => by
    by_cases hv : v ≤ s.2
    · refine ⟨s, by simp, fun x hx1 hx2 => ?_⟩
      have hlow : s.1 ≤ v := by
        obtain ⟨t, ht, hi⟩ := h v (Nat.le_refl _) (by omega)
        rcases List.mem_cons.1 ht with rfl | ht
        · exact hi.1
        · have := h2 t ht; have := hi.1; omega
      refine ⟨by omega, ?_⟩
      apply Classical.byContradiction
      intro hgt
      obtain ⟨t, ht, hi⟩ := h (s.2 + 1) (by omega) (by omega)
      rcases List.mem_cons.1 ht with rfl | ht
      · have := hi.2; omega
      · have := h2 t ht; have := hi.1; omega
    · obtain ⟨t, ht, hi⟩ := apart_one (l := l) (v := v) (m := m) h3 hm (fun x hx1 hx2 => by
        obtain ⟨t, ht, hi⟩ := h x hx1 hx2
        rcases List.mem_cons.1 ht with rfl | ht
        · have := hi.2; omega
        · exact ⟨t, ht, hi⟩)
      exact ⟨t, by simp [ht], hi⟩
theorem apart_tail {s : Nat × Nat} {l : List (Nat × Nat)} (h : Apart (s :: l)) : Apart l := h.2.2
theorem inL_cons {s : Nat × Nat} {l : List (Nat × Nat)} {x : Nat} : InL (s :: l) x ↔ InI s.1 s.2 x ∨ InL l x := by
  unfold InL; simp

/-- The blocks of intervals that lie apart are those of each, one behind another. -/
theorem canon_apart : ∀ (K v : Nat) (l : List (Nat × Nat)), Apart l → canon (InL l) K v = l.flatMap fun s => canon (InI s.1 s.2) K v := by
  intro K
  induction K with
  | zero =>
    intro v l hl
    induction l with
    | nil => unfold canon; rw [if_neg (fun h => by obtain ⟨s, hs, _⟩ := h; cases hs)]; rfl
    | cons s l ih =>
      rw [List.flatMap_cons, ← ih hl.2.2]
      unfold canon
      by_cases hs : InI s.1 s.2 v
      · rw [if_pos (inL_cons.2 (.inl hs)), if_pos hs, if_neg (fun h => by obtain ⟨t, ht, hi⟩ := h; have := hl.2.1 t ht; have := hi.1; have := hs.2; omega)]
        rfl
      · rw [if_neg hs]
        by_cases hl' : InL l v
        · rw [if_pos (inL_cons.2 (.inr hl')), if_pos hl']; rfl
        · rw [if_neg (fun h => (inL_cons.1 h).elim hs hl'), if_neg hl']; rfl
  | succ K ihK =>
    intro v l hl
    have hp := Nat.two_pow_pos K
    have he : 2 ^ (K + 1) = 2 ^ K + 2 ^ K := by rw [Nat.pow_succ]; omega
    by_cases hall : ∀ x, v ≤ x → x < v + 2 ^ (K + 1) → InL l x
    · rw [canon_full hall]
      have key : ∀ l : List (Nat × Nat), Apart l → (∃ s ∈ l, ∀ x, v ≤ x → x < v + 2 ^ (K + 1) → InI s.1 s.2 x) → (l.flatMap fun s => canon (InI s.1 s.2) (K + 1) v) = [(v, K + 1)] := by
        intro l
        induction l with
        | nil => intro _ h; obtain ⟨s, hs, _⟩ := h; cases hs
        | cons s l ih =>
          rintro ⟨h1, h2, h3⟩ ⟨t, ht, hi⟩
          rw [List.flatMap_cons]
          rcases List.mem_cons.1 ht with rfl | ht'
          · rw [canon_full hi]
            have : (l.flatMap fun s => canon (InI s.1 s.2) (K + 1) v) = [] := by
              rw [List.flatMap_eq_nil_iff]
              intro u hu
              refine canon_none fun x hx1 hx2 hx => ?_
              have a1 := h2 u hu
              have a2 := hx.1
              have a3 := (hi x hx1 hx2).2
              omega
            rw [this]; rfl
          · rw [canon_none (S := InI s.1 s.2) (k := K + 1) (v := v) (fun x hx1 hx2 hx => by
              have a1 := h2 t ht'
              have a2 := hx.2
              have a3 := (hi x hx1 hx2).1
              omega), ih h3 ⟨t, ht', hi⟩]
            rfl
      exact (key l hl (apart_one hl (by omega) hall)).symm
    · rw [canon_split hall, ihK v l hl, ihK (v + 2 ^ K) l hl]
      have hone : ∀ s ∈ l, canon (InI s.1 s.2) (K + 1) v = canon (InI s.1 s.2) K v ++ canon (InI s.1 s.2) K (v + 2 ^ K) := by
        intro s hs
        exact canon_split fun h => hall fun x h1 h2 => ⟨s, hs, h x h1 h2⟩
      have key : ∀ l : List (Nat × Nat), Apart l → (l.flatMap fun s => canon (InI s.1 s.2) K v) ++ (l.flatMap fun s => canon (InI s.1 s.2) K (v + 2 ^ K)) = l.flatMap fun s => canon (InI s.1 s.2) K v ++ canon (InI s.1 s.2) K (v + 2 ^ K) := by
        intro l
        induction l with
        | nil => intro _; rfl
        | cons s l ih =>
          rintro ⟨h1, h2, h3⟩
          rw [List.flatMap_cons, List.flatMap_cons, List.flatMap_cons, ← ih h3]
          by_cases hs : s.2 < v + 2 ^ K
          · rw [canon_none (S := InI s.1 s.2) (k := K) (v := v + 2 ^ K) (fun x hx1 hx2 hx => by have := hx.2; omega)]
            simp
          · have : (l.flatMap fun s => canon (InI s.1 s.2) K v) = [] := by
              rw [List.flatMap_eq_nil_iff]
              intro u hu
              refine canon_none fun x hx1 hx2 hx => ?_
              have a1 := h2 u hu
              have a2 := hx.1
              omega
            rw [this]
            simp
      rw [key l hl]
      have : ∀ l' : List (Nat × Nat), (∀ s ∈ l', canon (InI s.1 s.2) (K + 1) v = canon (InI s.1 s.2) K v ++ canon (InI s.1 s.2) K (v + 2 ^ K)) → (l'.flatMap fun s => canon (InI s.1 s.2) K v ++ canon (InI s.1 s.2) K (v + 2 ^ K)) = l'.flatMap fun s => canon (InI s.1 s.2) (K + 1) v := by
        intro l' h
        induction l' with
        | nil => rfl
        | cons s l' ih => rw [List.flatMap_cons, List.flatMap_cons, h s (by simp), ih (fun s hs => h s (by simp [hs]))]
      exact this l hone

end Go.Proofs.Ytonelibgaceflaa
