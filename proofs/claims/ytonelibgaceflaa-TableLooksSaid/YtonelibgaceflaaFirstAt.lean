
/-
  Proved here: plain facts on the first place of a list where a test holds. No program.
-/
namespace Go.Proofs.Ytonelibgaceflaa

/-- The first place of a list where a test holds; -1: there is none. -/
def firstAt {α : Type} (f : α → Bool) : List α → Int
  | [] => -1
  | x :: l => if f x = true then 0 else if firstAt f l < 0 then -1 else firstAt f l + 1
def NoneYet {α : Type} (f : α → Bool) (l : List α) (k : Nat) : Prop := ∀ x ∈ l.take k, f x = false

theorem noneYet_zero {α : Type} (f : α → Bool) (l : List α) : NoneYet f l 0 := fun x hx => by simp at hx
theorem noneYet_succ {α : Type} {f : α → Bool} {l : List α} {k : Nat} {x : α} (h : NoneYet f l k) (hk : l.take (k + 1) = l.take k ++ [x]) (hf : f x = false) : NoneYet f l (k + 1) := by
  intro y hy
  rw [hk, List.mem_append] at hy
  rcases hy with hy | hy
  · exact h y hy
  · rw [List.mem_singleton.1 hy]; exact hf
theorem firstAt_at {α : Type} {f : α → Bool} : ∀ {l : List α} {k : Nat} {x : α}, NoneYet f l k → l[k]? = some x → f x = true → firstAt f l = k
  | [], k, x, _, h, _ => by simp at h
  | y :: l, 0, x, _, h, hf => by
    simp at h
    subst h
    unfold firstAt
    rw [if_pos hf]
    rfl
  | y :: l, k + 1, x, hn, h, hf => by
    have hy : f y = false := hn y (by simp)
    have ih : firstAt f l = k := firstAt_at (fun z hz => hn z (by simp [hz])) (by simpa using h) hf
    unfold firstAt
    rw [if_neg (by rw [hy]; simp), ih, if_neg (by omega)]
    omega
theorem firstAt_none {α : Type} {f : α → Bool} : ∀ {l : List α}, (∀ x ∈ l, f x = false) → firstAt f l = -1
  | [], _ => rfl
  | y :: l, h => by
    unfold firstAt
    rw [if_neg (by rw [h y (by simp)]; simp), firstAt_none (l := l) (fun x hx => h x (by simp [hx]))]
    rfl
theorem firstAt_end {α : Type} {f : α → Bool} {l : List α} {k : Nat} (h : NoneYet f l k) (hl : l.length = k) : firstAt f l = -1 := by
  unfold NoneYet at h
  rw [← hl, List.take_length] at h
  exact firstAt_none h
/-- Either there is none, or it is a place, and the test holds there. -/
theorem firstAt_cases {α : Type} (f : α → Bool) : ∀ (l : List α), (firstAt f l = -1 ∧ ∀ x ∈ l, f x = false) ∨ ∃ (k : Nat) (x : α), firstAt f l = k ∧ l[k]? = some x ∧ f x = true
  | [] => .inl ⟨rfl, by simp⟩
  | y :: l => by
    by_cases hy : f y = true
    · exact .inr ⟨0, y, by unfold firstAt; rw [if_pos hy]; rfl, rfl, hy⟩
    · rcases firstAt_cases f l with ⟨h1, h2⟩ | ⟨k, x, h1, h2, h3⟩
      · refine .inl ⟨by unfold firstAt; rw [if_neg hy, h1]; rfl, fun x hx => ?_⟩
        rcases List.mem_cons.1 hx with rfl | hx
        · simpa using hy
        · exact h2 x hx
      · exact .inr ⟨k + 1, x, by unfold firstAt; rw [if_neg hy, h1, if_neg (by omega)]; omega, by simpa using h2, h3⟩

end Go.Proofs.Ytonelibgaceflaa
