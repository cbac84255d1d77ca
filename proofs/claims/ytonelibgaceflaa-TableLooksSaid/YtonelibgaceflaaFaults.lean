
/-
  Proved here: plain facts on the first fault of a list. No program.
-/
namespace Go.Proofs.Ytonelibgaceflaa

/-- The first fault of a list, each element having one (0: none). -/
def firstF {α : Type} (f : α → Int) : List α → Int
  | [] => 0
  | r :: l => if f r = 0 then firstF f l else f r
def NoneTo {α : Type} (f : α → Int) (l : List α) (k : Nat) : Prop := firstF f (l.take k) = 0

theorem firstF_append {α : Type} (f : α → Int) : ∀ (a b : List α), firstF f a = 0 → firstF f (a ++ b) = firstF f b
  | [], _, _ => rfl
  | r :: a, b, h => by
    unfold firstF at h
    by_cases hf : f r = 0
    · rw [if_pos hf] at h
      rw [List.cons_append, show firstF f (r :: (a ++ b)) = if f r = 0 then firstF f (a ++ b) else f r from rfl, if_pos hf]
      exact firstF_append f a b h
    · rw [if_neg hf] at h
      exact absurd h hf
theorem firstF_at {α : Type} {f : α → Int} {l : List α} {k : Nat} {r : α} (h : NoneTo f l k) (hk : l[k]? = some r) (hf : ¬ f r = 0) : firstF f l = f r := by
  have e : l = l.take k ++ l.drop k := (List.take_append_drop k l).symm
  have hl : k < l.length := (List.getElem?_eq_some_iff.1 hk).1
  have e2 : l.drop k = r :: l.drop (k + 1) := by
    rw [List.drop_eq_getElem_cons hl]
    rw [List.getElem?_eq_getElem hl] at hk
    injection hk with hk
    rw [hk]
  rw [e, firstF_append _ _ _ h, e2]
  unfold firstF
  rw [if_neg hf]
theorem noneTo_succ {α : Type} {f : α → Int} {l : List α} {k : Nat} {r : α} (h : NoneTo f l k) (hk : l.take (k + 1) = l.take k ++ [r]) (hf : f r = 0) : NoneTo f l (k + 1) := by
  unfold NoneTo
  rw [hk, firstF_append _ _ _ h]
  unfold firstF
  rw [if_pos hf]
  rfl
theorem firstF_end {α : Type} {f : α → Int} {l : List α} {k : Nat} (h : NoneTo f l k) (hl : l.length = k) : firstF f l = 0 := by
  unfold NoneTo at h
  rwa [← hl, List.take_length] at h

theorem fault_here {α : Type} {f : α → Int} {l : List α} {k : Nat} {x : α} {v u r : Int} (h : NoneTo f l k) (hk : l[k]? = some x) (hf : f x = u) (hr : r = firstF f l) (hu : u = v) (hv : ¬ v = 0) : v = r := by
  rw [hr, firstF_at h hk (by rw [hf, hu]; exact hv), hf, hu]

/-! The same by places. -/
theorem range_at {n k : Nat} (h : k < n) : (List.range n)[k]? = some k := List.getElem?_range h
theorem range_take {n k : Nat} (h : k < n) : (List.range n).take (k + 1) = (List.range n).take k ++ [k] := by
  rw [List.take_add_one, range_at h]
  rfl
end Go.Proofs.Ytonelibgaceflaa
