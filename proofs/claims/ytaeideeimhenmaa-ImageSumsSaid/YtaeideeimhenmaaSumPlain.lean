/-
  Proved here: plain arithmetic of the Adler sum. No program.
-/
namespace Go.Proofs.Ytaeideeimhenmaa

/-- The two sums of Adler-32, not reduced. -/
def sA (l : List Int) : Int := l.foldl (fun a x => a + x) 1
def sB (l : List Int) : Int := (l.foldl (fun (p : Int × Int) x => (p.1 + x, p.2 + (p.1 + x))) (1, 0)).2

theorem sPair (l : List Int) : l.foldl (fun (p : Int × Int) x => (p.1 + x, p.2 + (p.1 + x))) (1, 0) = (sA l, sB l) := by
  have h : ∀ (l : List Int) (p : Int × Int), (l.foldl (fun (p : Int × Int) x => (p.1 + x, p.2 + (p.1 + x))) p).1 = l.foldl (fun a x => a + x) p.1 := by
    intro l
    induction l with
    | nil => intro p; rfl
    | cons x l ih => intro p; simp only [List.foldl_cons]; rw [ih]
  exact Prod.ext (h l (1, 0)) rfl

theorem sA_nil : sA [] = 1 := rfl
theorem sB_nil : sB [] = 0 := rfl
theorem sA_snoc (l : List Int) (x : Int) : sA (l ++ [x]) = sA l + x := by simp [sA, List.foldl_append]
theorem sB_snoc (l : List Int) (x : Int) : sB (l ++ [x]) = sB l + (sA l + x) := by
  unfold sB
  rw [List.foldl_append, sPair]
  rfl
theorem take_snoc_int (l : List Int) (k : Nat) (h : k < l.length) : l.take (k + 1) = l.take k ++ [l.getD k 0] := by
  rw [List.take_succ_eq_append_getElem h, List.getD_eq_getElem?_getD, List.getElem?_eq_getElem h]; rfl
theorem sA_bound (l : List Int) (h : ∀ x ∈ l, 0 ≤ x ∧ x ≤ 255) : 1 ≤ sA l ∧ sA l ≤ 1 + 255 * (l.length : Int) := by
  have g : ∀ (l : List Int) (a : Int), (∀ x ∈ l, 0 ≤ x ∧ x ≤ 255) → a ≤ l.foldl (fun a x => a + x) a ∧ l.foldl (fun a x => a + x) a ≤ a + 255 * (l.length : Int) := by
    intro l
    induction l with
    | nil => intro a _; simp
    | cons x l ih =>
      intro a h
      have h1 := h x (by simp)
      have h2 := ih (a + x) (fun y hy => h y (by simp [hy]))
      simp only [List.foldl_cons, List.length_cons]
      omega
  exact g l 1 h

end Go.Proofs.Ytaeideeimhenmaa
