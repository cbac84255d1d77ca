
/-
  Proved here: what boxes of a prefix and of two results read as.
-/
import Derived.Test.YtonelibgaceflaaLast
namespace Go.Proofs.Ytonelibgaceflaa
open Go.ChangeShapes Go.WideShapes Go.ChangeAt Go.RowKit

structure Span1 (w : World) (a b c d : Value) (w' : World) : Prop where
  below : Below w.heap.size w w'
  size : w.heap.size + 1 + 1 < w'.heap.size
  c0 : w'.cell? ⟨w.heap.size, 0, none⟩ = some a
  c1 : w'.cell? ⟨w.heap.size, 1, none⟩ = some b
  c2 : w'.cell? ⟨w.heap.size, 2, none⟩ = some c
  c3 : w'.cell? ⟨w.heap.size, 3, none⟩ = some d
  zA0 : w'.cell? ⟨w.heap.size + 1, 0, none⟩ = some (.bool false)
  zA1 : w'.cell? ⟨w.heap.size + 1, 1, none⟩ = some (.int .u64 0)
  zA2 : w'.cell? ⟨w.heap.size + 1, 2, none⟩ = some (.int .u64 0)
  zB0 : w'.cell? ⟨w.heap.size + 1 + 1, 0, none⟩ = some (.bool false)
  zB1 : w'.cell? ⟨w.heap.size + 1 + 1, 1, none⟩ = some (.int .u64 0)
  zB2 : w'.cell? ⟨w.heap.size + 1 + 1, 2, none⟩ = some (.int .u64 0)
  gA0 : w'.frozen? ⟨w.heap.size + 1, 0, none⟩ = false
  gA1 : w'.frozen? ⟨w.heap.size + 1, 1, none⟩ = false
  gA2 : w'.frozen? ⟨w.heap.size + 1, 2, none⟩ = false
  gB0 : w'.frozen? ⟨w.heap.size + 1 + 1, 0, none⟩ = false
  gB1 : w'.frozen? ⟨w.heap.size + 1 + 1, 1, none⟩ = false
  gB2 : w'.frozen? ⟨w.heap.size + 1 + 1, 2, none⟩ = false

theorem span1_start (w : World) (a b c d : Value) (t t' : TypeId) : Span1 w a b c d (((w.alloc (.cells #[a, b, c, d] t)).alloc (.cells #[.bool false, .int .u64 0, .int .u64 0] t')).alloc (.cells #[.bool false, .int .u64 0, .int .u64 0] t')) := by
  have hb : Below w.heap.size w (((w.alloc (.cells #[a, b, c, d] t)).alloc (.cells #[.bool false, .int .u64 0, .int .u64 0] t')).alloc (.cells #[.bool false, .int .u64 0, .int .u64 0] t')) := (((Below.refl _ _).alloc (Nat.le_refl _) _).alloc (by simp) _).alloc (by simp; omega) _
  have e0 : ∀ j u, (#[a, b, c, d] : Array Value)[j]? = some u → (((w.alloc (.cells #[a, b, c, d] t)).alloc (.cells #[.bool false, .int .u64 0, .int .u64 0] t')).alloc (.cells #[.bool false, .int .u64 0, .int .u64 0] t')).cell? ⟨w.heap.size, j, none⟩ = some u := by
    intro j u hj
    rw [World.cell?_alloc_past _ _ _ (by simp; omega), World.cell?_alloc_past _ _ _ (by simp), World.cell?_alloc_at _ _ _ _ rfl]
    exact hj
  have e1 : ∀ j u, (#[.bool false, .int .u64 0, .int .u64 0] : Array Value)[j]? = some u → (((w.alloc (.cells #[a, b, c, d] t)).alloc (.cells #[.bool false, .int .u64 0, .int .u64 0] t')).alloc (.cells #[.bool false, .int .u64 0, .int .u64 0] t')).cell? ⟨w.heap.size + 1, j, none⟩ = some u := by
    intro j u hj
    rw [World.cell?_alloc_past _ _ _ (by simp), World.cell?_alloc_at _ _ _ _ (by simp)]
    exact hj
  have e2 : ∀ j u, (#[.bool false, .int .u64 0, .int .u64 0] : Array Value)[j]? = some u → (((w.alloc (.cells #[a, b, c, d] t)).alloc (.cells #[.bool false, .int .u64 0, .int .u64 0] t')).alloc (.cells #[.bool false, .int .u64 0, .int .u64 0] t')).cell? ⟨w.heap.size + 1 + 1, j, none⟩ = some u := by
    intro j u hj
    rw [World.cell?_alloc_at _ _ _ _ (by simp)]
    exact hj
  have h1 : (((w.alloc (.cells #[a, b, c, d] t)).alloc (.cells #[.bool false, .int .u64 0, .int .u64 0] t')).alloc (.cells #[.bool false, .int .u64 0, .int .u64 0] t')).heap[w.heap.size + 1]? = some (.cells #[.bool false, .int .u64 0, .int .u64 0] t') := by
    rw [Below.heap_alloc _ _ _ (by simp)]
    have := heap_alloc_new (w.alloc (.cells #[a, b, c, d] t)) (.cells #[.bool false, .int .u64 0, .int .u64 0] t')
    simpa using this
  have h2 : (((w.alloc (.cells #[a, b, c, d] t)).alloc (.cells #[.bool false, .int .u64 0, .int .u64 0] t')).alloc (.cells #[.bool false, .int .u64 0, .int .u64 0] t')).heap[w.heap.size + 1 + 1]? = some (.cells #[.bool false, .int .u64 0, .int .u64 0] t') := by
    have := heap_alloc_new ((w.alloc (.cells #[a, b, c, d] t)).alloc (.cells #[.bool false, .int .u64 0, .int .u64 0] t')) (.cells #[.bool false, .int .u64 0, .int .u64 0] t')
    simpa using this
  have f1 : ∀ j, (((w.alloc (.cells #[a, b, c, d] t)).alloc (.cells #[.bool false, .int .u64 0, .int .u64 0] t')).alloc (.cells #[.bool false, .int .u64 0, .int .u64 0] t')).frozen? ⟨w.heap.size + 1, j, none⟩ = false := by
    intro j
    unfold World.frozen?
    simp only [h1]
    simp
  have f2 : ∀ j, (((w.alloc (.cells #[a, b, c, d] t)).alloc (.cells #[.bool false, .int .u64 0, .int .u64 0] t')).alloc (.cells #[.bool false, .int .u64 0, .int .u64 0] t')).frozen? ⟨w.heap.size + 1 + 1, j, none⟩ = false := by
    intro j
    unfold World.frozen?
    simp only [h2]
    simp
  exact ⟨hb, by simp, e0 0 a rfl, e0 1 b rfl, e0 2 c rfl, e0 3 d rfl, e1 0 _ rfl, e1 1 _ rfl, e1 2 _ rfl, e2 0 _ rfl, e2 1 _ rfl, e2 2 _ rfl, f1 0, f1 1, f1 2, f2 0, f2 1, f2 2⟩

theorem Span1.drew {w w1 : World} {a b c d : Value} (h : Span1 w a b c d w1) : Span1 w a b c d w1.drew := ⟨h.below.drew, h.size, h.c0, h.c1, h.c2, h.c3, h.zA0, h.zA1, h.zA2, h.zB0, h.zB1, h.zB2, h.gA0, h.gA1, h.gA2, h.gB0, h.gB1, h.gB2⟩

theorem Span1.step {w w1 w2 : World} {a b c d : Value} (h : Span1 w a b c d w1) (hb : Below w1.heap.size w1 w2) : Span1 w a b c d w2 := by
  have hs := h.size
  have f : ∀ b j, b ≤ w.heap.size + 1 + 1 → w1.frozen? ⟨b, j, none⟩ = false → w2.frozen? ⟨b, j, none⟩ = false := fun b j hb' hf => (hb.frozen (p := ⟨b, j, none⟩) (by show b < _; omega)).trans hf
  exact ⟨below_step h.below hb, size_step h.size hb, cell_step hb h.c0, cell_step hb h.c1, cell_step hb h.c2, cell_step hb h.c3, cell_step hb h.zA0, cell_step hb h.zA1, cell_step hb h.zA2, cell_step hb h.zB0, cell_step hb h.zB1, cell_step hb h.zB2,
    f _ 0 (by omega) h.gA0, f _ 1 (by omega) h.gA1, f _ 2 (by omega) h.gA2, f _ 0 (by omega) h.gB0, f _ 1 (by omega) h.gB1, f _ 2 (by omega) h.gB2⟩


theorem box33 {w w2 : World} {a b c d e f : Value} {t t' : TypeId} (hb : Below ((w.alloc (.cells #[a, b, c] t)).alloc (.cells #[d, e, f] t')).heap.size ((w.alloc (.cells #[a, b, c] t)).alloc (.cells #[d, e, f] t')) w2) :
    Below w.heap.size w w2 ∧ (w2.cell? ⟨w.heap.size, 0, none⟩ = some a ∧ w2.cell? ⟨w.heap.size, 1, none⟩ = some b ∧ w2.cell? ⟨w.heap.size, 2, none⟩ = some c) ∧
      (w2.cell? ⟨w.heap.size + 1, 0, none⟩ = some d ∧ w2.cell? ⟨w.heap.size + 1, 1, none⟩ = some e ∧ w2.cell? ⟨w.heap.size + 1, 2, none⟩ = some f) ∧ w.heap.size + 1 < w2.heap.size := by
  have e0 : ∀ j u, (#[a, b, c] : Array Value)[j]? = some u → ((w.alloc (.cells #[a, b, c] t)).alloc (.cells #[d, e, f] t')).cell? ⟨w.heap.size, j, none⟩ = some u := by
    intro j u hj
    rw [World.cell?_alloc_past _ _ _ (by simp), World.cell?_alloc_at _ _ _ _ rfl]
    exact hj
  have e1 : ∀ j u, (#[d, e, f] : Array Value)[j]? = some u → ((w.alloc (.cells #[a, b, c] t)).alloc (.cells #[d, e, f] t')).cell? ⟨w.heap.size + 1, j, none⟩ = some u := by
    intro j u hj
    rw [World.cell?_alloc_at _ _ _ _ (by simp)]
    exact hj
  have hs := hb.size
  simp at hs
  exact ⟨below_step (((Below.refl _ _).alloc (Nat.le_refl _) _).alloc (by simp) _) hb, ⟨cell_step hb (e0 0 a rfl), cell_step hb (e0 1 b rfl), cell_step hb (e0 2 c rfl)⟩, ⟨cell_step hb (e1 0 d rfl), cell_step hb (e1 1 e rfl), cell_step hb (e1 2 f rfl)⟩, by omega⟩

end Go.Proofs.Ytonelibgaceflaa
