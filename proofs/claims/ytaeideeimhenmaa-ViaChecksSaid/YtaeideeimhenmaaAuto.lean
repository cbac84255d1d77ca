/-
  Proved here: what a call whose contract says that it changes nothing that existed leaves to the walk. Small facts on worlds.
-/
import Derived.Test.YtaeideeimhenmaaMem2
namespace Go.Proofs.Ytaeideeimhenmaa
open Go.ChangeShapes Go.WideShapes Go.ChangeAt Go.RowKit

/-- Behind a call that changes nothing that existed all old cells read as before. -/
theorem bcell {W w1 : World} (hb : Below W.heap.size W w1) : (∀ b o, b < W.heap.size → w1.cell? ⟨b, o, none⟩ = W.cell? ⟨b, o, none⟩) ∧ (∀ b o, b < W.heap.size → w1.frozen? ⟨b, o, none⟩ = W.frozen? ⟨b, o, none⟩) :=
  ⟨fun b o h => hb.cell (p := ⟨b, o, none⟩) h, fun b o h => hb.frozen (p := ⟨b, o, none⟩) h⟩

theorem bsize1 {w w1 : World} {o : Obj} (hb : Below (w.alloc o).heap.size (w.alloc o) w1) : w.heap.size < w1.heap.size := by
  have := hb.size
  simp at this
  omega
theorem bsize2 {w w1 : World} {o o' : Obj} (hb : Below ((w.alloc o).alloc o').heap.size ((w.alloc o).alloc o') w1) : w.heap.size < w1.heap.size ∧ w.heap.size + 1 < w1.heap.size := by
  have := hb.size
  simp at this
  omega
theorem bsize3 {w w1 : World} {o o' o'' : Obj} (hb : Below (((w.alloc o).alloc o').alloc o'').heap.size (((w.alloc o).alloc o').alloc o'') w1) :
    w.heap.size < w1.heap.size ∧ w.heap.size + 1 < w1.heap.size ∧ w.heap.size + 1 + 1 < w1.heap.size := by
  have := hb.size
  simp at this
  omega
theorem balloc1 {w w1 : World} {o : Obj} (hb : Below (w.alloc o).heap.size (w.alloc o) w1) : Below w.heap.size w w1 := below_step ((Below.refl _ _).alloc (Nat.le_refl _) _) hb
theorem balloc2 {w w1 : World} {o o' : Obj} (hb : Below ((w.alloc o).alloc o').heap.size ((w.alloc o).alloc o') w1) : Below w.heap.size w w1 :=
  below_step (((Below.refl _ _).alloc (Nat.le_refl _) _).alloc (by simp) _) hb
theorem balloc3 {w w1 : World} {o o' o'' : Obj} (hb : Below (((w.alloc o).alloc o').alloc o'').heap.size (((w.alloc o).alloc o').alloc o'') w1) : Below w.heap.size w w1 :=
  below_step ((((Below.refl _ _).alloc (Nat.le_refl _) _).alloc (by simp) _).alloc (by simp; omega) _) hb

/-- The same behind a world that differs from a named one by draws alone. -/
theorem bcellN {w1 X w2 : World} (hb : Below X.heap.size X w2) (hX : X.heap = w1.heap) :
    (∀ b o, b < w1.heap.size → w2.cell? ⟨b, o, none⟩ = w1.cell? ⟨b, o, none⟩) ∧ (∀ b o, b < w1.heap.size → w2.frozen? ⟨b, o, none⟩ = w1.frozen? ⟨b, o, none⟩) ∧ w1.heap.size ≤ w2.heap.size := by
  have hs : X.heap.size = w1.heap.size := by rw [hX]
  refine ⟨fun b o h => ?_, fun b o h => ?_, by have := hb.size; omega⟩
  · exact (hb.cell (p := ⟨b, o, none⟩) (by show b < _; omega)).trans (World.cell?_of_block (w := w1) (by rw [hX]))
  · exact (hb.frozen (p := ⟨b, o, none⟩) (by show b < _; omega)).trans (World.frozen?_of_block (w := w1) (by rw [hX]))

/-! What a region keeps: all cells of a world w1. -/
theorem keep0 (w1 : World) : (∀ b o, b < w1.heap.size → w1.drew.cell? ⟨b, o, none⟩ = w1.cell? ⟨b, o, none⟩) ∧ w1.heap.size ≤ w1.drew.heap.size ∧ Hid (Below w1.heap.size w1 w1.drew) :=
  ⟨fun _ _ _ => rfl, Nat.le_refl _, (Below.refl _ _).drew⟩
theorem keepD {w1 X : World} (h : (∀ b o, b < w1.heap.size → X.cell? ⟨b, o, none⟩ = w1.cell? ⟨b, o, none⟩) ∧ w1.heap.size ≤ X.heap.size ∧ Hid (Below w1.heap.size w1 X)) :
    (∀ b o, b < w1.heap.size → X.drew.cell? ⟨b, o, none⟩ = w1.cell? ⟨b, o, none⟩) ∧ w1.heap.size ≤ X.drew.heap.size ∧ Hid (Below w1.heap.size w1 X.drew) :=
  ⟨h.1, h.2.1, h.2.2.out.drew⟩
theorem keep1 {w1 X w2 : World} (h : (∀ b o, b < w1.heap.size → X.cell? ⟨b, o, none⟩ = w1.cell? ⟨b, o, none⟩) ∧ w1.heap.size ≤ X.heap.size ∧ Hid (Below w1.heap.size w1 X)) (hb : Below X.heap.size X w2) :
    (∀ b o, b < w1.heap.size → w2.cell? ⟨b, o, none⟩ = w1.cell? ⟨b, o, none⟩) ∧ w1.heap.size ≤ w2.heap.size ∧ Hid (Below w1.heap.size w1 w2) :=
  ⟨fun b o hb' => (hb.cell (p := ⟨b, o, none⟩) (by show b < _; have := h.2.1; omega)).trans (h.1 b o hb'), Nat.le_trans h.2.1 hb.size, below_step h.2.2.out hb⟩

end Go.Proofs.Ytaeideeimhenmaa
