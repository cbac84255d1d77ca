/-
  Proved here: shares as rows of numbers.
-/
import Derived.Test.YtaeideeimhenmaaChecked
import Derived.Test.YtaeideeimhenmaaMem2
namespace Go.Proofs.Ytaeideeimhenmaa
open Go.ChangeShapes Go.WideShapes Go.ChangeAt Go.RowKit

structure ShareV where
  hop : Int
  weight : Int

def ShareV.cells (r : ShareV) : List Value := [.int .i64 r.hop, .int .i64 r.weight]
theorem ShareV.cells_length (r : ShareV) : r.cells.length = 2 := rfl

/-- What is known of a slice of shares. -/
def IsShares (w : World) (A : Option Addr) (n c : Nat) (l : List ShareV) : Prop :=
  l.length = n ∧ (n ≤ c ∧ c ≤ maxLen) ∧ Reads w w.heap.size 2 A n (l.flatMap ShareV.cells)
theorem IsShares.below {w w' : World} {A : Option Addr} {n c : Nat} {l : List ShareV} (h : IsShares w A n c l) (hb : Below w.heap.size w w') : IsShares w' A n c l :=
  ⟨h.1, h.2.1, (h.2.2.below hb).more hb.size⟩

set_option maxRecDepth 100000 in
theorem open_shares {H : Type} {enc : TypeId × Value → H} {W : World} {base : Nat} {sp : Nat → Bool} {held : Bool} {a0 : Option Addr} {len0 cap0 : Nat} {d : DataW H} {p : List MemPlace}
    (h : DataW.Trod enc Try.prog W base sp held 36 (.slice a0 len0 cap0) d p) : ∃ l : List ShareV, IsShares W a0 len0 cap0 l := by
  have hk : flat Try.prog 9 68 = some [some .i64, some .i64] := by kernel_rfl
  obtain ⟨css, hcl, hfit, hr, hl, hm⟩ := open_flats Try.underlying36 hk (by kernel_rfl) (by simp) h
  obtain ⟨l, rfl, hz⟩ := choose_list (f := ShareV.cells) (Q := fun _ => True) css (fun cs hc => by
    have hf := hfit cs hc
    clear hr hcl hfit
    obtain ⟨hop, _, rfl, _, hf1⟩ := hf.int_inv
    obtain ⟨weight, _, rfl, _, hf2⟩ := hf1.int_inv
    obtain rfl := hf2.nil_inv
    exact ⟨⟨hop, weight⟩, trivial, rfl⟩)
  exact ⟨l, by simpa using hcl, ⟨hl, hm⟩, by rw [List.flatMap_def]; exact hr⟩

end Go.Proofs.Ytaeideeimhenmaa
