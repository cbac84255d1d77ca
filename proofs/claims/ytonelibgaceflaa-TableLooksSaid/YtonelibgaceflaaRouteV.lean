
/-
  Proved here: routes as rows of numbers; what is refused of them; what a list of routes says of a prefix.
-/
import Derived.Test.YtonelibgaceflaaChecked
import Derived.Test.YtonelibgaceflaaTrie
import Derived.Test.YtonelibgaceflaaRoutePlain
import Derived.Test.YtonelibgaceflaaFirstAt
namespace Go.Proofs.Ytonelibgaceflaa
open Go.ChangeShapes Go.WideShapes Go.ChangeAt Go.RowKit

def RouteV.cells (r : RouteV) : List Value := [.bool r.p.six, .int .u64 r.p.hi, .int .u64 r.p.lo, .int .i64 r.p.n, .int .i64 r.hop]
theorem RouteV.cells_length (r : RouteV) : r.cells.length = 5 := rfl
/-- What is known of a slice of routes. -/
def IsRoutes (w : World) (A : Option Addr) (n c : Nat) (l : List RouteV) : Prop :=
  l.length = n ∧ (n ≤ c ∧ c ≤ maxLen) ∧ (∀ r ∈ l, r.Ok) ∧ Reads w w.heap.size 5 A n (l.flatMap RouteV.cells)
theorem IsRoutes.below {w w' : World} {A : Option Addr} {n c : Nat} {l : List RouteV} (h : IsRoutes w A n c l) (hb : Below w.heap.size w w') : IsRoutes w' A n c l :=
  ⟨h.1, h.2.1, h.2.2.1, (h.2.2.2.below hb).more hb.size⟩

set_option maxRecDepth 100000 in
theorem open_routes {H : Type} {enc : TypeId × Value → H} {W : World} {base : Nat} {sp : Nat → Bool} {held : Bool} {a0 : Option Addr} {len0 cap0 : Nat} {d : DataW H} {p : List MemPlace}
    (h : DataW.Trod enc Try.prog W base sp held 33 (.slice a0 len0 cap0) d p) : ∃ l : List RouteV, IsRoutes W a0 len0 cap0 l := by
  have hk : flat Try.prog 9 37 = some [none, some .u64, some .u64, some .i64, some .i64] := by kernel_rfl
  obtain ⟨css, hcl, hfit, hr, hl, hm⟩ := open_flats Try.underlying33 hk (by kernel_rfl) (by simp) h
  obtain ⟨l, rfl, hz⟩ := choose_list (f := RouteV.cells) (Q := RouteV.Ok) css (fun cs hc => by
    have hf := hfit cs hc
    clear hr hcl hfit
    obtain ⟨six, _, rfl, hf0⟩ := hf.bool_inv
    obtain ⟨hi, _, rfl, w1, hf1⟩ := hf0.int_inv
    obtain ⟨lo, _, rfl, w2, hf2⟩ := hf1.int_inv
    obtain ⟨n, _, rfl, w3, hf3⟩ := hf2.int_inv
    obtain ⟨hop, _, rfl, w4, hf4⟩ := hf3.int_inv
    obtain rfl := hf4.nil_inv
    exact ⟨⟨⟨six, hi, lo, n⟩, hop⟩, ⟨range_u64 w1, range_u64 w2, bounds_i64 w3, bounds_i64 w4⟩, rfl⟩)
  exact ⟨l, by simpa using hcl, ⟨hl, hm⟩, hz, by rw [List.flatMap_def]; exact hr⟩

/-- The table holds the routes. -/
def Holds (w : World) (B tb : Nat) (l : List RouteV) : Prop :=
  ∃ R c, Tab w B tb R c ∧ (∀ s, Inv s (fun _ => True) (R s)) ∧ (∀ p : PV, p.Ok → hopAt (R p.six) p = getR l p) ∧ c = l.length
theorem Holds.below {w w' : World} {B tb : Nat} {l : List RouteV} (h : Holds w B tb l) (hb : Below w.heap.size w w') : Holds w' B tb l := by
  obtain ⟨R, c, h1, h2⟩ := h
  exact ⟨R, c, h1.below hb, h2⟩
theorem holds_new (w : World) : Holds (w.alloc (.cells #[.pointer none, .pointer none, .int .i64 0] 241)) w.heap.size w.heap.size [] := by
  refine ⟨fun _ => .nil, 0, ⟨Blk.new _ _ _, Nat.le_refl _, fun _ => trivial, by simp [Tr.blocks]⟩, fun _ => trivial, fun _ _ => rfl, rfl⟩

theorem holds_put {w' : World} {B tb G1 G2 : Nat} {R : Bool → Tr} {c : Int} {l : List RouteV} {p : PV} {hop : Int} (hI : ∀ s, Inv s (fun _ => True) (R s)) (hm : ∀ p : PV, p.Ok → hopAt (R p.six) p = getR l p) (hc : c = l.length)
    (hp : p.Ok) (hh : 1 ≤ hop ∧ hop ≤ 999) (hn : hasR l p = false) (hT : Tab w' B tb (upd R p.six (putT p hop G1 G2 (R p.six))) (if hopAt (R p.six) p = 0 then c + 1 else c)) : Holds w' B tb (l ++ [⟨p, hop⟩]) := by
  rw [hm p hp, getR_none hn, if_pos rfl] at hT
  refine ⟨_, _, hT, fun s => ?_, fun p' hp' => ?_, by rw [hc]; simp⟩
  · unfold upd
    split
    · rename_i e; subst e
      exact inv_put hp rfl (by omega) _ _ (hI p.six) trivial (fun _ _ _ _ _ _ _ _ => trivial)
    · exact hI s
  · rw [getR_snoc hn]
    unfold upd
    by_cases e : p'.six = p.six
    · rw [if_pos e]
      have := hopAt_put (hop := hop) (G1 := G1) (G2 := G2) hp rfl p' hp' (R p.six) _ (hI p.six)
      rw [this, ← e, hm p' hp']
    · have e2 : ¬ p' = p := fun h => e (by rw [h])
      rw [if_neg e, if_neg e2]
      exact hm p' hp'

end Go.Proofs.Ytonelibgaceflaa
