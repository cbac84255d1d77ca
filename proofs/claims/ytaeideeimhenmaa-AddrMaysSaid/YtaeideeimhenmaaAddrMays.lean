/-
  Proved here: the walk of the law AddrMays.
-/
import Derived.Test.YtaeideeimhenmaaMay
import Derived.Deep.RegionHeld3
namespace Go.Proofs.Ytaeideeimhenmaa
open Go.ChangeShapes Go.WideShapes Go.ChangeAt Go.RowKit

set_option maxHeartbeats 400000 in
theorem addrMays_any (six : Bool) (hi lo : Int) (w : World) (h1 : 0 ≤ lo) :
    Calls Try.prog 4 #[.agg #[.bool six, .int .u64 hi, .int .u64 lo]] w fun e w' => e = .returned (.bool true) ∧ Below w.heap.size w w' := by
  go_enter Try.func4, Try.ntmps4
  go_wp2_with fail
  go_region_held3 (fun w' => Below w.heap.size w w' ∧ w'.cell? ⟨w.heap.size, 0, none⟩ = some (.bool six) ∧ w'.cell? ⟨w.heap.size, 1, none⟩ = some (.int .u64 hi) ∧ w'.cell? ⟨w.heap.size, 2, none⟩ = some (.int .u64 lo))
    (((try go_split_ands); (repeat' apply And.intro) <;> first | exact ((Below.refl _ _).alloc (Nat.le_refl _) _).drew | exact below_step (by assumption) (by assumption) | exact cell_step (by assumption) (by assumption) | go_keep))
    (first | (go_at_call 15; refine (may_any six hi lo _ h1).mono ?_; rintro e w' ⟨rfl, hb⟩) | (go_at_call 16; refine (refMay_any six hi lo _ h1).mono ?_; rintro e w' ⟨rfl, hb⟩))
  all_goals go_wp2
  all_goals go_ret
  all_goals (go_split_ands; exact ⟨by simp, by assumption⟩)

theorem addrMays_walk {H : Type} {enc : TypeId × Value → H} (W : World) (vs : Array Value) (ds : List (DataW H)) (ps : List MemPlace) (h : ArgsOk Try.prog [28] H enc W vs.toList ds ps) :
    Calls Try.prog 4 vs W fun e W' => e = .returned (.bool true) ∧ Below W.heap.size W W' := by
  obtain ⟨hA, ⟨base, hval⟩, _, _⟩ := h
  obtain ⟨v0, d0, e0, _, h0⟩ := trodAll_one hA
  obtain ⟨six, hi, lo, rfl, b1, b2⟩ := open_addr (hval 0 _ v0 rfl (by rw [e0]; rfl)) h0
  obtain rfl : vs = #[.agg #[.bool six, .int .u64 hi, .int .u64 lo]] := by cases vs; simp_all
  exact addrMays_any six hi lo W b2.1

end Go.Proofs.Ytaeideeimhenmaa
