/-
  Proved here: the walk of the law PreChecks.
-/
import Derived.Test.YtaeideeimhenmaaFault
namespace Go.Proofs.Ytaeideeimhenmaa
open Go.ChangeShapes Go.WideShapes Go.ChangeAt Go.RowKit

set_option maxHeartbeats 400000 in
theorem preChecks_any (six : Bool) (hi lo n : Int) (w : World) (h1 : 0 ≤ hi ∧ hi < 18446744073709551616) (h2 : 0 ≤ lo ∧ lo < 18446744073709551616) :
    Calls Try.prog 9 #[.agg #[.bool six, .int .u64 hi, .int .u64 lo, .int .i64 n]] w fun e w' => e = .returned (.bool true) ∧ Below w.heap.size w w' := by
  go_enter Try.func9, Try.ntmps9
  go_wp2_with fail
  go_region_held3 (fun w' => Below w.heap.size w w' ∧ w'.cell? ⟨w.heap.size, 0, none⟩ = some (.bool six) ∧ w'.cell? ⟨w.heap.size, 1, none⟩ = some (.int .u64 hi) ∧ w'.cell? ⟨w.heap.size, 2, none⟩ = some (.int .u64 lo) ∧ w'.cell? ⟨w.heap.size, 3, none⟩ = some (.int .i64 n))
    (((try go_split_ands); (repeat' apply And.intro) <;> first | exact ((Below.refl _ _).alloc (Nat.le_refl _) _).drew | exact below_step (by assumption) (by assumption) | exact cell_step (by assumption) (by assumption) | go_keep))
    (first | (go_at_call 25; refine (check_any six hi lo n _ h1 h2).mono ?_; rintro e w' ⟨rfl, hb⟩) | (go_at_call 26; refine (preFault_any six hi lo n _ h1 h2).mono ?_; rintro e w' ⟨rfl, hb⟩))
  all_goals go_wp2
  all_goals go_ret
  all_goals (go_split_ands; exact ⟨by simp, by assumption⟩)

theorem preChecks_walk {H : Type} {enc : TypeId × Value → H} (W : World) (vs : Array Value) (ds : List (DataW H)) (ps : List MemPlace) (h : ArgsOk Try.prog [43] H enc W vs.toList ds ps) :
    Calls Try.prog 9 vs W fun e W' => e = .returned (.bool true) ∧ Below W.heap.size W W' := by
  obtain ⟨hA, ⟨base, hval⟩, _, _⟩ := h
  obtain ⟨v0, d0, e0, _, h0⟩ := trodAll_one hA
  obtain ⟨six, hi, lo, n, rfl, b1, b2, _⟩ := open_prefix (hval 0 _ v0 rfl (by rw [e0]; rfl)) h0
  obtain rfl : vs = #[.agg #[.bool six, .int .u64 hi, .int .u64 lo, .int .i64 n]] := by cases vs; simp_all
  exact preChecks_any six hi lo n W b1 b2

end Go.Proofs.Ytaeideeimhenmaa
