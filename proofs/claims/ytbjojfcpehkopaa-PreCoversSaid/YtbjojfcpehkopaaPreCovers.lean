/-
  Proved here: the walk of the law PreCovers.
-/
import Derived.Test.YtbjojfcpehkopaaCovers
namespace Go.Proofs.Ytbjojfcpehkopaa
open Go.ChangeShapes Go.WideShapes Go.ChangeAt Go.RowKit

set_option maxHeartbeats 800000 in
theorem preCovers_law (six : Bool) (hi lo n : Int) (six' : Bool) (hi' lo' n' : Int) (w : World) (h1 : 0 ≤ hi ∧ hi < 18446744073709551616) (h2 : 0 ≤ lo ∧ lo < 18446744073709551616) (h3 : 0 ≤ hi' ∧ hi' < 18446744073709551616) (h4 : 0 ≤ lo' ∧ lo' < 18446744073709551616) :
    Calls Try.prog 5 #[.agg #[.bool six, .int .u64 hi, .int .u64 lo, .int .i64 n], .agg #[.bool six', .int .u64 hi', .int .u64 lo', .int .i64 n']] w fun e w' => e = .returned (.bool true) ∧ Below w.heap.size w w' := by
  have c1 := fun w => covers_any six hi lo n six' hi' lo' n' w h1 h2 h3 h4
  have c2 := fun w => refCovers_any six hi lo n six' hi' lo' n' w h1 h2 h3 h4
  generalize covB six hi lo n six' hi' lo' n' = a at *
  generalize bothE six hi lo n six' hi' lo' n' = b at *
  have C1 := Lib.hid c1
  have C2 := Lib.hid c2
  clear c1 c2
  go_enter Try.func5, Try.ntmps5
  go_wp2_with fail
  refine (C1.out _).mono ?_
  rintro e w1 ⟨rfl, hb⟩
  obtain ⟨b0, b1, c0, c1, c2, c3, d0, d1, d2, d3⟩ := Box44.step (box44_start w _ _ _ _ _ _ _ _ _) hb
  clear hb
  go_wp2_with fail
  refine (C2.out _).mono ?_
  rintro e w2 ⟨rfl, hb⟩
  go_wp2
  go_ret
  exact ⟨by simp, below_step b0 hb⟩

set_option maxRecDepth 100000 in
theorem preCovers_walk {H : Type} {enc : TypeId × Value → H} (W : World) (vs : Array Value) (ds : List (DataW H)) (ps : List MemPlace) (h : ArgsOk Try.prog [33, 33] H enc W vs.toList ds ps) :
    Calls Try.prog 5 vs W fun e W' => e = .returned (.bool true) ∧ Below W.heap.size W W' := by
  obtain ⟨hA, ⟨base, hval⟩, _, _⟩ := h
  obtain ⟨v0, v1, d0, d1, p0, p1, e0, _, _, h0, h1⟩ := trodAll_two hA
  obtain ⟨six, hi, lo, n, rfl, b1, b2, _⟩ := open_prefix (hval 0 _ v0 rfl (by rw [e0]; rfl)) h0
  obtain ⟨six', hi', lo', n', rfl, b3, b4, _⟩ := open_prefix (hval 1 _ v1 rfl (by rw [e0]; rfl)) h1
  obtain rfl : vs = #[.agg #[.bool six, .int .u64 hi, .int .u64 lo, .int .i64 n], .agg #[.bool six', .int .u64 hi', .int .u64 lo', .int .i64 n']] := by cases vs; simp_all
  exact preCovers_law six hi lo n six' hi' lo' n' W b1 b2 b3 b4

end Go.Proofs.Ytbjojfcpehkopaa
