/-
  Proved here: the walk of the law PreCommons.
-/
import Derived.Test.YtbjojfcpehkopaaRefCommon
namespace Go.Proofs.Ytbjojfcpehkopaa
open Go.ChangeShapes Go.WideShapes Go.ChangeAt Go.RowKit

theorem common_both (six : Bool) (hi lo n : Int) (six' : Bool) (hi' lo' n' : Int) (h1 : 0 ≤ hi ∧ hi < 18446744073709551616) (h2 : 0 ≤ lo ∧ lo < 18446744073709551616) (h3 : 0 ≤ hi' ∧ hi' < 18446744073709551616) (h4 : 0 ≤ lo' ∧ lo' < 18446744073709551616) :
    ∃ (s : Bool) (a b m k : Int), ∀ w,
      (Calls Try.prog 31 #[.agg #[.bool six, .int .u64 hi, .int .u64 lo, .int .i64 n], .agg #[.bool six', .int .u64 hi', .int .u64 lo', .int .i64 n']] w fun e w' => e = .returned (.tuple #[.agg #[.bool s, .int .u64 a, .int .u64 b, .int .i64 m], .int .i64 k]) ∧ Below w.heap.size w w') ∧
      (Calls Try.prog 32 #[.agg #[.bool six, .int .u64 hi, .int .u64 lo, .int .i64 n], .agg #[.bool six', .int .u64 hi', .int .u64 lo', .int .i64 n']] w fun e w' => e = .returned (.tuple #[.agg #[.bool s, .int .u64 a, .int .u64 b, .int .i64 m], .int .i64 k]) ∧ Below w.heap.size w w') := by
  by_cases hz : bothE six hi lo n six' hi' lo' n' = 0
  · obtain ⟨hp, hq, hs, _⟩ := both_zero h1 h2 h3 h4 hz
    subst hs
    obtain ⟨k, rfl⟩ := Int.eq_ofNat_of_zero_le hp.len.1
    obtain ⟨k', rfl⟩ := Int.eq_ofNat_of_zero_le hq.len.1
    exact ⟨_, _, _, _, _, fun w => ⟨common_ok six hi lo k hi' lo' k' w hp hq hz, refCommon_ok six hi lo k hi' lo' k' w hp hq hz⟩⟩
  · exact ⟨false, 0, 0, 0, _, fun w => ⟨common_bad six hi lo n six' hi' lo' n' w h1 h2 h3 h4 hz, refCommon_bad six hi lo n six' hi' lo' n' w h1 h2 h3 h4 hz⟩⟩

set_option maxRecDepth 100000 in
set_option maxHeartbeats 800000 in
theorem preCommons_any (six : Bool) (hi lo n : Int) (six' : Bool) (hi' lo' n' : Int) (w : World) (h1 : 0 ≤ hi ∧ hi < 18446744073709551616) (h2 : 0 ≤ lo ∧ lo < 18446744073709551616) (h3 : 0 ≤ hi' ∧ hi' < 18446744073709551616) (h4 : 0 ≤ lo' ∧ lo' < 18446744073709551616) :
    Calls Try.prog 9 #[.agg #[.bool six, .int .u64 hi, .int .u64 lo, .int .i64 n], .agg #[.bool six', .int .u64 hi', .int .u64 lo', .int .i64 n']] w fun e w' => e = .returned (.bool true) ∧ Below w.heap.size w w' := by
  obtain ⟨s, a, b, m, k, hc⟩ := common_both six hi lo n six' hi' lo' n' h1 h2 h3 h4
  have HC := Lib.hid hc
  clear hc
  go_enter Try.func9, Try.ntmps9
  go_wp2_with fail
  refine (HC.out _).1.mono ?_
  rintro e w1 ⟨rfl, hb⟩
  obtain ⟨fc, ff⟩ := bcell hb
  obtain ⟨s1, s2⟩ := bsize2 hb
  have HB := Lib.hid (balloc2 hb)
  clear hb
  go_wp2_with fail
  refine (HC.out _).2.mono ?_
  rintro e w2 ⟨rfl, hb⟩
  obtain ⟨fc2, ff2⟩ := bcell hb
  have s3 := bsize1 hb
  have HB2 := Lib.hid (below_step HB.out (balloc1 hb))
  clear hb
  have s4 : w.heap.size < w2.heap.size := by omega
  go_wp2
  all_goals go_ret
  all_goals refine ⟨by simp, ?_⟩
  all_goals (repeat' first | with_reducible exact HB2.out | with_reducible exact Below.refl _ _ | with_reducible refine Below.drew ?_ | with_reducible refine below_drewN ?_ _ | with_reducible refine Below.setCell ?_ ?_ _ | with_reducible refine Below.alloc ?_ ?_ _ | (simp; done) | (simp; omega) | omega)

set_option maxRecDepth 100000 in
theorem preCommons_walk {H : Type} {enc : TypeId × Value → H} (W : World) (vs : Array Value) (ds : List (DataW H)) (ps : List MemPlace) (h : ArgsOk Try.prog [33, 33] H enc W vs.toList ds ps) :
    Calls Try.prog 9 vs W fun e W' => e = .returned (.bool true) ∧ Below W.heap.size W W' := by
  obtain ⟨hA, ⟨base, hval⟩, _, _⟩ := h
  obtain ⟨v0, v1, d0, d1, p0, p1, e0, _, _, h0, h1⟩ := trodAll_two hA
  obtain ⟨six, hi, lo, n, rfl, b1, b2, _⟩ := open_prefix (hval 0 _ v0 rfl (by rw [e0]; rfl)) h0
  obtain ⟨six', hi', lo', n', rfl, b3, b4, _⟩ := open_prefix (hval 1 _ v1 rfl (by rw [e0]; rfl)) h1
  obtain rfl : vs = #[.agg #[.bool six, .int .u64 hi, .int .u64 lo, .int .i64 n], .agg #[.bool six', .int .u64 hi', .int .u64 lo', .int .i64 n']] := by cases vs; simp_all
  exact preCommons_any six hi lo n six' hi' lo' n' W b1 b2 b3 b4

end Go.Proofs.Ytbjojfcpehkopaa
