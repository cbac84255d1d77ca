/-
  Proved here: the walk of the law PreHalves.
-/
import Derived.Test.YtbjojfcpehkopaaRefHalves
namespace Go.Proofs.Ytbjojfcpehkopaa
open Go.ChangeShapes Go.WideShapes Go.ChangeAt Go.RowKit

theorem halves_both (six : Bool) (hi lo n : Int) (h1 : 0 ≤ hi ∧ hi < 18446744073709551616) (h2 : 0 ≤ lo ∧ lo < 18446744073709551616) :
    ∃ (s : Bool) (a b m : Int) (s' : Bool) (a' b' m' k : Int), ∀ w,
      (Calls Try.prog 25 #[.agg #[.bool six, .int .u64 hi, .int .u64 lo, .int .i64 n]] w fun e w' => e = .returned (.tuple #[.agg #[.bool s, .int .u64 a, .int .u64 b, .int .i64 m], (.agg #[.bool s', .int .u64 a', .int .u64 b', .int .i64 m']), .int .i64 k]) ∧ Below w.heap.size w w') ∧
      (Calls Try.prog 26 #[.agg #[.bool six, .int .u64 hi, .int .u64 lo, .int .i64 n]] w fun e w' => e = .returned (.tuple #[.agg #[.bool s, .int .u64 a, .int .u64 b, .int .i64 m], (.agg #[.bool s', .int .u64 a', .int .u64 b', .int .i64 m']), .int .i64 k]) ∧ Below w.heap.size w w') := by
  by_cases hz : chk six hi lo n = 0
  · have hp := chk_zero h1 h2 hz
    have hl := hp.len
    obtain ⟨m, rfl⟩ := Int.eq_ofNat_of_zero_le hl.1
    by_cases hn : (m : Int) = wideI six
    · exact ⟨false, 0, 0, 0, false, 0, 0, 0, 7, fun w => ⟨halves_none six hi lo m w h1 h2 hz hn, refHalves_none six hi lo m w h1 h2 hz hn⟩⟩
    · have hn' : (m : Int) < wideI six := by omega
      exact ⟨six, hi, lo, m + 1, six, setHi six hi m, setLo six lo m, m + 1, 0, fun w => ⟨halves_ok six hi lo m w h1 h2 hz hn', refHalves_ok six hi lo m w h1 h2 hz hn'⟩⟩
  · exact ⟨false, 0, 0, 0, false, 0, 0, 0, chk six hi lo n, fun w => ⟨halves_bad six hi lo n w h1 h2 hz, refHalves_bad six hi lo n w h1 h2 hz⟩⟩

set_option maxRecDepth 100000 in
set_option maxHeartbeats 800000 in
theorem preHalves_any (six : Bool) (hi lo n : Int) (w : World) (h1 : 0 ≤ hi ∧ hi < 18446744073709551616) (h2 : 0 ≤ lo ∧ lo < 18446744073709551616) :
    Calls Try.prog 6 #[.agg #[.bool six, .int .u64 hi, .int .u64 lo, .int .i64 n]] w fun e w' => e = .returned (.bool true) ∧ Below w.heap.size w w' := by
  obtain ⟨s, a, b, m, s', a', b', m', k, hc⟩ := halves_both six hi lo n h1 h2
  have HC := Lib.hid hc
  clear hc
  go_enter Try.func6, Try.ntmps6
  go_wp2_with fail
  refine (HC.out _).1.mono ?_
  rintro e w1 ⟨rfl, hb⟩
  obtain ⟨fc, ff⟩ := bcell hb
  have s1 := bsize1 hb
  have HB := Lib.hid (balloc1 hb)
  clear hb
  go_wp2_with fail
  refine (HC.out _).2.mono ?_
  rintro e w2 ⟨rfl, hb⟩
  obtain ⟨fc2, ff2⟩ := bcell hb
  obtain ⟨s2, s3⟩ := bsize2 hb
  have HB2 := Lib.hid (below_step HB.out (balloc2 hb))
  clear hb
  have s4 : w.heap.size < w2.heap.size := by omega
  go_wp2
  all_goals go_ret
  all_goals refine ⟨by simp, ?_⟩
  all_goals (repeat' first | with_reducible exact HB2.out | with_reducible exact Below.refl _ _ | with_reducible refine Below.drew ?_ | with_reducible refine below_drewN ?_ _ | with_reducible refine Below.setCell ?_ ?_ _ | with_reducible refine Below.alloc ?_ ?_ _ | (simp; done) | (simp; omega) | omega)

set_option maxRecDepth 100000 in
theorem preHalves_walk {H : Type} {enc : TypeId × Value → H} (W : World) (vs : Array Value) (ds : List (DataW H)) (ps : List MemPlace) (h : ArgsOk Try.prog [33] H enc W vs.toList ds ps) :
    Calls Try.prog 6 vs W fun e W' => e = .returned (.bool true) ∧ Below W.heap.size W W' := by
  obtain ⟨hA, ⟨base, hval⟩, _, _⟩ := h
  obtain ⟨v0, d0, e0, _, h0⟩ := trodAll_one hA
  obtain ⟨six, hi, lo, n, rfl, b1, b2, _⟩ := open_prefix (hval 0 _ v0 rfl (by rw [e0]; rfl)) h0
  obtain rfl : vs = #[.agg #[.bool six, .int .u64 hi, .int .u64 lo, .int .i64 n]] := by cases vs; simp_all
  exact preHalves_any six hi lo n W b1 b2

end Go.Proofs.Ytbjojfcpehkopaa
