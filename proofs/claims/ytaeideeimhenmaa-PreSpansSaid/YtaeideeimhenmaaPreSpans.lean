/-
  Proved here: the walk of the law PreSpans.
-/
import Derived.Test.YtaeideeimhenmaaSpan2
namespace Go.Proofs.Ytaeideeimhenmaa
open Go.ChangeShapes Go.WideShapes Go.ChangeAt Go.RowKit

theorem box33 {w w2 : World} {a b c d e f : Value} {t t' : TypeId} (hb : Below ((w.alloc (.cells #[a, b, c] t)).alloc (.cells #[d, e, f] t')).heap.size ((w.alloc (.cells #[a, b, c] t)).alloc (.cells #[d, e, f] t')) w2) :
    Below w.heap.size w w2 ∧ (w2.cell? ⟨w.heap.size, 0, none⟩ = some a ∧ w2.cell? ⟨w.heap.size, 1, none⟩ = some b ∧ w2.cell? ⟨w.heap.size, 2, none⟩ = some c) ∧
      (w2.cell? ⟨w.heap.size + 1, 0, none⟩ = some d ∧ w2.cell? ⟨w.heap.size + 1, 1, none⟩ = some e ∧ w2.cell? ⟨w.heap.size + 1, 2, none⟩ = some f) ∧ w.heap.size + 1 < w2.heap.size := by
  have e0 : ∀ j u, (#[a, b, c] : Array Value)[j]? = some u → ((w.alloc (.cells #[a, b, c] t)).alloc (.cells #[d, e, f] t')).cell? ⟨w.heap.size, j, none⟩ = some u := by
    intro j u hj
    rw [World.cell?_alloc_past _ _ _ (by simp), World.cell?_alloc_at _ _ _ _ rfl]
    exact hj
  have e1 : ∀ j u, (#[d, e, f] : Array Value)[j]? = some u → ((w.alloc (.cells #[a, b, c] t)).alloc (.cells #[d, e, f] t')).cell? ⟨w.heap.size + 1, j, none⟩ = some u := by
    intro j u hj
    rw [World.cell?_alloc_at _ _ _ _ (by simp)]
    exact hj
  have hs := hb.size
  simp at hs
  exact ⟨below_step (((Below.refl _ _).alloc (Nat.le_refl _) _).alloc (by simp) _) hb, ⟨cell_step hb (e0 0 a rfl), cell_step hb (e0 1 b rfl), cell_step hb (e0 2 c rfl)⟩, ⟨cell_step hb (e1 0 d rfl), cell_step hb (e1 1 e rfl), cell_step hb (e1 2 f rfl)⟩, by omega⟩

theorem span_both (six : Bool) (hi lo n : Int) (h1 : 0 ≤ hi ∧ hi < 18446744073709551616) (h2 : 0 ≤ lo ∧ lo < 18446744073709551616) :
    ∃ (s : Bool) (a b : Int) (s' : Bool) (a' b' k : Int), ∀ w,
      (Calls Try.prog 35 #[.agg #[.bool six, .int .u64 hi, .int .u64 lo, .int .i64 n]] w fun e w' => e = .returned (.tuple #[.agg #[.bool s, .int .u64 a, .int .u64 b], .agg #[.bool s', .int .u64 a', .int .u64 b'], .int .i64 k]) ∧ Below w.heap.size w w') ∧
      (Calls Try.prog 36 #[.agg #[.bool six, .int .u64 hi, .int .u64 lo, .int .i64 n]] w fun e w' => e = .returned (.tuple #[.agg #[.bool s, .int .u64 a, .int .u64 b], .agg #[.bool s', .int .u64 a', .int .u64 b'], .int .i64 k]) ∧ Below w.heap.size w w') := by
  by_cases hz : chk six hi lo n = 0
  · have hp := chk_zero h1 h2 hz
    have hw := wideI_le six
    have hl := hp.len
    obtain ⟨m, rfl⟩ := Int.eq_ofNat_of_zero_le hl.1
    exact ⟨six, hi, lo, six, lastHi six hi lo m, lastLo six hi lo m, 0, fun w => ⟨span_ok six hi lo m w h1 h2 hz (by omega) (by omega), refSpan_ok six hi lo m w h1 h2 hz⟩⟩
  · exact ⟨false, 0, 0, false, 0, 0, chk six hi lo n, fun w => ⟨span_bad six hi lo n w h1 h2 hz, refSpan_bad six hi lo n w h1 h2 hz⟩⟩

set_option maxRecDepth 100000 in
set_option maxHeartbeats 800000 in
theorem preSpans_any (six : Bool) (hi lo n : Int) (w : World) (h1 : 0 ≤ hi ∧ hi < 18446744073709551616) (h2 : 0 ≤ lo ∧ lo < 18446744073709551616) :
    Calls Try.prog 14 #[.agg #[.bool six, .int .u64 hi, .int .u64 lo, .int .i64 n]] w fun e w' => e = .returned (.bool true) ∧ Below w.heap.size w w' := by
  obtain ⟨s, a, b, s', a', b', k, hc⟩ := span_both six hi lo n h1 h2
  have HC := Lib.hid hc
  clear hc
  go_enter Try.func14, Try.ntmps14
  go_wp2_with fail
  refine (HC.out _).1.mono ?_
  rintro e w1 ⟨rfl, hb⟩
  obtain ⟨B1, S1, q0, q1, q2, q3⟩ := box4 hb
  clear hb
  go_wp2_with fail
  refine (HC.out _).2.mono ?_
  rintro e w2 ⟨rfl, hb⟩
  obtain ⟨B2, ⟨x0, x1, x2⟩, ⟨y0, y1, y2⟩, S2⟩ := box33 hb
  clear hb
  have B := B1.trans (B2.mono (Nat.le_of_lt S1))
  have S3 : w1.heap.size < w2.heap.size := by omega
  clear q0 q1 q2 q3 B1 B2
  go_wp2
  all_goals go_ret
  all_goals exact ⟨by simp, (B.alloc (by omega) _).alloc (by simp; omega) _⟩

theorem preSpans_walk {H : Type} {enc : TypeId × Value → H} (W : World) (vs : Array Value) (ds : List (DataW H)) (ps : List MemPlace) (h : ArgsOk Try.prog [43] H enc W vs.toList ds ps) :
    Calls Try.prog 14 vs W fun e W' => e = .returned (.bool true) ∧ Below W.heap.size W W' := by
  obtain ⟨hA, ⟨base, hval⟩, _, _⟩ := h
  obtain ⟨v0, d0, e0, _, h0⟩ := trodAll_one hA
  obtain ⟨six, hi, lo, n, rfl, b1, b2, _⟩ := open_prefix (hval 0 _ v0 rfl (by rw [e0]; rfl)) h0
  obtain rfl : vs = #[.agg #[.bool six, .int .u64 hi, .int .u64 lo, .int .i64 n]] := by cases vs; simp_all
  exact preSpans_any six hi lo n W b1 b2

end Go.Proofs.Ytaeideeimhenmaa
