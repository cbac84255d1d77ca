
/-
  Proved here: the contracts of pre.Last, pre.Span and of the reference's PreSpan.
-/
import Derived.Test.YtonelibgaceflaaAddrOf
import Derived.Test.YtonelibgaceflaaLastPlain
namespace Go.Proofs.Ytonelibgaceflaa
open Go.ChangeShapes Go.WideShapes Go.ChangeAt Go.RowKit

theorem or_fill (x m : Int) (hx : 0 ≤ x ∧ x < 18446744073709551616) (hm : 0 ≤ m ∧ m < 18446744073709551616) : bits .or .u64 x (bits .xor .u64 IntKind.u64.max m) = (fillN x m : Int) := by
  have e : (2 ^ 64 : Nat) = 18446744073709551616 := by decide
  have hmax : IntKind.u64.max = 18446744073709551615 := rfl
  have hlt : 18446744073709551615 ^^^ m.toNat < 2 ^ 64 := Nat.xor_lt_two_pow (by omega) (by omega)
  rw [hmax, u64_xor _ _ (by omega) (by omega) hm.1 hm.2, show (18446744073709551615 : Int).toNat = 18446744073709551615 from by decide, u64_or x _ hx.1 hx.2 (by omega) (by omega)]
  rfl

theorem and_fill (x m : Int) (hx : 0 ≤ x ∧ x < 18446744073709551616) (hm : 0 ≤ m ∧ m < 18446744073709551616) : bits .and .u64 (bits .or .u64 x (bits .xor .u64 IntKind.u64.max m)) 4294967295 = ((fillN x m % 2 ^ 32 : Nat) : Int) := by
  have e : (2 ^ 64 : Nat) = 18446744073709551616 := by decide
  have hlt := fillN_lt x m hx hm
  rw [or_fill x m hx hm, u64_and _ _ (by omega) (by omega) (by omega) (by omega), show (4294967295 : Int).toNat = 2 ^ 32 - 1 from by decide, Nat.and_two_pow_sub_one_eq_mod]
  simp

set_option maxRecDepth 100000 in
set_option maxHeartbeats 1600000 in
theorem last_four (hi lo n : Int) (w : World) (_h1 : 0 ≤ hi ∧ hi < 18446744073709551616) (h2 : 0 ≤ lo ∧ lo < 18446744073709551616) (h3 : 0 ≤ n) (h4 : n ≤ 128) :
    Calls Try.prog 113 #[.agg #[.bool false, .int .u64 hi, .int .u64 lo, .int .i64 n]] w fun e w' => e = .returned (.agg #[.bool false, .int .u64 (lastHi false hi lo n), .int .u64 (lastLo false hi lo n)]) ∧ Below w.heap.size w w' := by
  have hv : (Value.agg #[.bool false, .int .u64 (lastHi false hi lo n), .int .u64 (lastLo false hi lo n)]) = .agg #[.bool false, .int .u64 0, .int .u64 (bits .and .u64 (bits .or .u64 lo (bits .xor .u64 IntKind.u64.max (maskLo false n))) 4294967295)] := by
    have hq := last_four_eq hi lo n h2
    rw [hq.1, hq.2, ← and_fill lo (onesI n / 4294967296) h2 (by have := onesI_range n; omega)]
    rfl
  rw [hv]
  clear hv
  go_enter Try.func113, Try.ntmps113
  go_wp2_with (go_at_call 182; refine (mask_any _ n _ (by omega) (by omega)).mono ?_; rintro e w' ⟨rfl, rfl⟩)
  exact bodyPost_ret (v := .agg #[.bool false, .int .u64 0, .int .u64 (bits .and .u64 (bits .or .u64 lo (bits .xor .u64 IntKind.u64.max (maskLo false n))) 4294967295)]) (by simp [results, Try.results113, go_sem]) rfl
    ⟨rfl, (((Below.refl _ _).alloc (Nat.le_refl _) _).alloc (by simp) _).alloc (by simp; omega) _⟩

set_option maxRecDepth 100000 in
set_option maxHeartbeats 1600000 in
theorem last_six (hi lo n : Int) (w : World) (h1 : 0 ≤ hi ∧ hi < 18446744073709551616) (h2 : 0 ≤ lo ∧ lo < 18446744073709551616) (h3 : 0 ≤ n) (h4 : n ≤ 128) :
    Calls Try.prog 113 #[.agg #[.bool true, .int .u64 hi, .int .u64 lo, .int .i64 n]] w fun e w' => e = .returned (.agg #[.bool true, .int .u64 (lastHi true hi lo n), .int .u64 (lastLo true hi lo n)]) ∧ Below w.heap.size w w' := by
  have hv : (Value.agg #[.bool true, .int .u64 (lastHi true hi lo n), .int .u64 (lastLo true hi lo n)]) = .agg #[.bool true, .int .u64 (bits .or .u64 hi (bits .xor .u64 IntKind.u64.max (maskHi true n))), .int .u64 (bits .or .u64 lo (bits .xor .u64 IntKind.u64.max (maskLo true n)))] := by
    have hq := last_six_eq hi lo n h1 h2
    rw [hq.1, hq.2, ← or_fill hi (onesI n) h1 (onesI_range n), ← or_fill lo (onesI (n - 64)) h2 (onesI_range _)]
    rfl
  rw [hv]
  clear hv
  go_enter Try.func113, Try.ntmps113
  go_wp2_with (go_at_call 182; refine (mask_any _ n _ (by omega) (by omega)).mono ?_; rintro e w' ⟨rfl, rfl⟩)
  exact bodyPost_ret (v := .agg #[.bool true, .int .u64 (bits .or .u64 hi (bits .xor .u64 IntKind.u64.max (maskHi true n))), .int .u64 (bits .or .u64 lo (bits .xor .u64 IntKind.u64.max (maskLo true n)))]) (by simp [results, Try.results113, go_sem]) rfl
    ⟨rfl, (((Below.refl _ _).alloc (Nat.le_refl _) _).alloc (by simp) _).alloc (by simp; omega) _⟩

theorem last_any (six : Bool) (hi lo n : Int) (w : World) (h1 : 0 ≤ hi ∧ hi < 18446744073709551616) (h2 : 0 ≤ lo ∧ lo < 18446744073709551616) (h3 : 0 ≤ n) (h4 : n ≤ 128) :
    Calls Try.prog 113 #[.agg #[.bool six, .int .u64 hi, .int .u64 lo, .int .i64 n]] w fun e w' => e = .returned (.agg #[.bool six, .int .u64 (lastHi six hi lo n), .int .u64 (lastLo six hi lo n)]) ∧ Below w.heap.size w w' := by
  cases six
  · exact last_four hi lo n w h1 h2 h3 h4
  · exact last_six hi lo n w h1 h2 h3 h4

end Go.Proofs.Ytonelibgaceflaa
