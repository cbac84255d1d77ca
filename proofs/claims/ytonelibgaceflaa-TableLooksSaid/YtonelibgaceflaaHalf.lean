
/-
  Proved here: the contract of pre.Half.
-/
import Derived.Test.YtonelibgaceflaaLast
import Derived.Test.YtonelibgaceflaaHalfPlain
namespace Go.Proofs.Ytonelibgaceflaa
open Go.ChangeShapes Go.WideShapes Go.ChangeAt Go.RowKit

set_option maxHeartbeats 400000 in
theorem half_low (six : Bool) (hi lo n : Int) (w : World) (h3 : 0 ≤ n) (h4 : n ≤ 128) :
    Calls Try.prog 155 #[.agg #[.bool six, .int .u64 hi, .int .u64 lo, .int .i64 n], .int .i64 0] w fun e w' => e = .returned (.agg #[.bool six, .int .u64 hi, .int .u64 lo, .int .i64 (n + 1)]) ∧ Below w.heap.size w w' := by
  go_enter Try.func155, Try.ntmps155
  go_wp2
  exact bodyPost_ret (v := .agg #[.bool six, .int .u64 hi, .int .u64 lo, .int .i64 (n + 1)]) (by simp [results, Try.results155, go_sem]) rfl
    ⟨rfl, ((Below.refl _ _).alloc (Nat.le_refl _) _).alloc (by simp) _⟩

theorem or_set (x : Int) (k : Nat) (hx : 0 ≤ x ∧ x < 18446744073709551616) (hk : k < 64) : bits .or .u64 x (IntKind.u64.wrap (2 ^ k)) = (setN x k : Int) := by
  have e : (2 ^ 64 : Nat) = 18446744073709551616 := by decide
  have h1 : (2 : Nat) ^ k < 2 ^ 64 := Nat.pow_lt_pow_right (by omega) hk
  have h2 : IntKind.u64.wrap (2 ^ k) = ((2 ^ k : Nat) : Int) := by
    have h3 : ((2 ^ k : Nat) : Int) = (2 : Int) ^ k := by simp
    rw [← h3]
    generalize (2 ^ k : Nat) = m at *
    show (m : Int) % 2 ^ 64 = _
    have e2 : (2 : Int) ^ 64 = 18446744073709551616 := by decide
    rw [e2]
    omega
  rw [h2, u64_or x _ hx.1 hx.2 (Int.natCast_nonneg _) (by generalize (2 ^ k : Nat) = m at *; omega)]
  rfl

set_option maxHeartbeats 400000 in
theorem half_high (six : Bool) (hi lo : Int) (n : Nat) (w : World) (h1 : 0 ≤ hi ∧ hi < 18446744073709551616) (h2 : 0 ≤ lo ∧ lo < 18446744073709551616) (h4 : (n : Int) < wideI six) :
    Calls Try.prog 155 #[.agg #[.bool six, .int .u64 hi, .int .u64 lo, .int .i64 n], .int .i64 1] w fun e w' => e = .returned (.agg #[.bool six, .int .u64 (setHi six hi n), .int .u64 (setLo six lo n), .int .i64 (n + 1)]) ∧ Below w.heap.size w w' := by
  cases six
  · have h5 : n < 32 := by have : (n : Int) < 32 := h4; omega
    have e1 : setHi false hi n = hi := by simp [setHi]
    have e2 : setLo false lo n = bits .or .u64 lo (IntKind.u64.wrap (2 ^ (31 - n))) := by rw [or_set lo _ h2 (by omega)]; simp [setLo]
    rw [e1, e2]
    clear e1 e2 h4
    go_enter Try.func155, Try.ntmps155
    go_wp2
    go_region
    all_goals go_wp2
    all_goals exact bodyPost_ret (v := .agg #[.bool false, .int .u64 hi, .int .u64 (bits .or .u64 lo (IntKind.u64.wrap (2 ^ (31 - n)))), .int .i64 (n + 1)]) (by simp [results, Try.results155, go_sem]) rfl ⟨rfl, (((Below.refl _ _).alloc (Nat.le_refl _) _).alloc (by simp) _).drew⟩
  · have h5 : n < 128 := by have : (n : Int) < 128 := h4; omega
    by_cases h6 : n < 64
    · have e1 : setLo true lo n = lo := by simp [setLo, h6]
      have e2 : setHi true hi n = bits .or .u64 hi (IntKind.u64.wrap (2 ^ (63 - n))) := by rw [or_set hi _ h1 (by omega)]; simp [setHi, h6]
      rw [e1, e2]
      clear e1 e2 h4 h5
      go_enter Try.func155, Try.ntmps155
      go_wp2
      go_region
      all_goals go_wp2
      all_goals exact bodyPost_ret (v := .agg #[.bool true, .int .u64 (bits .or .u64 hi (IntKind.u64.wrap (2 ^ (63 - n)))), .int .u64 lo, .int .i64 (n + 1)]) (by simp [results, Try.results155, go_sem]) rfl ⟨rfl, (((Below.refl _ _).alloc (Nat.le_refl _) _).alloc (by simp) _).drew⟩
    · have e1 : setHi true hi n = hi := by simp [setHi, h6]
      have e2 : setLo true lo n = bits .or .u64 lo (IntKind.u64.wrap (2 ^ (127 - n))) := by rw [or_set lo _ h2 (by omega)]; simp [setLo, h6]
      rw [e1, e2]
      clear e1 e2 h4
      go_enter Try.func155, Try.ntmps155
      go_wp2
      go_region
      all_goals go_wp2
      all_goals exact bodyPost_ret (v := .agg #[.bool true, .int .u64 hi, .int .u64 (bits .or .u64 lo (IntKind.u64.wrap (2 ^ (127 - n)))), .int .i64 (n + 1)]) (by simp [results, Try.results155, go_sem]) rfl ⟨rfl, (((Below.refl _ _).alloc (Nat.le_refl _) _).alloc (by simp) _).drew⟩

end Go.Proofs.Ytonelibgaceflaa
