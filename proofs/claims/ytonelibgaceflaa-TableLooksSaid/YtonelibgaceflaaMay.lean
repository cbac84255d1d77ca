
/-
  Proved here: addr.May and whipcordref.AddrMay return the same truth value, for every address.
-/
import Derived.Test.YtonelibgaceflaaChecked
import Derived.Test.YtonelibgaceflaaLaw
import Derived.Test.YtonelibgaceflaaPlain
namespace Go.Proofs.Ytonelibgaceflaa
open Go.ChangeShapes Go.WideShapes Go.ChangeAt Go.RowKit

theorem ret_bool {a b : Bool} (h : a = b) : Ending.returned (.bool a) = .returned (.bool b) := by rw [h]

set_option maxHeartbeats 400000 in
theorem may_any (six : Bool) (hi lo : Int) (w : World) (h1 : 0 ≤ lo) :
    Calls Try.prog 71 #[.agg #[.bool six, .int .u64 hi, .int .u64 lo]] w fun e w' => e = .returned (.bool (mayB six hi lo)) ∧ Below w.heap.size w w' := by
  cases six
  · by_cases hh : hi = 0
    · subst hh
      go_enter Try.func71, Try.ntmps71
      go_wp2
      go_ret
      exact ⟨ret_bool (by simp only [mayB]; rw [Bool.eq_iff_iff]; simp; omega), (Below.refl _ _).alloc (Nat.le_refl _) _⟩
    · have hb : (hi == 0) = false := by simpa using hh
      go_enter Try.func71, Try.ntmps71
      go_wp2
      go_ret
      exact ⟨ret_bool (by simp [mayB, hh]), (Below.refl _ _).alloc (Nat.le_refl _) _⟩
  · go_enter Try.func71, Try.ntmps71
    go_wp2
    go_ret
    exact ⟨ret_bool (by simp [mayB]), (Below.refl _ _).alloc (Nat.le_refl _) _⟩

set_option maxHeartbeats 400000 in
theorem refMay_any (six : Bool) (hi lo : Int) (w : World) (h1 : 0 ≤ lo) :
    Calls Try.prog 82 #[.agg #[.bool six, .int .u64 hi, .int .u64 lo]] w fun e w' => e = .returned (.bool (mayB six hi lo)) ∧ Below w.heap.size w w' := by
  cases six
  · by_cases hh : hi = 0
    · subst hh
      go_enter Try.func82, Try.ntmps82
      go_wp2
      all_goals go_ret
      all_goals exact ⟨ret_bool (by simp only [mayB]; rw [Bool.eq_iff_iff]; simp; omega), (Below.refl _ _).alloc (Nat.le_refl _) _⟩
    · have hb : (hi == 0) = false := by simpa using hh
      go_enter Try.func82, Try.ntmps82
      go_wp2
      go_ret
      exact ⟨ret_bool (by simp [mayB, hh]), (Below.refl _ _).alloc (Nat.le_refl _) _⟩
  · go_enter Try.func82, Try.ntmps82
    go_wp2
    go_ret
    exact ⟨ret_bool (by simp [mayB]), (Below.refl _ _).alloc (Nat.le_refl _) _⟩

set_option maxRecDepth 100000 in
/-- An address that came in. -/
theorem open_addr {H : Type} {enc : TypeId × Value → H} {W : World} {base : Nat} {sp : Nat → Bool} {held : Bool} {b0 : Nat} {v : Value} {d : DataW H} {p : List MemPlace}
    (hv : Value.okWide Try.prog W .any b0 24 v) (h : DataW.Trod enc Try.prog W base sp held 24 v d p) :
    ∃ six hi lo, v = .agg #[.bool six, .int .u64 hi, .int .u64 lo] ∧ (0 ≤ hi ∧ hi < 18446744073709551616) ∧ (0 ≤ lo ∧ lo < 18446744073709551616) := by
  have hc : Try.prog.cellsOf 24 = 3 := by kernel_rfl
  have hk : flat Try.prog 9 24 = some [none, some .u64, some .u64] := by kernel_rfl
  obtain ⟨cs, rfl, hf⟩ := open_flat (fun fuel cs x hl hx => trod_flat 9 _ _ fuel cs x hk hl (by rw [hc]; rfl) hx) Try.underlying24 hv h
  obtain ⟨six, _, rfl, hf1⟩ := hf.bool_inv
  obtain ⟨hi, _, rfl, wy, hf2⟩ := hf1.int_inv
  obtain ⟨lo, _, rfl, wz, hf3⟩ := hf2.int_inv
  obtain rfl := hf3.nil_inv
  exact ⟨six, hi, lo, rfl, range_u64 wy, range_u64 wz⟩

end Go.Proofs.Ytonelibgaceflaa
