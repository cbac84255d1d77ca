
/-
  Proved here: the contract of pre.Alike.
-/
import Derived.Test.YtonelibgaceflaaAuto
import Derived.Test.YtonelibgaceflaaAlikePlain
import Derived.Test.YtonelibgaceflaaCheck
import Derived.Test.YtonelibgaceflaaShelf
namespace Go.Proofs.Ytonelibgaceflaa
open Go.ChangeShapes Go.WideShapes Go.ChangeAt Go.RowKit

theorem zeros64 (x y : Int) (w : World) (hx : 0 ≤ x ∧ x < 18446744073709551616) (hy : 0 ≤ y ∧ y < 18446744073709551616) :
    Calls Try.prog 257 #[.int .u64 (bits .xor .u64 x y)] w fun e w' => e = .returned (.int .i64 (wordAlike 64 x y)) ∧ w = w' := by
  have e : (2 : Int) ^ 64 = 18446744073709551616 := by decide
  have hl := xor_lt 64 x y (by omega) (by omega)
  have e2 : (2 : Nat) ^ 64 = 18446744073709551616 := by decide
  rw [u64_xor x y hx.1 hx.2 hy.1 hy.2]
  refine (Try.bits_LeadingZeros64 _ w (by omega) (by omega)).mono ?_
  rintro e w' ⟨rfl, rfl⟩
  exact ⟨ret_int (by unfold wordAlike; simp), rfl⟩
theorem zeros32 (x y : Int) (w : World) (hx : 0 ≤ x ∧ x < 4294967296) (hy : 0 ≤ y ∧ y < 4294967296) :
    Calls Try.prog 256 #[.int .u32 (bits .xor .u64 x y % 4294967296)] w fun e w' => e = .returned (.int .i64 (wordAlike 32 x y)) ∧ w = w' := by
  have e : (2 : Int) ^ 32 = 4294967296 := by decide
  have hl := xor_lt 32 x y (by omega) (by omega)
  have e2 : (2 : Nat) ^ 32 = 4294967296 := by decide
  rw [u64_xor x y hx.1 (by omega) hy.1 (by omega), show ((x.toNat ^^^ y.toNat : Nat) : Int) % 4294967296 = ((x.toNat ^^^ y.toNat : Nat) : Int) from by omega]
  refine (Try.bits_LeadingZeros32 _ w (by omega) (by omega)).mono ?_
  rintro e w' ⟨rfl, rfl⟩
  exact ⟨ret_int (by unfold wordAlike; simp), rfl⟩

set_option maxRecDepth 100000 in
set_option maxHeartbeats 400000 in
theorem alike_any (six six' : Bool) (hi lo hi' lo' : Int) (w : World) (h1 : 0 ≤ hi ∧ hi < 18446744073709551616) (h2 : 0 ≤ lo ∧ lo < 18446744073709551616) (h3 : 0 ≤ hi' ∧ hi' < 18446744073709551616) (h4 : 0 ≤ lo' ∧ lo' < 18446744073709551616)
    (hm : mayB six hi lo = true) (hm' : mayB six hi' lo' = true) :
    Calls Try.prog 241 #[.agg #[.bool six, .int .u64 hi, .int .u64 lo], .agg #[.bool six', .int .u64 hi', .int .u64 lo']] w fun e w' => e = .returned (.int .i64 (alikeI six hi lo hi' lo')) ∧ Below w.heap.size w w' := by
  have e : (2 : Int) ^ 64 = 18446744073709551616 := by decide
  have e2 : (2 : Int) ^ 32 = 4294967296 := by decide
  cases six
  · have q := mayB_four hm
    have q' := mayB_four hm'
    have HE : Hid (alikeI false hi lo hi' lo' = wordAlike 32 lo lo') := rfl
    have HC := Lib.hid (fun w => zeros32 lo lo' w ⟨h2.1, q.2⟩ ⟨h4.1, q'.2⟩)
    clear q q' hm hm' e e2
    go_enter Try.func241, Try.ntmps241
    go_wp2_with fail
    refine (HC.out _).mono ?_
    rintro e w' ⟨rfl, rfl⟩
    go_wp2
    go_ret
    exact ⟨ret_int HE.out.symm, ((Below.refl _ _).alloc (Nat.le_refl _) _).alloc (by simp) _⟩
  · by_cases hh : hi = hi'
    · have HE : Hid (alikeI true hi lo hi' lo' = 64 + wordAlike 64 lo lo') := by show alikeI true hi lo hi' lo' = _; unfold alikeI; rw [if_neg (by simp), if_pos hh]
      have hr := wordAlike_range 64 lo lo' (by omega) (by omega) (by omega)
      have hb : (hi != hi') = false := by simpa using hh
      have HC := Lib.hid (fun w => zeros64 lo lo' w h2 h4)
      generalize wordAlike 64 lo lo' = x at *
      clear hm hm' e e2 hh
      go_enter Try.func241, Try.ntmps241
      go_wp2_with fail
      refine (HC.out _).mono ?_
      rintro e w' ⟨rfl, rfl⟩
      go_wp2
      go_ret
      exact ⟨ret_int HE.out.symm, ((Below.refl _ _).alloc (Nat.le_refl _) _).alloc (by simp) _⟩
    · have HE : Hid (alikeI true hi lo hi' lo' = wordAlike 64 hi hi') := by show alikeI true hi lo hi' lo' = _; unfold alikeI; rw [if_neg (by simp), if_neg hh]
      have HC := Lib.hid (fun w => zeros64 hi hi' w h1 h3)
      have hb : (hi != hi') = true := by simpa using hh
      clear hm hm' e e2 hh
      go_enter Try.func241, Try.ntmps241
      go_wp2_with fail
      refine (HC.out _).mono ?_
      rintro e w' ⟨rfl, rfl⟩
      go_wp2
      go_ret
      exact ⟨ret_int HE.out.symm, ((Below.refl _ _).alloc (Nat.le_refl _) _).alloc (by simp) _⟩

end Go.Proofs.Ytonelibgaceflaa
