
/-
  Proved here: bit operations on words, said by division and remainder.
-/
import Derived.Test.YtonelibgaceflaaLaw
import Derived.Laws.BitsAllLaws
namespace Go.Proofs.Ytonelibgaceflaa
open Go.RowKit

theorem and1_u64 (x : Int) (h1 : 0 ≤ x) (h2 : x < 18446744073709551616) : bits .and .u64 x 1 = x % 2 := by
  rw [u64_and x 1 h1 h2 (by omega) (by omega)]
  rw [show (1 : Int).toNat = 1 from rfl, nat_mask1]
  omega

theorem or_u32 (x y : Int) (h1 : 0 ≤ x) (h2 : x < 65536) (h3 : 0 ≤ y) (h4 : y < 65536) : bits .or .u32 (x * 65536) y = x * 65536 + y := by
  rw [u32_or (x * 65536) y (by omega) (by omega) h3 (by omega), nat_join 16 _ _ (by omega) (by omega)]
  omega

theorem shr_range (x : Int) (k : Nat) (h1 : 0 ≤ x) (h2 : x < 18446744073709551616) : 0 ≤ x / 2 ^ k ∧ x / 2 ^ k < 18446744073709551616 := by
  have hp : (0 : Int) < 2 ^ k := Int.pow_pos (by omega)
  exact ⟨Int.ediv_nonneg h1 (by omega), Int.lt_of_le_of_lt (Int.ediv_le_self _ h1) h2⟩

theorem bit_wrap (x : Int) (k : Nat) (h1 : 0 ≤ x) (h2 : x < 18446744073709551616) : wrap64 (bits .and .u64 (x / 2 ^ k) 1) = x / 2 ^ k % 2 := by
  have h := shr_range x k h1 h2
  rw [and1_u64 _ h.1 h.2]
  unfold wrap64
  omega

theorem bit_wrap0 (x : Int) (h1 : 0 ≤ x) (h2 : x < 18446744073709551616) : wrap64 (bits .and .u64 x 1) = x % 2 := by
  rw [and1_u64 _ h1 h2]
  unfold wrap64
  omega

end Go.Proofs.Ytonelibgaceflaa
