/-
  Proved here: the contract of the reference's preOver.
-/
import Derived.Test.YtbjojfcpehkopaaAuto
import Derived.Test.YtbjojfcpehkopaaCoverPlain
import Derived.Test.YtbjojfcpehkopaaPreIn
namespace Go.Proofs.Ytbjojfcpehkopaa
open Go.ChangeShapes Go.WideShapes Go.ChangeAt Go.RowKit

set_option maxHeartbeats 1600000 in
theorem refOver_any (six : Bool) (hi lo : Int) (n : Nat) (six' : Bool) (hi' lo' n' : Int) (w : World) (hp : Pfx six hi lo n) (h3 : 0 ≤ hi' ∧ hi' < 18446744073709551616) (h4 : 0 ≤ lo' ∧ lo' < 18446744073709551616) (h5 : mayB six' hi' lo' = true) :
    Calls Try.prog 75 #[.agg #[.bool six, .int .u64 hi, .int .u64 lo, .int .i64 n], .agg #[.bool six', .int .u64 hi', .int .u64 lo', .int .i64 n']] w fun e w' => e = .returned (.bool (overB six hi lo n six' hi' lo' n')) ∧ Below w.heap.size w w' := by
  have HI := Lib.hid (fun w => preIn_any six hi lo n six' hi' lo' w hp h3 h4 h5)
  clear hp h5
  by_cases hn : (n : Int) ≤ n'
  · have hE : overB six hi lo n six' hi' lo' n' = inB six hi lo n six' hi' lo' := by unfold overB; simp [hn]
    rw [hE]
    clear hE
    go_enter Try.func75, Try.ntmps75
    go_wp2_with fail
    refine (HI.out _).mono ?_
    rintro e w1 ⟨rfl, hb⟩
    have HB := Lib.hid (balloc2 hb)
    clear hb
    go_wp2
    go_ret
    exact ⟨rfl, HB.out⟩
  · have hE : overB six hi lo n six' hi' lo' n' = false := by unfold overB; simp [hn]
    rw [hE]
    clear hE
    go_enter Try.func75, Try.ntmps75
    go_wp2
    go_ret
    exact ⟨rfl, ((Below.refl _ _).alloc (Nat.le_refl _) _).alloc (by simp) _⟩

end Go.Proofs.Ytbjojfcpehkopaa
