
/-
  Proved here: the contracts of pre.Over, pre.Covers and of the reference's PreCovers; the walk of the law PreCovers.
-/
import Derived.Test.YtonelibgaceflaaBoth
import Derived.Test.YtonelibgaceflaaPreIn
import Derived.Test.YtonelibgaceflaaRefSpan
import Derived.Test.YtonelibgaceflaaCoverPlain
namespace Go.Proofs.Ytonelibgaceflaa
open Go.ChangeShapes Go.WideShapes Go.ChangeAt Go.RowKit

set_option maxHeartbeats 1600000 in
theorem over_any (six : Bool) (hi lo n : Int) (six' : Bool) (hi' lo' n' : Int) (w : World) (h3 : 0 ≤ hi' ∧ hi' < 18446744073709551616) (h4 : 0 ≤ lo' ∧ lo' < 18446744073709551616) (h5 : six' = false → lo' < 4294967296) (h6 : -500 ≤ n) (h7 : n ≤ 500) :
    Calls Try.prog 137 #[.agg #[.bool six, .int .u64 hi, .int .u64 lo, .int .i64 n], .agg #[.bool six', .int .u64 hi', .int .u64 lo', .int .i64 n']] w fun e w' => e = .returned (.bool (overB six hi lo n six' hi' lo' n')) ∧ Below w.heap.size w w' := by
  have HQ := Lib.hid h5
  clear h5
  by_cases hn : n ≤ n'
  · have hE : overB six hi lo n six' hi' lo' n' = inB six hi lo n six' hi' lo' := by unfold overB; simp [hn]
    rw [hE]
    clear hE
    go_enter Try.func137, Try.ntmps137
    go_wp2_with fail
    refine (in_any six hi lo n six' hi' lo' _ h3 h4 HQ.out h6 h7).mono ?_
    rintro e w1 ⟨rfl, hb⟩
    obtain ⟨b0, b1, c0, c1, c2, c3, d0, d1, d2, d3⟩ := Box44.step (box44_start w _ _ _ _ _ _ _ _ _) hb
    clear hb
    go_wp2
    go_ret
    exact ⟨rfl, b0⟩
  · have hE : overB six hi lo n six' hi' lo' n' = false := by unfold overB; simp [hn]
    rw [hE]
    clear hE
    go_enter Try.func137, Try.ntmps137
    go_wp2
    go_ret
    exact ⟨rfl, ((Below.refl _ _).alloc (Nat.le_refl _) _).alloc (by simp) _⟩

def covB (six : Bool) (hi lo n : Int) (six' : Bool) (hi' lo' n' : Int) : Bool :=
  if ¬ bothE six hi lo n six' hi' lo' n' = 0 then false else overB six hi lo n six' hi' lo' n'

theorem both_zero {six : Bool} {hi lo n : Int} {six' : Bool} {hi' lo' n' : Int} (h1 : 0 ≤ hi ∧ hi < 18446744073709551616) (h2 : 0 ≤ lo ∧ lo < 18446744073709551616) (h3 : 0 ≤ hi' ∧ hi' < 18446744073709551616) (h4 : 0 ≤ lo' ∧ lo' < 18446744073709551616)
    (h : bothE six hi lo n six' hi' lo' n' = 0) : Pfx six hi lo n ∧ Pfx six' hi' lo' n' ∧ six = six' ∧ chk six' hi' lo' n' = 0 := by
  unfold bothE at h
  by_cases hz : chk six hi lo n = 0
  · rw [if_neg (fun x => x hz)] at h
    by_cases hz2 : chk six' hi' lo' n' = 0
    · rw [if_neg (fun x => x hz2)] at h
      by_cases hs : six = six'
      · exact ⟨chk_zero h1 h2 hz, chk_zero h3 h4 hz2, hs, hz2⟩
      · rw [if_pos hs] at h; omega
    · rw [if_pos hz2] at h; omega
  · rw [if_pos hz] at h; omega

end Go.Proofs.Ytonelibgaceflaa
