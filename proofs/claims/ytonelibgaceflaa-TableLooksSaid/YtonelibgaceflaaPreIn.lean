
/-
  Proved here: the contract of the reference's preIn.
-/
import Derived.Test.YtonelibgaceflaaIn
namespace Go.Proofs.Ytonelibgaceflaa
open Go.ChangeShapes Go.WideShapes Go.ChangeAt Go.RowKit

def SameTo (six : Bool) (hi lo hi' lo' : Int) (j : Nat) : Prop := ∀ i : Nat, i < j → bitI six hi lo i = bitI six hi' lo' i
theorem SameTo.succ {six : Bool} {hi lo hi' lo' : Int} {j : Nat} (h : SameTo six hi lo hi' lo' j) (hb : bitI six hi lo (j : Int) = bitI six hi' lo' (j : Int)) : SameTo six hi lo hi' lo' (j + 1) := fun i h1 => by
  rcases Nat.lt_or_ge i j with h3 | h3
  · exact h i h3
  · obtain rfl : i = j := by omega
    exact hb

set_option maxHeartbeats 1600000 in
theorem preIn_same (six : Bool) (hi lo : Int) (n : Nat) (hi' lo' : Int) (w : World) (hp : Pfx six hi lo n) (h3 : 0 ≤ hi' ∧ hi' < 18446744073709551616) (h4 : 0 ≤ lo' ∧ lo' < 18446744073709551616) (h5 : mayB six hi' lo' = true) :
    Calls Try.prog 95 #[.agg #[.bool six, .int .u64 hi, .int .u64 lo, .int .i64 n], .agg #[.bool six, .int .u64 hi', .int .u64 lo']] w fun e w' => e = .returned (.bool (inB six hi lo n six hi' lo')) ∧ Below w.heap.size w w' := by
  obtain ⟨r, hr0⟩ : ∃ r : Bool, r = inB six hi lo n six hi' lo' := ⟨_, rfl⟩
  have hi0 := inB_iff hp h3 h4 h5
  rw [← hr0] at hi0 ⊢
  have hall : SameTo six hi lo hi' lo' n → r = true := fun h => hi0.2 h
  have hone : ∀ j : Nat, j < n → ¬ bitI six hi lo j = bitI six hi' lo' j → r = false := fun j hj hb => by
    rw [Bool.eq_false_iff]
    intro h
    exact hb (hi0.1 h j hj)
  have HA := Lib.hid hall
  have HB := Lib.hid hone
  obtain ⟨m, hn, hpos, hle⟩ := wideN six
  have hlen : n ≤ m := by have := hp.len.2; omega
  have h1 := hp.rhi
  have h2 := hp.rlo
  have HN := Lib.hid hn
  clear hall hone hr0 hi0 hn hp h5
  obtain ⟨b0, b1, c0, c1, c2, c3, d0, d1, d2⟩ := box43_start w (.bool six) (.int .u64 hi) (.int .u64 lo) (.int .i64 n) (.bool six) (.int .u64 hi') (.int .u64 lo') 35 24
  go_enter Try.func95, Try.ntmps95
  go_wp2_with fail
  refine (bitsOf_any six hi lo _ h1 h2).mono ?_
  rintro e w1 ⟨v1, rfl, own1, hb1, hs1⟩
  have bx := Box43.step ⟨b0, b1, c0, c1, c2, c3, d0, d1, d2⟩ hb1
  clear b0 b1 c0 c1 c2 c3 d0 d1 d2
  obtain ⟨b0, b1, c0, c1, c2, c3, d0, d1, d2⟩ := bx
  go_wp2_with fail
  refine (bitsOf_any six hi' lo' _ h3 h4).mono ?_
  rintro e w2 ⟨v2, rfl, own2, hb2, hs2⟩
  have bx := Box43.step ⟨b0, b1, c0, c1, c2, c3, d0, d1, d2⟩ hb2
  clear b0 b1 c0 c1 c2 c3 d0 d1 d2
  obtain ⟨b0, b1, c0, c1, c2, c3, d0, d1, d2⟩ := bx
  rw [HN.out] at own1 own2
  simp only [Int.toNat_natCast] at own1 own2
  have own1' := own_below own1 hb2
  obtain ⟨g1, cap1, rfl, _, hlt1⟩ := own1.form hpos
  obtain ⟨g2, cap2, rfl, _, hlt2⟩ := own2.form hpos
  have H1 := Lib.hid own1'
  have H2 := Lib.hid own2
  clear own1 own2 own1' hb1 hb2
  have hm1 : (m : Int) ≤ 128 := by omega
  go_wp2
  go_loopw [7] (fun i wr => ∃ j : Nat, j ≤ n ∧ i = .int .i64 j ∧ SameTo six hi lo hi' lo' j ∧ Below w2.heap.size w2 wr) (fun i _ => n - (intOf i).toNat)
  case atStart => exact ⟨0, by omega, rfl, fun _ h => by omega, Below.refl _ _⟩
  case round =>
    obtain ⟨j, hj, rfl, hsame, hbr⟩ := hrel
    have q3 := cell_step hbr c3
    by_cases hlt : j < n
    · have x1 := cell_step hbr (own_int H1.out (bitsL_at (hi := hi) (lo := lo) HN.out (show j < m by omega)))
      have x2 := cell_step hbr (own_int H2.out (bitsL_at (hi := hi') (lo := lo') HN.out (show j < m by omega)))
      have k1 : (0 : Int) ≤ (j : Int) := by omega
      have k2 : (j : Int) < (m : Int) := by omega
      by_cases hb : bitI six hi lo j = bitI six hi' lo' j
      · have HS := Lib.hid (hsame.succ hb)
        rw [← hb] at x2
        clear hsame hb
        go_wp2
        go_quiet (fail)
        go_wp2
        go_roundw
        case rel => exact ⟨j + 1, by omega, by go_num, HS.out, below_drewN hbr _⟩
        case measure => simp [intOf]; omega
      · have HR := Lib.hid (HB.out j hlt hb)
        have hb' : (bitI six hi lo j == bitI six hi' lo' j) = false := by simpa using hb
        have hb'' : (bitI six hi lo j != bitI six hi' lo' j) = true := by simpa using hb
        clear hsame
        go_wp2
        go_quiet (fail)
        go_wp2
        go_ret
        exact ⟨ret_bool HR.out.symm, b0.trans ((below_drewN hbr _).mono b0.size)⟩
    · obtain rfl : j = n := by omega
      have HR := Lib.hid (HA.out hsame)
      clear hsame
      go_wp2
      go_ret
      exact ⟨ret_bool HR.out.symm, b0.trans (hbr.mono b0.size)⟩

set_option maxHeartbeats 800000 in
theorem preIn_any (six : Bool) (hi lo : Int) (n : Nat) (six' : Bool) (hi' lo' : Int) (w : World) (hp : Pfx six hi lo n) (h3 : 0 ≤ hi' ∧ hi' < 18446744073709551616) (h4 : 0 ≤ lo' ∧ lo' < 18446744073709551616) (h5 : mayB six' hi' lo' = true) :
    Calls Try.prog 95 #[.agg #[.bool six, .int .u64 hi, .int .u64 lo, .int .i64 n], .agg #[.bool six', .int .u64 hi', .int .u64 lo']] w fun e w' => e = .returned (.bool (inB six hi lo n six' hi' lo')) ∧ Below w.heap.size w w' := by
  by_cases hs : six = six'
  · subst hs
    exact preIn_same six hi lo n hi' lo' w hp h3 h4 h5
  · have hres : inB six hi lo n six' hi' lo' = false := by
      unfold inB
      rw [show (six' == six) = false from by simpa using fun h => hs h.symm, Bool.false_and]
    rw [hres]
    clear hres hp h5
    obtain rfl := ne_bool hs
    have hb0 : Below w.heap.size w ((w.alloc (.cells #[.bool six, .int .u64 hi, .int .u64 lo, .int .i64 n] 35)).alloc (.cells #[.bool (!six), .int .u64 hi', .int .u64 lo'] 24)) := ((Below.refl _ _).alloc (Nat.le_refl _) _).alloc (by simp) _
    cases six
    · go_enter Try.func95, Try.ntmps95
      go_wp2
      go_ret
      exact ⟨by simp, hb0⟩
    · go_enter Try.func95, Try.ntmps95
      go_wp2
      go_ret
      exact ⟨by simp, hb0⟩

end Go.Proofs.Ytonelibgaceflaa
