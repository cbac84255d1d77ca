/-
  Proved here: the contracts of pre.Over, pre.Covers and of the reference's PreCovers; the walk of the law PreCovers.
-/
import Derived.Test.YtbjojfcpehkopaaBoth
import Derived.Test.YtbjojfcpehkopaaPreIn
import Derived.Test.YtbjojfcpehkopaaRefSpan
import Derived.Test.YtbjojfcpehkopaaCoverPlain
namespace Go.Proofs.Ytbjojfcpehkopaa
open Go.ChangeShapes Go.WideShapes Go.ChangeAt Go.RowKit

set_option maxHeartbeats 1600000 in
theorem over_any (six : Bool) (hi lo n : Int) (six' : Bool) (hi' lo' n' : Int) (w : World) (h3 : 0 ≤ hi' ∧ hi' < 18446744073709551616) (h4 : 0 ≤ lo' ∧ lo' < 18446744073709551616) (h5 : six' = false → lo' < 4294967296) (h6 : -500 ≤ n) (h7 : n ≤ 500) :
    Calls Try.prog 60 #[.agg #[.bool six, .int .u64 hi, .int .u64 lo, .int .i64 n], .agg #[.bool six', .int .u64 hi', .int .u64 lo', .int .i64 n']] w fun e w' => e = .returned (.bool (overB six hi lo n six' hi' lo' n')) ∧ Below w.heap.size w w' := by
  have HQ := Lib.hid h5
  clear h5
  by_cases hn : n ≤ n'
  · have hE : overB six hi lo n six' hi' lo' n' = inB six hi lo n six' hi' lo' := by unfold overB; simp [hn]
    rw [hE]
    clear hE
    go_enter Try.func60, Try.ntmps60
    go_wp2_with fail
    refine (in_any six hi lo n six' hi' lo' _ h3 h4 HQ.out h6 h7).mono ?_
    rintro e w1 ⟨rfl, hb⟩
    obtain ⟨b0, b1, c0, c1, c2, c3, d0, d1, d2, d3⟩ := Box44.step (box44_start w _ _ _ _ _ _ _ _ _) hb
    clear hb
    go_wp2
    go_ret
    exact ⟨rfl, b0⟩
  · have hE : overB six hi lo n six' hi' lo' n' = false := by unfold overB; simp [hn]
    rw [hE]
    clear hE
    go_enter Try.func60, Try.ntmps60
    go_wp2
    go_ret
    exact ⟨rfl, ((Below.refl _ _).alloc (Nat.le_refl _) _).alloc (by simp) _⟩

def covB (six : Bool) (hi lo n : Int) (six' : Bool) (hi' lo' n' : Int) : Bool :=
  if ¬ bothE six hi lo n six' hi' lo' n' = 0 then false else overB six hi lo n six' hi' lo' n'

theorem both_zero {six : Bool} {hi lo n : Int} {six' : Bool} {hi' lo' n' : Int} (h1 : 0 ≤ hi ∧ hi < 18446744073709551616) (h2 : 0 ≤ lo ∧ lo < 18446744073709551616) (h3 : 0 ≤ hi' ∧ hi' < 18446744073709551616) (h4 : 0 ≤ lo' ∧ lo' < 18446744073709551616)
    (h : bothE six hi lo n six' hi' lo' n' = 0) : Pfx six hi lo n ∧ Pfx six' hi' lo' n' ∧ six = six' ∧ chk six' hi' lo' n' = 0 := by
  unfold bothE at h
  by_cases hz : chk six hi lo n = 0
  · rw [if_neg (fun x => x hz)] at h
    by_cases hz2 : chk six' hi' lo' n' = 0
    · rw [if_neg (fun x => x hz2)] at h
      by_cases hs : six = six'
      · exact ⟨chk_zero h1 h2 hz, chk_zero h3 h4 hz2, hs, hz2⟩
      · rw [if_pos hs] at h; omega
    · rw [if_pos hz2] at h; omega
  · rw [if_pos hz] at h; omega

set_option maxRecDepth 100000 in
set_option maxHeartbeats 1600000 in
theorem covers_any (six : Bool) (hi lo n : Int) (six' : Bool) (hi' lo' n' : Int) (w : World) (h1 : 0 ≤ hi ∧ hi < 18446744073709551616) (h2 : 0 ≤ lo ∧ lo < 18446744073709551616) (h3 : 0 ≤ hi' ∧ hi' < 18446744073709551616) (h4 : 0 ≤ lo' ∧ lo' < 18446744073709551616) :
    Calls Try.prog 23 #[.agg #[.bool six, .int .u64 hi, .int .u64 lo, .int .i64 n], .agg #[.bool six', .int .u64 hi', .int .u64 lo', .int .i64 n']] w fun e w' => e = .returned (.tuple #[.bool (covB six hi lo n six' hi' lo' n'), .int .i64 (bothE six hi lo n six' hi' lo' n')]) ∧ Below w.heap.size w w' := by
  have c := fun w => both_any six hi lo n six' hi' lo' n' w h1 h2 h3 h4
  by_cases hz : bothE six hi lo n six' hi' lo' n' = 0
  · have hE : covB six hi lo n six' hi' lo' n' = overB six hi lo n six' hi' lo' n' := by unfold covB; rw [if_neg (fun x => x hz)]
    rw [hE, hz]
    obtain ⟨hp, hq, hs, hz2⟩ := both_zero h1 h2 h3 h4 hz
    rw [hz] at c
    have CC := Lib.hid c
    subst hs
    obtain ⟨k, rfl⟩ := Int.eq_ofNat_of_zero_le hp.len.1
    obtain ⟨k', rfl⟩ := Int.eq_ofNat_of_zero_le hq.len.1
    have hkl := hp.len
    have hwl := wideI_le six
    have HP := Lib.hid hp
    have HQ := Lib.hid hq
    have HZ := Lib.hid hz2
    clear c hz hE hp hq hz2
    go_enter Try.func23, Try.ntmps23
    go_wp2_with fail
    refine (CC.out _).mono ?_
    rintro e w1 ⟨rfl, hb⟩
    obtain ⟨b0, b1, c0, c1, c2, c3, d0, d1, d2, d3⟩ := Box44.step (box44_start w _ _ _ _ _ _ _ _ _) hb
    clear hb
    go_wp2_with fail
    refine (over_any six hi lo k six hi' lo' k' _ h3 h4 (fun h => by subst h; exact (mayB_four HQ.out.may).2) (by omega) (by omega)).mono ?_
    rintro e w2 ⟨rfl, hb⟩
    go_wp2
    go_ret2
    exact ⟨rfl, below_step b0 hb⟩
  · have hE : covB six hi lo n six' hi' lo' n' = false := by unfold covB; rw [if_pos hz]
    rw [hE]
    generalize bothE six hi lo n six' hi' lo' n' = k at *
    have CC := Lib.hid c
    have hb1 : (k == 0) = false := by simpa using hz
    have hb2 : (k != 0) = true := by simpa using hz
    clear c hE
    go_enter Try.func23, Try.ntmps23
    go_wp2_with fail
    refine (CC.out _).mono ?_
    rintro e w1 ⟨rfl, hb⟩
    obtain ⟨b0, b1, c0, c1, c2, c3, d0, d1, d2, d3⟩ := Box44.step (box44_start w _ _ _ _ _ _ _ _ _) hb
    clear hb
    go_wp2
    go_ret2
    exact ⟨rfl, b0⟩

set_option maxRecDepth 100000 in
set_option maxHeartbeats 1600000 in
theorem refCovers_any (six : Bool) (hi lo n : Int) (six' : Bool) (hi' lo' n' : Int) (w : World) (h1 : 0 ≤ hi ∧ hi < 18446744073709551616) (h2 : 0 ≤ lo ∧ lo < 18446744073709551616) (h3 : 0 ≤ hi' ∧ hi' < 18446744073709551616) (h4 : 0 ≤ lo' ∧ lo' < 18446744073709551616) :
    Calls Try.prog 24 #[.agg #[.bool six, .int .u64 hi, .int .u64 lo, .int .i64 n], .agg #[.bool six', .int .u64 hi', .int .u64 lo', .int .i64 n']] w fun e w' => e = .returned (.tuple #[.bool (covB six hi lo n six' hi' lo' n'), .int .i64 (bothE six hi lo n six' hi' lo' n')]) ∧ Below w.heap.size w w' := by
  have c := fun w => preBoth_any six hi lo n six' hi' lo' n' w h1 h2 h3 h4
  by_cases hz : bothE six hi lo n six' hi' lo' n' = 0
  · have hE : covB six hi lo n six' hi' lo' n' = overB six hi lo n six' hi' lo' n' := by unfold covB; rw [if_neg (fun x => x hz)]
    rw [hE, hz]
    obtain ⟨hp, hq, hs, hz2⟩ := both_zero h1 h2 h3 h4 hz
    rw [hz] at c
    have CC := Lib.hid c
    subst hs
    obtain ⟨k, rfl⟩ := Int.eq_ofNat_of_zero_le hp.len.1
    obtain ⟨k', rfl⟩ := Int.eq_ofNat_of_zero_le hq.len.1
    have hkl := hp.len
    have hwl := wideI_le six
    have HP := Lib.hid hp
    have HQ := Lib.hid hq
    have HZ := Lib.hid hz2
    clear c hz hE hp hq hz2
    rw [over_iff HP.out HQ.out]
    have HL := Lib.hid (last_range six hi' lo' k')
    by_cases hin : inB six hi lo k six hi' lo' = true
    · rw [hin, Bool.true_and]
      go_enter Try.func24, Try.ntmps24
      go_wp2_with fail
      refine (CC.out _).mono ?_
      rintro e w1 ⟨rfl, hb⟩
      obtain ⟨b0, b1, c0, c1, c2, c3, d0, d1, d2, d3⟩ := Box44.step (box44_start w _ _ _ _ _ _ _ _ _) hb
      clear hb
      go_wp2_with fail
      refine (refSpan_ok six hi' lo' k' _ h3 h4 HZ.out).mono ?_
      rintro e w2 ⟨rfl, hb⟩
      have bx := Box44.step ⟨b0, b1, c0, c1, c2, c3, d0, d1, d2, d3⟩ hb
      clear b0 b1 c0 c1 c2 c3 d0 d1 d2 d3 hb
      obtain ⟨b0, b1, c0, c1, c2, c3, d0, d1, d2, d3⟩ := bx
      have hsz : w.heap.size < w2.heap.size := by omega
      go_wp2_with fail
      refine (preIn_any six hi lo k six hi' lo' _ HP.out h3 h4 HQ.out.may).mono ?_
      rintro e w3 ⟨rfl, hb⟩
      obtain ⟨B2, ⟨x0, x1, x2⟩, ⟨y0, y1, y2⟩, S2⟩ := box33 hb
      have bx := Box44.step ⟨b0, b1, c0, c1, c2, c3, d0, d1, d2, d3⟩ B2
      clear b0 b1 c0 c1 c2 c3 d0 d1 d2 d3 hb
      obtain ⟨b0, b1, c0, c1, c2, c3, d0, d1, d2, d3⟩ := bx
      go_wp2_with fail
      refine (preIn_any six hi lo k six _ _ _ HP.out HL.out.1 HL.out.2.1 HL.out.2.2).mono ?_
      rintro e w4 ⟨rfl, hb⟩
      go_wp2
      go_ret2
      exact ⟨by simp, below_step b0 hb⟩
    · have hin' : inB six hi lo k six hi' lo' = false := by simpa using hin
      rw [hin', Bool.false_and]
      clear hin
      go_enter Try.func24, Try.ntmps24
      go_wp2_with fail
      refine (CC.out _).mono ?_
      rintro e w1 ⟨rfl, hb⟩
      obtain ⟨b0, b1, c0, c1, c2, c3, d0, d1, d2, d3⟩ := Box44.step (box44_start w _ _ _ _ _ _ _ _ _) hb
      clear hb
      go_wp2_with fail
      refine (refSpan_ok six hi' lo' k' _ h3 h4 HZ.out).mono ?_
      rintro e w2 ⟨rfl, hb⟩
      have bx := Box44.step ⟨b0, b1, c0, c1, c2, c3, d0, d1, d2, d3⟩ hb
      clear b0 b1 c0 c1 c2 c3 d0 d1 d2 d3 hb
      obtain ⟨b0, b1, c0, c1, c2, c3, d0, d1, d2, d3⟩ := bx
      have hsz : w.heap.size < w2.heap.size := by omega
      go_wp2_with fail
      refine (preIn_any six hi lo k six hi' lo' _ HP.out h3 h4 HQ.out.may).mono ?_
      rintro e w3 ⟨rfl, hb⟩
      obtain ⟨B2, ⟨x0, x1, x2⟩, ⟨y0, y1, y2⟩, S2⟩ := box33 hb
      have bx := Box44.step ⟨b0, b1, c0, c1, c2, c3, d0, d1, d2, d3⟩ B2
      clear b0 b1 c0 c1 c2 c3 d0 d1 d2 d3 hb
      obtain ⟨b0, b1, c0, c1, c2, c3, d0, d1, d2, d3⟩ := bx
      go_wp2
      go_ret2
      exact ⟨rfl, b0⟩
  · have hE : covB six hi lo n six' hi' lo' n' = false := by unfold covB; rw [if_pos hz]
    rw [hE]
    generalize bothE six hi lo n six' hi' lo' n' = k at *
    have CC := Lib.hid c
    have hb1 : (k == 0) = false := by simpa using hz
    have hb2 : (k != 0) = true := by simpa using hz
    clear c hE
    go_enter Try.func24, Try.ntmps24
    go_wp2_with fail
    refine (CC.out _).mono ?_
    rintro e w1 ⟨rfl, hb⟩
    obtain ⟨b0, b1, c0, c1, c2, c3, d0, d1, d2, d3⟩ := Box44.step (box44_start w _ _ _ _ _ _ _ _ _) hb
    clear hb
    go_wp2
    go_ret2
    exact ⟨rfl, b0⟩

end Go.Proofs.Ytbjojfcpehkopaa
