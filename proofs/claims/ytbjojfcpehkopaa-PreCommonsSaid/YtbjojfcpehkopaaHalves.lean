/-
  Proved here: the contract of pre.Halves.
-/
import Derived.Test.YtbjojfcpehkopaaAuto
import Derived.Test.YtbjojfcpehkopaaHalf
import Derived.Deep.RegionWith
namespace Go.Proofs.Ytbjojfcpehkopaa
open Go.ChangeShapes Go.WideShapes Go.ChangeAt Go.RowKit

def ZP : Value := .agg #[.bool false, .int .u64 0, .int .u64 0, .int .i64 0]

set_option maxRecDepth 100000 in
set_option maxHeartbeats 800000 in
theorem halves_bad (six : Bool) (hi lo n : Int) (w : World) (h1 : 0 ≤ hi ∧ hi < 18446744073709551616) (h2 : 0 ≤ lo ∧ lo < 18446744073709551616) (hz : ¬ chk six hi lo n = 0) :
    Calls Try.prog 25 #[.agg #[.bool six, .int .u64 hi, .int .u64 lo, .int .i64 n]] w fun e w' => e = .returned (.tuple #[ZP, ZP, .int .i64 (chk six hi lo n)]) ∧ Below w.heap.size w w' := by
  have c := fun w => check_any six hi lo n w h1 h2
  generalize chk six hi lo n = k at *
  have CC := Lib.hid c
  have hb1 : (k == 0) = false := by simpa using hz
  have hb2 : (k != 0) = true := by simpa using hz
  clear c
  go_enter Try.func25, Try.ntmps25
  go_wp2_with fail
  refine (CC.out _).mono ?_
  rintro e w1 ⟨rfl, hb⟩
  obtain ⟨fc, ff⟩ := bcell hb
  obtain ⟨s1, s2, s3⟩ := bsize3 hb
  have HB := Lib.hid (balloc3 hb)
  clear hb
  go_wp2_with fail
  go_region
  all_goals go_wp2
  all_goals refine bodyPost_ret (v := .tuple #[ZP, ZP, .int .i64 k]) (by simp [results, Try.results25, go_sem, fc, ZP]) rfl ⟨rfl, ?_⟩
  all_goals (repeat' first | with_reducible exact HB.out | with_reducible exact Below.refl _ _ | with_reducible refine Below.drew ?_ | with_reducible refine below_drewN ?_ _ | with_reducible refine Below.setCell ?_ ?_ _ | with_reducible refine Below.alloc ?_ ?_ _ | (simp; done) | (simp; omega))

set_option maxRecDepth 100000 in
set_option maxHeartbeats 800000 in
theorem halves_none (six : Bool) (hi lo n : Int) (w : World) (h1 : 0 ≤ hi ∧ hi < 18446744073709551616) (h2 : 0 ≤ lo ∧ lo < 18446744073709551616) (hz : chk six hi lo n = 0) (hn : n = wideI six) :
    Calls Try.prog 25 #[.agg #[.bool six, .int .u64 hi, .int .u64 lo, .int .i64 n]] w fun e w' => e = .returned (.tuple #[ZP, ZP, .int .i64 7]) ∧ Below w.heap.size w w' := by
  have c := fun w => check_any six hi lo n w h1 h2
  rw [hz] at c
  have CC := Lib.hid c
  have HQ := Lib.hid (fun w => wide_any six w)
  rw [← hn] at HQ
  clear c hz hn
  go_enter Try.func25, Try.ntmps25
  go_wp2_with fail
  refine (CC.out _).mono ?_
  rintro e w1 ⟨rfl, hb⟩
  obtain ⟨fc, ff⟩ := bcell hb
  obtain ⟨s1, s2, s3⟩ := bsize3 hb
  have HB := Lib.hid (balloc3 hb)
  clear hb
  go_wp2_with fail
  go_quiet ((go_at_call 56; exact Calls.quiet_of_same ((HQ.out _).mono fun e w' h => ⟨h.1, h.2.symm⟩)))
  go_wp2_with fail
  go_region
  all_goals go_wp2
  all_goals refine bodyPost_ret (v := .tuple #[ZP, ZP, .int .i64 7]) (by simp [results, Try.results25, go_sem, fc, ZP]) rfl ⟨rfl, ?_⟩
  all_goals (repeat' first | with_reducible exact HB.out | with_reducible exact Below.refl _ _ | with_reducible refine Below.drew ?_ | with_reducible refine below_drewN ?_ _ | with_reducible refine Below.setCell ?_ ?_ _ | with_reducible refine Below.alloc ?_ ?_ _ | (simp; done) | (simp; omega))

set_option maxRecDepth 100000 in
set_option maxHeartbeats 1600000 in
theorem halves_ok (six : Bool) (hi lo : Int) (n : Nat) (w : World) (h1 : 0 ≤ hi ∧ hi < 18446744073709551616) (h2 : 0 ≤ lo ∧ lo < 18446744073709551616) (hz : chk six hi lo n = 0) (hn : (n : Int) < wideI six) :
    Calls Try.prog 25 #[.agg #[.bool six, .int .u64 hi, .int .u64 lo, .int .i64 n]] w fun e w' => e = .returned (.tuple #[.agg #[.bool six, .int .u64 hi, .int .u64 lo, .int .i64 (n + 1)], .agg #[.bool six, .int .u64 (setHi six hi n), .int .u64 (setLo six lo n), .int .i64 (n + 1)], .int .i64 0]) ∧ Below w.heap.size w w' := by
  have c := fun w => check_any six hi lo n w h1 h2
  rw [hz] at c
  have CC := Lib.hid c
  have hw := wideI_le six
  have CL := Lib.hid (fun w => half_low six hi lo n w (by omega) (by omega))
  have CH := Lib.hid (fun w => half_high six hi lo n w h1 h2 hn)
  have HQ := Lib.hid (fun w => wide_any six w)
  obtain ⟨m, hm⟩ : ∃ m, m = wideI six := ⟨_, rfl⟩
  rw [← hm] at HQ
  have hnm : ((n : Int) == m) = false := by simp; omega
  generalize hh : setHi six hi n = sh at *
  generalize hl : setLo six lo n = sl at *
  clear c hz hn hm hw hh hl
  go_enter Try.func25, Try.ntmps25
  go_wp2_with fail
  refine (CC.out _).mono ?_
  rintro e w1 ⟨rfl, hb⟩
  obtain ⟨fc, ff⟩ := bcell hb
  obtain ⟨s1, s2, s3⟩ := bsize3 hb
  have HB := Lib.hid (balloc3 hb)
  clear hb
  go_wp2_with fail
  go_quiet ((go_at_call 56; exact Calls.quiet_of_same ((HQ.out _).mono fun e w' h => ⟨h.1, h.2.symm⟩)))
  go_wp2_with fail
  go_region_with (first
    | (go_at_call 64; (with_reducible refine (CL.out _).mono ?_); rintro e w2 ⟨rfl, hb2⟩; obtain ⟨fc2, ff2, z2⟩ := bcellN (w1 := w1) hb2 rfl; have s4 : w.heap.size < w2.heap.size := (by omega); have s5 : w.heap.size + 1 < w2.heap.size := (by omega); have s6 : w.heap.size + 1 + 1 < w2.heap.size := (by omega); have HB2 : Hid (Below w.heap.size w w2) := (by refine below_step ?_ hb2; (repeat' first | with_reducible exact HB.out | with_reducible exact Below.refl _ _ | with_reducible refine Below.drew ?_ | with_reducible refine below_drewN ?_ _ | with_reducible refine Below.setCell ?_ ?_ _ | with_reducible refine Below.alloc ?_ ?_ _ | (simp; done) | (simp; omega))); clear hb2)
    | (go_at_call 64; (with_reducible refine (CH.out _).mono ?_); rintro e w3 ⟨rfl, hb3⟩; obtain ⟨fc3, ff3, z3⟩ := bcellN (w1 := w2) hb3 rfl; have s7 : w.heap.size < w3.heap.size := (by omega); have s8 : w.heap.size + 1 < w3.heap.size := (by omega); have s9 : w.heap.size + 1 + 1 < w3.heap.size := (by omega); have HB3 : Hid (Below w.heap.size w w3) := (by refine below_step ?_ hb3; (repeat' first | with_reducible exact HB2.out | with_reducible exact Below.refl _ _ | with_reducible refine Below.drew ?_ | with_reducible refine below_drewN ?_ _ | with_reducible refine Below.setCell ?_ ?_ _ | with_reducible refine Below.alloc ?_ ?_ _ | (simp; done) | (simp; omega))); clear hb3))
  all_goals go_wp2
  all_goals refine bodyPost_ret (v := .tuple #[.agg #[.bool six, .int .u64 hi, .int .u64 lo, .int .i64 (n + 1)], .agg #[.bool six, .int .u64 sh, .int .u64 sl, .int .i64 (n + 1)], .int .i64 0]) ?_ rfl ⟨rfl, ?_⟩
  all_goals first
    | (simp [results, Try.results25, go_sem, fc3, fc2, fc, s2, s3, s5, s6, Act.put]; done)
    | (repeat' first | with_reducible exact HB3.out | with_reducible exact Below.refl _ _ | with_reducible refine Below.drew ?_ | with_reducible refine below_drewN ?_ _ | with_reducible refine Below.setCell ?_ ?_ _ | with_reducible refine Below.alloc ?_ ?_ _ | (simp; done) | (simp; omega))

end Go.Proofs.Ytbjojfcpehkopaa
