
/-
  Proved here: the contract of pre.Common.
-/
import Derived.Test.YtonelibgaceflaaHalves
import Derived.Test.YtonelibgaceflaaAlike
import Derived.Test.YtonelibgaceflaaBoth
import Derived.Test.YtonelibgaceflaaCovers
import Derived.Deep.RegionHeld3
namespace Go.Proofs.Ytonelibgaceflaa
open Go.ChangeShapes Go.WideShapes Go.ChangeAt Go.RowKit

def comN (k k' a : Int) : Int := min (min k k') a

set_option maxRecDepth 100000 in
set_option maxHeartbeats 800000 in
theorem common_bad (six : Bool) (hi lo k : Int) (six' : Bool) (hi' lo' k' : Int) (w : World) (h1 : 0 ≤ hi ∧ hi < 18446744073709551616) (h2 : 0 ≤ lo ∧ lo < 18446744073709551616) (h3 : 0 ≤ hi' ∧ hi' < 18446744073709551616) (h4 : 0 ≤ lo' ∧ lo' < 18446744073709551616) (hz : ¬ bothE six hi lo k six' hi' lo' k' = 0) :
    Calls Try.prog 202 #[.agg #[.bool six, .int .u64 hi, .int .u64 lo, .int .i64 k], .agg #[.bool six', .int .u64 hi', .int .u64 lo', .int .i64 k']] w fun e w' => e = .returned (.tuple #[ZP, .int .i64 (bothE six hi lo k six' hi' lo' k')]) ∧ Below w.heap.size w w' := by
  have c := fun w => both_any six hi lo k six' hi' lo' k' w h1 h2 h3 h4
  generalize bothE six hi lo k six' hi' lo' k' = z at *
  have CC := Lib.hid c
  have hb1 : (z == 0) = false := by simpa using hz
  have hb2 : (z != 0) = true := by simpa using hz
  clear c
  go_enter Try.func202, Try.ntmps202
  go_wp2_with fail
  refine (CC.out _).mono ?_
  rintro e w1 ⟨rfl, hb⟩
  obtain ⟨fc, ff⟩ := bcell hb
  obtain ⟨s1, s2, s3⟩ := bsize3 hb
  have HB := Lib.hid (balloc3 hb)
  clear hb
  go_wp2
  refine bodyPost_ret (v := .tuple #[ZP, .int .i64 z]) (by simp [results, Try.results202, go_sem, fc, ZP]) rfl ⟨rfl, ?_⟩
  (repeat' first | with_reducible exact HB.out | with_reducible exact Below.refl _ _ | with_reducible refine Below.drew ?_ | with_reducible refine below_drewN ?_ _ | with_reducible refine Below.setCell ?_ ?_ _ | with_reducible refine Below.alloc ?_ ?_ _ | (simp; done) | (simp; omega) | omega)

set_option maxRecDepth 100000 in
set_option maxHeartbeats 1600000 in
theorem common_ok (six : Bool) (hi lo k hi' lo' k' : Int) (w : World) (hp : Pfx six hi lo k) (hq : Pfx six hi' lo' k') (hz : bothE six hi lo k six hi' lo' k' = 0) :
    Calls Try.prog 202 #[.agg #[.bool six, .int .u64 hi, .int .u64 lo, .int .i64 k], (.agg #[.bool six, .int .u64 hi', .int .u64 lo', .int .i64 k'])] w fun e w' => e = .returned (.tuple #[.agg #[.bool six, .int .u64 (cutHi six hi (comN k k' (alikeI six hi lo hi' lo'))), .int .u64 (cutLo six lo (comN k k' (alikeI six hi lo hi' lo'))), .int .i64 (comN k k' (alikeI six hi lo hi' lo'))], .int .i64 0]) ∧ Below w.heap.size w w' := by
  have c := fun w => both_any six hi lo k six hi' lo' k' w hp.rhi hp.rlo hq.rhi hq.rlo
  rw [hz] at c
  have CC := Lib.hid c
  have CA := Lib.hid (fun w => alike_any six six hi lo hi' lo' w hp.rhi hp.rlo hq.rhi hq.rlo hp.may hq.may)
  have ra := alike_range six hi lo hi' lo' hp.rhi hp.rlo hq.rhi hq.rlo hp.may hq.may
  have HU := Lib.hid (fun n w h3 h4 => cut_any six hi lo n w hp.rhi hp.rlo (fun h => by subst h; exact (mayB_four hp.may).2) h3 h4)
  have hwl := wideI_le six
  have hkl := hp.len
  have hkl' := hq.len
  generalize alikeI six hi lo hi' lo' = a at *
  have hc : 0 ≤ comN k k' a ∧ comN k k' a ≤ 128 := by unfold comN; omega
  have hcm : Hid (comN k k' a = min (min k k') a) := rfl
  generalize comN k k' a = m at *
  clear c hz hp hq
  go_enter Try.func202, Try.ntmps202
  go_wp2_with fail
  refine (CC.out _).mono ?_
  rintro e w1 ⟨rfl, hb⟩
  obtain ⟨fc, ff⟩ := bcell hb
  obtain ⟨s1, s2, s3⟩ := bsize3 hb
  have HB := Lib.hid (balloc3 hb)
  clear hb
  go_wp2_with fail
  go_region_held3 (fun w' => (∀ b o, b < w1.heap.size → w'.cell? ⟨b, o, none⟩ = w1.cell? ⟨b, o, none⟩) ∧ w1.heap.size ≤ w'.heap.size ∧ Hid (Below w1.heap.size w1 w'))
  ((first | assumption | exact keep0 _ | exact keep1 (by assumption) (by assumption) | exact keepD (by assumption) | exact ⟨fun _ _ _ => rfl, Nat.le_refl _, Below.refl _ _⟩))
  (first | (go_at_call 241; refine (CA.out _).mono ?_; rintro e w2 ⟨rfl, hb2⟩))
  obtain ⟨fc2, z2, HB2⟩ : (∀ b o, b < w1.heap.size → w2.cell? ⟨b, o, none⟩ = w1.cell? ⟨b, o, none⟩) ∧ w1.heap.size ≤ w2.heap.size ∧ Hid (Below w1.heap.size w1 w2) := by assumption
  have ff2 := (bcell HB2.out).2
  have s4 : w.heap.size < w2.heap.size := by omega
  have s5 : w.heap.size + 1 < w2.heap.size := by omega
  have s6 : w.heap.size + 1 + 1 < w2.heap.size := by omega
  have hmin : (if a < if k' < k then k' else k then a else if k' < k then k' else k) = m := by rw [hcm.out]; split <;> split at * <;> omega
  rw [hmin]
  have HB3 := Lib.hid (below_step HB.out HB2.out)
  clear hmin
  go_wp2_with fail
  refine (HU.out m _ (by omega) (by omega)).mono ?_
  rintro e w3 ⟨rfl, hb⟩
  obtain ⟨fc3, ff3⟩ := bcell hb
  have s7 : w.heap.size + 1 + 1 < w3.heap.size := by have := hb.size; omega
  have HB4 := Lib.hid (below_step HB3.out hb)
  clear hb
  go_wp2
  refine bodyPost_ret (v := .tuple #[.agg #[.bool six, .int .u64 (cutHi six hi m), .int .u64 (cutLo six lo m), .int .i64 m], .int .i64 0]) ?_ rfl ⟨rfl, ?_⟩
  · simp [results, Try.results202, go_sem, fc3, fc2, fc, s3, s6]
  · (repeat' first | with_reducible exact HB4.out | with_reducible exact Below.refl _ _ | with_reducible refine Below.drew ?_ | with_reducible refine below_drewN ?_ _ | with_reducible refine Below.setCell ?_ ?_ _ | with_reducible refine Below.alloc ?_ ?_ _ | (simp; done) | (simp; omega) | omega)

end Go.Proofs.Ytonelibgaceflaa
