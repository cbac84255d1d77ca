/-
  Proved here: the contract of the reference's PreHalves.
-/
import Derived.Test.YtbjojfcpehkopaaHalves
import Derived.Test.YtbjojfcpehkopaaAddrOf
import Derived.Deep.RegionWith
namespace Go.Proofs.Ytbjojfcpehkopaa
open Go.ChangeShapes Go.WideShapes Go.ChangeAt Go.RowKit

set_option maxRecDepth 100000 in
set_option maxHeartbeats 800000 in
theorem refHalves_bad (six : Bool) (hi lo n : Int) (w : World) (h1 : 0 ≤ hi ∧ hi < 18446744073709551616) (h2 : 0 ≤ lo ∧ lo < 18446744073709551616) (hz : ¬ chk six hi lo n = 0) :
    Calls Try.prog 26 #[.agg #[.bool six, .int .u64 hi, .int .u64 lo, .int .i64 n]] w fun e w' => e = .returned (.tuple #[ZP, ZP, .int .i64 (chk six hi lo n)]) ∧ Below w.heap.size w w' := by
  have c := fun w => preFault_any six hi lo n w h1 h2
  generalize chk six hi lo n = k at *
  have CC := Lib.hid c
  have hb1 : (k == 0) = false := by simpa using hz
  have hb2 : (k != 0) = true := by simpa using hz
  clear c
  go_enter Try.func26, Try.ntmps26
  go_wp2_with fail
  refine (CC.out _).mono ?_
  rintro e w1 ⟨rfl, hb⟩
  obtain ⟨fc, ff⟩ := bcell hb
  obtain ⟨s1, s2, s3⟩ := bsize3 hb
  have HB := Lib.hid (balloc3 hb)
  clear hb
  go_wp2
  refine bodyPost_ret (v := .tuple #[ZP, ZP, .int .i64 k]) (by simp [results, Try.results26, go_sem, fc, ZP]) rfl ⟨rfl, ?_⟩
  (repeat' first | with_reducible exact HB.out | with_reducible exact Below.refl _ _ | with_reducible refine Below.drew ?_ | with_reducible refine below_drewN ?_ _ | with_reducible refine Below.setCell ?_ ?_ _ | with_reducible refine Below.alloc ?_ ?_ _ | (simp; done) | (simp; omega))

set_option maxRecDepth 100000 in
set_option maxHeartbeats 800000 in
theorem refHalves_none (six : Bool) (hi lo n : Int) (w : World) (h1 : 0 ≤ hi ∧ hi < 18446744073709551616) (h2 : 0 ≤ lo ∧ lo < 18446744073709551616) (hz : chk six hi lo n = 0) (hn : n = wideI six) :
    Calls Try.prog 26 #[.agg #[.bool six, .int .u64 hi, .int .u64 lo, .int .i64 n]] w fun e w' => e = .returned (.tuple #[ZP, ZP, .int .i64 7]) ∧ Below w.heap.size w w' := by
  have c := fun w => preFault_any six hi lo n w h1 h2
  rw [hz] at c
  have CC := Lib.hid c
  obtain ⟨m, hm, hpos, hle⟩ := wideN six
  obtain rfl : n = m := by omega
  have HN := Lib.hid hm
  clear c hz hn hm
  go_enter Try.func26, Try.ntmps26
  go_wp2_with fail
  refine (CC.out _).mono ?_
  rintro e w1 ⟨rfl, hb⟩
  obtain ⟨fc, ff⟩ := bcell hb
  obtain ⟨s1, s2, s3⟩ := bsize3 hb
  have HB := Lib.hid (balloc3 hb)
  clear hb
  go_wp2_with fail
  refine (bitsOf_any six hi lo _ h1 h2).mono ?_
  rintro e w2 ⟨v, rfl, hown, hb2, hs2⟩
  have HB2 := Lib.hid (below_step HB.out hb2)
  have HW := Lib.hid hb2
  obtain ⟨fc2, ff2⟩ := bcell hb2
  rw [HN.out] at hown
  simp only [Int.toNat_natCast] at hown
  obtain ⟨g, cap, rfl, hg, hlt⟩ := hown.form hpos
  have s4 : w.heap.size < w2.heap.size := by omega
  have s5 : w.heap.size + 1 < w2.heap.size := by omega
  have s6 : w.heap.size + 1 + 1 < w2.heap.size := by omega
  clear hown hb2
  go_wp2
  refine bodyPost_ret (v := .tuple #[ZP, ZP, .int .i64 7]) (by simp [results, Try.results26, go_sem, fc2, fc, s1, s2, s3, ZP]) rfl ⟨rfl, ?_⟩
  (repeat' first | with_reducible exact HB2.out | with_reducible exact Below.refl _ _ | with_reducible refine Below.drew ?_ | with_reducible refine below_drewN ?_ _ | with_reducible refine Below.setCell ?_ ?_ _ | with_reducible refine Below.alloc ?_ ?_ _ | (simp; done) | (simp; omega))

set_option maxRecDepth 100000 in
set_option maxHeartbeats 1600000 in
theorem refHalves_ok (six : Bool) (hi lo : Int) (n : Nat) (w : World) (h1 : 0 ≤ hi ∧ hi < 18446744073709551616) (h2 : 0 ≤ lo ∧ lo < 18446744073709551616) (hz : chk six hi lo n = 0) (hn : (n : Int) < wideI six) :
    Calls Try.prog 26 #[.agg #[.bool six, .int .u64 hi, .int .u64 lo, .int .i64 n]] w fun e w' => e = .returned (.tuple #[.agg #[.bool six, .int .u64 hi, .int .u64 lo, .int .i64 (n + 1)], .agg #[.bool six, .int .u64 (setHi six hi n), .int .u64 (setLo six lo n), .int .i64 (n + 1)], .int .i64 0]) ∧ Below w.heap.size w w' := by
  have c := fun w => preFault_any six hi lo n w h1 h2
  have hm := (chk_zero h1 h2 hz).may
  rw [hz] at c
  have CC := Lib.hid c
  obtain ⟨m, hm', hpos, hle⟩ := wideN six
  have hnm : n < m := by omega
  have hnm2 : ((n : Int) == (m : Int)) = false := by simp; omega
  have hsb := set_bits six hi lo n h1 h2 hm hn
  have HN := Lib.hid hm'
  have HA : Hid (∀ (g cap : Nat) (w : World), (∀ (i : Nat) (b : Int), ((bitsL six hi lo).set n 1)[i]? = some b → w.cell? ⟨g, i, none⟩ = some (.int .i64 b)) → g < w.heap.size →
      Calls Try.prog 66 #[.slice (some ⟨g, 0, none⟩) m cap] w fun e w' => e = .returned (.agg #[.bool six, .int .u64 (setHi six hi n), .int .u64 (setLo six lo n)]) ∧ Below w.heap.size w w') := by
    show _
    intro g cap w ho hg
    have := addrOf_any six ((bitsL six hi lo).set n 1) m g cap w (by
      intro b hb
      rcases List.mem_or_eq_of_mem_set hb with hb | rfl
      · obtain ⟨j, _, rfl⟩ := List.mem_map.1 hb
        exact bitI_01 six hi lo j
      · omega) (by rw [List.length_set, bitsL_length, hm']; simp) hm' ho hg
    rw [hsb.1, hsb.2] at this
    exact this
  clear c hz hm hm' hn hsb
  generalize setHi six hi n = sh at *
  generalize setLo six lo n = sl at *
  go_enter Try.func26, Try.ntmps26
  go_wp2_with fail
  refine (CC.out _).mono ?_
  rintro e w1 ⟨rfl, hb⟩
  obtain ⟨fc, ff⟩ := bcell hb
  obtain ⟨s1, s2, s3⟩ := bsize3 hb
  have HB := Lib.hid (balloc3 hb)
  clear hb
  go_wp2_with fail
  refine (bitsOf_any six hi lo _ h1 h2).mono ?_
  rintro e w2 ⟨v, rfl, hown, hb2, hs2⟩
  have HB2 := Lib.hid (below_step HB.out hb2)
  have HW := Lib.hid hb2
  obtain ⟨fc2, ff2⟩ := bcell hb2
  rw [HN.out] at hown
  simp only [Int.toNat_natCast] at hown
  obtain ⟨g, cap, rfl, hg, hlt⟩ := hown.form hpos
  have s4 : w.heap.size < w2.heap.size := by omega
  have s5 : w.heap.size + 1 < w2.heap.size := by omega
  have s6 : w.heap.size + 1 + 1 < w2.heap.size := by omega
  have d0 : ¬ g = w.heap.size := by omega
  have d1 : ¬ g = w.heap.size + 1 := by omega
  have d2 : ¬ g = w.heap.size + 1 + 1 := by omega
  have d3 : ¬ g = w2.heap.size := by omega
  have hfz : w2.frozen? ⟨g, n, none⟩ = false := hown.frozenAt _
  obtain ⟨u, hcu⟩ : ∃ u, w2.cell? ⟨g, n, none⟩ = some u := by
    have := hown.cellAt n (by omega)
    rw [List.getElem?_eq_getElem (by simp [bitsL, HN.out]; omega)] at this
    exact ⟨_, this⟩
  have HC := Lib.hid (fun (i : Nat) (b : Int) (h : (bitsL six hi lo)[i]? = some b) => own_int (n := m) hown h)
  have hnm3 : (n : Int) < (m : Int) := by omega
  clear hown hb2
  go_wp2_with fail
  have HX : Hid (Below w1.heap.size w1 ((w2.setCell ⟨g, n, none⟩ (.int .i64 1)).alloc (.cells #[.bool six, .int .u64 hi, .int .u64 lo, .int .i64 (n + 1)] 33))) := by
    show Below _ _ _
    (repeat' first | with_reducible exact HW.out | with_reducible exact Below.refl _ _ | with_reducible refine Below.drew ?_ | with_reducible refine below_drewN ?_ _ | with_reducible refine Below.setCell ?_ ?_ _ | with_reducible refine Below.alloc ?_ ?_ _ | (simp; done) | (simp; omega))
    all_goals omega
  have HX2 := Lib.hid (below_step HB.out HX.out)
  have hc0 : ((w2.setCell ⟨g, n, none⟩ (.int .i64 1)).alloc (.cells #[.bool six, .int .u64 hi, .int .u64 lo, .int .i64 (n + 1)] 33)).cell? ⟨w2.heap.size, 0, none⟩ = some (.bool six) := by rw [World.cell?_alloc_at _ _ _ _ (by simp)]; rfl
  have hc1 : ((w2.setCell ⟨g, n, none⟩ (.int .i64 1)).alloc (.cells #[.bool six, .int .u64 hi, .int .u64 lo, .int .i64 (n + 1)] 33)).cell? ⟨w2.heap.size, 1, none⟩ = some (.int .u64 hi) := by rw [World.cell?_alloc_at _ _ _ _ (by simp)]; rfl
  have hc2 : ((w2.setCell ⟨g, n, none⟩ (.int .i64 1)).alloc (.cells #[.bool six, .int .u64 hi, .int .u64 lo, .int .i64 (n + 1)] 33)).cell? ⟨w2.heap.size, 2, none⟩ = some (.int .u64 lo) := by rw [World.cell?_alloc_at _ _ _ _ (by simp)]; rfl
  have hc3 : ((w2.setCell ⟨g, n, none⟩ (.int .i64 1)).alloc (.cells #[.bool six, .int .u64 hi, .int .u64 lo, .int .i64 (n + 1)] 33)).cell? ⟨w2.heap.size, 3, none⟩ = some (.int .i64 (n + 1)) := by rw [World.cell?_alloc_at _ _ _ _ (by simp)]; rfl
  have hsx : ((w2.setCell ⟨g, n, none⟩ (.int .i64 1)).alloc (.cells #[.bool six, .int .u64 hi, .int .u64 lo, .int .i64 (n + 1)] 33)).heap.size = w2.heap.size + 1 := by simp
  have HCX : Hid (∀ (i : Nat) (b : Int), ((bitsL six hi lo).set n 1)[i]? = some b → ((w2.setCell ⟨g, n, none⟩ (.int .i64 1)).alloc (.cells #[.bool six, .int .u64 hi, .int .u64 lo, .int .i64 (n + 1)] 33)).cell? ⟨g, i, none⟩ = some (.int .i64 b)) := by
    show ∀ (i : Nat) (b : Int), _ → _
    intro i b hib
    rw [World.cell?_alloc_past _ _ _ (by simpa using hlt)]
    rw [List.getElem?_set] at hib
    by_cases hin : n = i
    · subst hin
      rw [if_pos rfl] at hib
      split at hib
      · injection hib with hib
        subst hib
        exact World.cell?_setCell_same _ _ _ hcu
      · cases hib
    · rw [if_neg hin] at hib
      rw [World.cell?_setCell_other _ _ _ _ (by intro h; injection h with _ h; exact hin h)]
      exact HC.out i b hib
  generalize ((w2.setCell ⟨g, n, none⟩ (.int .i64 1)).alloc (.cells #[.bool six, .int .u64 hi, .int .u64 lo, .int .i64 (n + 1)] 33)) = X at *
  obtain ⟨fcX, ffX⟩ := bcell HX.out
  have s7 : w.heap.size < X.heap.size := by omega
  have s8 : w.heap.size + 1 < X.heap.size := by omega
  have s9 : w.heap.size + 1 + 1 < X.heap.size := by omega
  have s10 : w2.heap.size < X.heap.size := by omega
  have HA2 := Lib.hid (HA.out g cap X.drew (fun i b h => HCX.out i b h) (show g < X.heap.size by omega))
  clear fc2 ff2 hcu hfz hsx
  have hW1 : IntKind.i64.wrap ((n : Int) + 1) = (n : Int) + 1 := IntWalk.i64_in _ (by omega)
  go_region_with (go_at_call 66; ((with_reducible refine HA2.out.mono ?_); rintro e w3 ⟨rfl, hb3⟩; obtain ⟨fc3, ff3, z3⟩ := bcellN (w1 := X) hb3 rfl; have s11 : w.heap.size < w3.heap.size := (by omega); have s12 : w.heap.size + 1 < w3.heap.size := (by omega); have s13 : w.heap.size + 1 + 1 < w3.heap.size := (by omega); have HB3 : Hid (Below w.heap.size w w3) := (by refine below_step ?_ hb3; (repeat' first | with_reducible exact HX2.out | with_reducible exact Below.refl _ _ | with_reducible refine Below.drew ?_ | with_reducible refine below_drewN ?_ _ | with_reducible refine Below.setCell ?_ ?_ _ | with_reducible refine Below.alloc ?_ ?_ _ | (simp; done) | (simp; omega))); clear hb3))
  all_goals go_wp2
  all_goals refine bodyPost_ret (v := .tuple #[.agg #[.bool six, .int .u64 hi, .int .u64 lo, .int .i64 (n + 1)], .agg #[.bool six, .int .u64 sh, .int .u64 sl, .int .i64 (n + 1)], .int .i64 0]) ?_ rfl ⟨rfl, ?_⟩
  all_goals first
    | (simp [results, Try.results26, go_sem, fc3, fcX, fc, s2, s3, s8, s9, Act.put, hW1]; done)
    | (repeat' first | with_reducible exact HB3.out | with_reducible exact Below.refl _ _ | with_reducible refine Below.drew ?_ | with_reducible refine below_drewN ?_ _ | with_reducible refine Below.setCell ?_ ?_ _ | with_reducible refine Below.alloc ?_ ?_ _ | (simp; done) | (simp; omega))

end Go.Proofs.Ytbjojfcpehkopaa
