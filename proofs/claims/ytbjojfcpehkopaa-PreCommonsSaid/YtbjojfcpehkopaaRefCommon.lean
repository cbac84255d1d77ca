/-
  Proved here: the contracts of the reference's preOver and PreCommon.
-/
import Derived.Test.YtbjojfcpehkopaaCommon
import Derived.Test.YtbjojfcpehkopaaComPlain
import Derived.Test.YtbjojfcpehkopaaAddrOf
import Derived.Test.YtbjojfcpehkopaaPreIn
namespace Go.Proofs.Ytbjojfcpehkopaa
open Go.ChangeShapes Go.WideShapes Go.ChangeAt Go.RowKit

set_option maxHeartbeats 1600000 in
theorem refOver_any (six : Bool) (hi lo : Int) (n : Nat) (six' : Bool) (hi' lo' n' : Int) (w : World) (hp : Pfx six hi lo n) (h3 : 0 ≤ hi' ∧ hi' < 18446744073709551616) (h4 : 0 ≤ lo' ∧ lo' < 18446744073709551616) (h5 : mayB six' hi' lo' = true) :
    Calls Try.prog 75 #[.agg #[.bool six, .int .u64 hi, .int .u64 lo, .int .i64 n], .agg #[.bool six', .int .u64 hi', .int .u64 lo', .int .i64 n']] w fun e w' => e = .returned (.bool (overB six hi lo n six' hi' lo' n')) ∧ Below w.heap.size w w' := by
  have HI := Lib.hid (fun w => preIn_any six hi lo n six' hi' lo' w hp h3 h4 h5)
  clear hp h5
  by_cases hn : (n : Int) ≤ n'
  · have hE : overB six hi lo n six' hi' lo' n' = inB six hi lo n six' hi' lo' := by unfold overB; simp [hn]
    rw [hE]
    clear hE
    go_enter Try.func75, Try.ntmps75
    go_wp2_with fail
    refine (HI.out _).mono ?_
    rintro e w1 ⟨rfl, hb⟩
    have HB := Lib.hid (balloc2 hb)
    clear hb
    go_wp2
    go_ret
    exact ⟨rfl, HB.out⟩
  · have hE : overB six hi lo n six' hi' lo' n' = false := by unfold overB; simp [hn]
    rw [hE]
    clear hE
    go_enter Try.func75, Try.ntmps75
    go_wp2
    go_ret
    exact ⟨rfl, ((Below.refl _ _).alloc (Nat.le_refl _) _).alloc (by simp) _⟩

set_option maxRecDepth 100000 in
set_option maxHeartbeats 800000 in
theorem refCommon_bad (six : Bool) (hi lo k : Int) (six' : Bool) (hi' lo' k' : Int) (w : World) (h1 : 0 ≤ hi ∧ hi < 18446744073709551616) (h2 : 0 ≤ lo ∧ lo < 18446744073709551616) (h3 : 0 ≤ hi' ∧ hi' < 18446744073709551616) (h4 : 0 ≤ lo' ∧ lo' < 18446744073709551616) (hz : ¬ bothE six hi lo k six' hi' lo' k' = 0) :
    Calls Try.prog 32 #[.agg #[.bool six, .int .u64 hi, .int .u64 lo, .int .i64 k], .agg #[.bool six', .int .u64 hi', .int .u64 lo', .int .i64 k']] w fun e w' => e = .returned (.tuple #[ZP, .int .i64 (bothE six hi lo k six' hi' lo' k')]) ∧ Below w.heap.size w w' := by
  have c := fun w => preBoth_any six hi lo k six' hi' lo' k' w h1 h2 h3 h4
  generalize bothE six hi lo k six' hi' lo' k' = z at *
  have CC := Lib.hid c
  have hb1 : (z == 0) = false := by simpa using hz
  have hb2 : (z != 0) = true := by simpa using hz
  clear c
  go_enter Try.func32, Try.ntmps32
  go_wp2_with fail
  refine (CC.out _).mono ?_
  rintro e w1 ⟨rfl, hb⟩
  obtain ⟨fc, ff⟩ := bcell hb
  obtain ⟨s1, s2, s3⟩ := bsize3 hb
  have HB := Lib.hid (balloc3 hb)
  clear hb
  go_wp2
  refine bodyPost_ret (v := .tuple #[ZP, .int .i64 z]) (by simp [results, Try.results32, go_sem, fc, ZP]) rfl ⟨rfl, ?_⟩
  (repeat' first | with_reducible exact HB.out | with_reducible exact Below.refl _ _ | with_reducible refine Below.drew ?_ | with_reducible refine below_drewN ?_ _ | with_reducible refine Below.setCell ?_ ?_ _ | with_reducible refine Below.alloc ?_ ?_ _ | (simp; done) | (simp; omega) | omega)

set_option maxRecDepth 100000 in
set_option maxHeartbeats 1600000 in
theorem refCommon_ok (six : Bool) (hi lo : Int) (k : Nat) (hi' lo' : Int) (k' : Nat) (w : World) (hp : Pfx six hi lo k) (hq : Pfx six hi' lo' k') (hz : bothE six hi lo k six hi' lo' k' = 0) :
    Calls Try.prog 32 #[.agg #[.bool six, .int .u64 hi, .int .u64 lo, .int .i64 k], (.agg #[.bool six, .int .u64 hi', .int .u64 lo', .int .i64 k'])] w fun e w' => e = .returned (.tuple #[.agg #[.bool six, .int .u64 (cutHi six hi (comN k k' (alikeI six hi lo hi' lo'))), .int .u64 (cutLo six lo (comN k k' (alikeI six hi lo hi' lo'))), .int .i64 (comN k k' (alikeI six hi lo hi' lo'))], .int .i64 0]) ∧ Below w.heap.size w w' := by
  have c := fun w => preBoth_any six hi lo k six hi' lo' k' w hp.rhi hp.rlo hq.rhi hq.rlo
  rw [hz] at c
  have CC := Lib.hid c
  have h1 := hp.rhi
  have h2 := hp.rlo
  have h3 := hq.rhi
  have h4 := hq.rlo
  have hmay := hp.may
  have ra := alike_range six hi lo hi' lo' hp.rhi hp.rlo hq.rhi hq.rlo hp.may hq.may
  have hkl := hp.len
  have hkl' := hq.len
  obtain ⟨m, hm, hpos, hle⟩ := wideN six
  obtain ⟨q, hq0⟩ : ∃ q : Nat, comN k k' (alikeI six hi lo hi' lo') = q := ⟨(comN k k' (alikeI six hi lo hi' lo')).toNat, by unfold comN; omega⟩
  have hq1 : (q : Int) ≤ k ∧ (q : Int) ≤ k' := by have : comN k k' (alikeI six hi lo hi' lo') ≤ k ∧ comN k k' (alikeI six hi lo hi' lo') ≤ k' := by unfold comN; omega
                                                  omega
  have hov : ∀ j : Nat, q ≤ j → j ≤ k → j ≤ k' → overB six (cutHi six hi j) (cutLo six lo j) j six hi' lo' k' = decide (j = q) := by
    intro j hj hjk hjk'
    rw [cut_over h1 h2 hmay (by omega) hq hjk', Bool.eq_iff_iff, decide_eq_true_eq, decide_eq_true_eq]
    have : comN k k' (alikeI six hi lo hi' lo') = min (min (k : Int) k') (alikeI six hi lo hi' lo') := rfl
    omega
  have hpc : ∀ j : Nat, j ≤ k → Pfx six (cutHi six hi j) (cutLo six lo j) j := fun j hj => cut_pfx h1 h2 hmay (by omega)
  have hzw : ∀ j r : Nat, j + r = m → hiOf six (zeroAt six hi lo m j r) = cutHi six hi j ∧ loOf six (zeroAt six hi lo m j r) = cutLo six lo j := fun j r hr => zeroAt_words hm hr h1 h2 hmay
  rw [hq0]
  have hkm : k ≤ m := by omega
  have hkm' : k' ≤ m := by omega
  have HN := Lib.hid hm
  have HO := Lib.hid hov
  have HP := Lib.hid hpc
  have HZ := Lib.hid hzw
  have HQ := Lib.hid hq
  have hkw : (k : Int) ≤ 128 := by omega
  have hkw' : (k' : Int) ≤ 128 := by omega
  clear c hz hp hq hq0 hov hpc hzw hm hkl hkl' ra hmay
  go_enter Try.func32, Try.ntmps32
  go_wp2_with fail
  refine (CC.out _).mono ?_
  rintro e w1 ⟨rfl, hb⟩
  obtain ⟨fc, ff⟩ := bcell hb
  obtain ⟨s1, s2, s3⟩ := bsize3 hb
  have HB := Lib.hid (balloc3 hb)
  clear hb
  go_wp2_with fail
  have hmin : min (k : Int) (k' : Int) = ((min k k' : Nat) : Int) := by omega
  rw [hmin]
  clear hmin
  go_loopw [7] (fun n wr => ∃ j : Nat, q ≤ j ∧ j ≤ k ∧ j ≤ k' ∧ n = .int .i64 j ∧ Below w1.heap.size w1 wr) (fun n _ => (intOf n).toNat)
  case atStart => exact ⟨min k k', by omega, by omega, by omega, rfl, Below.refl _ _⟩
  case round =>
    obtain ⟨j, hj1, hj2, hj3, rfl, hbr⟩ := hrel
    obtain ⟨wo, rfl⟩ : ∃ wo : World, wo = wr := ⟨_, rfl⟩
    obtain ⟨fcr, ffr⟩ := bcell hbr
    have zr := hbr.size
    have t1 : w.heap.size < wo.heap.size := by omega
    have t2 : w.heap.size + 1 < wo.heap.size := by omega
    have t3 : w.heap.size + 1 + 1 < wo.heap.size := by omega
    have HBR := Lib.hid hbr
    have HW := Lib.hid (below_step HB.out hbr)
    clear hbr
    go_wp2_with fail
    refine (bitsOf_any six hi lo _ h1 h2).mono ?_
    rintro e w2 ⟨v, rfl, hown, hb2, hs2⟩
    obtain ⟨fc2, ff2⟩ := bcell hb2
    rw [HN.out] at hown
    simp only [Int.toNat_natCast] at hown
    obtain ⟨g, cap, rfl, hg, hlt⟩ := hown.form hpos
    have HOW := Lib.hid hown
    have HB2 := Lib.hid hb2
    have u1 : w.heap.size < w2.heap.size := by omega
    have u2 : w.heap.size + 1 < w2.heap.size := by omega
    have u3 : w.heap.size + 1 + 1 < w2.heap.size := by omega
    have hm1 : (m : Int) ≤ 128 := by omega
    clear hown hb2
    go_wp2_with fail
    go_loopw [9] (fun i wr => ∃ r : Nat, j + r ≤ m ∧ i = .int .i64 ((j : Int) + r) ∧ wr.ownsRow (wo.heap.size + 1) 3 1 (.slice (some ⟨g, 0, none⟩) m cap) m ((zeroAt six hi lo m j r).map (Value.int .i64)) ∧ Below (wo.heap.size + 1) w2 wr) (fun i _ => m - (intOf i).toNat)
    case atStart => exact ⟨0, by omega, by simp, by rw [zeroAt_zero HN.out]; exact HOW.out, Below.refl _ _⟩
    case round =>
      obtain ⟨r, hr, rfl, hown, hbr⟩ := hrel
      by_cases hlt' : j + r < m
      · have hkm2 : ((j : Int) + r) < m := by omega
        have hfz : wr.frozen? ⟨g, j + r, none⟩ = false := hown.frozenAt _
        obtain ⟨u, hcu⟩ : ∃ u, wr.cell? ⟨g, j + r, none⟩ = some u := by
          have := hown.cellAt (j + r) (by omega)
          rw [List.getElem?_eq_getElem (by simp [zeroAt]; omega)] at this
          exact ⟨_, this⟩
        have hst := (hown.stored (j + r) (.int .i64 0)).1
        rw [← List.map_set, zeroAt_set hlt'] at hst
        have HBS := Lib.hid (hbr.setCell (p := ⟨g, j + r, none⟩) hg (.int .i64 0))
        have HST := Lib.hid hst
        clear hown hst
        go_wp2
        go_roundw
        case rel => exact ⟨r + 1, by omega, by go_num, HST.out, HBS.out⟩
        case measure => simp [intOf]; omega
      · have hkm2 : j + r = m := by omega
        have hkm3 : ¬ ((j : Int) + r) < m := by omega
        have HX : Hid (Below wo.heap.size wo wr) := by
          have := HB2.out.trans (hbr.mono (Nat.le_succ wo.heap.size))
          exact this
        have hsr := hbr.size
        obtain ⟨fc3, ff3⟩ := bcell HX.out
        have v1 : w.heap.size < wr.heap.size := by omega
        have v2 : w.heap.size + 1 < wr.heap.size := by omega
        have v3 : w.heap.size + 1 + 1 < wr.heap.size := by omega
        have hgl : g < wr.heap.size := own_lt hown hpos
        have hzz := HZ.out j r hkm2
        have HA := Lib.hid (addrOf_any six (zeroAt six hi lo m j r) m g cap wr (zeroAt_bits six hi lo m j r) (zeroAt_length six hi lo m j r) HN.out (fun i b hib => own_int (n := m) hown hib) hgl)
        rw [hzz.1, hzz.2] at HA
        have HV := Lib.hid (fun w => refOver_any six (cutHi six hi j) (cutLo six lo j) j six hi' lo' k' w (HP.out j hj2) h3 h4 HQ.out.may)
        rw [HO.out j hj1 hj2 hj3] at HV
        by_cases hjq : j = q
        · subst hjq
          rw [show decide (j = j) = true from by simp] at HV
          clear hown hbr hlt' hzz
          go_wp2_with fail
          refine HA.out.mono ?_
          rintro e w4 ⟨rfl, hb4⟩
          obtain ⟨fc4, ff4⟩ := bcell hb4
          have z4 := hb4.size
          have x1 : w.heap.size < w4.heap.size := by omega
          have x2 : w.heap.size + 1 < w4.heap.size := by omega
          have x3 : w.heap.size + 1 + 1 < w4.heap.size := by omega
          have HY := Lib.hid (below_step HX.out hb4)
          clear hb4
          generalize hch : cutHi six hi j = ch at *
          generalize hcl : cutLo six lo j = cl at *
          have HCH := Lib.hid hch
          have HCL := Lib.hid hcl
          clear hch hcl
          go_wp2_with fail
          refine (HV.out _).mono ?_
          rintro e w5 ⟨rfl, hb5⟩
          obtain ⟨fc5, ff5⟩ := bcell hb5
          have z5 := bsize1 hb5
          have HY2 := Lib.hid (below_step HY.out (balloc1 hb5))
          have HR := Lib.hid (below_step HW.out HY2.out)
          have HR2 := Lib.hid (below_step HBR.out HY2.out)
          clear hb5
          go_wp2
          refine bodyPost_ret (v := .tuple #[.agg #[.bool six, .int .u64 ch, .int .u64 cl, .int .i64 j], .int .i64 0]) ?_ rfl ⟨by rw [HCH.out, HCL.out], ?_⟩
          · simp [results, Try.results32, go_sem, fc5, fc4, fc3, fcr, fc, s3, t3, v3, x3, show w.heap.size + 1 + 1 < w4.heap.size + 1 from by omega]
          · (repeat' first | with_reducible exact HR.out | with_reducible exact Below.refl _ _ | with_reducible refine Below.drew ?_ | with_reducible refine below_drewN ?_ _ | with_reducible refine Below.setCell ?_ ?_ _ | with_reducible refine Below.alloc ?_ ?_ _ | (simp; done) | (simp; omega) | omega)
        · rw [show decide (j = q) = false from by simpa using hjq] at HV
          clear hown hbr hlt' hzz
          go_wp2_with fail
          refine HA.out.mono ?_
          rintro e w4 ⟨rfl, hb4⟩
          obtain ⟨fc4, ff4⟩ := bcell hb4
          have z4 := hb4.size
          have x1 : w.heap.size < w4.heap.size := by omega
          have x2 : w.heap.size + 1 < w4.heap.size := by omega
          have x3 : w.heap.size + 1 + 1 < w4.heap.size := by omega
          have HY := Lib.hid (below_step HX.out hb4)
          clear hb4
          generalize hch : cutHi six hi j = ch at *
          generalize hcl : cutLo six lo j = cl at *
          have HCH := Lib.hid hch
          have HCL := Lib.hid hcl
          clear hch hcl
          go_wp2_with fail
          refine (HV.out _).mono ?_
          rintro e w5 ⟨rfl, hb5⟩
          obtain ⟨fc5, ff5⟩ := bcell hb5
          have z5 := bsize1 hb5
          have HY2 := Lib.hid (below_step HY.out (balloc1 hb5))
          have HR := Lib.hid (below_step HW.out HY2.out)
          have HR2 := Lib.hid (below_step HBR.out HY2.out)
          clear hb5
          have hj0 : (1 : Int) ≤ j := by omega
          go_wp2
          go_roundw
          case rel => exact ⟨j - 1, by omega, by omega, by omega, by rw [show ((j - 1 : Nat) : Int) = (j : Int) - 1 from by omega], HR2.out⟩
          case measure => simp [intOf]; omega

end Go.Proofs.Ytbjojfcpehkopaa
