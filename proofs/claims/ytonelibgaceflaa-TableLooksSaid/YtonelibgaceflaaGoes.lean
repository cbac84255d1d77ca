
/-
  Proved here: the contract of the reference's goes.
-/
import Derived.Test.YtonelibgaceflaaLookM
import Derived.Test.YtonelibgaceflaaPreIn
namespace Go.Proofs.Ytonelibgaceflaa
open Go.ChangeShapes Go.WideShapes Go.ChangeAt Go.RowKit

theorem preIn_has (r : RouteV) (six' : Bool) (hi' lo' : Int) (w : World) (hp : r.p.Ok) (ha : AV.Ok ⟨six', hi', lo'⟩) :
    Calls Try.prog 95 #[.agg #[.bool r.p.six, .int .u64 r.p.hi, .int .u64 r.p.lo, .int .i64 r.p.n], .agg #[.bool six', .int .u64 hi', .int .u64 lo']] w fun e w' => e = .returned (.bool (hasB r six' hi' lo')) ∧ Below w.heap.size w w' := by
  obtain ⟨⟨six, hi, lo, n⟩, hop⟩ := r
  obtain ⟨m, rfl⟩ : ∃ m : Nat, n = m := ⟨n.toNat, by have := (ok_n hp).1; simp only at this; omega⟩
  exact preIn_any six hi lo m six' hi' lo' w hp ha.rhi ha.rlo ha.may

set_option maxRecDepth 100000 in
set_option maxHeartbeats 3200000 in
theorem goes_any (A : Option Addr) (n c : Nat) (l : List RouteV) (six : Bool) (hi lo : Int) (w : World) (h : IsRoutes w A n c l) (hv : Valid l) (ha : AV.Ok ⟨six, hi, lo⟩) (hn60 : n ≤ 60) :
    Calls Try.prog 96 #[.slice A n c, .agg #[.bool six, .int .u64 hi, .int .u64 lo]] w fun e w' => e = .returned (.agg #[.int .i64 0, .int .i64 (goesR l six hi lo).1, .int .i64 (goesR l six hi lo).2]) ∧ Below w.heap.size w w' := by
  have HR := Lib.hid h.2.2.2
  have HZ := Lib.hid h.1
  have HV := Lib.hid hv
  have HPI := Lib.hid (fun (r : RouteV) (w : World) (hr : r ∈ l) => preIn_has r six hi lo w (hv.1 r hr).1 ha)
  obtain ⟨res, hres⟩ : ∃ res, goesR l six hi lo = res := ⟨_, rfl⟩
  rw [hres]
  have HRES := Lib.hid hres
  clear h hv ha hres
  go_enter Try.func96, Try.ntmps96
  go_wp2_with fail
  obtain ⟨X, hX⟩ : ∃ X, (((w.alloc (.cells #[.bool six, .int .u64 hi, .int .u64 lo] 24)).alloc (.cells #[.int .i64 0, .int .i64 0, .int .i64 0] 39)).alloc (.cells #[.int .i64 0, .int .i64 0, .int .i64 (-1)] 39)) = X := ⟨_, rfl⟩
  have kA : Blk X w.heap.size 24 #[.bool six, .int .u64 hi, .int .u64 lo] := by rw [← hX]; exact ((Blk.new _ _ _).alloc _).alloc _
  have kR : Blk X (w.heap.size + 1) 39 #[.int .i64 0, .int .i64 0, .int .i64 0] := by
    rw [← hX]
    have := (Blk.new (w.alloc (.cells #[.bool six, .int .u64 hi, .int .u64 lo] 24)) 39 #[.int .i64 0, .int .i64 0, .int .i64 0])
    simp only [World.size_alloc] at this
    exact this.alloc _
  have kO : Blk X (w.heap.size + 1 + 1) 39 (NoteCs (0, -1)) := by
    rw [← hX]
    have := (Blk.new ((w.alloc (.cells #[.bool six, .int .u64 hi, .int .u64 lo] 24)).alloc (.cells #[.int .i64 0, .int .i64 0, .int .i64 0] 39)) 39 #[.int .i64 0, .int .i64 0, .int .i64 (-1)])
    simp only [World.size_alloc] at this
    exact this
  have hXs : X.heap.size = w.heap.size + 3 := by rw [← hX]; simp
  have hXb : Below w.heap.size w X := by rw [← hX]; exact ((((Below.refl _ _).alloc (Nat.le_refl _) _).alloc (by simp) _).alloc (by simp; omega) _)
  rw [hX]
  have HA := Lib.hid kA
  have HRR := Lib.hid kR
  have HOO := Lib.hid kO
  have HXB := Lib.hid hXb
  have HXS := Lib.hid hXs
  clear kA kR kO hXb hX hXs
  go_loopw [11, 7] (fun i _ wr => ∃ k : Nat, k ≤ n ∧ i = .int .i64 k ∧ Blk wr (w.heap.size + 1 + 1) 39 (NoteCs (bestTo (l.take k) six hi lo)) ∧ Kept [w.heap.size + 1 + 1] X wr) (fun i _ _ => n - (intOf i).toNat)
  case atStart => exact ⟨0, by omega, rfl, HOO.out, Kept.of_below (Below.refl _ _)⟩
  case round =>
    obtain ⟨k, hk, rfl, hbst, hkp⟩ := hrel
    have hxs := HXS.out
    have hsz := hkp.size
    have HB : Hid (Below w.heap.size w wr) := HXB.out.trans (hkp.below (by simp; omega) (by omega))
    have hb := HB.out
    have kA2 : Blk wr w.heap.size 24 _ := HA.out.keep1 hkp (by simp; omega)
    have kR2 : Blk wr (w.heap.size + 1) 39 _ := HRR.out.keep1 hkp (by simp)
    obtain ⟨bst, hbs⟩ : ∃ b, bestTo (l.take k) six hi lo = b := ⟨_, rfl⟩
    rw [hbs] at hbst
    have HBS := Lib.hid hbs
    have HBST := Lib.hid hbst
    have HKP := Lib.hid hkp
    have a0 := kA2.cell 0
    have a1 := kA2.cell 1
    have a2 := kA2.cell 2
    have b0 := hbst.cell 0
    have b1 := hbst.cell 1
    have b2 := hbst.cell 2
    have fb0 := hbst.frozen 0
    have fb1 := hbst.frozen 1
    have fb2 := hbst.frozen 2
    have r0 := kR2.cell 0
    have r1 := kR2.cell 1
    have r2 := kR2.cell 2
    have f0 := kR2.frozen 0
    have f1 := kR2.frozen 1
    have f2 := kR2.frozen 2
    simp [NoteCs] at a0 a1 a2 b0 b1 b2 r0 r1 r2
    have la : w.heap.size < wr.heap.size := by omega
    have lr : w.heap.size + 1 < wr.heap.size := by omega
    have lb : w.heap.size + 1 + 1 < wr.heap.size := by omega
    clear kA2 kR2 hbst hkp hbs hxs hsz
    by_cases hlt : k < n
    · obtain ⟨ad, ⟨⟨rsix, rhi, rlo, pn⟩, hop⟩, rfl, hlk, htk, hmem, hbk, hc0, hcj⟩ := HR.out.atS RouteV.cells_length HZ.out hlt
      have q0 := (hb.cell (p := ad.add (k * 5)) (by rw [block_of_add]; exact hbk)).trans (hc0 _ rfl)
      have q1 := (hb.cell (p := ⟨(ad.add (k * 5)).block, (ad.add (k * 5)).off + 1, none⟩) (by rw [block_of_add]; exact hbk)).trans (hcj 1 _ rfl)
      have q2 := (hb.cell (p := ⟨(ad.add (k * 5)).block, (ad.add (k * 5)).off + 2, none⟩) (by rw [block_of_add]; exact hbk)).trans (hcj 2 _ rfl)
      have q3 := (hb.cell (p := ⟨(ad.add (k * 5)).block, (ad.add (k * 5)).off + 3, none⟩) (by rw [block_of_add]; exact hbk)).trans (hcj 3 _ rfl)
      have q4 := (hb.cell (p := ⟨(ad.add (k * 5)).block, (ad.add (k * 5)).off + 4, none⟩) (by rw [block_of_add]; exact hbk)).trans (hcj 4 _ rfl)
      have CPI := Lib.hid (fun w => HPI.out _ w hmem)
      have HST : Hid (bestTo (l.take (k + 1)) six hi lo = bestStep six hi lo bst ⟨⟨rsix, rhi, rlo, pn⟩, hop⟩) := by show _ = _; rw [htk, bestTo_snoc, HBS.out]
      simp only at CPI
      obtain ⟨hv, hhv⟩ : ∃ hv, hasB ⟨⟨rsix, rhi, rlo, pn⟩, hop⟩ six hi lo = hv := ⟨_, rfl⟩
      unfold bestStep at HST
      rw [hhv] at CPI HST
      clear hlk htk hmem hbk hc0 hcj hb hhv
      by_cases hcase : hv = true ∧ bst.2 < pn
      · obtain ⟨rfl, hgt⟩ := hcase
        have HST2 : Hid (bestTo (l.take (k + 1)) six hi lo = (hop, pn)) := by show _ = _; rw [HST.out, if_pos ⟨rfl, hgt⟩]
        clear HST
        go_wp2_with fail
        refine (CPI.out _).mono ?_
        rintro e w2 ⟨rfl, hb2⟩
        obtain ⟨fc, ff⟩ := bcell hb2
        have hs2 := hb2.size
        simp at hs2
        have HB2 : Hid (Below wr.heap.size wr w2) := balloc1 hb2
        have l2 : wr.heap.size < w2.heap.size := by omega
        clear hb2
        go_wp2
        go_roundw
        case rel => exact ⟨k + 1, by omega, by go_num, by rw [HST2.out]; simpa [NoteCs] using ((((HBST.out.below HB2.out lb).set_ 0 (.int .i64 0)).set_ 1 (.int .i64 hop)).set_ 2 (.int .i64 pn)), ((((HKP.out.then_below HB2.out).setCell (.inl (by simp)) _).setCell (.inl (by simp)) _).setCell (.inl (by simp)) _)⟩
        case measure => simp [intOf]; omega
      · have HST2 : Hid (bestTo (l.take (k + 1)) six hi lo = bst) := by show _ = _; rw [HST.out, if_neg hcase]
        clear HST
        have hd : hv = false ∨ (hv = true ∧ pn ≤ bst.2) := by
          cases hv
          · exact .inl rfl
          · right
            refine ⟨rfl, ?_⟩
            rcases Int.lt_or_le bst.2 pn with hx | hx
            · exact absurd ⟨rfl, hx⟩ hcase
            · exact hx
        clear hcase
        rcases hd with rfl | ⟨rfl, hle⟩
        all_goals
          go_wp2_with fail
          refine (CPI.out _).mono ?_
          rintro e w2 ⟨rfl, hb2⟩
          obtain ⟨fc, ff⟩ := bcell hb2
          have hs2 := hb2.size
          simp at hs2
          have HB2 : Hid (Below wr.heap.size wr w2) := balloc1 hb2
          have l2 : wr.heap.size < w2.heap.size := by omega
          clear hb2
          go_wp2
          go_roundw
          case rel => exact ⟨k + 1, by omega, by go_num, by rw [HST2.out]; exact HBST.out.below HB2.out lb, HKP.out.then_below HB2.out⟩
          case measure => simp [intOf]; omega
    · obtain rfl : k = n := by omega
      have HB5 : Hid (res = if bst.2 < 0 then (bst.1, 0) else bst) := by
        show _ = _
        rw [← HRES.out]
        unfold goesR
        have := HBS.out
        rw [List.take_of_length_le (by rw [HZ.out]; omega)] at this
        rw [this]
      clear hb
      by_cases hneg : bst.2 < 0
      · have HB6 : Hid (res = (bst.1, 0)) := by show _ = _; rw [HB5.out, if_pos hneg]
        clear HB5
        go_wp2
        refine bodyPost_ret (v := .agg #[.int .i64 0, .int .i64 bst.1, .int .i64 0]) ?_ rfl ⟨by rw [HB6.out], ?_⟩
        · simp [results, Try.results96, go_sem, b0, b1, b2, r0, r1, r2]
        · (repeat' first | with_reducible exact HB.out | with_reducible refine Below.drew ?_ | with_reducible refine below_drewN ?_ _ | with_reducible refine Below.setCell ?_ ?_ _ | (simp; done) | (simp; omega) | omega)
      · have HB6 : Hid (res = bst) := by show _ = _; rw [HB5.out, if_neg hneg]
        clear HB5
        go_wp2
        refine bodyPost_ret (v := .agg #[.int .i64 0, .int .i64 bst.1, .int .i64 bst.2]) ?_ rfl ⟨by rw [HB6.out], ?_⟩
        · simp [results, Try.results96, go_sem, b0, b1, b2, r0, r1, r2]
        · (repeat' first | with_reducible exact HB.out | with_reducible refine Below.drew ?_ | with_reducible refine below_drewN ?_ _ | with_reducible refine Below.setCell ?_ ?_ _ | (simp; done) | (simp; omega) | omega)

end Go.Proofs.Ytonelibgaceflaa
