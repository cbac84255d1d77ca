/-
  Proved here: the contract of class.Check, up to its size test.
-/
import Derived.Test.YtbjojfcpehkopaaFault
import Derived.Test.YtbjojfcpehkopaaMem2
import Derived.Test.YtbjojfcpehkopaaFaults
namespace Go.Proofs.Ytbjojfcpehkopaa
open Go.ChangeShapes Go.WideShapes Go.ChangeAt Go.RowKit

structure MatchV where
  six : Bool
  hi : Int
  lo : Int
  n : Int
  six2 : Bool
  hi2 : Int
  lo2 : Int
  n2 : Int
  cl : Int

def MatchV.cells (r : MatchV) : List Value := [.bool r.six, .int .u64 r.hi, .int .u64 r.lo, .int .i64 r.n, .bool r.six2, .int .u64 r.hi2, .int .u64 r.lo2, .int .i64 r.n2, .int .i64 r.cl]
theorem MatchV.cells_length (r : MatchV) : r.cells.length = 9 := rfl
structure MatchV.Ok (r : MatchV) : Prop where
  a : 0 ≤ r.hi ∧ r.hi < 18446744073709551616
  b : 0 ≤ r.lo ∧ r.lo < 18446744073709551616
  c : 0 ≤ r.hi2 ∧ r.hi2 < 18446744073709551616
  d : 0 ≤ r.lo2 ∧ r.lo2 < 18446744073709551616

def classF (a b : Int) (six six2 : Bool) (cl : Int) : Int :=
  if ¬ a = 0 then a else if ¬ b = 0 then b else if ¬ six = six2 then 6 else if cl < 1 ∨ 999 < cl then 2 else 0
/-- The fault of one match. -/
def MatchV.fault (r : MatchV) : Int := classF (chk r.six r.hi r.lo r.n) (chk r.six2 r.hi2 r.lo2 r.n2) r.six r.six2 r.cl

set_option maxRecDepth 100000 in
set_option maxHeartbeats 1600000 in
theorem classCheck_any (A : Option Addr) (n0 c : Nat) (l : List MatchV) (w : World) (hn : n0 ≤ 30) (hz : l.length = n0) (hw : ∀ r ∈ l, r.Ok) (hr : Reads w w.heap.size 9 A n0 (l.flatMap MatchV.cells)) :
    Calls Try.prog 21 #[.slice A n0 c] w fun e w' => e = .returned (.int .i64 (firstF MatchV.fault l)) ∧ Below w.heap.size w w' := by
  have HZ := Lib.hid hz
  have HR := Lib.hid hr
  have HW := Lib.hid hw
  obtain ⟨r, hr0⟩ : ∃ r, r = firstF MatchV.fault l := ⟨_, rfl⟩
  rw [← hr0]
  have H0 := Lib.hid hr0
  clear hz hr hw hr0
  go_enter Try.func21, Try.ntmps21
  go_wp2
  go_loopw [13, 4, 6, 7, 22] (fun i _ _ _ _ wr => ∃ k : Nat, k ≤ n0 ∧ i = .int .i64 k ∧ NoneTo MatchV.fault l k ∧ Below w.heap.size w wr) (fun i _ _ _ _ _ => n0 - (intOf i).toNat)
  case atStart => exact ⟨0, by omega, rfl, rfl, Below.refl _ _⟩
  case round =>
    obtain ⟨k, hk, rfl, hto, hb⟩ := hrel
    have HT := Lib.hid hto
    clear hto
    by_cases hlt : k < n0
    · obtain ⟨ad, ⟨six, hi, lo, n, six2, hi2, lo2, n2, cl⟩, rfl, hlk, htk, hmem, hbk, hc0, hcj⟩ := HR.out.atS MatchV.cells_length HZ.out hlt
      have q0 := (hb.cell (p := ad.add (k * 9)) (by rw [block_of_add]; exact hbk)).trans (hc0 _ rfl)
      have q1 := (hb.cell (p := ⟨(ad.add (k * 9)).block, (ad.add (k * 9)).off + 1, none⟩) (by rw [block_of_add]; exact hbk)).trans (hcj 1 _ rfl)
      have q2 := (hb.cell (p := ⟨(ad.add (k * 9)).block, (ad.add (k * 9)).off + 2, none⟩) (by rw [block_of_add]; exact hbk)).trans (hcj 2 _ rfl)
      have q3 := (hb.cell (p := ⟨(ad.add (k * 9)).block, (ad.add (k * 9)).off + 3, none⟩) (by rw [block_of_add]; exact hbk)).trans (hcj 3 _ rfl)
      have q4 := (hb.cell (p := ⟨(ad.add (k * 9)).block, (ad.add (k * 9)).off + 4, none⟩) (by rw [block_of_add]; exact hbk)).trans (hcj 4 _ rfl)
      have q5 := (hb.cell (p := ⟨(ad.add (k * 9)).block, (ad.add (k * 9)).off + 5, none⟩) (by rw [block_of_add]; exact hbk)).trans (hcj 5 _ rfl)
      have q6 := (hb.cell (p := ⟨(ad.add (k * 9)).block, (ad.add (k * 9)).off + 6, none⟩) (by rw [block_of_add]; exact hbk)).trans (hcj 6 _ rfl)
      have q7 := (hb.cell (p := ⟨(ad.add (k * 9)).block, (ad.add (k * 9)).off + 7, none⟩) (by rw [block_of_add]; exact hbk)).trans (hcj 7 _ rfl)
      have q8 := (hb.cell (p := ⟨(ad.add (k * 9)).block, (ad.add (k * 9)).off + 8, none⟩) (by rw [block_of_add]; exact hbk)).trans (hcj 8 _ rfl)
      obtain ⟨r1, r2, r3, r4⟩ := HW.out _ hmem
      simp only at r1 r2 r3 r4
      have hfd : MatchV.fault ⟨six, hi, lo, n, six2, hi2, lo2, n2, cl⟩ = classF (chk six hi lo n) (chk six2 hi2 lo2 n2) six six2 cl := rfl
      clear hc0 hcj hmem hbk
      have i0 : ∀ w, (Instr.index 91 (.agg #[.bool six, .int .u64 hi, .int .u64 lo, .int .i64 n, .bool six2, .int .u64 hi2, .int .u64 lo2, .int .i64 n2]) (.int .i64 0)).run Try.prog w = .ok (.agg #[.bool six, .int .u64 hi, .int .u64 lo, .int .i64 n]) w := fun _ => by kernel_rfl
      have i1 : ∀ w, (Instr.index 91 (.agg #[.bool six, .int .u64 hi, .int .u64 lo, .int .i64 n, .bool six2, .int .u64 hi2, .int .u64 lo2, .int .i64 n2]) (.int .i64 1)).run Try.prog w = .ok (.agg #[.bool six2, .int .u64 hi2, .int .u64 lo2, .int .i64 n2]) w := fun _ => by kernel_rfl
      have c1 := fun w => check_any six hi lo n w r1 r2
      have c2 := fun w => check_any six2 hi2 lo2 n2 w r3 r4
      by_cases hz : chk six hi lo n = 0
      · rw [hz] at c1 hfd
        by_cases hz2 : chk six2 hi2 lo2 n2 = 0
        · rw [hz2] at c2 hfd
          have C1 := Lib.hid c1
          have C2 := Lib.hid c2
          clear c1 c2 hz hz2
          by_cases hs : six = six2
          · subst hs
            by_cases hcl : cl < 1 ∨ 999 < cl
            · have hF : classF 0 0 six six cl = 2 := by unfold classF; rw [if_neg (fun h => h rfl), if_neg (fun h => h rfl), if_neg (fun h => h rfl), if_pos hcl]
              rw [hF] at hfd
              have HR2 := Lib.hid (firstF_at HT.out hlk (by rw [hfd]; omega))
              rw [hfd] at HR2
              clear hfd hlk htk hF
              rcases hcl with hcl | hcl
              · go_wp2_with fail
                refine wp_loop_rounds 3 ?_
                rw [rounds_succ]
                go_wp2_with fail
                refine (C1.out _).mono ?_
                rintro e w1 ⟨rfl, hbw⟩
                obtain ⟨D1, S1, F⟩ := box1b (cs := [.bool six, .int .u64 hi, .int .u64 lo, .int .i64 n, .bool _, .int .u64 hi2, .int .u64 lo2, .int .i64 n2, .int .i64 cl]) hbw
                have x0 := F 0 _ rfl
                have x4 := F 4 _ rfl
                have x8 := F 8 _ rfl
                clear hbw F
                go_wp2
                rw [rounds_succ]
                go_wp2_with fail
                refine (C2.out _).mono ?_
                rintro e w2 ⟨rfl, hbw⟩
                have D := step1 hbw
                have y0 := cell_step D x0
                have y4 := cell_step D x4
                have y8 := cell_step D x8
                have D2 := below_step D1 D
                clear hbw x0 x4 x8
                go_wp2
                rw [rounds_succ]
                go_wp2
                go_ret
                exact ⟨ret_int (HR2.out.symm.trans H0.out.symm), hb.trans (D2.mono hb.size)⟩
              · have hcl2 : ¬ cl < 1 := by omega
                have hd : decide (cl < 1) = false := by simpa using hcl2
                go_wp2_with fail
                refine wp_loop_rounds 3 ?_
                rw [rounds_succ]
                go_wp2_with fail
                refine (C1.out _).mono ?_
                rintro e w1 ⟨rfl, hbw⟩
                obtain ⟨D1, S1, F⟩ := box1b (cs := [.bool six, .int .u64 hi, .int .u64 lo, .int .i64 n, .bool _, .int .u64 hi2, .int .u64 lo2, .int .i64 n2, .int .i64 cl]) hbw
                have x0 := F 0 _ rfl
                have x4 := F 4 _ rfl
                have x8 := F 8 _ rfl
                clear hbw F
                go_wp2
                rw [rounds_succ]
                go_wp2_with fail
                refine (C2.out _).mono ?_
                rintro e w2 ⟨rfl, hbw⟩
                have D := step1 hbw
                have y0 := cell_step D x0
                have y4 := cell_step D x4
                have y8 := cell_step D x8
                have D2 := below_step D1 D
                clear hbw x0 x4 x8
                go_wp2
                rw [rounds_succ]
                go_wp2
                go_ret
                exact ⟨ret_int (HR2.out.symm.trans H0.out.symm), hb.trans (D2.mono hb.size)⟩
            · have hF : classF 0 0 six six cl = 0 := by unfold classF; rw [if_neg (fun h => h rfl), if_neg (fun h => h rfl), if_neg (fun h => h rfl), if_neg hcl]
              rw [hF] at hfd
              have HT2 := Lib.hid (noneTo_succ HT.out htk hfd)
              have hcl1 : ¬ cl < 1 := by omega
              have hcl2 : ¬ 999 < cl := by omega
              have hd : decide (cl < 1) = false := by simpa using hcl1
              clear hfd hlk htk hF hcl
              go_wp2_with fail
              refine wp_loop_rounds 3 ?_
              rw [rounds_succ]
              go_wp2_with fail
              refine (C1.out _).mono ?_
              rintro e w1 ⟨rfl, hbw⟩
              obtain ⟨D1, S1, F⟩ := box1b (cs := [.bool six, .int .u64 hi, .int .u64 lo, .int .i64 n, .bool _, .int .u64 hi2, .int .u64 lo2, .int .i64 n2, .int .i64 cl]) hbw
              have x0 := F 0 _ rfl
              have x4 := F 4 _ rfl
              have x8 := F 8 _ rfl
              clear hbw F
              go_wp2
              rw [rounds_succ]
              go_wp2_with fail
              refine (C2.out _).mono ?_
              rintro e w2 ⟨rfl, hbw⟩
              have D := step1 hbw
              have y0 := cell_step D x0
              have y4 := cell_step D x4
              have y8 := cell_step D x8
              have D2 := below_step D1 D
              clear hbw x0 x4 x8
              go_wp2
              rw [rounds_succ]
              go_wp2
              go_roundw
              case rel => exact ⟨k + 1, by omega, by go_num, HT2.out, hb.trans (D2.mono hb.size)⟩
              case measure => simp [intOf]; omega
          · have hF : classF 0 0 six six2 cl = 6 := by unfold classF; rw [if_neg (fun h => h rfl), if_neg (fun h => h rfl), if_pos hs]
            rw [hF] at hfd
            have HR2 := Lib.hid (firstF_at HT.out hlk (by rw [hfd]; omega))
            rw [hfd] at HR2
            have hne : (six != six2) = true := by simpa using hs
            have hne2 : (six == six2) = false := by simpa using hs
            have hne3 : (!six == six2) = true := by cases six <;> cases six2 <;> simp_all
            clear hfd hlk htk hF
            go_wp2_with fail
            refine wp_loop_rounds 3 ?_
            rw [rounds_succ]
            go_wp2_with fail
            refine (C1.out _).mono ?_
            rintro e w1 ⟨rfl, hbw⟩
            obtain ⟨D1, S1, F⟩ := box1b (cs := [.bool six, .int .u64 hi, .int .u64 lo, .int .i64 n, .bool _, .int .u64 hi2, .int .u64 lo2, .int .i64 n2, .int .i64 cl]) hbw
            have x0 := F 0 _ rfl
            have x4 := F 4 _ rfl
            have x8 := F 8 _ rfl
            clear hbw F
            go_wp2
            rw [rounds_succ]
            go_wp2_with fail
            refine (C2.out _).mono ?_
            rintro e w2 ⟨rfl, hbw⟩
            have D := step1 hbw
            have y0 := cell_step D x0
            have y4 := cell_step D x4
            have y8 := cell_step D x8
            have D2 := below_step D1 D
            clear hbw x0 x4 x8
            go_wp2
            rw [rounds_succ]
            go_wp2
            go_ret
            exact ⟨ret_int (HR2.out.symm.trans H0.out.symm), hb.trans (D2.mono hb.size)⟩
        · have hF : classF 0 (chk six2 hi2 lo2 n2) six six2 cl = chk six2 hi2 lo2 n2 := by unfold classF; rw [if_neg (fun h => h rfl), if_pos hz2]
          rw [hF] at hfd
          have HR2 := Lib.hid (firstF_at HT.out hlk (by rw [hfd]; exact hz2))
          rw [hfd] at HR2
          clear hfd hlk htk hF
          generalize chk six2 hi2 lo2 n2 = q at *
          have hb1 : (q == 0) = false := by simpa using hz2
          have hb2 : (q != 0) = true := by simpa using hz2
          have C1 := Lib.hid c1
          have C2 := Lib.hid c2
          clear c1 c2 hz
          go_wp2_with fail
          refine wp_loop_rounds 3 ?_
          rw [rounds_succ]
          go_wp2_with fail
          refine (C1.out _).mono ?_
          rintro e w1 ⟨rfl, hbw⟩
          obtain ⟨D1, S1, F⟩ := box1b (cs := [.bool six, .int .u64 hi, .int .u64 lo, .int .i64 n, .bool _, .int .u64 hi2, .int .u64 lo2, .int .i64 n2, .int .i64 cl]) hbw
          have x0 := F 0 _ rfl
          have x4 := F 4 _ rfl
          have x8 := F 8 _ rfl
          clear hbw F
          go_wp2
          rw [rounds_succ]
          go_wp2_with fail
          refine (C2.out _).mono ?_
          rintro e w2 ⟨rfl, hbw⟩
          have D := step1 hbw
          have y0 := cell_step D x0
          have y4 := cell_step D x4
          have y8 := cell_step D x8
          have D2 := below_step D1 D
          clear hbw x0 x4 x8
          go_wp2
          go_ret
          exact ⟨ret_int (HR2.out.symm.trans H0.out.symm), hb.trans (D2.mono hb.size)⟩
      · have hF : classF (chk six hi lo n) (chk six2 hi2 lo2 n2) six six2 cl = chk six hi lo n := by unfold classF; rw [if_pos hz]
        rw [hF] at hfd
        have HR2 := Lib.hid (firstF_at HT.out hlk (by rw [hfd]; exact hz))
        rw [hfd] at HR2
        clear hfd hlk htk hF c2
        generalize chk six hi lo n = q at *
        have hb1 : (q == 0) = false := by simpa using hz
        have hb2 : (q != 0) = true := by simpa using hz
        have C1 := Lib.hid c1
        clear c1
        go_wp2_with fail
        refine wp_loop_rounds 3 ?_
        rw [rounds_succ]
        go_wp2_with fail
        refine (C1.out _).mono ?_
        rintro e w1 ⟨rfl, hbw⟩
        obtain ⟨D1, S1, F⟩ := box1b (cs := [.bool six, .int .u64 hi, .int .u64 lo, .int .i64 n, .bool _, .int .u64 hi2, .int .u64 lo2, .int .i64 n2, .int .i64 cl]) hbw
        have x0 := F 0 _ rfl
        have x4 := F 4 _ rfl
        have x8 := F 8 _ rfl
        clear hbw F
        go_wp2
        go_ret
        exact ⟨ret_int (HR2.out.symm.trans H0.out.symm), hb.trans (D1.mono hb.size)⟩
    · obtain rfl : k = n0 := by omega
      have HR2 := Lib.hid (firstF_end HT.out HZ.out)
      go_wp2
      go_ret
      exact ⟨ret_int (HR2.out.symm.trans H0.out.symm), hb⟩

end Go.Proofs.Ytbjojfcpehkopaa
