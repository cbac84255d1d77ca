/-
  
  
  
  
  
  
-/
import Derived.Test.YtonelibgaceflaaC1
import Derived.Test.YtonelibgaceflaaC3
import Derived.Test.YtonelibgaceflaaC2
import Derived.Test.YtonelibgaceflaaC4
import Derived.StillTailTactics
import Derived.Laws.EntriesVeiled
namespace Go.Proofs.Ytonelibgaceflaa
open Go.ChangeShapes Go.WideShapes Go.ChangeAt Go.RowKit

structure MatchV where
  six : Bool
  hi : Int
  lo : Int
  n : Int
  six2 : Bool
  hi2 : Int
  lo2 : Int
  n2 : Int
  cl : Int

def MatchV.cells (r : MatchV) : List Value := [.bool r.six, .int .u64 r.hi, .int .u64 r.lo, .int .i64 r.n, .bool r.six2, .int .u64 r.hi2, .int .u64 r.lo2, .int .i64 r.n2, .int .i64 r.cl]
theorem MatchV.cells_length (r : MatchV) : r.cells.length = 9 := rfl
structure MatchV.Ok (r : MatchV) : Prop where
  a : 0 ≤ r.hi ∧ r.hi < 18446744073709551616
  b : 0 ≤ r.lo ∧ r.lo < 18446744073709551616
  c : 0 ≤ r.hi2 ∧ r.hi2 < 18446744073709551616
  d : 0 ≤ r.lo2 ∧ r.lo2 < 18446744073709551616

def classF (a b : Int) (six six2 : Bool) (cl : Int) : Int :=
  if ¬ a = 0 then a else if ¬ b = 0 then b else if ¬ six = six2 then 6 else if cl < 1 ∨ 999 < cl then 2 else 0
/-- The fault of one match. -/
def MatchV.fault (r : MatchV) : Int := classF (chk r.six r.hi r.lo r.n) (chk r.six2 r.hi2 r.lo2 r.n2) r.six r.six2 r.cl

set_option maxRecDepth 100000 in
set_option maxHeartbeats 1600000 in
theorem classCheck_any (A : Option Addr) (n0 c : Nat) (l : List MatchV) (w : World) (hn : n0 ≤ 30) (hz : l.length = n0) (hw : ∀ r ∈ l, r.Ok) (hr : Reads w w.heap.size 9 A n0 (l.flatMap MatchV.cells)) :
    Calls Try.prog 88 #[.slice A n0 c] w fun e w' => e = .returned (.int .i64 (firstF MatchV.fault l)) ∧ Below w.heap.size w w' := by
  have HZ := Lib.hid hz
  have HR := Lib.hid hr
  have HW := Lib.hid hw
  obtain ⟨r, hr0⟩ : ∃ r, r = firstF MatchV.fault l := ⟨_, rfl⟩
  rw [← hr0]
  have H0 := Lib.hid hr0
  clear hz hr hw hr0
  go_enter Try.func88, Try.ntmps88
  go_wp2
  go_loopw [13, 4, 6, 7, 22] (fun i _ _ _ _ wr => ∃ k : Nat, k ≤ n0 ∧ i = .int .i64 k ∧ NoneTo MatchV.fault l k ∧ Below w.heap.size w wr) (fun i _ _ _ _ _ => n0 - (intOf i).toNat)
  case atStart => exact ⟨0, by omega, rfl, rfl, Below.refl _ _⟩
  case round =>
    obtain ⟨k, hk, rfl, hto, hb⟩ := hrel
    have HT := Lib.hid hto
    clear hto
    by_cases hlt : k < n0
    · obtain ⟨ad, ⟨six, hi, lo, n, six2, hi2, lo2, n2, cl⟩, rfl, hlk, htk, hmem, hbk, hc0, hcj⟩ := HR.out.atS MatchV.cells_length HZ.out hlt
      have q0 := (hb.cell (p := ad.add (k * 9)) (by rw [block_of_add]; exact hbk)).trans (hc0 _ rfl)
      have q1 := (hb.cell (p := ⟨(ad.add (k * 9)).block, (ad.add (k * 9)).off + 1, none⟩) (by rw [block_of_add]; exact hbk)).trans (hcj 1 _ rfl)
      have q2 := (hb.cell (p := ⟨(ad.add (k * 9)).block, (ad.add (k * 9)).off + 2, none⟩) (by rw [block_of_add]; exact hbk)).trans (hcj 2 _ rfl)
      have q3 := (hb.cell (p := ⟨(ad.add (k * 9)).block, (ad.add (k * 9)).off + 3, none⟩) (by rw [block_of_add]; exact hbk)).trans (hcj 3 _ rfl)
      have q4 := (hb.cell (p := ⟨(ad.add (k * 9)).block, (ad.add (k * 9)).off + 4, none⟩) (by rw [block_of_add]; exact hbk)).trans (hcj 4 _ rfl)
      have q5 := (hb.cell (p := ⟨(ad.add (k * 9)).block, (ad.add (k * 9)).off + 5, none⟩) (by rw [block_of_add]; exact hbk)).trans (hcj 5 _ rfl)
      have q6 := (hb.cell (p := ⟨(ad.add (k * 9)).block, (ad.add (k * 9)).off + 6, none⟩) (by rw [block_of_add]; exact hbk)).trans (hcj 6 _ rfl)
      have q7 := (hb.cell (p := ⟨(ad.add (k * 9)).block, (ad.add (k * 9)).off + 7, none⟩) (by rw [block_of_add]; exact hbk)).trans (hcj 7 _ rfl)
      have q8 := (hb.cell (p := ⟨(ad.add (k * 9)).block, (ad.add (k * 9)).off + 8, none⟩) (by rw [block_of_add]; exact hbk)).trans (hcj 8 _ rfl)
      obtain ⟨r1, r2, r3, r4⟩ := HW.out _ hmem
      simp only at r1 r2 r3 r4
      have hfd : MatchV.fault ⟨six, hi, lo, n, six2, hi2, lo2, n2, cl⟩ = classF (chk six hi lo n) (chk six2 hi2 lo2 n2) six six2 cl := rfl
      clear hc0 hcj hmem hbk
      have i0 : ∀ w, (Instr.index 253 (.agg #[.bool six, .int .u64 hi, .int .u64 lo, .int .i64 n, .bool six2, .int .u64 hi2, .int .u64 lo2, .int .i64 n2]) (.int .i64 0)).run Try.prog w = .ok (.agg #[.bool six, .int .u64 hi, .int .u64 lo, .int .i64 n]) w := fun _ => by kernel_rfl
      have i1 : ∀ w, (Instr.index 253 (.agg #[.bool six, .int .u64 hi, .int .u64 lo, .int .i64 n, .bool six2, .int .u64 hi2, .int .u64 lo2, .int .i64 n2]) (.int .i64 1)).run Try.prog w = .ok (.agg #[.bool six2, .int .u64 hi2, .int .u64 lo2, .int .i64 n2]) w := fun _ => by kernel_rfl
      have c1 := fun w => check_any six hi lo n w r1 r2
      have c2 := fun w => check_any six2 hi2 lo2 n2 w r3 r4
      by_cases hz : chk six hi lo n = 0
      · rw [hz] at c1 hfd
        by_cases hz2 : chk six2 hi2 lo2 n2 = 0
        · rw [hz2] at c2 hfd
          have C1 := Lib.hid c1
          have C2 := Lib.hid c2
          clear c1 c2 hz hz2
          by_cases hs : six = six2
          · subst hs
            by_cases hcl : cl < 1 ∨ 999 < cl
            · have hF : classF 0 0 six six cl = 2 := by unfold classF; rw [if_neg (fun h => h rfl), if_neg (fun h => h rfl), if_neg (fun h => h rfl), if_pos hcl]
              rw [hF] at hfd
              have HR2 := Lib.hid (firstF_at HT.out hlk (by rw [hfd]; omega))
              rw [hfd] at HR2
              clear hfd hlk htk hF
              rcases hcl with hcl | hcl
              · go_wp2_with fail
                refine wp_loop_rounds 3 ?_
                rw [rounds_succ]
                go_wp2_with fail
                refine (C1.out _).mono ?_
                rintro e w1 ⟨rfl, hbw⟩
                obtain ⟨D1, S1, F⟩ := box1b (cs := [.bool six, .int .u64 hi, .int .u64 lo, .int .i64 n, .bool _, .int .u64 hi2, .int .u64 lo2, .int .i64 n2, .int .i64 cl]) hbw
                have x0 := F 0 _ rfl
                have x4 := F 4 _ rfl
                have x8 := F 8 _ rfl
                clear hbw F
                go_wp2
                rw [rounds_succ]
                go_wp2_with fail
                refine (C2.out _).mono ?_
                rintro e w2 ⟨rfl, hbw⟩
                have D := step1 hbw
                have y0 := cell_step D x0
                have y4 := cell_step D x4
                have y8 := cell_step D x8
                have D2 := below_step D1 D
                clear hbw x0 x4 x8
                go_wp2
                rw [rounds_succ]
                go_wp2
                go_ret
                exact ⟨ret_int (HR2.out.symm.trans H0.out.symm), hb.trans (D2.mono hb.size)⟩
              · have hcl2 : ¬ cl < 1 := by omega
                have hd : decide (cl < 1) = false := by simpa using hcl2
                go_wp2_with fail
                refine wp_loop_rounds 3 ?_
                rw [rounds_succ]
                go_wp2_with fail
                refine (C1.out _).mono ?_
                rintro e w1 ⟨rfl, hbw⟩
                obtain ⟨D1, S1, F⟩ := box1b (cs := [.bool six, .int .u64 hi, .int .u64 lo, .int .i64 n, .bool _, .int .u64 hi2, .int .u64 lo2, .int .i64 n2, .int .i64 cl]) hbw
                have x0 := F 0 _ rfl
                have x4 := F 4 _ rfl
                have x8 := F 8 _ rfl
                clear hbw F
                go_wp2
                rw [rounds_succ]
                go_wp2_with fail
                refine (C2.out _).mono ?_
                rintro e w2 ⟨rfl, hbw⟩
                have D := step1 hbw
                have y0 := cell_step D x0
                have y4 := cell_step D x4
                have y8 := cell_step D x8
                have D2 := below_step D1 D
                clear hbw x0 x4 x8
                go_wp2
                rw [rounds_succ]
                go_wp2
                go_ret
                exact ⟨ret_int (HR2.out.symm.trans H0.out.symm), hb.trans (D2.mono hb.size)⟩
            · have hF : classF 0 0 six six cl = 0 := by unfold classF; rw [if_neg (fun h => h rfl), if_neg (fun h => h rfl), if_neg (fun h => h rfl), if_neg hcl]
              rw [hF] at hfd
              have HT2 := Lib.hid (noneTo_succ HT.out htk hfd)
              have hcl1 : ¬ cl < 1 := by omega
              have hcl2 : ¬ 999 < cl := by omega
              have hd : decide (cl < 1) = false := by simpa using hcl1
              clear hfd hlk htk hF hcl
              go_wp2_with fail
              refine wp_loop_rounds 3 ?_
              rw [rounds_succ]
              go_wp2_with fail
              refine (C1.out _).mono ?_
              rintro e w1 ⟨rfl, hbw⟩
              obtain ⟨D1, S1, F⟩ := box1b (cs := [.bool six, .int .u64 hi, .int .u64 lo, .int .i64 n, .bool _, .int .u64 hi2, .int .u64 lo2, .int .i64 n2, .int .i64 cl]) hbw
              have x0 := F 0 _ rfl
              have x4 := F 4 _ rfl
              have x8 := F 8 _ rfl
              clear hbw F
              go_wp2
              rw [rounds_succ]
              go_wp2_with fail
              refine (C2.out _).mono ?_
              rintro e w2 ⟨rfl, hbw⟩
              have D := step1 hbw
              have y0 := cell_step D x0
              have y4 := cell_step D x4
              have y8 := cell_step D x8
              have D2 := below_step D1 D
              clear hbw x0 x4 x8
              go_wp2
              rw [rounds_succ]
              go_wp2
              go_roundw
              case rel => exact ⟨k + 1, by omega, by go_num, HT2.out, hb.trans (D2.mono hb.size)⟩
              case measure => simp [intOf]; omega
          · have hF : classF 0 0 six six2 cl = 6 := by unfold classF; rw [if_neg (fun h => h rfl), if_neg (fun h => h rfl), if_pos hs]
            rw [hF] at hfd
            have HR2 := Lib.hid (firstF_at HT.out hlk (by rw [hfd]; omega))
            rw [hfd] at HR2
            have hne : (six != six2) = true := by simpa using hs
            have hne2 : (six == six2) = false := by simpa using hs
            have hne3 : (!six == six2) = true := by cases six <;> cases six2 <;> simp_all
            clear hfd hlk htk hF
            go_wp2_with fail
            refine wp_loop_rounds 3 ?_
            rw [rounds_succ]
            go_wp2_with fail
            refine (C1.out _).mono ?_
            rintro e w1 ⟨rfl, hbw⟩
            obtain ⟨D1, S1, F⟩ := box1b (cs := [.bool six, .int .u64 hi, .int .u64 lo, .int .i64 n, .bool _, .int .u64 hi2, .int .u64 lo2, .int .i64 n2, .int .i64 cl]) hbw
            have x0 := F 0 _ rfl
            have x4 := F 4 _ rfl
            have x8 := F 8 _ rfl
            clear hbw F
            go_wp2
            rw [rounds_succ]
            go_wp2_with fail
            refine (C2.out _).mono ?_
            rintro e w2 ⟨rfl, hbw⟩
            have D := step1 hbw
            have y0 := cell_step D x0
            have y4 := cell_step D x4
            have y8 := cell_step D x8
            have D2 := below_step D1 D
            clear hbw x0 x4 x8
            go_wp2
            rw [rounds_succ]
            go_wp2
            go_ret
            exact ⟨ret_int (HR2.out.symm.trans H0.out.symm), hb.trans (D2.mono hb.size)⟩
        · have hF : classF 0 (chk six2 hi2 lo2 n2) six six2 cl = chk six2 hi2 lo2 n2 := by unfold classF; rw [if_neg (fun h => h rfl), if_pos hz2]
          rw [hF] at hfd
          have HR2 := Lib.hid (firstF_at HT.out hlk (by rw [hfd]; exact hz2))
          rw [hfd] at HR2
          clear hfd hlk htk hF
          generalize chk six2 hi2 lo2 n2 = q at *
          have hb1 : (q == 0) = false := by simpa using hz2
          have hb2 : (q != 0) = true := by simpa using hz2
          have C1 := Lib.hid c1
          have C2 := Lib.hid c2
          clear c1 c2 hz
          go_wp2_with fail
          refine wp_loop_rounds 3 ?_
          rw [rounds_succ]
          go_wp2_with fail
          refine (C1.out _).mono ?_
          rintro e w1 ⟨rfl, hbw⟩
          obtain ⟨D1, S1, F⟩ := box1b (cs := [.bool six, .int .u64 hi, .int .u64 lo, .int .i64 n, .bool _, .int .u64 hi2, .int .u64 lo2, .int .i64 n2, .int .i64 cl]) hbw
          have x0 := F 0 _ rfl
          have x4 := F 4 _ rfl
          have x8 := F 8 _ rfl
          clear hbw F
          go_wp2
          rw [rounds_succ]
          go_wp2_with fail
          refine (C2.out _).mono ?_
          rintro e w2 ⟨rfl, hbw⟩
          have D := step1 hbw
          have y0 := cell_step D x0
          have y4 := cell_step D x4
          have y8 := cell_step D x8
          have D2 := below_step D1 D
          clear hbw x0 x4 x8
          go_wp2
          go_ret
          exact ⟨ret_int (HR2.out.symm.trans H0.out.symm), hb.trans (D2.mono hb.size)⟩
      · have hF : classF (chk six hi lo n) (chk six2 hi2 lo2 n2) six six2 cl = chk six hi lo n := by unfold classF; rw [if_pos hz]
        rw [hF] at hfd
        have HR2 := Lib.hid (firstF_at HT.out hlk (by rw [hfd]; exact hz))
        rw [hfd] at HR2
        clear hfd hlk htk hF c2
        generalize chk six hi lo n = q at *
        have hb1 : (q == 0) = false := by simpa using hz
        have hb2 : (q != 0) = true := by simpa using hz
        have C1 := Lib.hid c1
        clear c1
        go_wp2_with fail
        refine wp_loop_rounds 3 ?_
        rw [rounds_succ]
        go_wp2_with fail
        refine (C1.out _).mono ?_
        rintro e w1 ⟨rfl, hbw⟩
        obtain ⟨D1, S1, F⟩ := box1b (cs := [.bool six, .int .u64 hi, .int .u64 lo, .int .i64 n, .bool _, .int .u64 hi2, .int .u64 lo2, .int .i64 n2, .int .i64 cl]) hbw
        have x0 := F 0 _ rfl
        have x4 := F 4 _ rfl
        have x8 := F 8 _ rfl
        clear hbw F
        go_wp2
        go_ret
        exact ⟨ret_int (HR2.out.symm.trans H0.out.symm), hb.trans (D1.mono hb.size)⟩
    · obtain rfl : k = n0 := by omega
      have HR2 := Lib.hid (firstF_end HT.out HZ.out)
      go_wp2
      go_ret
      exact ⟨ret_int (HR2.out.symm.trans H0.out.symm), hb⟩

end Go.Proofs.Ytonelibgaceflaa

namespace Go.Proofs.Ytonelibgaceflaa
open Go.ChangeShapes Go.WideShapes Go.ChangeAt Go.RowKit

set_option maxRecDepth 100000 in
set_option maxHeartbeats 1600000 in
theorem classFault_any (A : Option Addr) (n0 c : Nat) (l : List MatchV) (w : World) (hn : n0 ≤ 30) (hz : l.length = n0) (hw : ∀ r ∈ l, r.Ok) (hr : Reads w w.heap.size 9 A n0 (l.flatMap MatchV.cells)) :
    Calls Try.prog 90 #[.slice A n0 c] w fun e w' => e = .returned (.int .i64 (firstF MatchV.fault l)) ∧ Below w.heap.size w w' := by
  have HZ := Lib.hid hz
  have HR := Lib.hid hr
  have HW := Lib.hid hw
  obtain ⟨r, hr0⟩ : ∃ r, r = firstF MatchV.fault l := ⟨_, rfl⟩
  rw [← hr0]
  have H0 := Lib.hid hr0
  clear hz hr hw hr0
  go_enter Try.func90, Try.ntmps90
  go_wp2
  go_loopw [11, 4, 5] (fun i _ _ wr => ∃ k : Nat, k ≤ n0 ∧ i = .int .i64 k ∧ NoneTo MatchV.fault l k ∧ Below w.heap.size w wr) (fun i _ _ _ => n0 - (intOf i).toNat)
  case atStart => exact ⟨0, by omega, rfl, rfl, Below.refl _ _⟩
  case round =>
    obtain ⟨k, hk, rfl, hto, hb⟩ := hrel
    have HT := Lib.hid hto
    clear hto
    by_cases hlt : k < n0
    · obtain ⟨ad, ⟨six, hi, lo, n, six2, hi2, lo2, n2, cl⟩, rfl, hlk, htk, hmem, hbk, hc0, hcj⟩ := HR.out.atS MatchV.cells_length HZ.out hlt
      have q0 := (hb.cell (p := ad.add (k * 9)) (by rw [block_of_add]; exact hbk)).trans (hc0 _ rfl)
      have q1 := (hb.cell (p := ⟨(ad.add (k * 9)).block, (ad.add (k * 9)).off + 1, none⟩) (by rw [block_of_add]; exact hbk)).trans (hcj 1 _ rfl)
      have q2 := (hb.cell (p := ⟨(ad.add (k * 9)).block, (ad.add (k * 9)).off + 2, none⟩) (by rw [block_of_add]; exact hbk)).trans (hcj 2 _ rfl)
      have q3 := (hb.cell (p := ⟨(ad.add (k * 9)).block, (ad.add (k * 9)).off + 3, none⟩) (by rw [block_of_add]; exact hbk)).trans (hcj 3 _ rfl)
      have q4 := (hb.cell (p := ⟨(ad.add (k * 9)).block, (ad.add (k * 9)).off + 4, none⟩) (by rw [block_of_add]; exact hbk)).trans (hcj 4 _ rfl)
      have q5 := (hb.cell (p := ⟨(ad.add (k * 9)).block, (ad.add (k * 9)).off + 5, none⟩) (by rw [block_of_add]; exact hbk)).trans (hcj 5 _ rfl)
      have q6 := (hb.cell (p := ⟨(ad.add (k * 9)).block, (ad.add (k * 9)).off + 6, none⟩) (by rw [block_of_add]; exact hbk)).trans (hcj 6 _ rfl)
      have q7 := (hb.cell (p := ⟨(ad.add (k * 9)).block, (ad.add (k * 9)).off + 7, none⟩) (by rw [block_of_add]; exact hbk)).trans (hcj 7 _ rfl)
      have q8 := (hb.cell (p := ⟨(ad.add (k * 9)).block, (ad.add (k * 9)).off + 8, none⟩) (by rw [block_of_add]; exact hbk)).trans (hcj 8 _ rfl)
      obtain ⟨r1, r2, r3, r4⟩ := HW.out _ hmem
      simp only at r1 r2 r3 r4
      have hfd : MatchV.fault ⟨six, hi, lo, n, six2, hi2, lo2, n2, cl⟩ = classF (chk six hi lo n) (chk six2 hi2 lo2 n2) six six2 cl := rfl
      clear hc0 hcj hmem hbk
      have HF := Lib.hid hfd
      have HL := Lib.hid hlk
      have HK := Lib.hid htk
      have c1 := fun w => preFault_any six hi lo n w r1 r2
      have c2 := fun w => preFault_any six2 hi2 lo2 n2 w r3 r4
      clear hfd hlk htk
      generalize chk six hi lo n = x1 at *
      generalize chk six2 hi2 lo2 n2 = x2 at *
      have C1 := Lib.hid c1
      have C2 := Lib.hid c2
      clear c1 c2
      go_wp2_with fail
      refine (C1.out _).mono ?_
      rintro e w1 ⟨rfl, hbw⟩
      obtain ⟨fc, ff⟩ := bcell hbw
      have hs : wr.heap.size < w1.heap.size := by have := hbw.size; simp at this; omega
      go_wp2_with fail
      · refine (C2.out _).mono ?_
        rintro e w2 ⟨rfl, hbw2⟩
        obtain ⟨fc2, ff2⟩ := bcell hbw2
        have hs2 := hbw2.size
        have HB := Lib.hid (hb.trans ((below_step ((Below.refl _ _).alloc (Nat.le_refl _) _) hbw).mono hb.size))
        have HB2 := Lib.hid (below_step HB.out hbw2)
        clear hbw hbw2
        go_wp2
        all_goals clear fc ff fc2 ff2 q0 q1 q2 q3 q4 q5 q6 q7 q8
        any_goals (go_ret; exact ⟨ret_int (fault_here HT.out HL.out HF.out H0.out (by unfold classF; repeat' split; all_goals first | rfl | omega | (simp_all; done) | (simp_all; omega)) (by simp_all)), HB2.out⟩)
        go_roundw
        case rel =>
          refine ⟨k + 1, by omega, by go_num, noneTo_succ HT.out HK.out (HF.out.trans ?_), HB2.out⟩
          clear C1 C2
          unfold classF
          repeat' split
          all_goals first | rfl | omega | (simp_all; done) | (simp_all; omega)
        case measure => simp [intOf]; omega
      · go_ret
        exact ⟨ret_int (fault_here HT.out HL.out HF.out H0.out (by unfold classF; repeat' split; all_goals first | rfl | omega | (simp_all; done) | (simp_all; omega)) (by simp_all)), hb.trans ((below_step ((Below.refl _ _).alloc (Nat.le_refl _) _) hbw).mono hb.size)⟩
    · obtain rfl : k = n0 := by omega
      have HR2 := Lib.hid (firstF_end HT.out HZ.out)
      go_wp2
      go_ret
      exact ⟨ret_int (HR2.out.symm.trans H0.out.symm), hb⟩

end Go.Proofs.Ytonelibgaceflaa

namespace Go.Proofs.Ytonelibgaceflaa
open Go.ChangeShapes Go.WideShapes Go.ChangeAt Go.RowKit

set_option maxHeartbeats 400000 in
theorem classCheck_big (A : Option Addr) (n c : Nat) (w : World) (hn : 30 < n) (hm : n ≤ maxLen) :
    Calls Try.prog 88 #[.slice A n c] w fun e w' => e = .returned (.int .i64 1) ∧ Below w.heap.size w w' := by
  unfold maxLen at hm
  go_enter Try.func88, Try.ntmps88
  go_wp2
  go_ret
  exact ⟨rfl, Below.refl _ _⟩

set_option maxHeartbeats 400000 in
theorem classFault_big (A : Option Addr) (n c : Nat) (w : World) (hn : 30 < n) (hm : n ≤ maxLen) :
    Calls Try.prog 90 #[.slice A n c] w fun e w' => e = .returned (.int .i64 1) ∧ Below w.heap.size w w' := by
  unfold maxLen at hm
  go_enter Try.func90, Try.ntmps90
  go_wp2
  go_ret
  exact ⟨rfl, Below.refl _ _⟩

/-- What is known of a slice of matches that came in. -/
def IsMatches (w : World) (A : Option Addr) (n : Nat) (l : List MatchV) : Prop :=
  l.length = n ∧ n ≤ maxLen ∧ (∀ r ∈ l, r.Ok) ∧ Reads w w.heap.size 9 A n (l.flatMap MatchV.cells)

theorem IsMatches.below {w w' : World} {A : Option Addr} {n : Nat} {l : List MatchV} (h : IsMatches w A n l) (hb : Below w.heap.size w w') : IsMatches w' A n l :=
  ⟨h.1, h.2.1, h.2.2.1, (h.2.2.2.below hb).more hb.size⟩

/-- What rules.Check returns. -/
def matchesF (l : List MatchV) : Int := if 30 < l.length then 1 else firstF MatchV.fault l

theorem classCheck_is {A : Option Addr} {n : Nat} {l : List MatchV} {w : World} (h : IsMatches w A n l) (c : Nat) :
    Calls Try.prog 88 #[.slice A n c] w fun e w' => e = .returned (.int .i64 (matchesF l)) ∧ Below w.heap.size w w' := by
  unfold matchesF
  by_cases hn : 30 < l.length
  · rw [if_pos hn]
    exact classCheck_big A n c w (by have := h.1; omega) h.2.1
  · rw [if_neg hn]
    exact classCheck_any A n c l w (by have := h.1; omega) h.1 h.2.2.1 h.2.2.2

theorem matchesFault_is {A : Option Addr} {n : Nat} {l : List MatchV} {w : World} (h : IsMatches w A n l) (c : Nat) :
    Calls Try.prog 90 #[.slice A n c] w fun e w' => e = .returned (.int .i64 (matchesF l)) ∧ Below w.heap.size w w' := by
  unfold matchesF
  by_cases hn : 30 < l.length
  · rw [if_pos hn]
    exact classFault_big A n c w (by have := h.1; omega) h.2.1
  · rw [if_neg hn]
    exact classFault_any A n c l w (by have := h.1; omega) h.1 h.2.2.1 h.2.2.2

set_option maxRecDepth 100000 in
theorem open_matches {H : Type} {enc : TypeId × Value → H} {W : World} {base : Nat} {sp : Nat → Bool} {held : Bool} {a0 : Option Addr} {len0 cap0 : Nat} {d : DataW H} {p : List MemPlace}
    (h : DataW.Trod enc Try.prog W base sp held 60 (.slice a0 len0 cap0) d p) : ∃ l : List MatchV, IsMatches W a0 len0 l := by
  have hk : flat Try.prog 9 145 = some [none, some .u64, some .u64, some .i64, none, some .u64, some .u64, some .i64, some .i64] := by kernel_rfl
  obtain ⟨css, hcl, hfit, hr, hl, hm⟩ := open_flats Try.underlying60 hk (by kernel_rfl) (by simp) h
  obtain ⟨l, rfl, hz⟩ := choose_list (f := MatchV.cells) (Q := MatchV.Ok) css (fun cs hc => by
    have hf := hfit cs hc
    clear hr hcl hfit
    obtain ⟨six, _, rfl, hf1⟩ := hf.bool_inv
    obtain ⟨hi, _, rfl, wy, hf2⟩ := hf1.int_inv
    obtain ⟨lo, _, rfl, wz, hf3⟩ := hf2.int_inv
    obtain ⟨m, _, rfl, _, hf4⟩ := hf3.int_inv
    obtain ⟨six2, _, rfl, hf5⟩ := hf4.bool_inv
    obtain ⟨hi2, _, rfl, wy2, hf6⟩ := hf5.int_inv
    obtain ⟨lo2, _, rfl, wz2, hf7⟩ := hf6.int_inv
    obtain ⟨m2, _, rfl, _, hf8⟩ := hf7.int_inv
    obtain ⟨cl, _, rfl, _, hf9⟩ := hf8.int_inv
    obtain rfl := hf9.nil_inv
    exact ⟨⟨six, hi, lo, m, six2, hi2, lo2, m2, cl⟩, ⟨range_u64 wy, range_u64 wz, range_u64 wy2, range_u64 wz2⟩, rfl⟩)
  exact ⟨l, by simpa using hcl, by omega, hz, by rw [List.flatMap_def]; exact hr⟩

end Go.Proofs.Ytonelibgaceflaa

namespace Go.Proofs.Ytonelibgaceflaa
set_option linter.unusedVariables false

/-- The path of an address: its first bits. -/
def pathA (six : Bool) (hi lo : Int) (i : Nat) : List Bool := (List.range i).map fun j => decide (bitI six hi lo (j : Nat) = 1)
theorem pathA_succ (six : Bool) (hi lo : Int) (i : Nat) : pathA six hi lo (i + 1) = pathA six hi lo i ++ [decide (bitI six hi lo (i : Nat) = 1)] := by
  unfold pathA; rw [List.range_succ, List.map_append]; rfl
theorem pathA_length (six : Bool) (hi lo : Int) (i : Nat) : (pathA six hi lo i).length = i := by unfold pathA; simp
theorem pathA_zero (six : Bool) (hi lo : Int) : pathA six hi lo 0 = [] := rfl
theorem pathA_eq {six six' : Bool} {hi lo hi' lo' : Int} {i j : Nat} : pathA six hi lo i = pathA six' hi' lo' j ↔ i = j ∧ ∀ k : Nat, k < i → bitI six hi lo k = bitI six' hi' lo' k := by
  constructor
  · intro h
    have hl : i = j := by have := congrArg List.length h; rwa [pathA_length, pathA_length] at this
    subst hl
    refine ⟨rfl, fun k hk => ?_⟩
    have : (pathA six hi lo i)[k]? = (pathA six' hi' lo' i)[k]? := by rw [h]
    unfold pathA at this
    rw [List.getElem?_map, List.getElem?_map, List.getElem?_range hk] at this
    simp at this
    have h1 := bitI_01 six hi lo k
    have h2 := bitI_01 six' hi' lo' k
    omega
  · rintro ⟨rfl, h⟩
    unfold pathA
    apply List.map_congr_left
    intro k hk
    rw [h k (List.mem_range.1 hk)]
theorem pathA_in {six : Bool} {hi lo hi' lo' : Int} {n : Nat} (hp : Pfx six hi lo n) (h1 : 0 ≤ hi' ∧ hi' < 18446744073709551616) (h2 : 0 ≤ lo' ∧ lo' < 18446744073709551616) (hm : mayB six hi' lo' = true) :
    pathA six hi' lo' n = pathA six hi lo n ↔ inB six hi lo n six hi' lo' = true := by
  rw [inB_iff hp h1 h2 hm, pathA_eq]
  constructor
  · rintro ⟨_, h⟩ i hi0; exact (h i hi0).symm
  · intro h; exact ⟨rfl, fun i hi0 => (h i hi0).symm⟩

/-- What is found along an address: all that the nodes say. -/
def orTo (H : List Bool → Nat) (six : Bool) (hi lo : Int) : Nat → Nat
  | 0 => H []
  | i + 1 => orTo H six hi lo i ||| H (pathA six hi lo (i + 1))
theorem orTo_bit (H : List Bool → Nat) (six : Bool) (hi lo : Int) (j : Nat) : ∀ i, (orTo H six hi lo i).testBit j = true ↔ ∃ m, m ≤ i ∧ (H (pathA six hi lo m)).testBit j = true
  | 0 => by
    unfold orTo
    constructor
    · intro h; exact ⟨0, Nat.le_refl _, h⟩
    · rintro ⟨m, hm, h⟩
      obtain rfl : m = 0 := by omega
      exact h
  | i + 1 => by
    unfold orTo
    rw [Nat.testBit_or, Bool.or_eq_true, orTo_bit H six hi lo j i]
    constructor
    · rintro (⟨m, hm, h⟩ | h)
      · exact ⟨m, by omega, h⟩
      · exact ⟨i + 1, Nat.le_refl _, h⟩
    · rintro ⟨m, hm, h⟩
      by_cases he : m = i + 1
      · subst he; exact .inr h
      · exact .inl ⟨m, by omega, h⟩
theorem orTo_lt {H : List Bool → Nat} (hH : ∀ q, H q < 2 ^ 30) (six : Bool) (hi lo : Int) : ∀ i, orTo H six hi lo i < 2 ^ 30
  | 0 => hH _
  | i + 1 => Nat.or_lt_two_pow (orTo_lt hH six hi lo i) (hH _)
theorem orTo_stop {H : List Bool → Nat} {six : Bool} {hi lo : Int} {i : Nat} (h : ∀ m, i < m → H (pathA six hi lo m) = 0) : ∀ d, orTo H six hi lo (i + d) = orTo H six hi lo i
  | 0 => rfl
  | d + 1 => by
    show orTo H six hi lo (i + d) ||| H (pathA six hi lo (i + d + 1)) = _
    rw [h _ (by omega), Nat.or_zero, orTo_stop h d]

/-- What the first k matches say at a path, of one side. -/
def sideA (sd : Bool) (m : MatchV) : Bool × Int × Int × Nat := if sd then (m.six2, m.hi2, m.lo2, m.n2.toNat) else (m.six, m.hi, m.lo, m.n.toNat)
def sidePath (sd : Bool) (m : MatchV) : List Bool := pathA (sideA sd m).1 (sideA sd m).2.1 (sideA sd m).2.2.1 (sideA sd m).2.2.2
def SaysTo (l : List MatchV) (six : Bool) (k : Nat) (sd : Bool) (H : List Bool → Nat) : Prop :=
  (∀ q, H q < 2 ^ k) ∧ ∀ q (j : Nat), (H q).testBit j = true ↔ ∃ m, l[j]? = some m ∧ j < k ∧ m.six = six ∧ sidePath sd m = q
theorem saysTo_zero (l : List MatchV) (six sd : Bool) : SaysTo l six 0 sd (fun _ => 0) := by
  refine ⟨fun _ => by simp, fun q j => ?_⟩
  simp
theorem saysTo_skip {l : List MatchV} {six sd : Bool} {k : Nat} {H : List Bool → Nat} {m : MatchV} (h : SaysTo l six k sd H) (hk : l[k]? = some m) (h6 : ¬ m.six = six) : SaysTo l six (k + 1) sd H := by
  refine ⟨fun q => Nat.lt_of_lt_of_le (h.1 q) (Nat.pow_le_pow_right (by decide) (by omega)), fun q j => ?_⟩
  rw [h.2 q j]
  constructor
  · rintro ⟨m', a, b, c⟩; exact ⟨m', a, by omega, c⟩
  · rintro ⟨m', a, b, c⟩
    by_cases he : j = k
    · subst he; rw [hk] at a; injection a with a; subst a; exact absurd c.1 h6
    · exact ⟨m', a, by omega, c⟩
/-- A function at one place. -/
def setAt (H : List Bool → Nat) (q : List Bool) (x : Nat) : List Bool → Nat := fun q' => if q' = q then x else H q'
theorem saysTo_put {l : List MatchV} {six sd : Bool} {k : Nat} {H : List Bool → Nat} {m : MatchV} (h : SaysTo l six k sd H) (hk : l[k]? = some m) (h6 : m.six = six) : SaysTo l six (k + 1) sd (setAt H (sidePath sd m) (H (sidePath sd m) ||| 2 ^ k)) := by
  have hp : 2 ^ k < 2 ^ (k + 1) := Nat.pow_lt_pow_right (by decide) (by omega)
  have hw : ∀ q, H q < 2 ^ (k + 1) := fun q => Nat.lt_trans (h.1 q) hp
  refine ⟨fun q => ?_, fun q j => ?_⟩
  · unfold setAt
    split
    · exact Nat.or_lt_two_pow (hw _) hp
    · exact hw q
  · unfold setAt
    by_cases hq : q = sidePath sd m
    · rw [if_pos hq, Nat.testBit_or, Bool.or_eq_true, Nat.testBit_two_pow, ← hq, h.2 q j]
      constructor
      · rintro (⟨m', a, b, c⟩ | hj)
        · exact ⟨m', a, by omega, c⟩
        · have hj : k = j := by simpa using hj
          subst hj
          exact ⟨m, hk, by omega, h6, hq.symm⟩
      · rintro ⟨m', a, b, c⟩
        by_cases he : k = j
        · right; simpa using he
        · exact .inl ⟨m', a, by omega, c⟩
    · rw [if_neg hq, h.2 q j]
      constructor
      · rintro ⟨m', a, b, c⟩; exact ⟨m', a, by omega, c⟩
      · rintro ⟨m', a, b, c, d⟩
        by_cases he : j = k
        · subst he; rw [hk] at a; injection a with a; subst a; exact absurd d.symm hq
        · exact ⟨m', a, by omega, c, d⟩

/-- Does a match fit a flow? -/
def MatchV.fits (m : MatchV) (a b : AV) : Bool := inB m.six m.hi m.lo m.n a.six a.hi a.lo && inB m.six2 m.hi2 m.lo2 m.n2 b.six b.hi b.lo
/-- The first bit of a set, below 30. -/
def firstBit (s : Nat) : Int := firstAt (fun j => s.testBit j) (List.range 30)

theorem firstF_zero3 {l : List MatchV} (m : MatchV) (hm : m ∈ l) (h : firstF MatchV.fault l = 0) : m.fault = 0 := by
  induction l with
  | nil => cases hm
  | cons y l ih =>
    unfold firstF at h
    by_cases hy : y.fault = 0
    · rw [if_pos hy] at h
      rcases List.mem_cons.1 hm with rfl | hm
      · exact hy
      · exact ih hm h
    · rw [if_neg hy] at h
      exact absurd h hy
theorem matchesF_good {l : List MatchV} (h : matchesF l = 0) : l.length ≤ 30 ∧ ∀ m ∈ l, chk m.six m.hi m.lo m.n = 0 ∧ chk m.six2 m.hi2 m.lo2 m.n2 = 0 ∧ m.six = m.six2 ∧ 1 ≤ m.cl ∧ m.cl ≤ 999 := by
  unfold matchesF at h
  by_cases hn : 30 < l.length
  · rw [if_pos hn] at h; omega
  rw [if_neg hn] at h
  refine ⟨by omega, fun m hm => ?_⟩
  have h0 := firstF_zero3 m hm h
  unfold MatchV.fault classF at h0
  by_cases a1 : chk m.six m.hi m.lo m.n = 0
  · rw [if_neg (by simp [a1])] at h0
    by_cases a2 : chk m.six2 m.hi2 m.lo2 m.n2 = 0
    · rw [if_neg (by simp [a2])] at h0
      by_cases a3 : m.six = m.six2
      · rw [if_neg (by simp [a3])] at h0
        by_cases a4 : m.cl < 1 ∨ 999 < m.cl
        · rw [if_pos a4] at h0; omega
        · exact ⟨a1, a2, a3, by omega, by omega⟩
      · rw [if_pos a3] at h0; omega
    · rw [if_pos a2] at h0; exact absurd h0 a2
  · rw [if_pos a1] at h0; exact absurd h0 a1
theorem least {P : Nat → Prop} (h : ∃ n, P n) : ∃ n, P n ∧ ∀ m, m < n → ¬ P m := by
  obtain ⟨n, hn⟩ := h
  induction n using Nat.strongRecOn with
  | _ n ih =>
    by_cases hex : ∃ m, m < n ∧ P m
    · obtain ⟨m, hm, hp⟩ := hex
      exact ih m hm hp
    · exact ⟨n, hn, fun m hm hp => hex ⟨m, hm, hp⟩⟩
theorem firstAt_same {α β : Type} {f : α → Bool} {g : β → Bool} {l : List α} {l' : List β} (h : ∀ j : Nat, (∃ x, l[j]? = some x ∧ f x = true) ↔ (∃ y, l'[j]? = some y ∧ g y = true)) : firstAt f l = firstAt g l' := by
  by_cases hex : ∃ j : Nat, ∃ x, l[j]? = some x ∧ f x = true
  · obtain ⟨k, ⟨x, hx, hf⟩, hmin⟩ := least hex
    obtain ⟨y, hy, hg⟩ := (h k).1 ⟨x, hx, hf⟩
    rw [firstAt_at (l := l) (k := k) (fun z hz => ?_) hx hf, firstAt_at (l := l') (k := k) (fun z hz => ?_) hy hg]
    · obtain ⟨j, hj, he⟩ := List.getElem_of_mem hz
      rw [List.length_take] at hj
      rw [List.getElem_take] at he
      have hgt : l'[j]? = some z := by rw [← he]; exact List.getElem?_eq_getElem _
      cases hgz : g z with
      | false => rfl
      | true => exact absurd ((h j).2 ⟨z, hgt, hgz⟩) (hmin j (by omega))
    · obtain ⟨j, hj, he⟩ := List.getElem_of_mem hz
      rw [List.length_take] at hj
      rw [List.getElem_take] at he
      have hgt : l[j]? = some z := by rw [← he]; exact List.getElem?_eq_getElem _
      cases hfz : f z with
      | false => rfl
      | true => exact absurd ⟨z, hgt, hfz⟩ (hmin j (by omega))
  · rw [firstAt_none (l := l) fun z hz => ?_, firstAt_none (l := l') fun z hz => ?_]
    · obtain ⟨j, hj, he⟩ := List.getElem_of_mem hz
      cases hgz : g z with
      | false => rfl
      | true => exact absurd ⟨j, (h j).2 ⟨z, by rw [← he]; exact List.getElem?_eq_getElem _, hgz⟩⟩ hex
    · obtain ⟨j, hj, he⟩ := List.getElem_of_mem hz
      cases hfz : f z with
      | false => rfl
      | true => exact absurd ⟨j, z, by rw [← he]; exact List.getElem?_eq_getElem _, hfz⟩ hex

/-- What the trees of all matches say of a flow: the first match that fits. -/
theorem found_first {l : List MatchV} {a b : AV} {H0 H1 : List Bool → Nat} (hl : matchesF l = 0) (hok : ∀ m ∈ l, m.Ok) (ha : a.Ok) (hb : b.Ok) (h6 : a.six = b.six)
    (h0 : SaysTo l a.six l.length false H0) (h1 : SaysTo l a.six l.length true H1) :
    firstBit (orTo H0 a.six a.hi a.lo (widN a.six) &&& orTo H1 b.six b.hi b.lo (widN b.six)) = firstAt (fun m => m.fits a b) l := by
  obtain ⟨hlen, hgood⟩ := matchesF_good hl
  refine firstAt_same fun j => ?_
  have hin : ∀ m ∈ l, m.six = a.six → (m.fits a b = true ↔ pathA a.six a.hi a.lo m.n.toNat = sidePath false m ∧ pathA b.six b.hi b.lo m.n2.toNat = sidePath true m) := by
    intro m hm hs
    obtain ⟨c1, c2, c3, _, _⟩ := hgood m hm
    have p1 := chk_zero (hok m hm).a (hok m hm).b c1
    have p2 := chk_zero (hok m hm).c (hok m hm).d c2
    have e1 : (m.n.toNat : Int) = m.n := by have := p1.len; omega
    have e2 : (m.n2.toNat : Int) = m.n2 := by have := p2.len; omega
    rw [← e1] at p1
    rw [← e2] at p2
    have hs2 : m.six2 = b.six := c3.symm.trans (hs.trans h6)
    have q1 := pathA_in p1 ha.rhi ha.rlo (by rw [hs]; exact ha.may)
    have q2 := pathA_in p2 hb.rhi hb.rlo (by rw [hs2]; exact hb.may)
    rw [e1] at q1
    rw [e2] at q2
    unfold MatchV.fits sidePath sideA
    simp only [Bool.false_eq_true, ↓reduceIte]
    rw [Bool.and_eq_true, ← hs, ← hs2, q1, q2]
  have hother : ∀ m ∈ l, ¬ m.six = a.six → m.fits a b = false := by
    intro m hm hs
    unfold MatchV.fits inB
    have : (a.six == m.six) = false := by simpa using fun h => hs h.symm
    rw [this]
    simp
  have hbits : (orTo H0 a.six a.hi a.lo (widN a.six) &&& orTo H1 b.six b.hi b.lo (widN b.six)).testBit j = true ↔ ∃ m, l[j]? = some m ∧ m.fits a b = true := by
    rw [Nat.testBit_and, Bool.and_eq_true, orTo_bit, orTo_bit]
    constructor
    · rintro ⟨⟨i, hi, x1⟩, ⟨i', hi', x2⟩⟩
      obtain ⟨m, g1, g2, g3, g4⟩ := (h0.2 _ _).1 x1
      obtain ⟨m', g1', g2', g3', g4'⟩ := (h1.2 _ _).1 x2
      rw [g1] at g1'
      injection g1' with g1'
      subst g1'
      have hm := List.mem_of_getElem? g1
      refine ⟨m, g1, (hin m hm g3).2 ⟨?_, ?_⟩⟩
      · have : i = m.n.toNat := ((pathA_eq).1 g4).1.symm
        rw [← this]; exact g4.symm
      · have : i' = m.n2.toNat := ((pathA_eq).1 g4').1.symm
        rw [← this]; exact g4'.symm
    · rintro ⟨m, g1, g2⟩
      have hm := List.mem_of_getElem? g1
      by_cases hs : m.six = a.six
      · obtain ⟨f1, f2⟩ := (hin m hm hs).1 g2
        obtain ⟨c1, c2, c3, _, _⟩ := hgood m hm
        have p1 := (chk_zero (hok m hm).a (hok m hm).b c1).len
        have p2 := (chk_zero (hok m hm).c (hok m hm).d c2).len
        have hjl : j < l.length := by
          rcases Nat.lt_or_ge j l.length with h | h
          · exact h
          · rw [List.getElem?_eq_none h] at g1; cases g1
        have w1 := widN_eq m.six
        have w2 := widN_eq m.six2
        rw [hs] at w1
        rw [show m.six2 = b.six from c3.symm.trans (hs.trans h6)] at w2
        rw [hs] at p1
        rw [show m.six2 = b.six from c3.symm.trans (hs.trans h6)] at p2
        exact ⟨⟨m.n.toNat, by omega, (h0.2 _ _).2 ⟨m, g1, hjl, hs, f1.symm⟩⟩, ⟨m.n2.toNat, by omega, (h1.2 _ _).2 ⟨m, g1, hjl, hs, f2.symm⟩⟩⟩
      · rw [hother m hm hs] at g2; cases g2
  constructor
  · rintro ⟨x, hx, ht⟩
    have : x = j := by
      have hj : j < 30 := by
        rcases Nat.lt_or_ge j 30 with h | h
        · exact h
        · rw [List.getElem?_eq_none (by simpa using h)] at hx; cases hx
      rw [List.getElem?_range hj] at hx
      injection hx with hx
      exact hx.symm
    subst this
    exact hbits.1 ht
  · rintro ⟨m, hm, hf⟩
    have hjl : j < l.length := by
      rcases Nat.lt_or_ge j l.length with h | h
      · exact h
      · rw [List.getElem?_eq_none h] at hm; cases hm
    exact ⟨j, by rw [List.getElem?_range (by omega)], hbits.2 ⟨m, hm, hf⟩⟩

end Go.Proofs.Ytonelibgaceflaa

namespace Go.Proofs.Ytonelibgaceflaa
open Go.ChangeShapes Go.WideShapes Go.ChangeAt Go.RowKit

def ptrM : Option (Nat × Nat) → Value
  | none => .pointer none
  | some (b, o) => .pointer (some ⟨b, o, none⟩)

structure NodesOk (w : World) (base tb : Nat) (M : Bool → List Bool → Option (Nat × Nat)) (H : Bool → List Bool → Nat) : Prop where
  root : ∀ s, M s [] = some (tb, if s then 3 else 0)
  cell : ∀ s q b o, M s q = some (b, o) → w.cell? ⟨b, o, none⟩ = some (.int .u64 (H s q)) ∧ w.cell? ⟨b, o + 1, none⟩ = some (ptrM (M s (q ++ [false]))) ∧ w.cell? ⟨b, o + 1 + 1, none⟩ = some (ptrM (M s (q ++ [true])))
  free : ∀ s q b o, M s q = some (b, o) → w.frozen? ⟨b, o, none⟩ = false ∧ w.frozen? ⟨b, o + 1, none⟩ = false ∧ w.frozen? ⟨b, o + 1 + 1, none⟩ = false
  place : ∀ s q b o, M s q = some (b, o) → base ≤ b ∧ b < w.heap.size
  inj : ∀ s q s' q' b o o', M s q = some (b, o) → M s' q' = some (b, o') → (s = s' ∧ q = q') ∨ o + 3 ≤ o' ∨ o' + 3 ≤ o
  dom : ∀ s q, M s q = none → H s q = 0
  up : ∀ s q c, M s q = none → M s (q ++ [c]) = none

theorem NodesOk.below {w w' : World} {base tb : Nat} {M : Bool → List Bool → Option (Nat × Nat)} {H : Bool → List Bool → Nat} (h : NodesOk w base tb M H) (hb : Below w.heap.size w w') : NodesOk w' base tb M H :=
  ⟨h.root,
   fun s q b o hm => by
    obtain ⟨c0, c1, c2⟩ := h.cell s q b o hm
    have hl := (h.place s q b o hm).2
    exact ⟨(hb.cell (p := ⟨b, o, none⟩) hl).trans c0, (hb.cell (p := ⟨b, o + 1, none⟩) hl).trans c1, (hb.cell (p := ⟨b, o + 1 + 1, none⟩) hl).trans c2⟩,
   fun s q b o hm => by
    obtain ⟨c0, c1, c2⟩ := h.free s q b o hm
    have hl := (h.place s q b o hm).2
    exact ⟨(hb.frozen (p := ⟨b, o, none⟩) hl).trans c0, (hb.frozen (p := ⟨b, o + 1, none⟩) hl).trans c1, (hb.frozen (p := ⟨b, o + 1 + 1, none⟩) hl).trans c2⟩,
   fun s q b o hm => by have := h.place s q b o hm; have := hb.size; omega,
   h.inj, h.dom, h.up⟩

/-- A path at which nothing stands. -/
def updM (M : Bool → List Bool → Option (Nat × Nat)) (s : Bool) (q : List Bool) (x : Nat × Nat) : Bool → List Bool → Option (Nat × Nat) := fun s' q' => if s' = s ∧ q' = q then some x else M s' q'
def updH (H : Bool → List Bool → Nat) (s : Bool) (q : List Bool) (x : Nat) : Bool → List Bool → Nat := fun s' q' => if s' = s ∧ q' = q then x else H s' q'
theorem snoc_ne {q : List Bool} {c : Bool} : ¬ q = q ++ [c] := fun h => by have := congrArg List.length h; simp at this
theorem snoc_ne2 {q : List Bool} {c d : Bool} : ¬ q = q ++ [c] ++ [d] := fun h => by have := congrArg List.length h; simp at this
theorem snoc_inj {q q' : List Bool} {c d : Bool} (h : q ++ [c] = q' ++ [d]) : q = q' ∧ c = d := by
  have := List.append_inj' h rfl
  exact ⟨this.1, by simpa using this.2⟩
/-- The node's pointer cell to a part. -/
def kidOff (o : Nat) (c : Bool) : Nat := if c then o + 1 + 1 else o + 1

/-- A new node below one. -/
theorem NodesOk.grow {w : World} {base tb : Nat} {M : Bool → List Bool → Option (Nat × Nat)} {H : Bool → List Bool → Nat} (h : NodesOk w base tb M H) {s : Bool} {q : List Bool} {b o : Nat} {c : Bool} (hb : M s q = some (b, o)) (hn : M s (q ++ [c]) = none) (hbase : base ≤ w.heap.size) (t : TypeId) :
    NodesOk ((w.alloc (.cells #[.int .u64 0, .pointer none, .pointer none] t)).setCell ⟨b, kidOff o c, none⟩ (.pointer (some ⟨w.heap.size, 0, none⟩))) base tb (updM M s (q ++ [c]) (w.heap.size, 0)) H := by
  have hpl := h.place
  obtain ⟨v0, v1, v2⟩ := h.cell s q b o hb
  have hbl := (hpl s q b o hb).2
  have hkid : ∃ u, (w.alloc (.cells #[.int .u64 0, .pointer none, .pointer none] t)).cell? ⟨b, kidOff o c, none⟩ = some u := by
    rw [World.cell?_alloc_past _ _ _ (by exact hbl)]
    unfold kidOff
    split
    · exact ⟨_, v2⟩
    · exact ⟨_, v1⟩
  obtain ⟨u, hu⟩ := hkid
  have hnone : ∀ d, M s (q ++ [c] ++ [d]) = none := fun d => h.up _ _ _ hn
  -- an old node's cells
  have old : ∀ (p : Nat) (j : Nat), p < w.heap.size → ¬ (p = b ∧ j = kidOff o c) → ((w.alloc (.cells #[.int .u64 0, .pointer none, .pointer none] t)).setCell ⟨b, kidOff o c, none⟩ (.pointer (some ⟨w.heap.size, 0, none⟩))).cell? ⟨p, j, none⟩ = w.cell? ⟨p, j, none⟩ := by
    intro p j hp hne
    rw [World.cell?_setCell_other _ _ _ _ (by intro e; injection e with e1 e2; exact hne ⟨e1.symm, e2.symm⟩), World.cell?_alloc_past _ _ _ (by exact hp)]
  have new : ∀ (j : Nat), ((w.alloc (.cells #[.int .u64 0, .pointer none, .pointer none] t)).setCell ⟨b, kidOff o c, none⟩ (.pointer (some ⟨w.heap.size, 0, none⟩))).cell? ⟨w.heap.size, j, none⟩ = (#[.int .u64 0, .pointer none, .pointer none] : Array Value)[j]? := by
    intro j
    rw [World.cell?_setCell_other _ _ _ _ (by intro e; injection e with e1 e2; omega)]
    exact (Blk.new w t _).cell j
  have same : ((w.alloc (.cells #[.int .u64 0, .pointer none, .pointer none] t)).setCell ⟨b, kidOff o c, none⟩ (.pointer (some ⟨w.heap.size, 0, none⟩))).cell? ⟨b, kidOff o c, none⟩ = some (.pointer (some ⟨w.heap.size, 0, none⟩)) := World.cell?_setCell_same _ _ _ hu
  have fz : ∀ (p : Nat) (j : Nat), p < w.heap.size → ((w.alloc (.cells #[.int .u64 0, .pointer none, .pointer none] t)).setCell ⟨b, kidOff o c, none⟩ (.pointer (some ⟨w.heap.size, 0, none⟩))).frozen? ⟨p, j, none⟩ = w.frozen? ⟨p, j, none⟩ := by
    intro p j hp
    rw [World.frozen?_setCell]
    exact ((Below.refl w.heap.size w).alloc (Nat.le_refl _) _).frozen (p := ⟨p, j, none⟩) hp
  have fn : ∀ (j : Nat), ((w.alloc (.cells #[.int .u64 0, .pointer none, .pointer none] t)).setCell ⟨b, kidOff o c, none⟩ (.pointer (some ⟨w.heap.size, 0, none⟩))).frozen? ⟨w.heap.size, j, none⟩ = false := by
    intro j
    rw [World.frozen?_setCell]
    exact (Blk.new w t _).frozen j
  have hM : ∀ s' q', ¬ (s' = s ∧ q' = q ++ [c]) → updM M s (q ++ [c]) (w.heap.size, 0) s' q' = M s' q' := fun s' q' hne => by unfold updM; rw [if_neg hne]
  have hM1 : updM M s (q ++ [c]) (w.heap.size, 0) s (q ++ [c]) = some (w.heap.size, 0) := by unfold updM; rw [if_pos ⟨rfl, rfl⟩]
  -- what a kid's pointer is
  have kid : ∀ s' q' b' o' d, M s' q' = some (b', o') → w.cell? ⟨b', kidOff o' d, none⟩ = some (ptrM (M s' (q' ++ [d]))) →
      ((w.alloc (.cells #[.int .u64 0, .pointer none, .pointer none] t)).setCell ⟨b, kidOff o c, none⟩ (.pointer (some ⟨w.heap.size, 0, none⟩))).cell? ⟨b', kidOff o' d, none⟩ = some (ptrM (updM M s (q ++ [c]) (w.heap.size, 0) s' (q' ++ [d]))) := by
    intro s' q' b' o' d hm hc
    by_cases he : s' = s ∧ q' ++ [d] = q ++ [c]
    · obtain ⟨rfl, e2⟩ := he
      obtain ⟨rfl, rfl⟩ := snoc_inj e2
      rw [hb] at hm
      injection hm with hm
      injection hm with e3 e4
      subst e3 e4
      rw [same, hM1]
      rfl
    · rw [hM _ _ he, old b' _ (hpl _ _ _ _ hm).2 ?_, hc]
      rintro ⟨rfl, e4⟩
      rcases h.inj _ _ _ _ _ _ _ hm hb with ⟨e5, e6⟩ | e5 | e5
      · subst e5 e6
        rw [hb] at hm
        injection hm with hm
        injection hm with _ e7
        subst e7
        apply he
        refine ⟨rfl, ?_⟩
        unfold kidOff at e4
        cases c <;> cases d <;> simp at e4 ⊢
      · unfold kidOff at e4; split at e4 <;> split at e4 <;> omega
      · unfold kidOff at e4; split at e4 <;> split at e4 <;> omega
  constructor
  · intro s'
    rw [hM _ _ (by rintro ⟨_, e⟩; simp at e)]
    exact h.root s'
  · intro s' q' b' o' hm
    by_cases he : s' = s ∧ q' = q ++ [c]
    · obtain ⟨rfl, rfl⟩ := he
      rw [hM1] at hm
      injection hm with hm
      injection hm with e1 e2
      subst e1 e2
      rw [new 0, new (0 + 1), new (0 + 1 + 1), hM _ _ (by rintro ⟨_, e⟩; exact snoc_ne e.symm), hM _ _ (by rintro ⟨_, e⟩; exact snoc_ne e.symm), hnone, hnone, h.dom _ _ hn]
      exact ⟨rfl, rfl, rfl⟩
    · rw [hM _ _ he] at hm
      obtain ⟨c0, c1, c2⟩ := h.cell s' q' b' o' hm
      have hl := (hpl s' q' b' o' hm).2
      refine ⟨?_, kid s' q' b' o' false hm c1, kid s' q' b' o' true hm c2⟩
      rw [old b' o' hl ?_, c0]
      rintro ⟨rfl, e4⟩
      rcases h.inj _ _ _ _ _ _ _ hm hb with ⟨e5, e6⟩ | e5 | e5
      · subst e5 e6
        rw [hb] at hm
        injection hm with hm
        injection hm with _ e7
        subst e7
        unfold kidOff at e4; split at e4 <;> omega
      · unfold kidOff at e4; split at e4 <;> omega
      · unfold kidOff at e4; split at e4 <;> omega
  · intro s' q' b' o' hm
    by_cases he : s' = s ∧ q' = q ++ [c]
    · obtain ⟨rfl, rfl⟩ := he
      rw [hM1] at hm
      injection hm with hm
      injection hm with e1 e2
      subst e1 e2
      exact ⟨fn _, fn _, fn _⟩
    · rw [hM _ _ he] at hm
      have hl := (hpl s' q' b' o' hm).2
      rw [fz _ _ hl, fz _ _ hl, fz _ _ hl]
      exact h.free s' q' b' o' hm
  · intro s' q' b' o' hm
    by_cases he : s' = s ∧ q' = q ++ [c]
    · obtain ⟨rfl, rfl⟩ := he
      rw [hM1] at hm
      injection hm with hm
      injection hm with e1 e2
      subst e1 e2
      exact ⟨hbase, by simp⟩
    · rw [hM _ _ he] at hm
      have := hpl s' q' b' o' hm
      exact ⟨this.1, by simp; omega⟩
  · intro s1 q1 s2 q2 b' o1 o2 h1 h2
    by_cases he1 : s1 = s ∧ q1 = q ++ [c]
    · by_cases he2 : s2 = s ∧ q2 = q ++ [c]
      · exact .inl ⟨he1.1.trans he2.1.symm, he1.2.trans he2.2.symm⟩
      · rw [hM _ _ he2] at h2
        have := (hpl _ _ _ _ h2).2
        obtain ⟨rfl, rfl⟩ := he1
        rw [hM1] at h1
        injection h1 with h1
        injection h1 with e1 e2
        omega
    · rw [hM _ _ he1] at h1
      by_cases he2 : s2 = s ∧ q2 = q ++ [c]
      · have := (hpl _ _ _ _ h1).2
        obtain ⟨rfl, rfl⟩ := he2
        rw [hM1] at h2
        injection h2 with h2
        injection h2 with e1 e2
        omega
      · rw [hM _ _ he2] at h2
        exact h.inj _ _ _ _ _ _ _ h1 h2
  · intro s' q' hm
    by_cases he : s' = s ∧ q' = q ++ [c]
    · obtain ⟨rfl, rfl⟩ := he
      rw [hM1] at hm; cases hm
    · rw [hM _ _ he] at hm
      exact h.dom _ _ hm
  · intro s' q' d hm
    by_cases he : s' = s ∧ q' = q ++ [c]
    · obtain ⟨rfl, rfl⟩ := he
      rw [hM1] at hm; cases hm
    · rw [hM _ _ he] at hm
      by_cases he2 : s' = s ∧ q' ++ [d] = q ++ [c]
      · obtain ⟨rfl, e⟩ := he2
        obtain ⟨rfl, _⟩ := snoc_inj e
        rw [hb] at hm; cases hm
      · rw [hM _ _ he2]
        exact h.up _ _ _ hm

/-- A mark at a node. -/
theorem NodesOk.mark {w : World} {base tb : Nat} {M : Bool → List Bool → Option (Nat × Nat)} {H : Bool → List Bool → Nat} (h : NodesOk w base tb M H) {s : Bool} {q : List Bool} {b o : Nat} (hb : M s q = some (b, o)) (x : Nat) :
    NodesOk (w.setCell ⟨b, o, none⟩ (.int .u64 x)) base tb M (updH H s q x) := by
  have hH : ∀ s' q', ¬ (s' = s ∧ q' = q) → updH H s q x s' q' = H s' q' := fun s' q' hne => by unfold updH; rw [if_neg hne]
  have hH1 : updH H s q x s q = x := by unfold updH; rw [if_pos ⟨rfl, rfl⟩]
  obtain ⟨v0, _, _⟩ := h.cell s q b o hb
  have same := World.cell?_setCell_same w (⟨b, o, none⟩ : Addr) (Value.int .u64 x) v0
  have old : ∀ (p j : Nat), ¬ (p = b ∧ j = o) → (w.setCell ⟨b, o, none⟩ (.int .u64 x)).cell? ⟨p, j, none⟩ = w.cell? ⟨p, j, none⟩ := fun p j hne =>
    World.cell?_setCell_other _ _ _ _ (by intro e; injection e with e1 e2; exact hne ⟨e1.symm, e2.symm⟩)
  refine ⟨h.root, ?_, ?_, ?_, h.inj, ?_, h.up⟩
  · intro s' q' b' o' hm
    obtain ⟨c0, c1, c2⟩ := h.cell s' q' b' o' hm
    have hno : ∀ j, o' < j → j < o' + 3 → ¬ (b' = b ∧ j = o) := by
      rintro j h1 h2 ⟨rfl, rfl⟩
      rcases h.inj _ _ _ _ _ _ _ hm hb with ⟨e5, e6⟩ | e5 | e5
      · subst e5 e6
        rw [hb] at hm
        injection hm with hm
        injection hm with _ e7
        omega
      · omega
      · omega
    rw [old _ _ (hno (o' + 1) (by omega) (by omega)), old _ _ (hno (o' + 1 + 1) (by omega) (by omega))]
    refine ⟨?_, c1, c2⟩
    by_cases he : s' = s ∧ q' = q
    · obtain ⟨rfl, rfl⟩ := he
      rw [hb] at hm
      injection hm with hm
      injection hm with e1 e2
      subst e1 e2
      rw [same, hH1]
    · rw [hH _ _ he, old _ _ ?_, c0]
      rintro ⟨rfl, rfl⟩
      rcases h.inj _ _ _ _ _ _ _ hm hb with ⟨e5, e6⟩ | e5 | e5
      · exact he ⟨e5, e6⟩
      · omega
      · omega
  · intro s' q' b' o' hm
    rw [World.frozen?_setCell, World.frozen?_setCell, World.frozen?_setCell]
    exact h.free s' q' b' o' hm
  · intro s' q' b' o' hm
    have := h.place s' q' b' o' hm
    exact ⟨this.1, by simpa using this.2⟩
  · intro s' q' hm
    by_cases he : s' = s ∧ q' = q
    · obtain ⟨rfl, rfl⟩ := he
      rw [hb] at hm; cases hm
    · rw [hH _ _ he]; exact h.dom _ _ hm

theorem NodesOk.none_far {w : World} {base tb : Nat} {M : Bool → List Bool → Option (Nat × Nat)} {H : Bool → List Bool → Nat} (h : NodesOk w base tb M H) {s six : Bool} {hi lo : Int} {i : Nat} (hn : M s (pathA six hi lo i) = none) : ∀ m, i ≤ m → H s (pathA six hi lo m) = 0 := by
  intro m hm
  obtain ⟨d, rfl⟩ : ∃ d, m = i + d := ⟨m - i, by omega⟩
  have : M s (pathA six hi lo (i + d)) = none := by
    clear hm
    induction d with
    | zero => exact hn
    | succ d ih => rw [← Nat.add_assoc, pathA_succ]; exact h.up _ _ _ ih
  exact h.dom _ _ this

/-- Both trees at their start. -/
theorem nodes_new (w : World) (t : TypeId) : NodesOk (w.alloc (.cells #[.int .u64 0, .pointer none, .pointer none, .int .u64 0, .pointer none, .pointer none] t)) w.heap.size w.heap.size (fun s q => if q = [] then some (w.heap.size, if s then 3 else 0) else none) (fun _ _ => 0) := by
  have hb := Blk.new w t #[.int .u64 0, .pointer none, .pointer none, .int .u64 0, .pointer none, .pointer none]
  refine ⟨fun s => by simp, ?_, ?_, ?_, ?_, fun _ _ _ => rfl, ?_⟩
  · intro s q b o hm
    by_cases hq : q = []
    · subst hq
      rw [if_pos rfl] at hm
      injection hm with hm
      injection hm with e1 e2
      subst e1 e2
      rw [hb.cell, hb.cell, hb.cell]
      cases s
      · exact ⟨rfl, rfl, rfl⟩
      · exact ⟨rfl, rfl, rfl⟩
    · rw [if_neg hq] at hm; cases hm
  · intro s q b o hm
    by_cases hq : q = []
    · subst hq
      rw [if_pos rfl] at hm
      injection hm with hm
      injection hm with e1 e2
      subst e1 e2
      exact ⟨hb.frozen _, hb.frozen _, hb.frozen _⟩
    · rw [if_neg hq] at hm; cases hm
  · intro s q b o hm
    by_cases hq : q = []
    · subst hq
      rw [if_pos rfl] at hm
      injection hm with hm
      injection hm with e1 e2
      subst e1
      exact ⟨Nat.le_refl _, by simp⟩
    · rw [if_neg hq] at hm; cases hm
  · intro s q s' q' b o o' h1 h2
    by_cases hq : q = []
    · by_cases hq' : q' = []
      · rw [if_pos hq] at h1
        rw [if_pos hq'] at h2
        injection h1 with h1
        injection h1 with _ e1
        injection h2 with h2
        injection h2 with _ e2
        cases s <;> cases s' <;> simp at e1 e2 <;> first | (left; exact ⟨rfl, hq.trans hq'.symm⟩) | omega
      · rw [if_neg hq'] at h2; cases h2
    · rw [if_neg hq] at h1; cases h1
  · intro s q c _
    rw [if_neg (by simp)]

end Go.Proofs.Ytonelibgaceflaa

namespace Go.Proofs.Ytonelibgaceflaa
open Go.ChangeShapes Go.WideShapes Go.ChangeAt Go.RowKit

theorem shr_bit (s k : Nat) (h : s < 2 ^ 30) : (bits .and .u64 ((s : Int) / 2 ^ k) 1 == 1) = s.testBit k := by
  have h1 : ((s : Int) / 2 ^ k) = ((s / 2 ^ k : Nat) : Int) := by simp
  have h2 : s / 2 ^ k < 2 ^ 30 := Nat.lt_of_le_of_lt (Nat.div_le_self _ _) h
  have e30 : (2 : Nat) ^ 30 = 1073741824 := by decide
  rw [h1, Nat.testBit_eq_decide_div_mod_eq]
  generalize s / 2 ^ k = y at *
  rw [and1_u64 _ (by omega) (by omega)]
  rw [Bool.eq_iff_iff]
  simp
  omega

set_option maxRecDepth 100000 in
set_option maxHeartbeats 800000 in
theorem setFirst_any (s : Nat) (w : World) (h : s < 2 ^ 30) :
    Calls Try.prog 94 #[.int .u64 s] w fun e w' => e = .returned (.int .i64 (firstBit s)) ∧ w = w' := by
  have hb := fun k => shr_bit s k h
  have HB := Lib.hid hb
  obtain ⟨r, hr⟩ : ∃ r, r = firstBit s := ⟨_, rfl⟩
  rw [← hr]
  have HRR := Lib.hid hr
  have e30 : (2 : Nat) ^ 30 = 1073741824 := by decide
  rw [e30] at h
  clear hb hr e30
  go_enter Try.func94, Try.ntmps94
  go_wp2
  go_loop [4, 3] (fun i _ => ∃ k : Nat, k ≤ 30 ∧ i = .int .i64 k ∧ NoneYet (fun j => s.testBit j) (List.range 30) k) (fun i _ => 30 - (intOf i).toNat)
  case atStart => exact ⟨0, by omega, rfl, noneYet_zero _ _⟩
  case round =>
    obtain ⟨k, hk, rfl, hto⟩ := hrel
    have HN := Lib.hid hto
    clear hto
    by_cases hlt : k < 30
    · have hbk := HB.out k
      have htk : Hid ((List.range 30).take (k + 1) = (List.range 30).take k ++ [k]) := by
        show _ = _
        rw [List.take_range, List.take_range, Nat.min_eq_left (by omega), Nat.min_eq_left (by omega), List.range_succ]
      have hlk : Hid ((List.range 30)[k]? = some k) := by show _ = _; simp [hlt]
      generalize hv : s.testBit k = b at *
      have HV := Lib.hid hv
      clear hv
      cases b with
      | false =>
        have HN2 := Lib.hid (noneYet_succ HN.out htk.out HV.out)
        go_wp2
        go_round
        case rel => exact ⟨k + 1, by omega, by go_num, HN2.out⟩
        case measure => simp [intOf]; omega
      | true =>
        have HN2 := Lib.hid (firstAt_at HN.out hlk.out HV.out)
        go_wp2
        go_ret
        exact ⟨ret_int (HN2.out.symm.trans HRR.out.symm), rfl⟩
    · obtain rfl : k = 30 := by omega
      have HN2 := Lib.hid (firstAt_end HN.out (by simp))
      go_wp2
      go_ret
      exact ⟨ret_int (HN2.out.symm.trans HRR.out.symm), rfl⟩

/-- What is no node stays as it is; new nodes lie in new memory. -/
structure KeepFar (w : World) (M : Bool → List Bool → Option (Nat × Nat)) (w' : World) (M' : Bool → List Bool → Option (Nat × Nat)) : Prop where
  le : w.heap.size ≤ w'.heap.size
  new : ∀ s q b o, M' s q = some (b, o) → (∃ s q o, M s q = some (b, o)) ∨ w.heap.size ≤ b
  same : ∀ g, g < w.heap.size → (∀ s q b o, M s q = some (b, o) → b ≠ g) → w'.heap[g]? = w.heap[g]?
theorem KeepFar.refl (w : World) (M : Bool → List Bool → Option (Nat × Nat)) : KeepFar w M w M := ⟨Nat.le_refl _, fun s q _b o h => .inl ⟨s, q, o, h⟩, fun _ _ _ => rfl⟩
theorem KeepFar.below {w w' w2 : World} {M M' : Bool → List Bool → Option (Nat × Nat)} (h : KeepFar w M w' M') (hb : Below w'.heap.size w' w2) : KeepFar w M w2 M' :=
  ⟨Nat.le_trans h.le hb.size, h.new, fun g hg hf => (hb.block g (Nat.lt_of_lt_of_le hg h.le)).trans (h.same g hg hf)⟩
theorem KeepFar.set_ {w w' : World} {M M' : Bool → List Bool → Option (Nat × Nat)} (h : KeepFar w M w' M') {s : Bool} {q : List Bool} {b o : Nat} (hb : M' s q = some (b, o)) (j : Nat) (v : Value) : KeepFar w M (w'.setCell ⟨b, j, none⟩ v) M' := by
  refine ⟨by simpa using h.le, h.new, fun g hg hf => ?_⟩
  have hne : g ≠ b := by
    rcases h.new _ _ _ _ hb with ⟨s2, q2, o2, h2⟩ | h2
    · exact fun he => hf _ _ _ _ h2 he.symm
    · omega
  exact (Below.heap_setCell w' ⟨b, j, none⟩ v g hne).trans (h.same g hg hf)
theorem KeepFar.grow {w w' : World} {M M' : Bool → List Bool → Option (Nat × Nat)} (h : KeepFar w M w' M') (s : Bool) (q : List Bool) (n : Nat) (hn : w'.heap.size = n) (ob : Obj) : KeepFar w M (w'.alloc ob) (updM M' s q (n, 0)) := by
  have h1 := h.below ((Below.refl _ _).alloc (Nat.le_refl _) ob)
  refine ⟨h1.le, fun s' q' b o hm => ?_, h1.same⟩
  unfold updM at hm
  split at hm
  · injection hm with hm
    injection hm with e1 e2
    have := h.le
    omega
  · exact h.new _ _ _ _ hm
/-- What one put leaves: one more mark, maybe new nodes. -/
def PutOk (w : World) (base tb : Nat) (M : Bool → List Bool → Option (Nat × Nat)) (H : Bool → List Bool → Nat) (s : Bool) (q : List Bool) (x : Nat) (e : Ending) (w' : World) : Prop :=
  e = .returned (.tuple #[]) ∧ (∃ M', NodesOk w' base tb M' (updH H s q x) ∧ KeepFar w M w' M') ∧ Below base w w'
/-- A world with the trees, and a block that is none of theirs. -/
structure TreesAt (w : World) (base tb g : Nat) (t : TypeId) (cs : Array Value) (M : Bool → List Bool → Option (Nat × Nat)) (H : Bool → List Bool → Nat) : Prop where
  ok : NodesOk w base tb M H
  blk : Blk w g t cs
  far : ∀ s q b o, M s q = some (b, o) → b ≠ g
theorem TreesAt.below {w w' : World} {base tb g : Nat} {t : TypeId} {cs : Array Value} {M : Bool → List Bool → Option (Nat × Nat)} {H : Bool → List Bool → Nat} (h : TreesAt w base tb g t cs M H) (hb : Below w.heap.size w w') : TreesAt w' base tb g t cs M H :=
  ⟨h.ok.below hb, h.blk.below hb h.blk.lt, h.far⟩
theorem TreesAt.grow {w : World} {base tb g : Nat} {t : TypeId} {cs : Array Value} {M : Bool → List Bool → Option (Nat × Nat)} {H : Bool → List Bool → Nat} (h : TreesAt w base tb g t cs M H) {s : Bool} {q : List Bool} {b o : Nat} {c : Bool} (hb : M s q = some (b, o)) (hn : M s (q ++ [c]) = none) (hbase : base ≤ w.heap.size) (t' : TypeId) :
    TreesAt ((w.alloc (.cells #[.int .u64 0, .pointer none, .pointer none] t')).setCell ⟨b, kidOff o c, none⟩ (.pointer (some ⟨w.heap.size, 0, none⟩))) base tb g t cs (updM M s (q ++ [c]) (w.heap.size, 0)) H := by
  refine ⟨h.ok.grow hb hn hbase t', ?_, ?_⟩
  · exact (h.blk.alloc _).far (by show g ≠ b; exact fun he => h.far _ _ _ _ hb he.symm) _
  · intro s' q' b' o' hm
    unfold updM at hm
    split at hm
    · injection hm with hm
      injection hm with e1 e2
      have := h.blk.lt
      omega
    · exact h.far _ _ _ _ hm
theorem updM_at (M : Bool → List Bool → Option (Nat × Nat)) (s : Bool) (q : List Bool) (x : Nat × Nat) : updM M s q x s q = some x := by unfold updM; rw [if_pos ⟨rfl, rfl⟩]

theorem or_place (x p : Nat) (hx : x < 2 ^ 30) (hp : p < 30) : bits .or .u64 (x : Int) ((2 ^ p : Nat) : Int) = ((x ||| 2 ^ p : Nat) : Int) := by
  have h1 : (2 : Nat) ^ p < 2 ^ 30 := Nat.pow_lt_pow_right (by decide) hp
  have e30 : (2 : Nat) ^ 30 = 1073741824 := by decide
  generalize 2 ^ p = y at *
  rw [u64_or _ _ (by omega) (by omega) (by omega) (by omega)]
  simp

set_option maxRecDepth 100000 in
set_option maxHeartbeats 1600000 in
theorem nodePut_any {w : World} {base tb : Nat} {M : Bool → List Bool → Option (Nat × Nat)} {H : Bool → List Bool → Nat} (h : NodesOk w base tb M H) (hbase : base ≤ w.heap.size) (s six : Bool) (hi lo : Int) (n place : Nat) (hp : Pfx six hi lo n) (hpl : place < 30) (hH : ∀ q, H s q < 2 ^ 30) :
    Calls Try.prog 164 #[.pointer (some ⟨tb, if s then 3 else 0, none⟩), .agg #[.bool six, .int .u64 hi, .int .u64 lo, .int .i64 n], .int .i64 place] w (PutOk w base tb M H s (pathA six hi lo n) (H s (pathA six hi lo n) ||| 2 ^ place)) := by
  have r1 := hp.rhi
  have r2 := hp.rlo
  have r3 := hp.len
  have CA := Lib.hid (fun i h3 h4 w => at_any six hi lo i w r1 r2 h3 h4)
  have HB01 := Lib.hid (fun i => bitI_01 six hi lo i)
  have HTO : Hid (TreesAt (w.alloc (.cells #[.bool six, .int .u64 hi, .int .u64 lo, .int .i64 n] 35)) base tb w.heap.size 35 #[.bool six, .int .u64 hi, .int .u64 lo, .int .i64 n] M H) :=
    ⟨h.below ((Below.refl _ _).alloc (Nat.le_refl _) _), Blk.new _ _ _, fun s q b o hm => by have := (h.place s q b o hm).2; omega⟩
  have hroot := h.root s
  obtain ⟨o0, ho0⟩ : ∃ o0, (if s then 3 else 0) = o0 := ⟨_, rfl⟩
  rw [ho0] at hroot ⊢
  have HW : Hid (wideI six ≤ 128) := by show _ ≤ _; unfold wideI; split <;> omega
  have HR3 := Lib.hid r3.2
  have HOR := Lib.hid (fun q => or_place (H s q) place (hH q) hpl)
  have hn128 : n ≤ 128 := by have := HW.out; have := r3.2; omega
  unfold PutOk
  obtain ⟨M0, hM0⟩ : ∃ M0, M0 = M := ⟨_, rfl⟩
  have HKF0 : Hid (KeepFar w M0 (w.alloc (.cells #[.bool six, .int .u64 hi, .int .u64 lo, .int .i64 n] 35)) M) := by rw [hM0]; exact (KeepFar.refl w M).below ((Below.refl _ _).alloc (Nat.le_refl _) _)
  rw [← hM0]
  clear hM0
  clear h hp r1 r2 r3 hH ho0
  go_enter Try.func164, Try.ntmps164
  go_wp2
  go_loopw [10, 0, 6, 7] (fun i p _ _ wr => ∃ k : Nat, k ≤ n ∧ i = .int .i64 k ∧ ∃ M b o, TreesAt wr base tb w.heap.size 35 #[.bool six, .int .u64 hi, .int .u64 lo, .int .i64 n] M H ∧ M s (pathA six hi lo k) = some (b, o) ∧ p = .pointer (some ⟨b, o, none⟩) ∧ Below base w wr ∧ w.heap.size < wr.heap.size ∧ KeepFar w M0 wr M) (fun i _ _ _ _ => n - (intOf i).toNat)
  case atStart => exact ⟨0, by omega, rfl, M, tb, _, HTO.out, hroot, rfl, (Below.refl _ _).alloc hbase _, by simp, HKF0.out⟩
  case round =>
    obtain ⟨k, hk, rfl, M', b, o, hT, hM, rfl, hbl, hsz, hkf⟩ := hrel
    have HKF := Lib.hid hkf
    clear hkf HKF0
    clear hroot HTO
    have HT := Lib.hid hT
    have HBL := Lib.hid hbl
    have HM := Lib.hid hM
    have c0 := hT.blk.cell 0
    have c1 := hT.blk.cell 1
    have c2 := hT.blk.cell 2
    have c3 := hT.blk.cell 3
    simp at c0 c1 c2 c3
    obtain ⟨v0, v1, v2⟩ := hT.ok.cell _ _ _ _ hM
    obtain ⟨z0, z1, z2⟩ := hT.ok.free _ _ _ _ hM
    obtain ⟨pl1, pl2⟩ := hT.ok.place _ _ _ _ hM
    obtain ⟨wo, rfl⟩ : ∃ wo : World, wo = wr := ⟨_, rfl⟩
    clear hT hbl hM
    by_cases hlt : k < n
    · have hps := Lib.hid (pathA_succ six hi lo k)
      have CK := Lib.hid (fun w => CA.out (k : Int) (by omega) (by have := HR3.out; omega) w)
      have hbit : bitI six hi lo k = 0 ∨ bitI six hi lo k = 1 := by have := HB01.out (k : Int); omega
      rcases hbit with hbit | hbit
      · rw [hbit] at CK
        have hpath : Hid (pathA six hi lo (k + 1) = pathA six hi lo k ++ [false]) := by show _ = _; rw [hps.out, hbit]; simp
        cases hkid : M' s (pathA six hi lo k ++ [false]) with
        | none =>
          rw [hkid] at v1
          simp only [ptrM] at v1
          have HK := Lib.hid hkid
          clear hkid hbit
          go_wp2_with fail
          go_region_held3 (fun w' => (∀ b o, b < wo.heap.size → w'.cell? ⟨b, o, none⟩ = wo.cell? ⟨b, o, none⟩) ∧ wo.heap.size ≤ w'.heap.size ∧ Hid (Below wo.heap.size wo w'))
            ((first | assumption | exact keep0 _ | exact keep1 (by assumption) (by assumption) | exact keepD (by assumption) | exact keepB (by assumption) (by assumption) | exact keepA (by assumption) _ | exact ⟨fun _ _ _ => rfl, Nat.le_refl _, Below.refl _ _⟩))
            (first | (go_at_call 165; (with_reducible refine (CK.out _).mono ?_); rintro e w2 ⟨rfl, hb2⟩; obtain ⟨fc2, ff2⟩ := bcell hb2; have hz2 := hb2.size))
          obtain ⟨fc9, z9, HH⟩ : (∀ b o, b < wo.heap.size → w2.cell? ⟨b, o, none⟩ = wo.cell? ⟨b, o, none⟩) ∧ wo.heap.size ≤ w2.heap.size ∧ Hid (Below wo.heap.size wo w2) := by assumption
          have hT2 := HT.out.below HH.out
          obtain ⟨y0, y1, y2⟩ := hT2.ok.free _ _ _ _ HM.out
          have k1 := HH.out.size
          have pl3 : b < w2.heap.size := by omega
          have hG := hT2.grow (c := false) HM.out HK.out (by omega) 155
          rw [World.setCell_alloc_past _ _ _ _ pl3] at hG
          have HG := Lib.hid hG
          have HKG := Lib.hid ((((HKF.out.below HH.out).set_ HM.out (o + 1) (.pointer (some ⟨w2.heap.size, 0, none⟩)))).grow s (pathA six hi lo k ++ [false]) w2.heap.size (by simp) (.cells #[.int .u64 0, .pointer none, .pointer none] 155))
          clear hG
          have HT2 := Lib.hid hT2
          clear hT2 ff2 hz2 z0 z1 z2
          go_wp2
          go_roundw
          case rel => exact ⟨k + 1, by omega, by go_num, _, w2.heap.size, 0, HG.out, by rw [hpath.out]; exact updM_at _ _ _ _, rfl, ((HBL.out.trans (HH.out.mono (by omega))).setCell (show base ≤ (⟨b, o + 1, none⟩ : Addr).block from pl1) _).alloc (by simp; omega) _, by simp; omega, HKG.out⟩
          case measure => simp [intOf]; omega
        | some x =>
          obtain ⟨b', o'⟩ := x
          rw [hkid] at v1
          simp only [ptrM] at v1
          have HK := Lib.hid hkid
          clear hkid hbit
          go_wp2_with fail
          go_region_held3 (fun w' => (∀ b o, b < wo.heap.size → w'.cell? ⟨b, o, none⟩ = wo.cell? ⟨b, o, none⟩) ∧ wo.heap.size ≤ w'.heap.size ∧ Hid (Below wo.heap.size wo w'))
            ((first | assumption | exact keep0 _ | exact keep1 (by assumption) (by assumption) | exact keepD (by assumption) | exact keepB (by assumption) (by assumption) | exact keepA (by assumption) _ | exact ⟨fun _ _ _ => rfl, Nat.le_refl _, Below.refl _ _⟩))
            (first | (go_at_call 165; (with_reducible refine (CK.out _).mono ?_); rintro e w2 ⟨rfl, hb2⟩; obtain ⟨fc2, ff2⟩ := bcell hb2; have hz2 := hb2.size))
          obtain ⟨fc9, z9, HH⟩ : (∀ b o, b < wo.heap.size → w2.cell? ⟨b, o, none⟩ = wo.cell? ⟨b, o, none⟩) ∧ wo.heap.size ≤ w2.heap.size ∧ Hid (Below wo.heap.size wo w2) := by assumption
          have hT2 := HT.out.below HH.out
          have k1 := HH.out.size
          have HT2 := Lib.hid hT2
          clear hT2 ff2 hz2 z0 z1 z2
          go_wp2
          go_roundw
          case rel => exact ⟨k + 1, by omega, by go_num, M', b', o', HT2.out, by rw [hpath.out]; exact HK.out, rfl, HBL.out.trans (HH.out.mono (by omega)), by omega, HKF.out.below HH.out⟩
          case measure => simp [intOf]; omega
      · rw [hbit] at CK
        have hpath : Hid (pathA six hi lo (k + 1) = pathA six hi lo k ++ [true]) := by show _ = _; rw [hps.out, hbit]; simp
        cases hkid : M' s (pathA six hi lo k ++ [true]) with
        | none =>
          rw [hkid] at v2
          simp only [ptrM] at v2
          have HK := Lib.hid hkid
          clear hkid hbit
          go_wp2_with fail
          go_region_held3 (fun w' => (∀ b o, b < wo.heap.size → w'.cell? ⟨b, o, none⟩ = wo.cell? ⟨b, o, none⟩) ∧ wo.heap.size ≤ w'.heap.size ∧ Hid (Below wo.heap.size wo w'))
            ((first | assumption | exact keep0 _ | exact keep1 (by assumption) (by assumption) | exact keepD (by assumption) | exact keepB (by assumption) (by assumption) | exact keepA (by assumption) _ | exact ⟨fun _ _ _ => rfl, Nat.le_refl _, Below.refl _ _⟩))
            (first | (go_at_call 165; (with_reducible refine (CK.out _).mono ?_); rintro e w2 ⟨rfl, hb2⟩; obtain ⟨fc2, ff2⟩ := bcell hb2; have hz2 := hb2.size))
          obtain ⟨fc9, z9, HH⟩ : (∀ b o, b < wo.heap.size → w2.cell? ⟨b, o, none⟩ = wo.cell? ⟨b, o, none⟩) ∧ wo.heap.size ≤ w2.heap.size ∧ Hid (Below wo.heap.size wo w2) := by assumption
          have hT2 := HT.out.below HH.out
          obtain ⟨y0, y1, y2⟩ := hT2.ok.free _ _ _ _ HM.out
          have k1 := HH.out.size
          have pl3 : b < w2.heap.size := by omega
          have hG := hT2.grow (c := true) HM.out HK.out (by omega) 155
          rw [World.setCell_alloc_past _ _ _ _ pl3] at hG
          have HG := Lib.hid hG
          have HKG := Lib.hid ((((HKF.out.below HH.out).set_ HM.out (o + 1 + 1) (.pointer (some ⟨w2.heap.size, 0, none⟩)))).grow s (pathA six hi lo k ++ [true]) w2.heap.size (by simp) (.cells #[.int .u64 0, .pointer none, .pointer none] 155))
          clear hG
          have HT2 := Lib.hid hT2
          clear hT2 ff2 hz2 z0 z1 z2
          go_wp2
          go_roundw
          case rel => exact ⟨k + 1, by omega, by go_num, _, w2.heap.size, 0, HG.out, by rw [hpath.out]; exact updM_at _ _ _ _, rfl, ((HBL.out.trans (HH.out.mono (by omega))).setCell (show base ≤ (⟨b, o + 1 + 1, none⟩ : Addr).block from pl1) _).alloc (by simp; omega) _, by simp; omega, HKG.out⟩
          case measure => simp [intOf]; omega
        | some x =>
          obtain ⟨b', o'⟩ := x
          rw [hkid] at v2
          simp only [ptrM] at v2
          have HK := Lib.hid hkid
          clear hkid hbit
          go_wp2_with fail
          go_region_held3 (fun w' => (∀ b o, b < wo.heap.size → w'.cell? ⟨b, o, none⟩ = wo.cell? ⟨b, o, none⟩) ∧ wo.heap.size ≤ w'.heap.size ∧ Hid (Below wo.heap.size wo w'))
            ((first | assumption | exact keep0 _ | exact keep1 (by assumption) (by assumption) | exact keepD (by assumption) | exact keepB (by assumption) (by assumption) | exact keepA (by assumption) _ | exact ⟨fun _ _ _ => rfl, Nat.le_refl _, Below.refl _ _⟩))
            (first | (go_at_call 165; (with_reducible refine (CK.out _).mono ?_); rintro e w2 ⟨rfl, hb2⟩; obtain ⟨fc2, ff2⟩ := bcell hb2; have hz2 := hb2.size))
          obtain ⟨fc9, z9, HH⟩ : (∀ b o, b < wo.heap.size → w2.cell? ⟨b, o, none⟩ = wo.cell? ⟨b, o, none⟩) ∧ wo.heap.size ≤ w2.heap.size ∧ Hid (Below wo.heap.size wo w2) := by assumption
          have hT2 := HT.out.below HH.out
          have k1 := HH.out.size
          have HT2 := Lib.hid hT2
          clear hT2 ff2 hz2 z0 z1 z2
          go_wp2
          go_roundw
          case rel => exact ⟨k + 1, by omega, by go_num, M', b', o', HT2.out, by rw [hpath.out]; exact HK.out, rfl, HBL.out.trans (HH.out.mono (by omega)), by omega, HKF.out.below HH.out⟩
          case measure => simp [intOf]; omega
    · obtain rfl : k = n := by omega
      go_wp2
      go_region
      have hw2 : bits .or .u64 ((H s (pathA six hi lo k) : Nat) : Int) (IntKind.u64.wrap (2 ^ place)) = ((H s (pathA six hi lo k) ||| 2 ^ place : Nat) : Int) := by
        rw [← HOR.out]
        congr 1
        have h1 : (2 : Nat) ^ place < 2 ^ 30 := Nat.pow_lt_pow_right (by decide) hpl
        have e30 : (2 : Nat) ^ 30 = 1073741824 := by decide
        have h2 : ((2 ^ place : Nat) : Int) = 2 ^ place := by simp
        rw [← h2]
        generalize 2 ^ place = y at *
        unfold IntKind.wrap
        simp [IntKind.bits, IntKind.signed]
        omega
      rw [hw2]
      go_end0
      exact ⟨rfl, ⟨_, (HT.out.ok.mark HM.out _).below (Below.refl _ _).drew, (HKF.out.set_ HM.out _ _).below (Below.refl _ _).drew⟩, (HBL.out.setCell (by exact pl1) _).drew⟩

theorem nodes_drew {w : World} {base tb : Nat} {M : Bool → List Bool → Option (Nat × Nat)} {H : Bool → List Bool → Nat} (h : NodesOk w base tb M H) : NodesOk w.drew base tb M H := h.below (Below.refl _ _).drew

theorem or_words (x y : Nat) (hx : x < 2 ^ 30) (hy : y < 2 ^ 30) : bits .or .u64 (x : Int) (y : Int) = ((x ||| y : Nat) : Int) := by
  have e30 : (2 : Nat) ^ 30 = 1073741824 := by decide
  rw [u64_or _ _ (by omega) (by omega) (by omega) (by omega)]
  simp
theorem and_words (x y : Nat) (hx : x < 2 ^ 30) (hy : y < 2 ^ 30) : bits .and .u64 (x : Int) (y : Int) = ((x &&& y : Nat) : Int) := by
  have e30 : (2 : Nat) ^ 30 = 1073741824 := by decide
  rw [u64_and _ _ (by omega) (by omega) (by omega) (by omega)]
  simp

set_option maxRecDepth 100000 in
set_option maxHeartbeats 1600000 in
theorem nodeFind_any {w : World} {base tb : Nat} {M : Bool → List Bool → Option (Nat × Nat)} {H : Bool → List Bool → Nat} (h : NodesOk w base tb M H) (s : Bool) (a : AV) (ha : a.Ok) (hH : ∀ q, H s q < 2 ^ 30) :
    Calls Try.prog 93 #[.pointer (some ⟨tb, if s then 3 else 0, none⟩), .agg #[.bool a.six, .int .u64 a.hi, .int .u64 a.lo]] w fun e w' => e = .returned (.int .u64 (orTo (H s) a.six a.hi a.lo (widN a.six))) ∧ Below w.heap.size w w' := by
  have r1 := ha.rhi
  have r2 := ha.rlo
  have hwid := widN_eq a.six
  obtain ⟨six, hi, lo⟩ := a
  simp only at r1 r2 hwid ⊢
  have CA := Lib.hid (fun i h3 h4 w => at_any six hi lo i w r1 r2 h3 h4)
  have CW := Lib.hid (fun w => wide_any six w)
  rw [hwid] at CW CA
  have HB01 := Lib.hid (fun i => bitI_01 six hi lo i)
  have hroot := h.root s
  obtain ⟨o0, ho0⟩ : ∃ o0, (if s then 3 else 0) = o0 := ⟨_, rfl⟩
  rw [ho0] at hroot ⊢
  have h0 := Lib.hid (h.below ((Below.refl w.heap.size w).alloc (Nat.le_refl _) (.cells #[.bool six, .int .u64 hi, .int .u64 lo] 24)))
  have HOR := Lib.hid (fun q q2 => or_words (orTo (H s) six hi lo q) (H s q2) (orTo_lt hH six hi lo q) (hH q2))
  have v00 := (h0.out.cell _ _ _ _ hroot).1
  have HROOT := Lib.hid hroot
  have HK0 := Lib.hid (Blk.new w 24 #[.bool six, .int .u64 hi, .int .u64 lo])
  have HNF := Lib.hid (fun i hn => h.none_far (s := s) (six := six) (hi := hi) (lo := lo) (i := i) hn)
  have HW128 : Hid (widN six ≤ 128) := by show _ ≤ _; cases six <;> decide
  clear h ha r1 r2 ho0 hwid hroot hH
  go_enter Try.func93, Try.ntmps93
  go_wp2
  go_loopw [6, 5, 0] (fun i out p wr => ∃ (k : Nat) (b o : Nat), k ≤ widN six ∧ i = .int .i64 k ∧ out = .int .u64 (orTo (H s) six hi lo k) ∧ M s (pathA six hi lo k) = some (b, o) ∧ p = .pointer (some ⟨b, o, none⟩) ∧ Below (w.heap.size + 1) (w.alloc (.cells #[.bool six, .int .u64 hi, .int .u64 lo] 24)) wr) (fun i _ _ _ => widN six - (intOf i).toNat)
  case atStart => exact ⟨0, tb, o0, by omega, rfl, rfl, HROOT.out, rfl, Below.refl _ _⟩
  case round =>
    obtain ⟨k, b, o, hk, rfl, rfl, hM, rfl, hbl⟩ := hrel
    clear v00
    obtain ⟨wo, rfl⟩ : ∃ wo : World, wo = wr := ⟨_, rfl⟩
    have hok : NodesOk wo base tb M H := h0.out.below (by simpa using hbl)
    have hblk := HK0.out.below hbl (by omega)
    have c0 := hblk.cell 0
    have c1 := hblk.cell 1
    have c2 := hblk.cell 2
    simp at c0 c1 c2
    have hb0 : Below w.heap.size w wo := ((Below.refl w.heap.size w).alloc (Nat.le_refl _) _).trans (hbl.mono (by omega))
    have lz : w.heap.size < wo.heap.size := hblk.lt
    have HOK := Lib.hid hok
    have HBL := Lib.hid hbl
    have HB0 := Lib.hid hb0
    have HM := Lib.hid hM
    obtain ⟨v0, v1, v2⟩ := hok.cell _ _ _ _ hM
    obtain ⟨pl1, pl2⟩ := hok.place _ _ _ _ hM
    clear hok hblk hbl hb0 hM
    by_cases hlt : k < widN six
    · have hps := Lib.hid (pathA_succ six hi lo k)
      have hk128 : k < 128 := by have := HW128.out; omega
      have CK := Lib.hid (fun w => CA.out (k : Int) (by omega) (by omega) w)
      have hbit : bitI six hi lo k = 0 ∨ bitI six hi lo k = 1 := by have := HB01.out (k : Int); omega
      rcases hbit with hbit | hbit
      · rw [hbit] at CK
        have hpath : Hid (pathA six hi lo (k + 1) = pathA six hi lo k ++ [false]) := by show _ = _; rw [hps.out, hbit]; simp
        cases hkid : M s (pathA six hi lo k ++ [false]) with
        | none =>
          have HST : Hid (orTo (H s) six hi lo (widN six) = orTo (H s) six hi lo k) := by
            show _ = _
            obtain ⟨d, hd⟩ : ∃ d, widN six = k + d := ⟨widN six - k, by omega⟩
            rw [hd]
            exact orTo_stop (fun m hm => HNF.out (k + 1) (by rw [hpath.out]; exact hkid) m hm) d
          rw [hkid] at v1
          simp only [ptrM] at v1
          clear hkid hbit
          go_wp2_with fail
          refine (CW.out _).mono ?_
          rintro e w1 ⟨rfl, rfl⟩
          go_wp2_with fail
          go_region_held3 (fun w' => (∀ b o, b < wo.heap.size → w'.cell? ⟨b, o, none⟩ = wo.cell? ⟨b, o, none⟩) ∧ wo.heap.size ≤ w'.heap.size ∧ Hid (Below wo.heap.size wo w'))
            ((first | assumption | exact keep0 _ | exact keep1 (by assumption) (by assumption) | exact keepD (by assumption) | exact keepB (by assumption) (by assumption) | exact keepA (by assumption) _ | exact ⟨fun _ _ _ => rfl, Nat.le_refl _, Below.refl _ _⟩))
            (first | (go_at_call 165; (with_reducible refine (CK.out _).mono ?_); rintro e w2 ⟨rfl, hb2⟩; obtain ⟨fc2, ff2⟩ := bcell hb2; have hz2 := hb2.size))
          obtain ⟨fc9, z9, HH⟩ : (∀ b o, b < wo.heap.size → w2.cell? ⟨b, o, none⟩ = wo.cell? ⟨b, o, none⟩) ∧ wo.heap.size ≤ w2.heap.size ∧ Hid (Below wo.heap.size wo w2) := by assumption
          go_wp2
          go_ret
          exact ⟨by rw [HST.out]; rfl, HB0.out.trans (HH.out.mono (by omega))⟩
        | some x =>
          obtain ⟨b', o'⟩ := x
          rw [hkid] at v1
          simp only [ptrM] at v1
          have HK := Lib.hid hkid
          obtain ⟨t0, t1, t2⟩ := HOK.out.cell _ _ _ _ hkid
          obtain ⟨pk1, pk2⟩ := HOK.out.place _ _ _ _ hkid
          have HO := HOR.out k (pathA six hi lo k ++ [false])
          have HS : Hid (orTo (H s) six hi lo (k + 1) = orTo (H s) six hi lo k ||| H s (pathA six hi lo k ++ [false])) := by show _ = _; rw [← hpath.out]; rfl
          generalize H s (pathA six hi lo k ++ [false]) = y at *
          generalize orTo (H s) six hi lo k = x at *
          clear hkid hbit t1 t2
          go_wp2_with fail
          refine (CW.out _).mono ?_
          rintro e w1 ⟨rfl, rfl⟩
          go_wp2_with fail
          go_region_held3 (fun w' => (∀ b o, b < wo.heap.size → w'.cell? ⟨b, o, none⟩ = wo.cell? ⟨b, o, none⟩) ∧ wo.heap.size ≤ w'.heap.size ∧ Hid (Below wo.heap.size wo w'))
            ((first | assumption | exact keep0 _ | exact keep1 (by assumption) (by assumption) | exact keepD (by assumption) | exact keepB (by assumption) (by assumption) | exact keepA (by assumption) _ | exact ⟨fun _ _ _ => rfl, Nat.le_refl _, Below.refl _ _⟩))
            (first | (go_at_call 165; (with_reducible refine (CK.out _).mono ?_); rintro e w2 ⟨rfl, hb2⟩; obtain ⟨fc2, ff2⟩ := bcell hb2; have hz2 := hb2.size))
          obtain ⟨fc9, z9, HH⟩ : (∀ b o, b < wo.heap.size → w2.cell? ⟨b, o, none⟩ = wo.cell? ⟨b, o, none⟩) ∧ wo.heap.size ≤ w2.heap.size ∧ Hid (Below wo.heap.size wo w2) := by assumption
          go_wp2
          go_roundw
          case rel => exact ⟨k + 1, b', o', by omega, by go_num, by rw [HS.out], by rw [hpath.out]; exact HK.out, rfl, HBL.out.trans (HH.out.mono (by omega))⟩
          case measure => simp [intOf]; omega
      · rw [hbit] at CK
        have hpath : Hid (pathA six hi lo (k + 1) = pathA six hi lo k ++ [true]) := by show _ = _; rw [hps.out, hbit]; simp
        cases hkid : M s (pathA six hi lo k ++ [true]) with
        | none =>
          have HST : Hid (orTo (H s) six hi lo (widN six) = orTo (H s) six hi lo k) := by
            show _ = _
            obtain ⟨d, hd⟩ : ∃ d, widN six = k + d := ⟨widN six - k, by omega⟩
            rw [hd]
            exact orTo_stop (fun m hm => HNF.out (k + 1) (by rw [hpath.out]; exact hkid) m hm) d
          rw [hkid] at v2
          simp only [ptrM] at v2
          clear hkid hbit
          go_wp2_with fail
          refine (CW.out _).mono ?_
          rintro e w1 ⟨rfl, rfl⟩
          go_wp2_with fail
          go_region_held3 (fun w' => (∀ b o, b < wo.heap.size → w'.cell? ⟨b, o, none⟩ = wo.cell? ⟨b, o, none⟩) ∧ wo.heap.size ≤ w'.heap.size ∧ Hid (Below wo.heap.size wo w'))
            ((first | assumption | exact keep0 _ | exact keep1 (by assumption) (by assumption) | exact keepD (by assumption) | exact keepB (by assumption) (by assumption) | exact keepA (by assumption) _ | exact ⟨fun _ _ _ => rfl, Nat.le_refl _, Below.refl _ _⟩))
            (first | (go_at_call 165; (with_reducible refine (CK.out _).mono ?_); rintro e w2 ⟨rfl, hb2⟩; obtain ⟨fc2, ff2⟩ := bcell hb2; have hz2 := hb2.size))
          obtain ⟨fc9, z9, HH⟩ : (∀ b o, b < wo.heap.size → w2.cell? ⟨b, o, none⟩ = wo.cell? ⟨b, o, none⟩) ∧ wo.heap.size ≤ w2.heap.size ∧ Hid (Below wo.heap.size wo w2) := by assumption
          go_wp2
          go_ret
          exact ⟨by rw [HST.out]; rfl, HB0.out.trans (HH.out.mono (by omega))⟩
        | some x =>
          obtain ⟨b', o'⟩ := x
          rw [hkid] at v2
          simp only [ptrM] at v2
          have HK := Lib.hid hkid
          obtain ⟨t0, t1, t2⟩ := HOK.out.cell _ _ _ _ hkid
          obtain ⟨pk1, pk2⟩ := HOK.out.place _ _ _ _ hkid
          have HO := HOR.out k (pathA six hi lo k ++ [true])
          have HS : Hid (orTo (H s) six hi lo (k + 1) = orTo (H s) six hi lo k ||| H s (pathA six hi lo k ++ [true])) := by show _ = _; rw [← hpath.out]; rfl
          generalize H s (pathA six hi lo k ++ [true]) = y at *
          generalize orTo (H s) six hi lo k = x at *
          clear hkid hbit t1 t2
          go_wp2_with fail
          refine (CW.out _).mono ?_
          rintro e w1 ⟨rfl, rfl⟩
          go_wp2_with fail
          go_region_held3 (fun w' => (∀ b o, b < wo.heap.size → w'.cell? ⟨b, o, none⟩ = wo.cell? ⟨b, o, none⟩) ∧ wo.heap.size ≤ w'.heap.size ∧ Hid (Below wo.heap.size wo w'))
            ((first | assumption | exact keep0 _ | exact keep1 (by assumption) (by assumption) | exact keepD (by assumption) | exact keepB (by assumption) (by assumption) | exact keepA (by assumption) _ | exact ⟨fun _ _ _ => rfl, Nat.le_refl _, Below.refl _ _⟩))
            (first | (go_at_call 165; (with_reducible refine (CK.out _).mono ?_); rintro e w2 ⟨rfl, hb2⟩; obtain ⟨fc2, ff2⟩ := bcell hb2; have hz2 := hb2.size))
          obtain ⟨fc9, z9, HH⟩ : (∀ b o, b < wo.heap.size → w2.cell? ⟨b, o, none⟩ = wo.cell? ⟨b, o, none⟩) ∧ wo.heap.size ≤ w2.heap.size ∧ Hid (Below wo.heap.size wo w2) := by assumption
          go_wp2
          go_roundw
          case rel => exact ⟨k + 1, b', o', by omega, by go_num, by rw [HS.out], by rw [hpath.out]; exact HK.out, rfl, HBL.out.trans (HH.out.mono (by omega))⟩
          case measure => simp [intOf]; omega
    · obtain rfl : k = widN six := by omega
      go_wp2_with fail
      refine (CW.out _).mono ?_
      rintro e w2 ⟨rfl, rfl⟩
      go_wp2
      go_ret
      exact ⟨rfl, HB0.out⟩

/-- The trees of the first k matches of a family. -/
structure Planted (w : World) (base tb : Nat) (l : List MatchV) (six : Bool) (k : Nat) (M : Bool → List Bool → Option (Nat × Nat)) (H : Bool → List Bool → Nat) : Prop where
  ok : NodesOk w base tb M H
  from_ : SaysTo l six k false (H false)
  to_ : SaysTo l six k true (H true)

theorem saysTo_lt {l : List MatchV} {six sd : Bool} {k : Nat} {H : List Bool → Nat} (h : SaysTo l six k sd H) (hk : k ≤ 30) (q : List Bool) : H q < 2 ^ 30 := Nat.lt_of_lt_of_le (h.1 q) (Nat.pow_le_pow_right (by decide) hk)
theorem updH_setAt (H : Bool → List Bool → Nat) (s : Bool) (q : List Bool) (x : Nat) : updH H s q x s = setAt (H s) q x := by
  funext q'
  unfold updH setAt
  by_cases h : q' = q
  · rw [if_pos ⟨rfl, h⟩, if_pos h]
  · rw [if_neg (fun hh => h hh.2), if_neg h]
theorem updH_other (H : Bool → List Bool → Nat) (s s' : Bool) (q : List Bool) (x : Nat) (h : s' ≠ s) : updH H s q x s' = H s' := by
  funext q'
  unfold updH
  rw [if_neg (fun hh => h hh.1)]

theorem still_tail {P : Program} {id : Nat} {Q : Exit → Act → World → Prop} {a : Act} {w : World} {l : List Oper} (n : Nat) (hm : P.follows .mixedOrders = true) (hB : Region.lexTailB .any l.toArray n = true)
    (h : wpStill P l.toArray w.drew (fun a' => wpList P l.toArray Q (l.drop n) a' w.drew) (l.take n) a) : (Code.region id l.toArray true).wp P Q a w := wp_region_still_tail n hm hB h

set_option maxRecDepth 100000 in
set_option maxHeartbeats 1600000 in
theorem plant_any {A : Option Addr} {n c : Nat} {l : List MatchV} {w : World} (h : IsMatches w A n l) (hz : matchesF l = 0) (six : Bool) :
    Calls Try.prog 92 #[.slice A n c, .bool six] w fun e w' => e = .returned (.pointer (some ⟨w.heap.size, 0, none⟩)) ∧ (∃ M H, Planted w' w.heap.size w.heap.size l six n M H) ∧ Below w.heap.size w w' := by
  obtain ⟨hlen, hgood⟩ := matchesF_good hz
  have HG := Lib.hid hgood
  have HO := Lib.hid h.2.2.1
  have HZ := Lib.hid h.1
  have HR := Lib.hid h.2.2.2
  have hn30 : n ≤ 30 := by rw [← h.1]; exact hlen
  have HPUT := Lib.hid (fun (w' : World) M H s six hi lo n place (h : NodesOk w' w.heap.size w.heap.size M H) hbase => nodePut_any h hbase s six hi lo n place)
  have hnew := nodes_new w 157
  have HNEW := Lib.hid hnew
  clear h hz hlen hgood hnew
  go_enter Try.func92, Try.ntmps92
  go_wp2
  go_loopw [12, 6, 7] (fun i _ _ wr => ∃ k : Nat, k ≤ n ∧ i = .int .i64 k ∧ (∃ M H, Planted wr w.heap.size w.heap.size l six k M H) ∧ Below w.heap.size w wr ∧ w.heap.size < wr.heap.size) (fun i _ _ _ => n - (intOf i).toNat)
  case atStart => exact ⟨0, by omega, rfl, ⟨_, _, HNEW.out, saysTo_zero _ _ _, saysTo_zero _ _ _⟩, (Below.refl _ _).alloc (Nat.le_refl _) _, by simp⟩
  case round =>
    obtain ⟨k, hk, rfl, ⟨M, H, hPL⟩, hbl, hsz⟩ := hrel
    obtain ⟨wo, rfl⟩ : ∃ wo : World, wo = wr := ⟨_, rfl⟩
    by_cases hlt : k < n
    · obtain ⟨ad, ⟨msix, mhi, mlo, mn, msix2, mhi2, mlo2, mn2, mcl⟩, rfl, hlk, htk, hmem, hbk, hc0, hcj⟩ := HR.out.atS MatchV.cells_length HZ.out hlt
      have q0 := (hbl.cell (p := ad.add (k * 9)) (by rw [block_of_add]; exact hbk)).trans (hc0 _ rfl)
      have q1 := (hbl.cell (p := ⟨(ad.add (k * 9)).block, (ad.add (k * 9)).off + 1, none⟩) (by rw [block_of_add]; exact hbk)).trans (hcj 1 _ rfl)
      have q2 := (hbl.cell (p := ⟨(ad.add (k * 9)).block, (ad.add (k * 9)).off + 2, none⟩) (by rw [block_of_add]; exact hbk)).trans (hcj 2 _ rfl)
      have q3 := (hbl.cell (p := ⟨(ad.add (k * 9)).block, (ad.add (k * 9)).off + 3, none⟩) (by rw [block_of_add]; exact hbk)).trans (hcj 3 _ rfl)
      have q4 := (hbl.cell (p := ⟨(ad.add (k * 9)).block, (ad.add (k * 9)).off + 4, none⟩) (by rw [block_of_add]; exact hbk)).trans (hcj 4 _ rfl)
      have q5 := (hbl.cell (p := ⟨(ad.add (k * 9)).block, (ad.add (k * 9)).off + 5, none⟩) (by rw [block_of_add]; exact hbk)).trans (hcj 5 _ rfl)
      have q6 := (hbl.cell (p := ⟨(ad.add (k * 9)).block, (ad.add (k * 9)).off + 6, none⟩) (by rw [block_of_add]; exact hbk)).trans (hcj 6 _ rfl)
      have q7 := (hbl.cell (p := ⟨(ad.add (k * 9)).block, (ad.add (k * 9)).off + 7, none⟩) (by rw [block_of_add]; exact hbk)).trans (hcj 7 _ rfl)
      have q8 := (hbl.cell (p := ⟨(ad.add (k * 9)).block, (ad.add (k * 9)).off + 8, none⟩) (by rw [block_of_add]; exact hbk)).trans (hcj 8 _ rfl)
      obtain ⟨g1, g2, g3, _, _⟩ := HG.out _ hmem
      obtain ⟨o1, o2, o3, o4⟩ := HO.out _ hmem
      simp only at g1 g2 g3 o1 o2 o3 o4
      have hLK := Lib.hid hlk
      have HBL := Lib.hid hbl
      by_cases h6 : msix = six
      · have p1 := chk_zero o1 o2 g1
        have p2 := chk_zero o3 o4 g2
        obtain ⟨m1, rfl⟩ : ∃ m : Nat, mn = m := ⟨mn.toNat, by have := p1.len; omega⟩
        obtain ⟨m2, rfl⟩ : ∃ m : Nat, mn2 = m := ⟨mn2.toNat, by have := p2.len; omega⟩
        have P1 := Lib.hid p1
        have P2 := Lib.hid p2
        obtain ⟨hok, hs0, hs1⟩ := hPL
        have HOK := Lib.hid hok
        have HS0 := Lib.hid hs0
        have HS1 := Lib.hid hs1
        have HPT1 := Lib.hid (saysTo_put hs0 hlk h6)
        have HPT2 := Lib.hid (saysTo_put hs1 hlk h6)
        subst h6
        clear hlk htk hmem hbk hc0 hcj hbl g1 g2 g3 o1 o2 o3 o4 p1 p2 hok hs0 hs1
        go_wp2_with fail
        obtain ⟨X, hX⟩ : ∃ X, (wo.alloc (.cells #[.bool msix, .int .u64 mhi, .int .u64 mlo, .int .i64 m1, .bool msix2, .int .u64 mhi2, .int .u64 mlo2, .int .i64 m2, .int .i64 mcl] 145)) = X := ⟨_, rfl⟩
        have kX : Blk X wo.heap.size 145 #[.bool msix, .int .u64 mhi, .int .u64 mlo, .int .i64 m1, .bool msix2, .int .u64 mhi2, .int .u64 mlo2, .int .i64 m2, .int .i64 mcl] := by rw [← hX]; exact Blk.new _ _ _
        have d0 := kX.cell 0
        have d1 := kX.cell 1
        have d2 := kX.cell 2
        have d3 := kX.cell 3
        simp at d0 d1 d2 d3
        rw [hX]
        refine still_tail 6 (by kernel_rfl) (by kernel_rfl) ?_
        simp only [List.take_succ_cons, List.take_zero, List.drop_succ_cons, List.drop_zero]
        repeat still_step
        try refine wpStill_nil ?_
        have pl := HOK.out.place
        have hX1 : Below wo.heap.size wo X := by rw [← hX]; exact (Below.refl _ _).alloc (Nat.le_refl _) _
        have zX := kX.lt
        have HOKX := HOK.out.below (hX1.trans ((Below.refl _ _).drew))
        have C1 := Lib.hid (nodePut_any (base := w.heap.size) (tb := w.heap.size) HOKX (by show w.heap.size ≤ X.heap.size; omega) false msix mhi mlo m1 k P1.out (by omega) (saysTo_lt HS0.out (by omega)))
        have HFAR : Hid (∀ s q b o, M s q = some (b, o) → b ≠ wo.heap.size) := fun s q b o h => by have := (pl s q b o h).2; omega
        have HXX := Lib.hid hX1
        have KX := Lib.hid kX
        unfold PutOk at C1
        simp only [Bool.false_eq_true, if_false] at C1
        clear d0 d1 d2 d3 q0 q1 q2 q3 q4 q5 q6 q7 q8 hX kX hX1 pl
        go_wp2_with fail
        refine C1.out.mono ?_
        rintro e w5 ⟨rfl, ⟨M5, hok5, hkf5⟩, hb5⟩
        have k5 : Blk w5 wo.heap.size 145 #[.bool msix, .int .u64 mhi, .int .u64 mlo, .int .i64 m1, .bool msix2, .int .u64 mhi2, .int .u64 mlo2, .int .i64 m2, .int .i64 mcl] := (hkf5.same _ (by exact zX) HFAR.out).trans KX.out
        have HFAR5 : Hid (∀ s q b o, M5 s q = some (b, o) → b ≠ wo.heap.size) := fun s q b o h => by
          rcases hkf5.new s q b o h with ⟨s', q', o', h'⟩ | h'
          · exact HFAR.out _ _ _ _ h'
          · have : X.heap.size ≤ b := h'
            omega
        have z5 : X.heap.size ≤ w5.heap.size := hkf5.le
        have e4 := k5.cell 4
        have e5 := k5.cell 5
        have e6 := k5.cell 6
        have e7 := k5.cell 7
        simp at e4 e5 e6 e7
        have HOK5 := Lib.hid hok5
        have HB5 := Lib.hid hb5
        clear hok5 hkf5 hb5 k5 C1
        go_wp2_with fail
        refine still_tail 6 (by kernel_rfl) (by kernel_rfl) ?_
        simp only [List.take_succ_cons, List.take_zero, List.drop_succ_cons, List.drop_zero]
        repeat still_step
        try refine wpStill_nil ?_
        have HOK6 := HOK5.out.below (Below.refl _ _).drew
        have C2 := Lib.hid (nodePut_any (base := w.heap.size) (tb := w.heap.size) HOK6 (by show w.heap.size ≤ w5.heap.size; omega) true msix2 mhi2 mlo2 m2 k P2.out (by omega) (by rw [updH_other _ _ _ _ _ (by simp)]; exact saysTo_lt HS1.out (by omega)))
        unfold PutOk at C2
        simp only [if_true] at C2
        rw [updH_other _ false true _ _ (by simp)] at C2
        clear HOK6 e4 e5 e6 e7
        go_wp2_with fail
        refine C2.out.mono ?_
        rintro e w7 ⟨rfl, ⟨M7, hok7, hkf7⟩, hb7⟩
        have HPL7 : Hid (Planted w7 w.heap.size w.heap.size l msix (k + 1) M7 _) := ⟨hok7, by rw [updH_other _ true false _ _ (by simp), updH_setAt]; exact HPT1.out, by rw [updH_setAt]; exact HPT2.out⟩
        have z7 : w5.heap.size ≤ w7.heap.size := hkf7.le
        have HB7 : Hid (Below w.heap.size w w7) := HBL.out.trans ((HXX.out.mono (by omega)).trans (((Below.refl w.heap.size X).drew).trans (HB5.out.trans (((Below.refl w.heap.size w5).drew).trans hb7))))
        clear hok7 hkf7 hb7 C2
        go_wp2
        go_roundw
        case rel => exact ⟨k + 1, by omega, by go_num, ⟨M7, _, HPL7.out⟩, HB7.out, by omega⟩
        case measure => simp [intOf]; omega
      · have hSK1 := saysTo_skip hPL.from_ hlk h6
        have hSK2 := saysTo_skip hPL.to_ hlk h6
        have HPL := Lib.hid (Planted.mk hPL.ok hSK1 hSK2)
        have h6b : (msix == six) = false := by simpa using h6
        clear hlk htk hmem hbk hc0 hcj hPL hSK1 hSK2 hbl g1 g2 g3 o1 o2 o3 o4 h6
        go_wp2
        go_roundw
        case rel => exact ⟨k + 1, by omega, by go_num, ⟨M, H, HPL.out.ok.below ((Below.refl _ _).alloc (Nat.le_refl _) _), HPL.out.from_, HPL.out.to_⟩, HBL.out.alloc (by omega) _, by simp; omega⟩
        case measure => simp [intOf]; omega
    · obtain rfl : k = n := by omega
      have HPL := Lib.hid hPL
      have HBL := Lib.hid hbl
      clear hPL hbl
      go_wp2
      go_ret
      exact ⟨rfl, ⟨M, H, HPL.out⟩, HBL.out⟩

end Go.Proofs.Ytonelibgaceflaa
