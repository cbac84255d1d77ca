/-
  
  
  
  
  
  
  
-/
import Derived.Test.YtmljdjakbbedlaaC3
import Derived.Test.YtmljdjakbbedlaaC2
import Derived.Test.YtmljdjakbbedlaaChecked
import Derived.LoopN
import Derived.Deep.RegionHeld3
import Derived.Test.YtmljdjakbbedlaaC1
import Derived.Test.YtmljdjakbbedlaaC17
namespace Go.Proofs.Ytmljdjakbbedlaa
open Go.ChangeShapes Go.WideShapes Go.ChangeAt Go.RowKit

def pickedI (a n : Int) : Int := if a.tmod n < 0 then a.tmod n + n else a.tmod n
theorem picked_range (a : Int) {n : Int} (hn : 0 < n) : 0 ≤ pickedI a n ∧ pickedI a n < n := by
  unfold pickedI
  have h1 := Int.tmod_lt_of_pos a hn
  have h2 : -n < a.tmod n := by
    have := Int.tmod_lt_of_pos (-a) hn
    rw [Int.neg_tmod] at this
    omega
  split <;> omega

set_option maxRecDepth 100000 in
set_option maxHeartbeats 800000 in
theorem picked_any (a n : Int) (w : World) (hn : 0 < n) (hn2 : n ≤ 1000000) :
    Calls Try.prog 43 #[.int .i64 a, .int .i64 n] w fun e w' => e = .returned (.int .i64 (pickedI a n)) ∧ Below w.heap.size w w' := by
  have h1 := Int.tmod_lt_of_pos a hn
  have h2 : -n < a.tmod n := by
    have := Int.tmod_lt_of_pos (-a) hn
    rw [Int.neg_tmod] at this
    omega
  have hn0 : (n == 0) = false := by simp; omega
  have hw : IntKind.i64.wrap (a.tmod n) = a.tmod n := IntWalk.i64_in _ (by omega)
  have hw2 : IntKind.i64.wrap (a.tmod n + n) = a.tmod n + n := IntWalk.i64_in _ (by omega)
  by_cases hneg : a.tmod n < 0
  · have hp : pickedI a n = a.tmod n + n := by unfold pickedI; rw [if_pos hneg]
    rw [hp]
    go_enter Try.func43, Try.ntmps43
    go_wp2
    go_ret
    exact ⟨ret_int (by first | rfl | exact hw2), Below.refl _ _⟩
  · have hp : pickedI a n = a.tmod n := by unfold pickedI; rw [if_neg hneg]
    rw [hp]
    go_enter Try.func43, Try.ntmps43
    go_wp2
    go_ret
    exact ⟨ret_int (by first | rfl | exact hw), Below.refl _ _⟩

set_option maxRecDepth 100000 in
set_option maxHeartbeats 800000 in
theorem near_any (n : Int) (w : World) :
    Calls Try.prog 17 #[.int .i64 n] w fun e w' => e = .returned (.agg #[.bool false, .int .u64 0, .int .u64 (167772152 + pickedI n 540)]) ∧ Below w.heap.size w w' := by
  have CP := Lib.hid (fun w => picked_any n 540 w (by omega) (by omega))
  have hr := picked_range n (n := 540) (by omega)
  generalize pickedI n 540 = t at *
  go_enter Try.func17, Try.ntmps17
  go_wp2_with fail
  refine (CP.out _).mono ?_
  rintro e w1 ⟨rfl, hb1⟩
  have hw : IntKind.i64.wrap (167772152 + t) = 167772152 + t := IntWalk.i64_in _ (by omega)
  obtain ⟨fc, ff⟩ := bcell hb1
  have s1 := bsize1 hb1
  have HB := Lib.hid (balloc1 hb1)
  clear hb1
  go_wp2
  refine bodyPost_ret (v := .agg #[.bool false, .int .u64 0, .int .u64 (167772152 + t)]) ?_ rfl ⟨rfl, ?_⟩
  · simp [results, Try.results17, go_sem, fc]
  · (repeat' first | with_reducible exact HB.out | with_reducible refine Below.drew ?_ | with_reducible refine below_drewN ?_ _ | with_reducible refine Below.setCell ?_ ?_ _ | (simp; done) | (simp; omega) | omega)

end Go.Proofs.Ytmljdjakbbedlaa

namespace Go.Proofs.Ytmljdjakbbedlaa
open Go.ChangeShapes Go.WideShapes Go.ChangeAt Go.RowKit

theorem infoPreK : (Try.prog.info? 42).map (fun i => (i.zero, i.size, i.bytes)) = some (some (.agg #[.bool false, .int .u64 0, .int .u64 0, .int .i64 0]), 4, 32) := by kernel_rfl
/-- A prefix of 24 to 32 bits. -/
def preK (a b : Int) : PV := ⟨false, 0, (167772160 + b) / 2 ^ (8 - a).toNat * 2 ^ (8 - a).toNat, 24 + a⟩
def presV (x : Int) : PV := preK (pickedI x 9) (pickedI (x.tdiv 9) 512)
theorem preK_0 (b : Int) : preK 0 b = ⟨false, 0, (167772160 + b) / 256 * 256, 24⟩ := by simp [preK]
theorem preK_1 (b : Int) : preK 1 b = ⟨false, 0, (167772160 + b) / 128 * 128, 25⟩ := by simp [preK]
theorem preK_2 (b : Int) : preK 2 b = ⟨false, 0, (167772160 + b) / 64 * 64, 26⟩ := by simp [preK]
theorem preK_3 (b : Int) : preK 3 b = ⟨false, 0, (167772160 + b) / 32 * 32, 27⟩ := by simp [preK]
theorem preK_4 (b : Int) : preK 4 b = ⟨false, 0, (167772160 + b) / 16 * 16, 28⟩ := by simp [preK]
theorem preK_5 (b : Int) : preK 5 b = ⟨false, 0, (167772160 + b) / 8 * 8, 29⟩ := by simp [preK]
theorem preK_6 (b : Int) : preK 6 b = ⟨false, 0, (167772160 + b) / 4 * 4, 30⟩ := by simp [preK]
theorem preK_7 (b : Int) : preK 7 b = ⟨false, 0, (167772160 + b) / 2 * 2, 31⟩ := by simp [preK]
theorem preK_8 (b : Int) : preK 8 b = ⟨false, 0, 167772160 + b, 32⟩ := by simp [preK]
theorem preK_ok {a b : Int} (ha : 0 ≤ a ∧ a < 9) (hb : 0 ≤ b ∧ b < 512) : (preK a b).Ok := by
  rcases (by omega : a = 0 ∨ a = 1 ∨ a = 2 ∨ a = 3 ∨ a = 4 ∨ a = 5 ∨ a = 6 ∨ a = 7 ∨ a = 8) with rfl | rfl | rfl | rfl | rfl | rfl | rfl | rfl | rfl
  · rw [preK_0]
    refine chk_zero ⟨by simp, by simp⟩ ⟨by simp only; omega, by simp only; omega⟩ ?_
    unfold chk mayB cleanB cutHi cutLo keepW wideI
    simp
    omega
  · rw [preK_1]
    refine chk_zero ⟨by simp, by simp⟩ ⟨by simp only; omega, by simp only; omega⟩ ?_
    unfold chk mayB cleanB cutHi cutLo keepW wideI
    simp
    omega
  · rw [preK_2]
    refine chk_zero ⟨by simp, by simp⟩ ⟨by simp only; omega, by simp only; omega⟩ ?_
    unfold chk mayB cleanB cutHi cutLo keepW wideI
    simp
    omega
  · rw [preK_3]
    refine chk_zero ⟨by simp, by simp⟩ ⟨by simp only; omega, by simp only; omega⟩ ?_
    unfold chk mayB cleanB cutHi cutLo keepW wideI
    simp
    omega
  · rw [preK_4]
    refine chk_zero ⟨by simp, by simp⟩ ⟨by simp only; omega, by simp only; omega⟩ ?_
    unfold chk mayB cleanB cutHi cutLo keepW wideI
    simp
    omega
  · rw [preK_5]
    refine chk_zero ⟨by simp, by simp⟩ ⟨by simp only; omega, by simp only; omega⟩ ?_
    unfold chk mayB cleanB cutHi cutLo keepW wideI
    simp
    omega
  · rw [preK_6]
    refine chk_zero ⟨by simp, by simp⟩ ⟨by simp only; omega, by simp only; omega⟩ ?_
    unfold chk mayB cleanB cutHi cutLo keepW wideI
    simp
    omega
  · rw [preK_7]
    refine chk_zero ⟨by simp, by simp⟩ ⟨by simp only; omega, by simp only; omega⟩ ?_
    unfold chk mayB cleanB cutHi cutLo keepW wideI
    simp
    omega
  · rw [preK_8]
    refine chk_zero ⟨by simp, by simp⟩ ⟨by simp only; omega, by simp only; omega⟩ ?_
    unfold chk mayB cleanB cutHi cutLo keepW wideI
    simp
    omega
theorem presV_ok (x : Int) : (presV x).Ok := preK_ok (picked_range x (by omega)) (picked_range _ (by omega))

set_option maxRecDepth 100000 in
set_option maxHeartbeats 6400000 in
theorem pres1_any (x : Int) (g : Nat) (w : World) (hx : -9223372036854775808 ≤ x ∧ x ≤ 9223372036854775807) (hg : g < w.heap.size) (h0 : w.cell? ⟨g, 0, none⟩ = some (.int .i64 x)) :
    Calls Try.prog 42 #[.slice (some ⟨g, 0, none⟩) 1 1, .int .i64 1] w fun e w' => ∃ v, e = .returned v ∧ w'.ownsRow w.heap.size 42 4 v 1 (presV x).cells ∧ Below w.heap.size w w' := by
  have CP := Lib.hid (fun w => picked_any x 9 w (by omega) (by omega))
  have CQ := Lib.hid (fun w => picked_any (x.tdiv 9) 512 w (by omega) (by omega))
  have hr := picked_range x (n := 9) (by omega)
  have hq := picked_range (x.tdiv 9) (n := 512) (by omega)
  have hdv : IntKind.i64.wrap (x.tdiv 9) = x.tdiv 9 := IntWalk.i64_in _ (by
    rcases Int.le_total 0 x with h | h
    · rw [Int.tdiv_eq_ediv_of_nonneg h]; omega
    · have e : x = -(-x) := by omega
      rw [e, Int.neg_tdiv, Int.tdiv_eq_ediv_of_nonneg (by omega)]; omega)
  unfold presV
  generalize pickedI x 9 = a at *
  generalize pickedI (x.tdiv 9) 512 = b at *
  have hb1' : IntKind.i64.wrap (167772160 + b) = 167772160 + b := IntWalk.i64_in _ (by omega)
  rcases (by omega : a = 0 ∨ a = 1 ∨ a = 2 ∨ a = 3 ∨ a = 4 ∨ a = 5 ∨ a = 6 ∨ a = 7 ∨ a = 8) with rfl | rfl | rfl | rfl | rfl | rfl | rfl | rfl | rfl
  · rw [preK_0]
    go_enter Try.func42, Try.ntmps42
    go_wp2_with fail
    refine wp_loop_rounds 2 ?_
    rw [rounds_succ]
    go_wp2_with fail
    refine (CP.out _).mono ?_
    rintro e w1 ⟨rfl, hb1⟩
    have c1 := (hb1.cell (p := ⟨g, 0, none⟩) hg).trans h0
    have hs1 := hb1.size
    have HB1 := Lib.hid hb1
    clear hb1
    go_wp2_with fail
    refine (CQ.out _).mono ?_
    rintro e w2 ⟨rfl, hb2⟩
    have HB2 := Lib.hid (below_step HB1.out hb2)
    have hs2 : w.heap.size ≤ w2.heap.size := HB2.out.size
    clear hb2
    go_wp2_with (at_builtin; go_loud (refine wpList_append_oneN (us := [.bool false, .int .u64 0, .int .u64 ((167772160 + b) / 256 * 256), .int .i64 24]) rfl _ _ 90 rfl w.heap.size _ 4 32 Try.underlying90 infoPreK rfl (by decide) _ _ _ rfl rfl rfl (World.ownsRow_nil w2 w.heap.size 42 4) hs2 rfl (by intro u hu; simp at hu; rcases hu with rfl | rfl | rfl | rfl <;> rfl) (by unfold maxLen; omega) (by omega) ?_))
    intro v3 w3 hown3 hb3 hs3 hk3
    have HO := Lib.hid hown3
    have HB3 := Lib.hid (HB2.out.trans hb3)
    clear hown3 hb3 hk3
    go_wp2
    rw [rounds_succ]
    go_wp2
    go_ret
    exact ⟨_, rfl, HO.out, HB3.out⟩
  · rw [preK_1]
    go_enter Try.func42, Try.ntmps42
    go_wp2_with fail
    refine wp_loop_rounds 2 ?_
    rw [rounds_succ]
    go_wp2_with fail
    refine (CP.out _).mono ?_
    rintro e w1 ⟨rfl, hb1⟩
    have c1 := (hb1.cell (p := ⟨g, 0, none⟩) hg).trans h0
    have hs1 := hb1.size
    have HB1 := Lib.hid hb1
    clear hb1
    go_wp2_with fail
    refine (CQ.out _).mono ?_
    rintro e w2 ⟨rfl, hb2⟩
    have HB2 := Lib.hid (below_step HB1.out hb2)
    have hs2 : w.heap.size ≤ w2.heap.size := HB2.out.size
    clear hb2
    go_wp2_with (at_builtin; go_loud (refine wpList_append_oneN (us := [.bool false, .int .u64 0, .int .u64 ((167772160 + b) / 128 * 128), .int .i64 25]) rfl _ _ 90 rfl w.heap.size _ 4 32 Try.underlying90 infoPreK rfl (by decide) _ _ _ rfl rfl rfl (World.ownsRow_nil w2 w.heap.size 42 4) hs2 rfl (by intro u hu; simp at hu; rcases hu with rfl | rfl | rfl | rfl <;> rfl) (by unfold maxLen; omega) (by omega) ?_))
    intro v3 w3 hown3 hb3 hs3 hk3
    have HO := Lib.hid hown3
    have HB3 := Lib.hid (HB2.out.trans hb3)
    clear hown3 hb3 hk3
    go_wp2
    rw [rounds_succ]
    go_wp2
    go_ret
    exact ⟨_, rfl, HO.out, HB3.out⟩
  · rw [preK_2]
    go_enter Try.func42, Try.ntmps42
    go_wp2_with fail
    refine wp_loop_rounds 2 ?_
    rw [rounds_succ]
    go_wp2_with fail
    refine (CP.out _).mono ?_
    rintro e w1 ⟨rfl, hb1⟩
    have c1 := (hb1.cell (p := ⟨g, 0, none⟩) hg).trans h0
    have hs1 := hb1.size
    have HB1 := Lib.hid hb1
    clear hb1
    go_wp2_with fail
    refine (CQ.out _).mono ?_
    rintro e w2 ⟨rfl, hb2⟩
    have HB2 := Lib.hid (below_step HB1.out hb2)
    have hs2 : w.heap.size ≤ w2.heap.size := HB2.out.size
    clear hb2
    go_wp2_with (at_builtin; go_loud (refine wpList_append_oneN (us := [.bool false, .int .u64 0, .int .u64 ((167772160 + b) / 64 * 64), .int .i64 26]) rfl _ _ 90 rfl w.heap.size _ 4 32 Try.underlying90 infoPreK rfl (by decide) _ _ _ rfl rfl rfl (World.ownsRow_nil w2 w.heap.size 42 4) hs2 rfl (by intro u hu; simp at hu; rcases hu with rfl | rfl | rfl | rfl <;> rfl) (by unfold maxLen; omega) (by omega) ?_))
    intro v3 w3 hown3 hb3 hs3 hk3
    have HO := Lib.hid hown3
    have HB3 := Lib.hid (HB2.out.trans hb3)
    clear hown3 hb3 hk3
    go_wp2
    rw [rounds_succ]
    go_wp2
    go_ret
    exact ⟨_, rfl, HO.out, HB3.out⟩
  · rw [preK_3]
    go_enter Try.func42, Try.ntmps42
    go_wp2_with fail
    refine wp_loop_rounds 2 ?_
    rw [rounds_succ]
    go_wp2_with fail
    refine (CP.out _).mono ?_
    rintro e w1 ⟨rfl, hb1⟩
    have c1 := (hb1.cell (p := ⟨g, 0, none⟩) hg).trans h0
    have hs1 := hb1.size
    have HB1 := Lib.hid hb1
    clear hb1
    go_wp2_with fail
    refine (CQ.out _).mono ?_
    rintro e w2 ⟨rfl, hb2⟩
    have HB2 := Lib.hid (below_step HB1.out hb2)
    have hs2 : w.heap.size ≤ w2.heap.size := HB2.out.size
    clear hb2
    go_wp2_with (at_builtin; go_loud (refine wpList_append_oneN (us := [.bool false, .int .u64 0, .int .u64 ((167772160 + b) / 32 * 32), .int .i64 27]) rfl _ _ 90 rfl w.heap.size _ 4 32 Try.underlying90 infoPreK rfl (by decide) _ _ _ rfl rfl rfl (World.ownsRow_nil w2 w.heap.size 42 4) hs2 rfl (by intro u hu; simp at hu; rcases hu with rfl | rfl | rfl | rfl <;> rfl) (by unfold maxLen; omega) (by omega) ?_))
    intro v3 w3 hown3 hb3 hs3 hk3
    have HO := Lib.hid hown3
    have HB3 := Lib.hid (HB2.out.trans hb3)
    clear hown3 hb3 hk3
    go_wp2
    rw [rounds_succ]
    go_wp2
    go_ret
    exact ⟨_, rfl, HO.out, HB3.out⟩
  · rw [preK_4]
    go_enter Try.func42, Try.ntmps42
    go_wp2_with fail
    refine wp_loop_rounds 2 ?_
    rw [rounds_succ]
    go_wp2_with fail
    refine (CP.out _).mono ?_
    rintro e w1 ⟨rfl, hb1⟩
    have c1 := (hb1.cell (p := ⟨g, 0, none⟩) hg).trans h0
    have hs1 := hb1.size
    have HB1 := Lib.hid hb1
    clear hb1
    go_wp2_with fail
    refine (CQ.out _).mono ?_
    rintro e w2 ⟨rfl, hb2⟩
    have HB2 := Lib.hid (below_step HB1.out hb2)
    have hs2 : w.heap.size ≤ w2.heap.size := HB2.out.size
    clear hb2
    go_wp2_with (at_builtin; go_loud (refine wpList_append_oneN (us := [.bool false, .int .u64 0, .int .u64 ((167772160 + b) / 16 * 16), .int .i64 28]) rfl _ _ 90 rfl w.heap.size _ 4 32 Try.underlying90 infoPreK rfl (by decide) _ _ _ rfl rfl rfl (World.ownsRow_nil w2 w.heap.size 42 4) hs2 rfl (by intro u hu; simp at hu; rcases hu with rfl | rfl | rfl | rfl <;> rfl) (by unfold maxLen; omega) (by omega) ?_))
    intro v3 w3 hown3 hb3 hs3 hk3
    have HO := Lib.hid hown3
    have HB3 := Lib.hid (HB2.out.trans hb3)
    clear hown3 hb3 hk3
    go_wp2
    rw [rounds_succ]
    go_wp2
    go_ret
    exact ⟨_, rfl, HO.out, HB3.out⟩
  · rw [preK_5]
    go_enter Try.func42, Try.ntmps42
    go_wp2_with fail
    refine wp_loop_rounds 2 ?_
    rw [rounds_succ]
    go_wp2_with fail
    refine (CP.out _).mono ?_
    rintro e w1 ⟨rfl, hb1⟩
    have c1 := (hb1.cell (p := ⟨g, 0, none⟩) hg).trans h0
    have hs1 := hb1.size
    have HB1 := Lib.hid hb1
    clear hb1
    go_wp2_with fail
    refine (CQ.out _).mono ?_
    rintro e w2 ⟨rfl, hb2⟩
    have HB2 := Lib.hid (below_step HB1.out hb2)
    have hs2 : w.heap.size ≤ w2.heap.size := HB2.out.size
    clear hb2
    go_wp2_with (at_builtin; go_loud (refine wpList_append_oneN (us := [.bool false, .int .u64 0, .int .u64 ((167772160 + b) / 8 * 8), .int .i64 29]) rfl _ _ 90 rfl w.heap.size _ 4 32 Try.underlying90 infoPreK rfl (by decide) _ _ _ rfl rfl rfl (World.ownsRow_nil w2 w.heap.size 42 4) hs2 rfl (by intro u hu; simp at hu; rcases hu with rfl | rfl | rfl | rfl <;> rfl) (by unfold maxLen; omega) (by omega) ?_))
    intro v3 w3 hown3 hb3 hs3 hk3
    have HO := Lib.hid hown3
    have HB3 := Lib.hid (HB2.out.trans hb3)
    clear hown3 hb3 hk3
    go_wp2
    rw [rounds_succ]
    go_wp2
    go_ret
    exact ⟨_, rfl, HO.out, HB3.out⟩
  · rw [preK_6]
    go_enter Try.func42, Try.ntmps42
    go_wp2_with fail
    refine wp_loop_rounds 2 ?_
    rw [rounds_succ]
    go_wp2_with fail
    refine (CP.out _).mono ?_
    rintro e w1 ⟨rfl, hb1⟩
    have c1 := (hb1.cell (p := ⟨g, 0, none⟩) hg).trans h0
    have hs1 := hb1.size
    have HB1 := Lib.hid hb1
    clear hb1
    go_wp2_with fail
    refine (CQ.out _).mono ?_
    rintro e w2 ⟨rfl, hb2⟩
    have HB2 := Lib.hid (below_step HB1.out hb2)
    have hs2 : w.heap.size ≤ w2.heap.size := HB2.out.size
    clear hb2
    go_wp2_with (at_builtin; go_loud (refine wpList_append_oneN (us := [.bool false, .int .u64 0, .int .u64 ((167772160 + b) / 4 * 4), .int .i64 30]) rfl _ _ 90 rfl w.heap.size _ 4 32 Try.underlying90 infoPreK rfl (by decide) _ _ _ rfl rfl rfl (World.ownsRow_nil w2 w.heap.size 42 4) hs2 rfl (by intro u hu; simp at hu; rcases hu with rfl | rfl | rfl | rfl <;> rfl) (by unfold maxLen; omega) (by omega) ?_))
    intro v3 w3 hown3 hb3 hs3 hk3
    have HO := Lib.hid hown3
    have HB3 := Lib.hid (HB2.out.trans hb3)
    clear hown3 hb3 hk3
    go_wp2
    rw [rounds_succ]
    go_wp2
    go_ret
    exact ⟨_, rfl, HO.out, HB3.out⟩
  · rw [preK_7]
    go_enter Try.func42, Try.ntmps42
    go_wp2_with fail
    refine wp_loop_rounds 2 ?_
    rw [rounds_succ]
    go_wp2_with fail
    refine (CP.out _).mono ?_
    rintro e w1 ⟨rfl, hb1⟩
    have c1 := (hb1.cell (p := ⟨g, 0, none⟩) hg).trans h0
    have hs1 := hb1.size
    have HB1 := Lib.hid hb1
    clear hb1
    go_wp2_with fail
    refine (CQ.out _).mono ?_
    rintro e w2 ⟨rfl, hb2⟩
    have HB2 := Lib.hid (below_step HB1.out hb2)
    have hs2 : w.heap.size ≤ w2.heap.size := HB2.out.size
    clear hb2
    go_wp2_with (at_builtin; go_loud (refine wpList_append_oneN (us := [.bool false, .int .u64 0, .int .u64 ((167772160 + b) / 2 * 2), .int .i64 31]) rfl _ _ 90 rfl w.heap.size _ 4 32 Try.underlying90 infoPreK rfl (by decide) _ _ _ rfl rfl rfl (World.ownsRow_nil w2 w.heap.size 42 4) hs2 rfl (by intro u hu; simp at hu; rcases hu with rfl | rfl | rfl | rfl <;> rfl) (by unfold maxLen; omega) (by omega) ?_))
    intro v3 w3 hown3 hb3 hs3 hk3
    have HO := Lib.hid hown3
    have HB3 := Lib.hid (HB2.out.trans hb3)
    clear hown3 hb3 hk3
    go_wp2
    rw [rounds_succ]
    go_wp2
    go_ret
    exact ⟨_, rfl, HO.out, HB3.out⟩
  · rw [preK_8]
    go_enter Try.func42, Try.ntmps42
    go_wp2_with fail
    refine wp_loop_rounds 2 ?_
    rw [rounds_succ]
    go_wp2_with fail
    refine (CP.out _).mono ?_
    rintro e w1 ⟨rfl, hb1⟩
    have c1 := (hb1.cell (p := ⟨g, 0, none⟩) hg).trans h0
    have hs1 := hb1.size
    have HB1 := Lib.hid hb1
    clear hb1
    go_wp2_with fail
    refine (CQ.out _).mono ?_
    rintro e w2 ⟨rfl, hb2⟩
    have HB2 := Lib.hid (below_step HB1.out hb2)
    have hs2 : w.heap.size ≤ w2.heap.size := HB2.out.size
    clear hb2
    go_wp2_with (at_builtin; go_loud (refine wpList_append_oneN (us := [.bool false, .int .u64 0, .int .u64 (167772160 + b), .int .i64 32]) rfl _ _ 90 rfl w.heap.size _ 4 32 Try.underlying90 infoPreK rfl (by decide) _ _ _ rfl rfl rfl (World.ownsRow_nil w2 w.heap.size 42 4) hs2 rfl (by intro u hu; simp at hu; rcases hu with rfl | rfl | rfl | rfl <;> rfl) (by unfold maxLen; omega) (by omega) ?_))
    intro v3 w3 hown3 hb3 hs3 hk3
    have HO := Lib.hid hown3
    have HB3 := Lib.hid (HB2.out.trans hb3)
    clear hown3 hb3 hk3
    go_wp2
    rw [rounds_succ]
    go_wp2
    go_ret
    exact ⟨_, rfl, HO.out, HB3.out⟩

end Go.Proofs.Ytmljdjakbbedlaa

namespace Go.Proofs.Ytmljdjakbbedlaa
open Go Go.RowKit

variable {P : Program} {ops : Array Oper} {Q : Exit → Act → World → Prop} {md : Region.Mode} {S : World → Prop}
/-- In state a the operation is a call that, in every world of S, returns v and changes nothing. -/
def CallsTo (P : Program) (ops : Array Oper) (S : World → Prop) (o : Oper) (v : Value) (a : Act) : Prop :=
  Region.wanted o (yielded ops a.tmps) = true ∧ ∀ w, S w → ∃ f args, (execOp a.eval o).run P w = .ok (.enter f args) w ∧ Calls P f args w fun e w' => e = .returned v ∧ w' = w
theorem CallsTo.same {o : Oper} {v : Value} {a a' : Act} (h : CallsTo P ops S o v a) (he : execOp a'.eval o = execOp a.eval o) (hw : Region.wanted o (yielded ops a'.tmps) = Region.wanted o (yielded ops a.tmps)) : CallsTo P ops S o v a' := by
  unfold CallsTo at *
  rw [he, hw]
  exact h
theorem CallsTo.op {i : Nat} {o : Oper} {v : Value} {a : Act} (hi : ops[i]? = some o) (h : CallsTo P ops S o v a) {K : Act → World → Prop} {w : World} (hS : S w) (hK : K (a.put o.dst v) w) : wpOp P ops Q i K a w := by
  obtain ⟨hw, hc⟩ := h
  obtain ⟨f, args, hr, hcall⟩ := hc w hS
  unfold wpOp
  simp only [hi, hw, if_true]
  refine .inl ?_
  unfold Oper.wp
  rw [hr]
  simp only [Oper.upon]
  refine hcall.mono fun e w' he => ?_
  obtain ⟨rfl, rfl⟩ := he
  exact hK
/-- Another operation, apart from it, ahead of it. -/
theorem callsTo_past {j : Nat} {oi oj : Oper} {v : Value} (hj : ops[j]? = some oj) (hap : oi.apart ops oj = true) (hsi : ∀ cs b, oi.op ≠ .select cs b) (hsj : ∀ cs b, oj.op ≠ .select cs b)
    (hQ : ∀ c a w, Q (.panic c) (a.put oi.dst v) w → Q (.panic c) a w) {K : Act → World → Prop} {a : Act} {w : World} (hy : CallsTo P ops S oi v a) (h : wpOp P ops Q j K (a.put oi.dst v) w) :
    wpOp P ops Q j (fun a' w' => CallsTo P ops S oi v a' ∧ K (a'.put oi.dst v) w') a w := by
  obtain ⟨h1, h2, h3⟩ := Oper.apart_spec hap
  have kp : ∀ (b : Act) (u : Value), CallsTo P ops S oi v b → CallsTo P ops S oi v (b.put oj.dst u) := fun b u hb => hb.same (execOp_put oi hsi b oj.dst u h3) (wanted_put oi b oj.dst u h3)
  have kd : ∀ d, CallsTo P ops S oi v { a with defers := d :: a.defers } := fun d => hy.same rfl rfl
  have cm : ∀ (b : Act) (u : Value), K ((b.put oi.dst v).put oj.dst u) = K ((b.put oj.dst u).put oi.dst v) := fun b u => by rw [Act.put_comm b v u h2]
  unfold wpOp at *
  simp only [hj] at *
  rw [wanted_put oj a oi.dst v h1] at h
  by_cases hw : Region.wanted oj (yielded ops a.tmps) = true
  · simp only [hw, if_true] at h ⊢
    rcases h with h | ⟨ha, hl⟩
    · refine .inl ?_
      unfold Oper.wp at *
      rw [execOp_put oj hsj a oi.dst v h1] at h
      cases hr : (execOp a.eval oj).run P w with
      | ok nx w' =>
        rw [hr] at h
        cases nx with
        | value u =>
          simp only [Oper.upon] at h ⊢
          rw [cm a u] at h
          exact ⟨kp a u hy, h⟩
        | skip =>
          simp only [Oper.upon] at h ⊢
          rw [cm a undef] at h
          exact ⟨kp a undef hy, h⟩
        | defer d =>
          simp only [Oper.upon] at h ⊢
          refine ⟨kp _ undef (kd d), ?_⟩
          rw [← Act.put_comm _ v undef h2, ← Act.put_defers]
          exact h
        | enter f args =>
          simp only [Oper.upon] at h ⊢
          refine Calls.mono h fun e w'' he => ?_
          cases e with
          | returned u =>
            simp only at he ⊢
            rw [cm a u] at he
            exact ⟨kp a u hy, he⟩
          | panicked c => exact hQ _ _ _ he
          | outgrown => exact he
        | row row args =>
          simp only [Oper.upon] at h ⊢
          refine Rows.mono h fun u w'' he => ?_
          rw [cm a u] at he
          exact ⟨kp a u hy, he⟩
        | _ => simp [Oper.upon] at h
      | halt x w' =>
        rw [hr] at h
        cases x with
        | panic u => exact hQ _ _ _ h
        | _ => simp [Oper.upon] at h
    · exact .inr ⟨by unfold Oper.asks at *; rw [execOp_put oj hsj a oi.dst v h1] at ha; exact ha, hl⟩
  · simp only [hw] at h ⊢
    refine ⟨kp a undef hy, ?_⟩
    simp only [Bool.false_eq_true, if_false] at h
    rw [cm a undef] at h
    exact h
theorem callsTo_first {i : Nat} {oi : Oper} {v : Value} (hi : ops[i]? = some oi) (hsel : ∀ (j : Nat) (o : Oper) cs b, ops[j]? = some o → o.op ≠ .select cs b) (hQ : ∀ c a w, Q (.panic c) (a.put oi.dst v) w → Q (.panic c) a w) :
    ∀ (fuel : Nat) (listed : Array Bool) (a : Act) (w : World),
      (∀ j oj, ops[j]? = some oj → j ≠ i → listed.getD j true = false → (∀ e ∈ oj.after, Region.binds md e = true → e.on ≠ i) → oi.apart ops oj = true) →
      i ∈ Region.ready md ops listed → CallsTo P ops S oi v a → S w → wpAnyH P md ops Q S fuel (listed.setIfInBounds i true) (a.put oi.dst v) w → wpAnyH P md ops Q S (fuel + 1) listed a w
  | 0, listed, a, w, _, hr, hy, hS, H => by
    refine ⟨fun h => (by rw [h] at hr; cases hr), fun j hj => ?_⟩
    by_cases hji : j = i
    · subst hji; exact hy.op hi hS ⟨hS, H⟩
    · have h0 := ready_mono hj hji
      rw [H.1] at h0
      cases h0
  | fuel + 1, listed, a, w, hfree, hr, hy, hS, H => by
    refine ⟨fun h => (by rw [h] at hr; cases hr), fun j hj => ?_⟩
    by_cases hji : j = i
    · subst hji; exact hy.op hi hS ⟨hS, H⟩
    · obtain ⟨hjun, oj, hoj, hall⟩ := mem_ready.1 hj
      have hnot : ∀ e ∈ oj.after, Region.binds md e = true → e.on ≠ i := fun e he hb heq => by
        have g1 := hall e he hb
        have g0 := (mem_ready.1 hr).1
        rw [heq] at g1
        rcases Nat.lt_or_ge i listed.size with h' | h'
        · simp [h'] at g0 g1; rw [g0] at g1; cases g1
        · simp [Array.getElem?_eq_none h'] at g1
      have step := callsTo_past hoj (hfree j oj hoj hji hjun hnot) (fun cs b => hsel i oi cs b hi) (fun cs b => hsel j oj cs b hoj) hQ hy (H.2 j (ready_mono hj hji))
      have hfree' : ∀ k ok, ops[k]? = some ok → k ≠ i → (listed.setIfInBounds j true).getD k true = false → (∀ e ∈ ok.after, Region.binds md e = true → e.on ≠ i) → oi.apart ops ok = true := fun k ok hk hki hun hno => by
        by_cases hjk : j = k
        · subst hjk; exact hfree _ ok hk hki hjun hno
        · rw [getD_set_ne true hjk] at hun; exact hfree k ok hk hki hun hno
      refine wpOp_mono (fun a' w' g => ⟨g.2.1, callsTo_first hi hsel hQ fuel _ a' w' hfree' (ready_mono hr (Ne.symm hji)) g.1 g.2.1 ?_⟩) step
      rw [Array.setIfInBounds_comm _ _ hji]
      exact g.2.2
/-- Such a call is taken first. -/
theorem wpAnyH_call {i : Nat} {oi : Oper} {v : Value} {fuel : Nat} {listed : Array Bool} {a : Act} {w : World} (hi : ops[i]? = some oi) (hs : Region.noSelect ops = true) (hf : Region.free md ops listed i = true) (hr : (Region.ready md ops listed).contains i = true)
    (hQ : ∀ c a w, Q (.panic c) (a.put oi.dst v) w → Q (.panic c) a w) (hy : CallsTo P ops S oi v a) (hS : S w)
    (h : wpAnyH P md ops Q S fuel (listed.setIfInBounds i true) (a.put oi.dst v) w) : wpAnyH P md ops Q S (fuel + 1) listed a w :=
  callsTo_first hi (Region.noSelect_spec hs) hQ fuel listed a w (Region.free_spec hi hf) (by simpa using hr) hy hS h

end Go.Proofs.Ytmljdjakbbedlaa

namespace Go.Proofs.Ytmljdjakbbedlaa
open Go.ChangeShapes Go.WideShapes Go.ChangeAt Go.RowKit

structure RuleV where
  yes : Bool
  six : Bool
  hi : Int
  lo : Int
  n : Int
  least : Int
  most : Int

def RuleV.cells (r : RuleV) : List Value := [.bool r.yes, .bool r.six, .int .u64 r.hi, .int .u64 r.lo, .int .i64 r.n, .int .i64 r.least, .int .i64 r.most]
theorem RuleV.cells_length (r : RuleV) : r.cells.length = 7 := rfl
def RuleV.Ok (r : RuleV) : Prop := (0 ≤ r.hi ∧ r.hi < 18446744073709551616) ∧ (0 ≤ r.lo ∧ r.lo < 18446744073709551616)

/-- The fault of one rule. -/
def RuleV.fault (r : RuleV) : Int :=
  if ¬ chk r.six r.hi r.lo r.n = 0 then chk r.six r.hi r.lo r.n else if r.least < r.n ∨ r.most < r.least ∨ wideI r.six < r.most then 2 else 0

/-- The first fault of a list. -/
def rulesE : List RuleV → Int
  | [] => 0
  | r :: l => if r.fault = 0 then rulesE l else r.fault
def RulesTo (l : List RuleV) (k : Nat) : Prop := rulesE (l.take k) = 0

theorem rulesE_append : ∀ (a b : List RuleV), rulesE a = 0 → rulesE (a ++ b) = rulesE b
  | [], _, _ => rfl
  | r :: a, b, h => by
    unfold rulesE at h
    by_cases hf : r.fault = 0
    · rw [if_pos hf] at h
      rw [List.cons_append, show rulesE (r :: (a ++ b)) = if r.fault = 0 then rulesE (a ++ b) else r.fault from rfl, if_pos hf]
      exact rulesE_append a b h
    · rw [if_neg hf] at h
      exact absurd h hf
theorem rulesE_at {l : List RuleV} {k : Nat} {r : RuleV} (h : RulesTo l k) (hk : l[k]? = some r) (hf : ¬ r.fault = 0) : rulesE l = r.fault := by
  have e : l = l.take k ++ l.drop k := (List.take_append_drop k l).symm
  have hl : k < l.length := (List.getElem?_eq_some_iff.1 hk).1
  have e2 : l.drop k = r :: l.drop (k + 1) := by
    rw [List.drop_eq_getElem_cons hl]
    rw [List.getElem?_eq_getElem hl] at hk
    injection hk with hk
    rw [hk]
  rw [e, rulesE_append _ _ h, e2]
  unfold rulesE
  rw [if_neg hf]
theorem rulesTo_succ {l : List RuleV} {k : Nat} {r : RuleV} (h : RulesTo l k) (hk : l.take (k + 1) = l.take k ++ [r]) (hf : r.fault = 0) : RulesTo l (k + 1) := by
  unfold RulesTo
  rw [hk, rulesE_append _ _ h]
  unfold rulesE
  rw [if_pos hf]
  rfl
theorem rulesE_end {l : List RuleV} {k : Nat} (h : RulesTo l k) (hl : l.length = k) : rulesE l = 0 := by
  unfold RulesTo at h
  rwa [← hl, List.take_length] at h

set_option maxHeartbeats 1600000 in
theorem ruleCheck_any (A : Option Addr) (n c : Nat) (l : List RuleV) (w : World) (hn : n ≤ 30) (hz : l.length = n) (hw : ∀ r ∈ l, r.Ok) (hr : Reads w w.heap.size 7 A n (l.flatMap RuleV.cells)) :
    Calls Try.prog 47 #[.slice A n c] w fun e w' => e = .returned (.int .i64 (rulesE l)) ∧ Below w.heap.size w w' := by
  have HZ := Lib.hid hz
  have HR := Lib.hid hr
  have HW := Lib.hid hw
  obtain ⟨r, hr0⟩ : ∃ r, r = rulesE l := ⟨_, rfl⟩
  rw [← hr0]
  have H0 := Lib.hid hr0
  clear hz hr hw hr0
  go_enter Try.func47, Try.ntmps47
  go_wp2
  go_loopw [11, 4, 5] (fun i _ _ wr => ∃ k : Nat, k ≤ n ∧ i = .int .i64 k ∧ RulesTo l k ∧ Below w.heap.size w wr) (fun i _ _ _ => n - (intOf i).toNat)
  case atStart => exact ⟨0, by omega, rfl, rfl, Below.refl _ _⟩
  case round =>
    obtain ⟨k, hk, rfl, hto, hb⟩ := hrel
    have HT := Lib.hid hto
    clear hto
    by_cases hlt : k < n
    · obtain ⟨ad, ⟨yes, six, hi, lo, m, least, most⟩, rfl, hlk, htk, hmem, hbk, hc0, hcj⟩ := HR.out.atS RuleV.cells_length HZ.out hlt
      have q0 := (hb.cell (p := ad.add (k * 7)) (by rw [block_of_add]; exact hbk)).trans (hc0 _ rfl)
      have q1 := (hb.cell (p := ⟨(ad.add (k * 7)).block, (ad.add (k * 7)).off + 1, none⟩) (by rw [block_of_add]; exact hbk)).trans (hcj 1 _ rfl)
      have q2 := (hb.cell (p := ⟨(ad.add (k * 7)).block, (ad.add (k * 7)).off + 2, none⟩) (by rw [block_of_add]; exact hbk)).trans (hcj 2 _ rfl)
      have q3 := (hb.cell (p := ⟨(ad.add (k * 7)).block, (ad.add (k * 7)).off + 3, none⟩) (by rw [block_of_add]; exact hbk)).trans (hcj 3 _ rfl)
      have q4 := (hb.cell (p := ⟨(ad.add (k * 7)).block, (ad.add (k * 7)).off + 4, none⟩) (by rw [block_of_add]; exact hbk)).trans (hcj 4 _ rfl)
      have q5 := (hb.cell (p := ⟨(ad.add (k * 7)).block, (ad.add (k * 7)).off + 5, none⟩) (by rw [block_of_add]; exact hbk)).trans (hcj 5 _ rfl)
      have q6 := (hb.cell (p := ⟨(ad.add (k * 7)).block, (ad.add (k * 7)).off + 6, none⟩) (by rw [block_of_add]; exact hbk)).trans (hcj 6 _ rfl)
      have hw := HW.out _ hmem
      obtain ⟨w1hi, w1lo⟩ := hw
      simp only at w1hi w1lo
      have hfd : RuleV.fault ⟨yes, six, hi, lo, m, least, most⟩ = if ¬ chk six hi lo m = 0 then chk six hi lo m else if least < m ∨ most < least ∨ wideI six < most then 2 else 0 := rfl
      have hcc := fun w => check_any six hi lo m w w1hi w1lo
      clear hc0 hcj hmem hbk
      by_cases hz : chk six hi lo m = 0
      · rw [hz] at hfd hcc
        rw [if_neg (fun h => h rfl)] at hfd
        have CC := Lib.hid hcc
        clear hcc hz
        by_cases h1 : least < m ∨ most < least ∨ wideI six < most
        · rw [if_pos h1] at hfd
          have HR2 := Lib.hid (rulesE_at HT.out hlk (by rw [hfd]; omega))
          rw [hfd] at HR2
          clear hfd hlk htk
          by_cases k1 : least < m
          · clear h1
            go_wp2_with fail
            refine (CC.out _).mono ?_
            rintro e w1 ⟨rfl, hbw⟩
            obtain ⟨B1, S1, F⟩ := box1 (cs := [.bool yes, .bool six, .int .u64 hi, .int .u64 lo, .int .i64 m, .int .i64 least, .int .i64 most]) hbw
            have p1 := F 1 _ rfl
            have p4 := F 4 _ rfl
            have p5 := F 5 _ rfl
            have p6 := F 6 _ rfl
            clear hbw F
            go_wp2_with fail
            go_quiet (((go_at_call 100; exact Calls.quiet_of_same ((wide_any six _).mono fun e w' h => ⟨h.1, h.2.symm⟩))))
            go_wp2
            go_ret
            exact ⟨ret_int (HR2.out.symm.trans H0.out.symm), below_drewN (hb.trans (B1.mono hb.size)) _⟩
          · have hd1 : decide (least < m) = false := by simpa using k1
            by_cases k2 : most < least
            · clear h1
              go_wp2_with fail
              refine (CC.out _).mono ?_
              rintro e w1 ⟨rfl, hbw⟩
              obtain ⟨B1, S1, F⟩ := box1 (cs := [.bool yes, .bool six, .int .u64 hi, .int .u64 lo, .int .i64 m, .int .i64 least, .int .i64 most]) hbw
              have p1 := F 1 _ rfl
              have p4 := F 4 _ rfl
              have p5 := F 5 _ rfl
              have p6 := F 6 _ rfl
              clear hbw F
              go_wp2_with fail
              go_quiet (((go_at_call 100; exact Calls.quiet_of_same ((wide_any six _).mono fun e w' h => ⟨h.1, h.2.symm⟩))))
              go_wp2
              go_ret
              exact ⟨ret_int (HR2.out.symm.trans H0.out.symm), below_drewN (hb.trans (B1.mono hb.size)) _⟩
            · have hd2 : decide (most < least) = false := by simpa using k2
              have k3 : wideI six < most := by omega
              clear h1
              go_wp2_with fail
              refine (CC.out _).mono ?_
              rintro e w1 ⟨rfl, hbw⟩
              obtain ⟨B1, S1, F⟩ := box1 (cs := [.bool yes, .bool six, .int .u64 hi, .int .u64 lo, .int .i64 m, .int .i64 least, .int .i64 most]) hbw
              have p1 := F 1 _ rfl
              have p4 := F 4 _ rfl
              have p5 := F 5 _ rfl
              have p6 := F 6 _ rfl
              clear hbw F
              go_wp2_with fail
              go_quiet (((go_at_call 100; exact Calls.quiet_of_same ((wide_any six _).mono fun e w' h => ⟨h.1, h.2.symm⟩))))
              go_wp2
              go_ret
              exact ⟨ret_int (HR2.out.symm.trans H0.out.symm), below_drewN (hb.trans (B1.mono hb.size)) _⟩
        · rw [if_neg h1] at hfd
          have HT2 := Lib.hid (rulesTo_succ HT.out htk hfd)
          clear hfd hlk htk
          have h2 : ¬ least < m := by omega
          have h3 : ¬ most < least := by omega
          have h4 : ¬ wideI six < most := by omega
          have h1' := h1
          clear h1
          have hd1 : decide (least < m) = false := by simpa using h2
          have hd2 : decide (most < least) = false := by simpa using h3
          have hd3 : decide (wideI six < most) = false := by simpa using h4
          go_wp2_with fail
          refine (CC.out _).mono ?_
          rintro e w1 ⟨rfl, hbw⟩
          obtain ⟨B1, S1, F⟩ := box1 (cs := [.bool yes, .bool six, .int .u64 hi, .int .u64 lo, .int .i64 m, .int .i64 least, .int .i64 most]) hbw
          have p1 := F 1 _ rfl
          have p4 := F 4 _ rfl
          have p5 := F 5 _ rfl
          have p6 := F 6 _ rfl
          clear hbw F
          go_wp2_with fail
          go_quiet (((go_at_call 100; exact Calls.quiet_of_same ((wide_any six _).mono fun e w' h => ⟨h.1, h.2.symm⟩))))
          go_wp2
          go_roundw
          case rel => exact ⟨k + 1, by omega, by go_num, HT2.out, below_drewN (hb.trans (B1.mono hb.size)) _⟩
          case measure => simp [intOf]; omega
      · rw [if_pos hz] at hfd
        have HR2 := Lib.hid (rulesE_at HT.out hlk (by rw [hfd]; exact hz))
        rw [hfd] at HR2
        clear hfd hlk htk
        generalize chk six hi lo m = q at *
        have CC := Lib.hid hcc
        have hb1 : (q == 0) = false := by simpa using hz
        have hb2 : (q != 0) = true := by simpa using hz
        clear hcc
        go_wp2_with fail
        refine (CC.out _).mono ?_
        rintro e w1 ⟨rfl, hbw⟩
        obtain ⟨B1, S1, F⟩ := box1 (cs := [.bool yes, .bool six, .int .u64 hi, .int .u64 lo, .int .i64 m, .int .i64 least, .int .i64 most]) hbw
        have p1 := F 1 _ rfl
        have p4 := F 4 _ rfl
        have p5 := F 5 _ rfl
        have p6 := F 6 _ rfl
        clear hbw F
        go_wp2
        go_ret
        exact ⟨ret_int (HR2.out.symm.trans H0.out.symm), hb.trans (B1.mono hb.size)⟩
    · obtain rfl : k = n := by omega
      have HR2 := Lib.hid (rulesE_end HT.out HZ.out)
      go_wp2
      go_ret
      exact ⟨ret_int (HR2.out.symm.trans H0.out.symm), hb⟩

end Go.Proofs.Ytmljdjakbbedlaa

namespace Go.Proofs.Ytmljdjakbbedlaa
open Go.ChangeShapes Go.WideShapes Go.ChangeAt Go.RowKit

set_option maxHeartbeats 400000 in
theorem ruleCheck_big (A : Option Addr) (n c : Nat) (w : World) (hn : 30 < n) (hm : n ≤ maxLen) :
    Calls Try.prog 47 #[.slice A n c] w fun e w' => e = .returned (.int .i64 1) ∧ Below w.heap.size w w' := by
  unfold maxLen at hm
  go_enter Try.func47, Try.ntmps47
  go_wp2
  go_ret
  exact ⟨rfl, Below.refl _ _⟩

/-- What is known of a slice of rules that came in. -/
def IsRules (w : World) (A : Option Addr) (n : Nat) (l : List RuleV) : Prop :=
  l.length = n ∧ n ≤ maxLen ∧ (∀ r ∈ l, r.Ok) ∧ Reads w w.heap.size 7 A n (l.flatMap RuleV.cells)

theorem IsRules.below {w w' : World} {A : Option Addr} {n : Nat} {l : List RuleV} (h : IsRules w A n l) (hb : Below w.heap.size w w') : IsRules w' A n l :=
  ⟨h.1, h.2.1, h.2.2.1, (h.2.2.2.below hb).more hb.size⟩

/-- What rules.Check returns. -/
def rulesF (l : List RuleV) : Int := if 30 < l.length then 1 else rulesE l

theorem rulesCheck_is {A : Option Addr} {n : Nat} {l : List RuleV} {w : World} (h : IsRules w A n l) (c : Nat) :
    Calls Try.prog 47 #[.slice A n c] w fun e w' => e = .returned (.int .i64 (rulesF l)) ∧ Below w.heap.size w w' := by
  unfold rulesF
  by_cases hn : 30 < l.length
  · rw [if_pos hn]
    exact ruleCheck_big A n c w (by have := h.1; omega) h.2.1
  · rw [if_neg hn]
    exact ruleCheck_any A n c l w (by have := h.1; omega) h.1 h.2.2.1 h.2.2.2

set_option maxRecDepth 100000 in
theorem open_rules {H : Type} {enc : TypeId × Value → H} {W : World} {base : Nat} {sp : Nat → Bool} {held : Bool} {a0 : Option Addr} {len0 cap0 : Nat} {d : DataW H} {p : List MemPlace}
    (h : DataW.Trod enc Try.prog W base sp held 30 (.slice a0 len0 cap0) d p) : ∃ l : List RuleV, IsRules W a0 len0 l := by
  have hk : flat Try.prog 9 97 = some [none, none, some .u64, some .u64, some .i64, some .i64, some .i64] := by kernel_rfl
  obtain ⟨css, hcl, hfit, hr, hl, hm⟩ := open_flats Try.underlying30 hk (by kernel_rfl) (by simp) h
  obtain ⟨l, rfl, hz⟩ := choose_list (f := RuleV.cells) (Q := RuleV.Ok) css (fun cs hc => by
    have hf := hfit cs hc
    clear hr hcl hfit
    obtain ⟨yes, _, rfl, hf0⟩ := hf.bool_inv
    obtain ⟨six, _, rfl, hf1⟩ := hf0.bool_inv
    obtain ⟨hi, _, rfl, wy, hf2⟩ := hf1.int_inv
    obtain ⟨lo, _, rfl, wz, hf3⟩ := hf2.int_inv
    obtain ⟨m, _, rfl, _, hf4⟩ := hf3.int_inv
    obtain ⟨least, _, rfl, _, hf5⟩ := hf4.int_inv
    obtain ⟨most, _, rfl, _, hf6⟩ := hf5.int_inv
    obtain rfl := hf6.nil_inv
    exact ⟨⟨yes, six, hi, lo, m, least, most⟩, ⟨range_u64 wy, range_u64 wz⟩, rfl⟩)
  exact ⟨l, by simpa using hcl, by omega, hz, by rw [List.flatMap_def]; exact hr⟩

end Go.Proofs.Ytmljdjakbbedlaa

namespace Go.Proofs.Ytmljdjakbbedlaa
open Go.ChangeShapes Go.WideShapes Go.ChangeAt Go.RowKit

/-- Does a rule fit a prefix? -/
def RuleV.fits (r : RuleV) (six : Bool) (hi lo n : Int) : Bool := decide (r.least ≤ n) && (decide (n ≤ r.most) && overB r.six r.hi r.lo r.n six hi lo n)
/-- A rule whose prefix is short enough for the code's arithmetic. -/
def RuleV.Mid (r : RuleV) : Prop := -500 ≤ r.n ∧ r.n ≤ 500

set_option maxRecDepth 100000 in
set_option maxHeartbeats 1600000 in
theorem fits_any (r : RuleV) (six' : Bool) (hi' lo' n' : Int) (w : World) (h3 : 0 ≤ hi' ∧ hi' < 18446744073709551616) (h4 : 0 ≤ lo' ∧ lo' < 18446744073709551616) (h5 : six' = false → lo' < 4294967296) (hm : r.Mid) :
    Calls Try.prog 103 #[.agg r.cells.toArray, .agg #[.bool six', .int .u64 hi', .int .u64 lo', .int .i64 n']] w fun e w' => e = .returned (.bool (r.fits six' hi' lo' n')) ∧ Below w.heap.size w w' := by
  obtain ⟨yes, six, hi, lo, m, least, most⟩ := r
  have HO := Lib.hid (fun w => over_any six hi lo m six' hi' lo' n' w h3 h4 h5 hm.1 hm.2)
  have HF : Hid (RuleV.fits ⟨yes, six, hi, lo, m, least, most⟩ six' hi' lo' n' = (decide (least ≤ n') && (decide (n' ≤ most) && overB six hi lo m six' hi' lo' n'))) := rfl
  show Calls _ _ #[.agg #[.bool yes, .bool six, .int .u64 hi, .int .u64 lo, .int .i64 m, .int .i64 least, .int .i64 most], .agg #[.bool six', .int .u64 hi', .int .u64 lo', .int .i64 n']] _ _
  clear h5 hm
  rw [HF.out]
  clear HF
  generalize overB six hi lo m six' hi' lo' n' = ov at *
  by_cases hl : least ≤ n'
  · by_cases hm : n' ≤ most
    · rw [decide_eq_true hl, decide_eq_true hm, Bool.true_and, Bool.true_and]
      go_enter Try.func103, Try.ntmps103
      go_wp2_with fail
      refine (HO.out _).mono ?_
      rintro e w1 ⟨rfl, hb⟩
      have HB := Lib.hid (balloc2 hb)
      clear hb
      go_wp2
      go_ret
      exact ⟨rfl, HB.out⟩
    · rw [decide_eq_true hl, decide_eq_false hm]
      go_enter Try.func103, Try.ntmps103
      go_wp2
      go_ret
      exact ⟨rfl, ((Below.refl _ _).alloc (Nat.le_refl _) _).alloc (by simp) _⟩
  · rw [decide_eq_false hl]
    go_enter Try.func103, Try.ntmps103
    go_wp2
    go_ret
    exact ⟨rfl, ((Below.refl _ _).alloc (Nat.le_refl _) _).alloc (by simp) _⟩

set_option maxRecDepth 100000 in
set_option maxHeartbeats 1600000 in
theorem passClosure_any (r : RuleV) (six' : Bool) (hi' lo' n' : Int) (b : Nat) (w : World) (h3 : 0 ≤ hi' ∧ hi' < 18446744073709551616) (h4 : 0 ≤ lo' ∧ lo' < 18446744073709551616) (h5 : six' = false → lo' < 4294967296) (hm : r.Mid)
    (c0 : w.cell? ⟨b, 0, none⟩ = some (.bool six')) (c1 : w.cell? ⟨b, 1, none⟩ = some (.int .u64 hi')) (c2 : w.cell? ⟨b, 2, none⟩ = some (.int .u64 lo')) (c3 : w.cell? ⟨b, 3, none⟩ = some (.int .i64 n')) (hb : b < w.heap.size) :
    Calls Try.prog 102 #[.agg r.cells.toArray, .pointer (some ⟨b, 0, none⟩)] w fun e w' => e = .returned (.bool (r.fits six' hi' lo' n')) ∧ Below w.heap.size w w' := by
  have HO := Lib.hid (fun w => fits_any r six' hi' lo' n' w h3 h4 h5 hm)
  obtain ⟨yes, six, hi, lo, m, least, most⟩ := r
  clear h5 hm
  show Calls _ _ #[.agg #[.bool yes, .bool six, .int .u64 hi, .int .u64 lo, .int .i64 m, .int .i64 least, .int .i64 most], .pointer (some ⟨b, 0, none⟩)] _ _
  generalize RuleV.fits ⟨yes, six, hi, lo, m, least, most⟩ six' hi' lo' n' = ov at *
  go_enter Try.func102, Try.ntmps102
  go_wp2_with fail
  refine (HO.out _).mono ?_
  rintro e w1 ⟨rfl, hb⟩
  have HB := Lib.hid (balloc1 hb)
  clear hb
  go_wp2
  go_ret
  exact ⟨rfl, HB.out⟩

/-- A test on a rule, as a function value: its contract in every later world. -/
def RuleTest (w : World) (fid : FuncId) (caps : List Value) (f : RuleV → Bool) (l : List RuleV) : Prop :=
  ∀ r ∈ l, ∀ w', Below w.heap.size w w' → Calls Try.prog fid (#[.agg r.cells.toArray] ++ caps.toArray) w' fun e w'' => e = .returned (.bool (f r)) ∧ Below w'.heap.size w' w''

set_option maxRecDepth 100000 in
set_option maxHeartbeats 1600000 in
theorem idxRule_any (A : Option Addr) (n c : Nat) (l : List RuleV) (f : RuleV → Bool) (b : Nat) (w : World) (hz : l.length = n) (hm : n ≤ maxLen) (hr : Reads w w.heap.size 7 A n (l.flatMap RuleV.cells))
    (ht : RuleTest w 102 [.pointer (some ⟨b, 0, none⟩)] f l) :
    Calls Try.prog 101 #[.slice A n c, .func (.func 102) #[] #[.pointer (some ⟨b, 0, none⟩)]] w fun e w' => e = .returned (.int .i64 (firstAt f l)) ∧ Below w.heap.size w w' := by
  have HZ := Lib.hid hz
  have HR := Lib.hid hr
  have HT := Lib.hid ht
  unfold maxLen at hm
  obtain ⟨r, hr0⟩ : ∃ r, r = firstAt f l := ⟨_, rfl⟩
  rw [← hr0]
  have H0 := Lib.hid hr0
  clear hz hr ht hr0
  go_enter Try.func101, Try.ntmps101
  go_wp2
  go_loopw [8, 5] (fun i _ wr => ∃ k : Nat, k ≤ n ∧ i = .int .i64 k ∧ NoneYet f l k ∧ Below w.heap.size w wr) (fun i _ _ => n - (intOf i).toNat)
  case atStart => exact ⟨0, by omega, rfl, noneYet_zero f l, Below.refl _ _⟩
  case round =>
    obtain ⟨k, hk, rfl, hto, hb⟩ := hrel
    have HN := Lib.hid hto
    clear hto
    by_cases hlt : k < n
    · obtain ⟨ad, ⟨yes, six, hi, lo, m, least, most⟩, rfl, hlk, htk, hmem, hbk, hc0, hcj⟩ := HR.out.atS RuleV.cells_length HZ.out hlt
      have q0 := (hb.cell (p := ad.add (k * 7)) (by rw [block_of_add]; exact hbk)).trans (hc0 _ rfl)
      have q1 := (hb.cell (p := ⟨(ad.add (k * 7)).block, (ad.add (k * 7)).off + 1, none⟩) (by rw [block_of_add]; exact hbk)).trans (hcj 1 _ rfl)
      have q2 := (hb.cell (p := ⟨(ad.add (k * 7)).block, (ad.add (k * 7)).off + 2, none⟩) (by rw [block_of_add]; exact hbk)).trans (hcj 2 _ rfl)
      have q3 := (hb.cell (p := ⟨(ad.add (k * 7)).block, (ad.add (k * 7)).off + 3, none⟩) (by rw [block_of_add]; exact hbk)).trans (hcj 3 _ rfl)
      have q4 := (hb.cell (p := ⟨(ad.add (k * 7)).block, (ad.add (k * 7)).off + 4, none⟩) (by rw [block_of_add]; exact hbk)).trans (hcj 4 _ rfl)
      have q5 := (hb.cell (p := ⟨(ad.add (k * 7)).block, (ad.add (k * 7)).off + 5, none⟩) (by rw [block_of_add]; exact hbk)).trans (hcj 5 _ rfl)
      have q6 := (hb.cell (p := ⟨(ad.add (k * 7)).block, (ad.add (k * 7)).off + 6, none⟩) (by rw [block_of_add]; exact hbk)).trans (hcj 6 _ rfl)
      have HC : Hid (Calls Try.prog 102 #[.agg #[.bool yes, .bool six, .int .u64 hi, .int .u64 lo, .int .i64 m, .int .i64 least, .int .i64 most], .pointer (some ⟨b, 0, none⟩)] wr fun e w'' => e = .returned (.bool (f ⟨yes, six, hi, lo, m, least, most⟩)) ∧ Below wr.heap.size wr w'') := HT.out _ hmem wr hb
      have HL := Lib.hid hlk
      have HK := Lib.hid htk
      clear hlk htk hmem hbk hc0 hcj
      generalize hfv : f ⟨yes, six, hi, lo, m, least, most⟩ = fv at *
      have HV := Lib.hid hfv
      clear hfv
      cases fv
      · have HN2 := Lib.hid (noneYet_succ HN.out HK.out HV.out)
        go_wp2_with fail
        refine HC.out.mono ?_
        rintro e w1 ⟨rfl, hb1⟩
        have HB := Lib.hid (below_step hb hb1)
        clear hb1
        go_wp2
        go_roundw
        case rel => exact ⟨k + 1, by omega, by go_num, HN2.out, HB.out⟩
        case measure => simp [intOf]; omega
      · have HN2 := Lib.hid (firstAt_at HN.out HL.out HV.out)
        go_wp2_with fail
        refine HC.out.mono ?_
        rintro e w1 ⟨rfl, hb1⟩
        have HB := Lib.hid (below_step hb hb1)
        clear hb1
        go_wp2
        go_ret
        exact ⟨ret_int (HN2.out.symm.trans H0.out.symm), HB.out⟩
    · obtain rfl : k = n := by omega
      have HN2 := Lib.hid (firstAt_end HN.out HZ.out)
      go_wp2
      go_ret
      exact ⟨ret_int (HN2.out.symm.trans H0.out.symm), hb⟩

end Go.Proofs.Ytmljdjakbbedlaa

namespace Go.Proofs.Ytmljdjakbbedlaa
open Go.ChangeShapes Go.WideShapes Go.ChangeAt Go.RowKit

theorem rulesE_all : ∀ {l : List RuleV}, rulesE l = 0 → ∀ r ∈ l, r.fault = 0
  | [], _, r, hr => by simp at hr
  | x :: l, h, r, hr => by
    unfold rulesE at h
    by_cases hx : x.fault = 0
    · rw [if_pos hx] at h
      rcases List.mem_cons.1 hr with rfl | hr
      · exact hx
      · exact rulesE_all h r hr
    · rw [if_neg hx] at h; exact absurd h hx
theorem rulesF_all {l : List RuleV} (h : rulesF l = 0) : ∀ r ∈ l, r.fault = 0 := by
  unfold rulesF at h
  by_cases hn : 30 < l.length
  · rw [if_pos hn] at h; omega
  · rw [if_neg hn] at h; exact rulesE_all h
theorem fault_chk {r : RuleV} (h : r.fault = 0) : chk r.six r.hi r.lo r.n = 0 := by
  unfold RuleV.fault at h
  by_cases hc : chk r.six r.hi r.lo r.n = 0
  · exact hc
  · rw [if_pos hc] at h; exact absurd h hc
theorem fault_pfx {r : RuleV} (ho : r.Ok) (h : r.fault = 0) : Pfx r.six r.hi r.lo r.n := chk_zero ho.1 ho.2 (fault_chk h)
theorem fault_mid {r : RuleV} (ho : r.Ok) (h : r.fault = 0) : r.Mid := by
  have := (fault_pfx ho h).len
  have hw := wideI_le r.six
  unfold RuleV.Mid
  omega

/-- What the first rule that fits says. -/
def firstYes (f : RuleV → Bool) : List RuleV → Bool
  | [] => false
  | r :: l => if f r = true then r.yes else firstYes f l
theorem firstYes_none {f : RuleV → Bool} : ∀ {l : List RuleV}, (∀ x ∈ l, f x = false) → firstYes f l = false
  | [], _ => rfl
  | y :: l, h => by
    unfold firstYes
    rw [if_neg (by rw [h y (by simp)]; simp)]
    exact firstYes_none (fun x hx => h x (by simp [hx]))
theorem firstYes_at {f : RuleV → Bool} : ∀ {l : List RuleV} {k : Nat} {x : RuleV}, firstAt f l = k → l[k]? = some x → firstYes f l = x.yes
  | [], k, x, _, h => by simp at h
  | y :: l, k, x, hn, h => by
    unfold firstAt at hn
    unfold firstYes
    by_cases hy : f y = true
    · rw [if_pos hy] at hn ⊢
      obtain rfl : k = 0 := by omega
      simp at h
      rw [h]
    · rw [if_neg hy] at hn ⊢
      by_cases hneg : firstAt f l < 0
      · rw [if_pos hneg] at hn; omega
      · rw [if_neg hneg] at hn
        obtain ⟨j, rfl⟩ : ∃ j, k = j + 1 := ⟨k - 1, by omega⟩
        exact firstYes_at (k := j) (by omega) (by simpa using h)

theorem ret_bii {a a' : Bool} {b b' c : Int} (h1 : a = a') (h2 : b = b') : Ending.returned (.tuple #[.bool a, .int .i64 b, .int .i64 c]) = Ending.returned (.tuple #[.bool a', .int .i64 b', .int .i64 c]) := by rw [h1, h2]

theorem passTest (l : List RuleV) (six' : Bool) (hi' lo' n' : Int) (t : TypeId) (w : World) (h3 : 0 ≤ hi' ∧ hi' < 18446744073709551616) (h4 : 0 ≤ lo' ∧ lo' < 18446744073709551616) (h5 : six' = false → lo' < 4294967296) (hm : ∀ r ∈ l, r.Mid) :
    RuleTest (w.alloc (.cells #[.bool six', .int .u64 hi', .int .u64 lo', .int .i64 n'] t)) 102 [.pointer (some ⟨w.heap.size, 0, none⟩)] (fun r => RuleV.fits r six' hi' lo' n') l := by
  intro r hr w' hb
  obtain ⟨B1, S1, q0, q1, q2, q3⟩ := box4 hb
  exact passClosure_any r six' hi' lo' n' w.heap.size w' h3 h4 h5 (hm r hr) q0 q1 q2 q3 S1

set_option maxRecDepth 100000 in
set_option maxHeartbeats 1600000 in
theorem pass_any (A : Option Addr) (n c : Nat) (l : List RuleV) (six' : Bool) (hi' lo' n' : Int) (w : World) (h3 : 0 ≤ hi' ∧ hi' < 18446744073709551616) (h4 : 0 ≤ lo' ∧ lo' < 18446744073709551616) (h5 : six' = false → lo' < 4294967296) (h : IsRules w A n l) (hm : ∀ r ∈ l, r.Mid) :
    Calls Try.prog 49 #[.slice A n c, .agg #[.bool six', .int .u64 hi', .int .u64 lo', .int .i64 n']] w fun e w' => e = .returned (.tuple #[.bool (firstYes (fun r => RuleV.fits r six' hi' lo' n') l), .int .i64 (firstAt (fun r => RuleV.fits r six' hi' lo' n') l)]) ∧ Below w.heap.size w w' := by
  have hb0 : Below w.heap.size w (w.alloc (.cells #[.bool six', .int .u64 hi', .int .u64 lo', .int .i64 n'] 42)) := (Below.refl _ _).alloc (Nat.le_refl _) _
  have HI := Lib.hid (idxRule_any A n c l (fun r => RuleV.fits r six' hi' lo' n') w.heap.size (w.alloc (.cells #[.bool six', .int .u64 hi', .int .u64 lo', .int .i64 n'] 42)) h.1 h.2.1 (h.below hb0).2.2.2 (passTest l six' hi' lo' n' _ w h3 h4 h5 hm))
  have hn := h.2.1
  unfold maxLen at hn
  rcases firstAt_cases (fun r => RuleV.fits r six' hi' lo' n') l with ⟨h1, h2⟩ | ⟨k, r, h1, h2, _⟩
  · rw [firstYes_none h2]
    rw [h1] at HI ⊢
    clear h h1 h2 hb0 hm h5
    go_enter Try.func49, Try.ntmps49
    go_wp2_with fail
    refine HI.out.mono ?_
    rintro e w1 ⟨rfl, hb⟩
    have HB := Lib.hid (balloc1 hb)
    clear hb
    go_wp2
    go_ret2
    exact ⟨rfl, HB.out⟩
  · rw [firstYes_at h1 h2]
    rw [h1] at HI ⊢
    have hk : k < n := by
      have := (List.getElem?_eq_some_iff.1 h2).1
      have := h.1
      omega
    obtain ⟨ad, r', rfl, hlk, _, _, hbk, hc0, _⟩ := h.2.2.2.atS RuleV.cells_length h.1 hk
    rw [h2] at hlk
    injection hlk with hlk
    subst hlk
    have hc := hc0 (.bool r.yes) rfl
    have hkI : (k : Int) < (n : Int) := by omega
    clear h h1 h2 hb0 hm h5 hc0
    generalize r.yes = yy at *
    go_enter Try.func49, Try.ntmps49
    go_wp2_with fail
    refine HI.out.mono ?_
    rintro e w1 ⟨rfl, hb⟩
    have HB := Lib.hid (balloc1 hb)
    have hc2 : w1.cell? (ad.add (k * 7)) = some (.bool yy) := ((balloc1 hb).cell (p := ad.add (k * 7)) (by rw [block_of_add]; exact hbk)).trans hc
    clear hb
    go_wp2
    go_ret2
    exact ⟨rfl, HB.out⟩

set_option maxRecDepth 100000 in
set_option maxHeartbeats 800000 in
theorem ppass_bad1 (A : Option Addr) (n c : Nat) (l : List RuleV) (six' : Bool) (hi' lo' n' : Int) (w : World) (h : IsRules w A n l) (hz : ¬ rulesF l = 0) :
    Calls Try.prog 20 #[.slice A n c, .agg #[.bool six', .int .u64 hi', .int .u64 lo', .int .i64 n']] w fun e w' => e = .returned (.tuple #[.bool false, .int .i64 0, .int .i64 (rulesF l)]) ∧ Below w.heap.size w w' := by
  have HC := Lib.hid (fun (w' : World) (hb : Below w.heap.size w w') => rulesCheck_is (h.below hb) c)
  clear h
  generalize rulesF l = z at *
  have hb1 : (z == 0) = false := by simpa using hz
  have hb2 : (z != 0) = true := by simpa using hz
  go_enter Try.func20, Try.ntmps20
  go_wp2_with fail
  refine (HC.out _ ((Below.refl _ _).alloc (Nat.le_refl _) _)).mono ?_
  rintro e w1 ⟨rfl, hb⟩
  have HB := Lib.hid (balloc1 hb)
  clear hb
  go_wp2
  go_ret3
  exact ⟨rfl, HB.out⟩

set_option maxRecDepth 100000 in
set_option maxHeartbeats 800000 in
theorem ppass_bad2 (A : Option Addr) (n c : Nat) (l : List RuleV) (six' : Bool) (hi' lo' n' : Int) (w : World) (h3 : 0 ≤ hi' ∧ hi' < 18446744073709551616) (h4 : 0 ≤ lo' ∧ lo' < 18446744073709551616) (h : IsRules w A n l) (hz : rulesF l = 0) (hk : ¬ chk six' hi' lo' n' = 0) :
    Calls Try.prog 20 #[.slice A n c, .agg #[.bool six', .int .u64 hi', .int .u64 lo', .int .i64 n']] w fun e w' => e = .returned (.tuple #[.bool false, .int .i64 0, .int .i64 (chk six' hi' lo' n')]) ∧ Below w.heap.size w w' := by
  have HC := (fun (w' : World) (hb : Below w.heap.size w w') => rulesCheck_is (h.below hb) c)
  rw [hz] at HC
  have HCC := Lib.hid HC
  have HK := Lib.hid (fun w => check_any six' hi' lo' n' w h3 h4)
  clear h HC hz
  generalize chk six' hi' lo' n' = z at *
  have hb1 : (z == 0) = false := by simpa using hk
  have hb2 : (z != 0) = true := by simpa using hk
  go_enter Try.func20, Try.ntmps20
  go_wp2_with fail
  refine (HCC.out _ ((Below.refl _ _).alloc (Nat.le_refl _) _)).mono ?_
  rintro e w1 ⟨rfl, hb⟩
  have HB := Lib.hid (balloc1 hb)
  obtain ⟨fc, ff⟩ := bcell hb
  clear hb
  go_wp2_with fail
  refine (HK.out _).mono ?_
  rintro e w2 ⟨rfl, hb⟩
  have HB2 := Lib.hid (below_step HB.out hb)
  clear hb
  go_wp2
  go_ret3
  exact ⟨rfl, HB2.out⟩


set_option maxRecDepth 100000 in
set_option maxHeartbeats 800000 in
theorem ppass_ok (A : Option Addr) (n c : Nat) (l : List RuleV) (six' : Bool) (hi' lo' n' : Int) (w : World) (h3 : 0 ≤ hi' ∧ hi' < 18446744073709551616) (h4 : 0 ≤ lo' ∧ lo' < 18446744073709551616) (h : IsRules w A n l) (hz : rulesF l = 0) (hk : chk six' hi' lo' n' = 0) :
    Calls Try.prog 20 #[.slice A n c, .agg #[.bool six', .int .u64 hi', .int .u64 lo', .int .i64 n']] w fun e w' => e = .returned (.tuple #[.bool (firstYes (fun r => RuleV.fits r six' hi' lo' n') l), .int .i64 (firstAt (fun r => RuleV.fits r six' hi' lo' n') l), .int .i64 0]) ∧ Below w.heap.size w w' := by
  have HC := (fun (w' : World) (hb : Below w.heap.size w w') => rulesCheck_is (h.below hb) c)
  rw [hz] at HC
  have HCC := Lib.hid HC
  have HK' := (fun w => check_any six' hi' lo' n' w h3 h4)
  rw [hk] at HK'
  have HK := Lib.hid HK'
  have hp := chk_zero h3 h4 hk
  have HP := Lib.hid (fun (w' : World) (hb : Below w.heap.size w w') => pass_any A n c l six' hi' lo' n' w' h3 h4 (fun h => by subst h; exact (mayB_four hp.may).2) (h.below hb) (fun r hr => fault_mid (h.2.2.1 r hr) (rulesF_all hz r hr)))
  generalize firstYes (fun r => RuleV.fits r six' hi' lo' n') l = yy at *
  generalize firstAt (fun r => RuleV.fits r six' hi' lo' n') l = ii at *
  clear h HC HK' hz hk hp
  go_enter Try.func20, Try.ntmps20
  go_wp2_with fail
  refine (HCC.out _ ((Below.refl _ _).alloc (Nat.le_refl _) _)).mono ?_
  rintro e w1 ⟨rfl, hb⟩
  have HB := Lib.hid (balloc1 hb)
  have s1 := bsize1 hb
  obtain ⟨fc, ff⟩ := bcell hb
  clear hb
  go_wp2_with fail
  refine (HK.out _).mono ?_
  rintro e w2 ⟨rfl, hb⟩
  have HB2 := Lib.hid (below_step HB.out hb)
  obtain ⟨fc2, ff2⟩ := bcell hb
  clear hb
  go_wp2_with fail
  refine (HP.out _ HB2.out).mono ?_
  rintro e w3 ⟨rfl, hb⟩
  have HB3 := Lib.hid (below_step HB2.out hb)
  clear hb
  go_wp2
  go_ret3
  exact ⟨rfl, HB3.out⟩

end Go.Proofs.Ytmljdjakbbedlaa
