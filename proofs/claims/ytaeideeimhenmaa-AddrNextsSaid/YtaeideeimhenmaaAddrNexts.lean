/-
  Proved here: the contracts of addr.Next and of the reference's AddrNext; the walk of the law AddrNexts.
-/
import Derived.Test.YtaeideeimhenmaaPlus
import Derived.Test.YtaeideeimhenmaaAddrOf
namespace Go.Proofs.Ytaeideeimhenmaa
open Go.ChangeShapes Go.WideShapes Go.ChangeAt Go.RowKit

def ZA : Value := .agg #[.bool false, .int .u64 0, .int .u64 0]

set_option maxRecDepth 100000 in
set_option maxHeartbeats 800000 in
theorem next_bad1 (six : Bool) (hi lo by' : Int) (w : World) (h1 : 0 ≤ hi ∧ hi < 18446744073709551616) (h2 : 0 ≤ lo ∧ lo < 18446744073709551616) (hm : mayB six hi lo = false) :
    Calls Try.prog 29 #[.agg #[.bool six, .int .u64 hi, .int .u64 lo], .int .i64 by'] w fun e w' => e = .returned (.tuple #[ZA, .int .i64 4]) ∧ Below w.heap.size w w' := by
  have M1 := fun w => may_any six hi lo w h2.1
  rw [hm] at M1
  have C1 := Lib.hid M1
  clear M1 hm
  go_enter Try.func29, Try.ntmps29
  go_wp2_with fail
  refine (C1.out _).mono ?_
  rintro e w1 ⟨rfl, hb⟩
  obtain ⟨fc, ff⟩ := bcell hb
  obtain ⟨s1, s2⟩ := bsize2 hb
  have HB := Lib.hid (balloc2 hb)
  clear hb
  go_wp2
  refine bodyPost_ret (v := .tuple #[ZA, .int .i64 4]) (by simp [results, Try.results29, go_sem, fc, ZA]) rfl ⟨rfl, ?_⟩
  (repeat' first | with_reducible exact HB.out | with_reducible exact Below.refl _ _ | with_reducible refine Below.drew ?_ | with_reducible refine below_drewN ?_ _ | with_reducible refine Below.setCell ?_ ?_ _ | with_reducible refine Below.alloc ?_ ?_ _ | (simp; done) | (simp; omega) | omega)

set_option maxRecDepth 100000 in
set_option maxHeartbeats 800000 in
theorem next_bad2 (six : Bool) (hi lo by' : Int) (w : World) (h1 : 0 ≤ hi ∧ hi < 18446744073709551616) (h2 : 0 ≤ lo ∧ lo < 18446744073709551616) (hm : mayB six hi lo = true) (hb' : by' < -1099511627776 ∨ 1099511627776 < by') :
    Calls Try.prog 29 #[.agg #[.bool six, .int .u64 hi, .int .u64 lo], .int .i64 by'] w fun e w' => e = .returned (.tuple #[ZA, .int .i64 2]) ∧ Below w.heap.size w w' := by
  have M1 := fun w => may_any six hi lo w h2.1
  rw [hm] at M1
  have C1 := Lib.hid M1
  clear M1 hm
  rcases hb' with hb' | hb'
  · have hd1 : decide (by' < -1099511627776) = true := decide_eq_true hb'
    have hd2 : decide (1099511627776 < by') = false := decide_eq_false (by omega)
    go_enter Try.func29, Try.ntmps29
    go_wp2_with fail
    refine (C1.out _).mono ?_
    rintro e w1 ⟨rfl, hb⟩
    obtain ⟨fc, ff⟩ := bcell hb
    obtain ⟨s1, s2⟩ := bsize2 hb
    have HB := Lib.hid (balloc2 hb)
    clear hb
    go_wp2
    refine bodyPost_ret (v := .tuple #[ZA, .int .i64 2]) (by simp [results, Try.results29, go_sem, fc, ZA]) rfl ⟨rfl, ?_⟩
    (repeat' first | with_reducible exact HB.out | with_reducible exact Below.refl _ _ | with_reducible refine Below.drew ?_ | with_reducible refine below_drewN ?_ _ | with_reducible refine Below.setCell ?_ ?_ _ | with_reducible refine Below.alloc ?_ ?_ _ | (simp; done) | (simp; omega) | omega)
  · have hd1 : decide (by' < -1099511627776) = false := decide_eq_false (by omega)
    have hd2 : decide (1099511627776 < by') = true := decide_eq_true hb'
    go_enter Try.func29, Try.ntmps29
    go_wp2_with fail
    refine (C1.out _).mono ?_
    rintro e w1 ⟨rfl, hb⟩
    obtain ⟨fc, ff⟩ := bcell hb
    obtain ⟨s1, s2⟩ := bsize2 hb
    have HB := Lib.hid (balloc2 hb)
    clear hb
    go_wp2
    refine bodyPost_ret (v := .tuple #[ZA, .int .i64 2]) (by simp [results, Try.results29, go_sem, fc, ZA]) rfl ⟨rfl, ?_⟩
    (repeat' first | with_reducible exact HB.out | with_reducible exact Below.refl _ _ | with_reducible refine Below.drew ?_ | with_reducible refine below_drewN ?_ _ | with_reducible refine Below.setCell ?_ ?_ _ | with_reducible refine Below.alloc ?_ ?_ _ | (simp; done) | (simp; omega) | omega)


set_option maxRecDepth 100000 in
set_option maxHeartbeats 800000 in
theorem refNext_bad1 (six : Bool) (hi lo by' : Int) (w : World) (h1 : 0 ≤ hi ∧ hi < 18446744073709551616) (h2 : 0 ≤ lo ∧ lo < 18446744073709551616) (hm : mayB six hi lo = false) :
    Calls Try.prog 30 #[.agg #[.bool six, .int .u64 hi, .int .u64 lo], .int .i64 by'] w fun e w' => e = .returned (.tuple #[ZA, .int .i64 4]) ∧ Below w.heap.size w w' := by
  have M1 := fun w => refMay_any six hi lo w h2.1
  rw [hm] at M1
  have C1 := Lib.hid M1
  clear M1 hm
  go_enter Try.func30, Try.ntmps30
  go_wp2_with fail
  refine (C1.out _).mono ?_
  rintro e w1 ⟨rfl, hb⟩
  obtain ⟨fc, ff⟩ := bcell hb
  obtain ⟨s1, s2⟩ := bsize2 hb
  have HB := Lib.hid (balloc2 hb)
  clear hb
  go_wp2
  refine bodyPost_ret (v := .tuple #[ZA, .int .i64 4]) (by simp [results, Try.results30, go_sem, fc, ZA]) rfl ⟨rfl, ?_⟩
  (repeat' first | with_reducible exact HB.out | with_reducible exact Below.refl _ _ | with_reducible refine Below.drew ?_ | with_reducible refine below_drewN ?_ _ | with_reducible refine Below.setCell ?_ ?_ _ | with_reducible refine Below.alloc ?_ ?_ _ | (simp; done) | (simp; omega) | omega)

set_option maxRecDepth 100000 in
set_option maxHeartbeats 800000 in
theorem refNext_bad2 (six : Bool) (hi lo by' : Int) (w : World) (h1 : 0 ≤ hi ∧ hi < 18446744073709551616) (h2 : 0 ≤ lo ∧ lo < 18446744073709551616) (hm : mayB six hi lo = true) (hb' : by' < -1099511627776 ∨ 1099511627776 < by') :
    Calls Try.prog 30 #[.agg #[.bool six, .int .u64 hi, .int .u64 lo], .int .i64 by'] w fun e w' => e = .returned (.tuple #[ZA, .int .i64 2]) ∧ Below w.heap.size w w' := by
  have M1 := fun w => refMay_any six hi lo w h2.1
  rw [hm] at M1
  have C1 := Lib.hid M1
  clear M1 hm
  rcases hb' with hb' | hb'
  · have hd1 : decide (by' < -1099511627776) = true := decide_eq_true hb'
    have hd2 : decide (1099511627776 < by') = false := decide_eq_false (by omega)
    go_enter Try.func30, Try.ntmps30
    go_wp2_with fail
    refine (C1.out _).mono ?_
    rintro e w1 ⟨rfl, hb⟩
    obtain ⟨fc, ff⟩ := bcell hb
    obtain ⟨s1, s2⟩ := bsize2 hb
    have HB := Lib.hid (balloc2 hb)
    clear hb
    go_wp2
    refine bodyPost_ret (v := .tuple #[ZA, .int .i64 2]) (by simp [results, Try.results30, go_sem, fc, ZA]) rfl ⟨rfl, ?_⟩
    (repeat' first | with_reducible exact HB.out | with_reducible exact Below.refl _ _ | with_reducible refine Below.drew ?_ | with_reducible refine below_drewN ?_ _ | with_reducible refine Below.setCell ?_ ?_ _ | with_reducible refine Below.alloc ?_ ?_ _ | (simp; done) | (simp; omega) | omega)
  · have hd1 : decide (by' < -1099511627776) = false := decide_eq_false (by omega)
    have hd2 : decide (1099511627776 < by') = true := decide_eq_true hb'
    go_enter Try.func30, Try.ntmps30
    go_wp2_with fail
    refine (C1.out _).mono ?_
    rintro e w1 ⟨rfl, hb⟩
    obtain ⟨fc, ff⟩ := bcell hb
    obtain ⟨s1, s2⟩ := bsize2 hb
    have HB := Lib.hid (balloc2 hb)
    clear hb
    go_wp2
    refine bodyPost_ret (v := .tuple #[ZA, .int .i64 2]) (by simp [results, Try.results30, go_sem, fc, ZA]) rfl ⟨rfl, ?_⟩
    (repeat' first | with_reducible exact HB.out | with_reducible exact Below.refl _ _ | with_reducible refine Below.drew ?_ | with_reducible refine below_drewN ?_ _ | with_reducible refine Below.setCell ?_ ?_ _ | with_reducible refine Below.alloc ?_ ?_ _ | (simp; done) | (simp; omega) | omega)

set_option maxRecDepth 100000 in
set_option maxHeartbeats 800000 in
theorem next_sum (six : Bool) (hi lo by' : Int) (w : World) (h1 : 0 ≤ hi ∧ hi < 18446744073709551616) (h2 : 0 ≤ lo ∧ lo < 18446744073709551616) (hm : mayB six hi lo = true) (hb' : -1099511627776 ≤ by' ∧ by' ≤ 1099511627776) :
    Calls Try.prog 29 #[.agg #[.bool six, .int .u64 hi, .int .u64 lo], .int .i64 by'] w fun e w' => e = .returned (if plusOk six hi lo by' = true then .tuple #[.agg #[.bool six, .int .u64 (plusHi hi lo by'), .int .u64 (plusLo hi lo by')], .int .i64 0] else .tuple #[ZA, .int .i64 2]) ∧ Below w.heap.size w w' := by
  have M1 := fun w => may_any six hi lo w h2.1
  rw [hm] at M1
  have C1 := Lib.hid M1
  have CP := Lib.hid (fun w => plus_any six hi lo by' w h1 h2 hb')
  have hd1 : decide (by' < -1099511627776) = false := decide_eq_false (by omega)
  have hd2 : decide (1099511627776 < by') = false := decide_eq_false (by omega)
  clear M1 hm
  generalize plusHi hi lo by' = ph at *
  generalize plusLo hi lo by' = pl at *
  generalize plusOk six hi lo by' = ok at *
  cases ok
  · rw [if_neg (by simp)]
    go_enter Try.func29, Try.ntmps29
    go_wp2_with fail
    refine (C1.out _).mono ?_
    rintro e w1 ⟨rfl, hb⟩
    obtain ⟨fc, ff⟩ := bcell hb
    obtain ⟨s1, s2⟩ := bsize2 hb
    have HB := Lib.hid (balloc2 hb)
    clear hb
    go_wp2_with fail
    refine (CP.out _).mono ?_
    rintro e w2 ⟨rfl, hb⟩
    obtain ⟨fc2, ff2⟩ := bcell hb
    have z := hb.size
    have s3 : w.heap.size < w2.heap.size := by omega
    have s4 : w.heap.size + 1 < w2.heap.size := by omega
    have HB2 := Lib.hid (below_step HB.out hb)
    clear hb
    go_wp2
    refine bodyPost_ret (v := .tuple #[ZA, .int .i64 2]) (by simp [results, Try.results29, go_sem, fc2, fc, s1, s2, s3, s4, show w.heap.size + 1 < w2.heap.size + 1 from by omega, ZA]) rfl ⟨rfl, ?_⟩
    (repeat' first | with_reducible exact HB2.out | with_reducible exact Below.refl _ _ | with_reducible refine Below.drew ?_ | with_reducible refine below_drewN ?_ _ | with_reducible refine Below.setCell ?_ ?_ _ | with_reducible refine Below.alloc ?_ ?_ _ | (simp; done) | (simp; omega) | omega)
  · rw [if_pos rfl]
    go_enter Try.func29, Try.ntmps29
    go_wp2_with fail
    refine (C1.out _).mono ?_
    rintro e w1 ⟨rfl, hb⟩
    obtain ⟨fc, ff⟩ := bcell hb
    obtain ⟨s1, s2⟩ := bsize2 hb
    have HB := Lib.hid (balloc2 hb)
    clear hb
    go_wp2_with fail
    refine (CP.out _).mono ?_
    rintro e w2 ⟨rfl, hb⟩
    obtain ⟨fc2, ff2⟩ := bcell hb
    have z := hb.size
    have s3 : w.heap.size < w2.heap.size := by omega
    have s4 : w.heap.size + 1 < w2.heap.size := by omega
    have HB2 := Lib.hid (below_step HB.out hb)
    clear hb
    go_wp2
    refine bodyPost_ret (v := .tuple #[.agg #[.bool six, .int .u64 ph, .int .u64 pl], .int .i64 0]) (by simp [results, Try.results29, go_sem, fc2, fc, s1, s2, s3, s4, show w.heap.size + 1 < w2.heap.size + 1 from by omega]) rfl ⟨rfl, ?_⟩
    (repeat' first | with_reducible exact HB2.out | with_reducible exact Below.refl _ _ | with_reducible refine Below.drew ?_ | with_reducible refine below_drewN ?_ _ | with_reducible refine Below.setCell ?_ ?_ _ | with_reducible refine Below.alloc ?_ ?_ _ | (simp; done) | (simp; omega) | omega)

theorem and1_i64 (n : Int) : bits .and .i64 n 1 = n % 2 := by
  have h1 : (BitVec.ofInt 64 1).toNat = 2 ^ 1 - 1 := by decide
  have key : (BitVec.ofInt 64 n &&& BitVec.ofInt 64 1).toNat = (n % ((2 ^ 64 : Nat) : Int)).toNat % 2 ^ 1 := by
    rw [BitVec.toNat_and, BitVec.toNat_ofInt, h1, Nat.and_two_pow_sub_one_eq_mod]
  show IntKind.i64.wrap ((BitVec.ofInt 64 n &&& BitVec.ofInt 64 1).toNat : Nat) = n % 2
  rw [key, IntKind.wrap_i64]
  omega
theorem topI_pow {six : Bool} {m : Nat} (h : wideI six = m) : topI six = 2 ^ m := by
  cases six
  · have h32 : (32 : Int) = m := h
    obtain rfl : m = 32 := by omega
    decide
  · have h128 : (128 : Int) = m := h
    obtain rfl : m = 128 := by omega
    decide
theorem own_ltN {w : World} {base n cap g : Nat} {e : TypeId} {xs : List Value} (h : w.ownsRow base e 1 (.slice (some ⟨g, 0, none⟩) n cap) n xs) (hn : 0 < n) : g < w.heap.size := by
  obtain ⟨g', cap', hv, _, hlt⟩ := h.form hn
  injection hv with hv
  injection hv with hv
  injection hv with hv
  omega
theorem half_even (n nb : Int) (h : n % 2 = nb) (hb : -2000000000000 ≤ n ∧ n ≤ 2000000000000) : wrap64 ((wrap64 (n - nb)).tdiv 2) = n / 2 := by
  have e1 : wrap64 (n - nb) = 2 * (n / 2) := by unfold wrap64; omega
  rw [e1, Int.mul_tdiv_cancel_left _ (by omega)]
  unfold wrap64
  omega

set_option maxRecDepth 100000 in
set_option maxHeartbeats 1600000 in
theorem refNext_sum (six : Bool) (hi lo by' : Int) (w : World) (h1 : 0 ≤ hi ∧ hi < 18446744073709551616) (h2 : 0 ≤ lo ∧ lo < 18446744073709551616) (hm : mayB six hi lo = true) (hb' : -1099511627776 ≤ by' ∧ by' ≤ 1099511627776) :
    Calls Try.prog 30 #[.agg #[.bool six, .int .u64 hi, .int .u64 lo], .int .i64 by'] w fun e w' => e = .returned (if plusOk six hi lo by' = true then .tuple #[.agg #[.bool six, .int .u64 (plusHi hi lo by'), .int .u64 (plusLo hi lo by')], .int .i64 0] else .tuple #[ZA, .int .i64 2]) ∧ Below w.heap.size w w' := by
  have M1 := fun w => refMay_any six hi lo w h2.1
  rw [hm] at M1
  have C1 := Lib.hid M1
  obtain ⟨m, hw, hpos, hle⟩ := wideN six
  have HN := Lib.hid hw
  have hd1 : decide (by' < -1099511627776) = false := decide_eq_false (by omega)
  have hd2 : decide (1099511627776 < by') = false := decide_eq_false (by omega)
  have hm1 : (m : Int) ≤ 128 := by omega
  have HM := Lib.hid hm
  clear M1 hm hw
  obtain ⟨R, hR⟩ : ∃ R, R = (if plusOk six hi lo by' = true then Value.tuple #[.agg #[.bool six, .int .u64 (plusHi hi lo by'), .int .u64 (plusLo hi lo by')], .int .i64 0] else .tuple #[ZA, .int .i64 2]) := ⟨_, rfl⟩
  rw [← hR]
  have HRES := Lib.hid hR
  clear hR
  go_enter Try.func30, Try.ntmps30
  go_wp2_with fail
  refine (C1.out _).mono ?_
  rintro e w1 ⟨rfl, hb⟩
  obtain ⟨fc, ff⟩ := bcell hb
  obtain ⟨s1, s2⟩ := bsize2 hb
  have HB := Lib.hid (balloc2 hb)
  clear hb
  go_wp2_with fail
  refine (bitsOf_any six hi lo _ h1 h2).mono ?_
  rintro e w2 ⟨v, rfl, hown, hb2, hs2⟩
  obtain ⟨fc2, ff2⟩ := bcell hb2
  have HB2 := Lib.hid (below_step HB.out hb2)
  have HB2X := Lib.hid hb2
  rw [HN.out] at hown
  simp only [Int.toNat_natCast] at hown
  obtain ⟨g, cap, rfl, hg, hlt⟩ := hown.form hpos
  have HOW := Lib.hid hown
  have s3 : w.heap.size < w2.heap.size := by omega
  have s4 : w.heap.size + 1 < w2.heap.size := by omega
  clear hown hb2
  go_wp2
  go_loopw [7, 8, 9] (fun c i _ wr => ∃ r : Nat, r ≤ m ∧ i = .int .i64 ((m : Int) - 1 - r) ∧ c = .int .i64 (carryI (valI six hi lo) by' r) ∧ wr.ownsRow (w1.heap.size + 1) 3 1 (.slice (some ⟨g, 0, none⟩) m cap) m ((nextTo six hi lo by' m r).map (Value.int .i64)) ∧ Below (w1.heap.size + 1) w2 wr) (fun _ i _ _ => (intOf i + 1).toNat)
  case atStart => exact ⟨0, by omega, by simp, by rw [carry_zero], by rw [nextTo_zero HN.out]; exact HOW.out, Below.refl _ _⟩
  case round =>
    obtain ⟨r, hr, rfl, rfl, hown, hbr⟩ := hrel
    by_cases hlt' : r < m
    · have hi0 : ((m : Int) - 1 - r) = ((m - 1 - r : Nat) : Int) := by omega
      rw [hi0]
      have hge : (0 : Int) ≤ ((m - 1 - r : Nat) : Int) := by omega
      have hcell := own_int (n := m) hown (nextTo_at (six := six) (hi := hi) (lo := lo) (by' := by') hlt')
      have hfz : wr.frozen? ⟨g, m - 1 - r, none⟩ = false := hown.frozenAt _
      have hbv := valI_bit six hi lo (m - 1 - r) h1 h2 HN.out (by omega)
      rw [show m - 1 - (m - 1 - r) = r from by omega] at hbv
      rw [hbv] at hcell
      have hcb := carry_bit (valI six hi lo) by' r
      have hcs := carry_succ (valI six hi lo) by' r
      have hcr := carry_range (valI six hi lo) by' r hb'
      have hbr01 : 0 ≤ valI six hi lo / 2 ^ r % 2 ∧ valI six hi lo / 2 ^ r % 2 ≤ 1 := by omega
      have hst := (hown.stored (m - 1 - r) (.int .i64 ((valI six hi lo + by') / 2 ^ r % 2))).1
      rw [← List.map_set, nextTo_set hlt'] at hst
      have HBS := Lib.hid (hbr.setCell (p := ⟨g, m - 1 - r, none⟩) hg (.int .i64 ((valI six hi lo + by') / 2 ^ r % 2)))
      have HST := Lib.hid hst
      have hjm : ((m - 1 - r : Nat) : Int) < (m : Int) := by omega
      clear hown hst hbv hi0 hbr
      generalize hgb : valI six hi lo / 2 ^ r % 2 = bb at *
      generalize hgc : carryI (valI six hi lo) by' r = cc at *
      generalize hgn : (valI six hi lo + by') / 2 ^ r % 2 = nb at *
      have HCS := Lib.hid hcs
      have ha := and1_i64 (bb + cc)
      rw [hcb] at ha
      have HCB := Lib.hid hcb
      clear hgb hgc hgn hcs hcb
      generalize hj : m - 1 - r = j at *
      have HJ := Lib.hid hj
      clear hj
      have HH := Lib.hid (half_even (bb + cc) nb HCB.out (by omega))
      go_wp2
      go_roundw
      case rel => exact ⟨r + 1, by omega, by rw [← HJ.out]; congr 1; omega, by rw [HH.out, HCS.out], HST.out, HBS.out⟩
      case measure => simp [intOf] <;> omega
    · obtain rfl : r = m := by omega
      have HX : Hid (Below w1.heap.size w1 wr) := HB2X.out.trans (hbr.mono (Nat.le_succ w1.heap.size))
      obtain ⟨fc3, ff3⟩ := bcell HX.out
      have z3 := HX.out.size
      have s5 : w.heap.size < wr.heap.size := by omega
      have s6 : w.heap.size + 1 < wr.heap.size := by omega
      have hgl : g < wr.heap.size := own_ltN hown hpos
      have HBW := Lib.hid (below_step HB.out HX.out)
      have hneg : ((r : Int) - 1 - r) = -1 := by omega
      rw [hneg]
      have hce := carry_end (valI six hi lo) by' (topI six) r (topI_pow HN.out) (valI_range six hi lo h1 h2 HM.out)
      rw [← plusOk_iff six hi lo by' h1 h2 HM.out hb'] at hce
      have HWD := Lib.hid (fun h => nextTo_words (by' := by') HN.out h1 h2 HM.out h)
      have HO := Lib.hid hown
      have HBR := Lib.hid hbr
      clear hown hbr hlt' hneg
      by_cases hc0 : carryI (valI six hi lo) by' r = 0
      · have hok := hce.1 hc0
        have HR1 : Hid (R = Value.tuple #[.agg #[.bool six, .int .u64 (plusHi hi lo by'), .int .u64 (plusLo hi lo by')], .int .i64 0]) := by show R = _; rw [HRES.out, if_pos hok]
        rw [hc0]
        have hww := HWD.out hok
        have HA := Lib.hid (fun w hx hy => addrOf_any six (nextTo six hi lo by' r r) r g cap w (nextTo_bits six hi lo by' r r) (nextTo_length six hi lo by' r r) HN.out hx hy)
        rw [hww.1, hww.2] at HA
        have HA2 := Lib.hid (HA.out wr (fun i b hib => own_int (n := r) HO.out hib) hgl)
        have HRES' := HR1.out
        clear hce hc0 hok hww HR1 HRES HWD HA
        generalize plusHi hi lo by' = ph at *
        generalize plusLo hi lo by' = pl at *
        have HR1 := Lib.hid HRES'
        clear HRES'
        go_wp2_with fail
        refine HA2.out.mono ?_
        rintro e w4 ⟨rfl, hb4⟩
        obtain ⟨fc4, ff4⟩ := bcell hb4
        have z4 := hb4.size
        have s7 : w.heap.size < w4.heap.size := by omega
        have s8 : w.heap.size + 1 < w4.heap.size := by omega
        have HB4 := Lib.hid (below_step HBW.out hb4)
        clear hb4
        go_wp2
        refine bodyPost_ret (v := .tuple #[.agg #[.bool six, .int .u64 ph, .int .u64 pl], .int .i64 0]) (by simp [results, Try.results30, go_sem, fc4, fc3, fc, s1, s2, s5, s6, s7, s8]) rfl ⟨by rw [HR1.out], ?_⟩
        (repeat' first | with_reducible exact HB4.out | with_reducible exact Below.refl _ _ | with_reducible refine Below.drew ?_ | with_reducible refine below_drewN ?_ _ | with_reducible refine Below.setCell ?_ ?_ _ | with_reducible refine Below.alloc ?_ ?_ _ | (simp; done) | (simp; omega) | omega)
      · have hok : ¬ plusOk six hi lo by' = true := fun h => hc0 (hce.2 h)
        have HR1 : Hid (R = Value.tuple #[ZA, .int .i64 2]) := by show R = _; rw [HRES.out, if_neg hok]
        have hne : (carryI (valI six hi lo) by' r != 0) = true := by simpa using hc0
        generalize carryI (valI six hi lo) by' r = cc at *
        clear hce hok
        go_wp2
        refine bodyPost_ret (v := .tuple #[ZA, .int .i64 2]) (by simp [results, Try.results30, go_sem, fc3, fc, s1, s2, s5, s6, ZA]) rfl ⟨by rw [HR1.out], ?_⟩
        (repeat' first | with_reducible exact HBW.out | with_reducible exact Below.refl _ _ | with_reducible refine Below.drew ?_ | with_reducible refine below_drewN ?_ _ | with_reducible refine Below.setCell ?_ ?_ _ | with_reducible refine Below.alloc ?_ ?_ _ | (simp; done) | (simp; omega) | omega)

set_option maxRecDepth 100000 in
theorem next_both (six : Bool) (hi lo by' : Int) (w : World) (h1 : 0 ≤ hi ∧ hi < 18446744073709551616) (h2 : 0 ≤ lo ∧ lo < 18446744073709551616) : ∃ (s : Bool) (a b k : Int), ∀ w,
      (Calls Try.prog 29 #[.agg #[.bool six, .int .u64 hi, .int .u64 lo], .int .i64 by'] w fun e w' => e = .returned (.tuple #[.agg #[.bool s, .int .u64 a, .int .u64 b], .int .i64 k]) ∧ Below w.heap.size w w') ∧
      (Calls Try.prog 30 #[.agg #[.bool six, .int .u64 hi, .int .u64 lo], .int .i64 by'] w fun e w' => e = .returned (.tuple #[.agg #[.bool s, .int .u64 a, .int .u64 b], .int .i64 k]) ∧ Below w.heap.size w w') := by
  cases hm : mayB six hi lo
  · exact ⟨false, 0, 0, 4, fun w => ⟨next_bad1 six hi lo by' w h1 h2 hm, refNext_bad1 six hi lo by' w h1 h2 hm⟩⟩
  · by_cases hb : by' < -1099511627776 ∨ 1099511627776 < by'
    · exact ⟨false, 0, 0, 2, fun w => ⟨next_bad2 six hi lo by' w h1 h2 hm hb, refNext_bad2 six hi lo by' w h1 h2 hm hb⟩⟩
    · have n1 := fun w => next_sum six hi lo by' w h1 h2 hm (by omega)
      have n2 := fun w => refNext_sum six hi lo by' w h1 h2 hm (by omega)
      by_cases hok : plusOk six hi lo by' = true
      · rw [if_pos hok] at n1 n2
        exact ⟨_, _, _, _, fun w => ⟨n1 w, n2 w⟩⟩
      · rw [if_neg hok] at n1 n2
        exact ⟨false, 0, 0, 2, fun w => ⟨n1 w, n2 w⟩⟩

set_option maxRecDepth 100000 in
set_option maxHeartbeats 800000 in
theorem addrNexts_walk {H : Type} {enc : TypeId × Value → H} (W : World) (vs : Array Value) (ds : List (DataW H)) (ps : List MemPlace) (h : ArgsOk Try.prog [28, 3] H enc W vs.toList ds ps) :
    Calls Try.prog 11 vs W fun e W' => e = .returned (.bool true) ∧ Below W.heap.size W W' := by
  obtain ⟨hA, ⟨base, hval⟩, _, _⟩ := h
  obtain ⟨v0, v1, d0, d1, p0, p1, e0, _, _, h0, h1⟩ := trodAll_two hA
  obtain ⟨six, hi, lo, rfl, b1, b2⟩ := open_addr (hval 0 _ v0 rfl (by rw [e0]; rfl)) h0
  obtain ⟨by', rfl, _, _, _⟩ := open_int Try.underlying3 (hval 1 _ v1 rfl (by rw [e0]; rfl)) h1
  obtain rfl : vs = #[.agg #[.bool six, .int .u64 hi, .int .u64 lo], .int .i64 by'] := by cases vs; simp_all
  obtain ⟨s, a, b, k, hc⟩ := next_both six hi lo by' W b1 b2
  have HC := Lib.hid hc
  clear hc h0 h1 hA hval e0
  go_enter Try.func11, Try.ntmps11
  go_wp2_with fail
  refine (HC.out _).1.mono ?_
  rintro e w1 ⟨rfl, hb⟩
  obtain ⟨fc, ff⟩ := bcell hb
  have s1 := bsize1 hb
  have HB := Lib.hid (balloc1 hb)
  clear hb
  go_wp2_with fail
  refine (HC.out _).2.mono ?_
  rintro e w2 ⟨rfl, hb⟩
  obtain ⟨fc2, ff2⟩ := bcell hb
  have s2 := bsize1 hb
  have HB2 := Lib.hid (below_step HB.out (balloc1 hb))
  clear hb
  have s3 : W.heap.size < w2.heap.size := by omega
  go_wp2
  all_goals go_ret
  all_goals refine ⟨by simp, ?_⟩
  all_goals (repeat' first | with_reducible exact HB2.out | with_reducible exact Below.refl _ _ | with_reducible refine Below.drew ?_ | with_reducible refine below_drewN ?_ _ | with_reducible refine Below.setCell ?_ ?_ _ | with_reducible refine Below.alloc ?_ ?_ _ | (simp; done) | (simp; omega) | omega)

end Go.Proofs.Ytaeideeimhenmaa
