/-
  Proved here: the contracts of rules.fits and of the closure that rules.pass hands to slices.IndexFunc.
-/
import Derived.Test.YtbjojfcpehkopaaRuleL
import Derived.Test.YtbjojfcpehkopaaCovers
import Derived.Test.YtbjojfcpehkopaaAuto
import Derived.Test.YtbjojfcpehkopaaFirstAt
namespace Go.Proofs.Ytbjojfcpehkopaa
open Go.ChangeShapes Go.WideShapes Go.ChangeAt Go.RowKit

/-- Does a rule fit a prefix? -/
def RuleV.fits (r : RuleV) (six : Bool) (hi lo n : Int) : Bool := decide (r.least ≤ n) && (decide (n ≤ r.most) && overB r.six r.hi r.lo r.n six hi lo n)
/-- A rule whose prefix is short enough for the code's arithmetic. -/
def RuleV.Mid (r : RuleV) : Prop := -500 ≤ r.n ∧ r.n ≤ 500

set_option maxRecDepth 100000 in
set_option maxHeartbeats 1600000 in
theorem fits_any (r : RuleV) (six' : Bool) (hi' lo' n' : Int) (w : World) (h3 : 0 ≤ hi' ∧ hi' < 18446744073709551616) (h4 : 0 ≤ lo' ∧ lo' < 18446744073709551616) (h5 : six' = false → lo' < 4294967296) (hm : r.Mid) :
    Calls Try.prog 105 #[.agg r.cells.toArray, .agg #[.bool six', .int .u64 hi', .int .u64 lo', .int .i64 n']] w fun e w' => e = .returned (.bool (r.fits six' hi' lo' n')) ∧ Below w.heap.size w w' := by
  obtain ⟨yes, six, hi, lo, m, least, most⟩ := r
  have HO := Lib.hid (fun w => over_any six hi lo m six' hi' lo' n' w h3 h4 h5 hm.1 hm.2)
  have HF : Hid (RuleV.fits ⟨yes, six, hi, lo, m, least, most⟩ six' hi' lo' n' = (decide (least ≤ n') && (decide (n' ≤ most) && overB six hi lo m six' hi' lo' n'))) := rfl
  show Calls _ _ #[.agg #[.bool yes, .bool six, .int .u64 hi, .int .u64 lo, .int .i64 m, .int .i64 least, .int .i64 most], .agg #[.bool six', .int .u64 hi', .int .u64 lo', .int .i64 n']] _ _
  clear h5 hm
  rw [HF.out]
  clear HF
  generalize overB six hi lo m six' hi' lo' n' = ov at *
  by_cases hl : least ≤ n'
  · by_cases hm : n' ≤ most
    · rw [decide_eq_true hl, decide_eq_true hm, Bool.true_and, Bool.true_and]
      go_enter Try.func105, Try.ntmps105
      go_wp2_with fail
      refine (HO.out _).mono ?_
      rintro e w1 ⟨rfl, hb⟩
      have HB := Lib.hid (balloc2 hb)
      clear hb
      go_wp2
      go_ret
      exact ⟨rfl, HB.out⟩
    · rw [decide_eq_true hl, decide_eq_false hm]
      go_enter Try.func105, Try.ntmps105
      go_wp2
      go_ret
      exact ⟨rfl, ((Below.refl _ _).alloc (Nat.le_refl _) _).alloc (by simp) _⟩
  · rw [decide_eq_false hl]
    go_enter Try.func105, Try.ntmps105
    go_wp2
    go_ret
    exact ⟨rfl, ((Below.refl _ _).alloc (Nat.le_refl _) _).alloc (by simp) _⟩

set_option maxRecDepth 100000 in
set_option maxHeartbeats 1600000 in
theorem passClosure_any (r : RuleV) (six' : Bool) (hi' lo' n' : Int) (b : Nat) (w : World) (h3 : 0 ≤ hi' ∧ hi' < 18446744073709551616) (h4 : 0 ≤ lo' ∧ lo' < 18446744073709551616) (h5 : six' = false → lo' < 4294967296) (hm : r.Mid)
    (c0 : w.cell? ⟨b, 0, none⟩ = some (.bool six')) (c1 : w.cell? ⟨b, 1, none⟩ = some (.int .u64 hi')) (c2 : w.cell? ⟨b, 2, none⟩ = some (.int .u64 lo')) (c3 : w.cell? ⟨b, 3, none⟩ = some (.int .i64 n')) (hb : b < w.heap.size) :
    Calls Try.prog 104 #[.agg r.cells.toArray, .pointer (some ⟨b, 0, none⟩)] w fun e w' => e = .returned (.bool (r.fits six' hi' lo' n')) ∧ Below w.heap.size w w' := by
  have HO := Lib.hid (fun w => fits_any r six' hi' lo' n' w h3 h4 h5 hm)
  obtain ⟨yes, six, hi, lo, m, least, most⟩ := r
  clear h5 hm
  show Calls _ _ #[.agg #[.bool yes, .bool six, .int .u64 hi, .int .u64 lo, .int .i64 m, .int .i64 least, .int .i64 most], .pointer (some ⟨b, 0, none⟩)] _ _
  generalize RuleV.fits ⟨yes, six, hi, lo, m, least, most⟩ six' hi' lo' n' = ov at *
  go_enter Try.func104, Try.ntmps104
  go_wp2_with fail
  refine (HO.out _).mono ?_
  rintro e w1 ⟨rfl, hb⟩
  have HB := Lib.hid (balloc1 hb)
  clear hb
  go_wp2
  go_ret
  exact ⟨rfl, HB.out⟩

/-- A test on a rule, as a function value: its contract in every later world. -/
def RuleTest (w : World) (fid : FuncId) (caps : List Value) (f : RuleV → Bool) (l : List RuleV) : Prop :=
  ∀ r ∈ l, ∀ w', Below w.heap.size w w' → Calls Try.prog fid (#[.agg r.cells.toArray] ++ caps.toArray) w' fun e w'' => e = .returned (.bool (f r)) ∧ Below w'.heap.size w' w''

set_option maxRecDepth 100000 in
set_option maxHeartbeats 1600000 in
theorem idxRule_any (A : Option Addr) (n c : Nat) (l : List RuleV) (f : RuleV → Bool) (b : Nat) (w : World) (hz : l.length = n) (hm : n ≤ maxLen) (hr : Reads w w.heap.size 7 A n (l.flatMap RuleV.cells))
    (ht : RuleTest w 104 [.pointer (some ⟨b, 0, none⟩)] f l) :
    Calls Try.prog 103 #[.slice A n c, .func (.func 104) #[] #[.pointer (some ⟨b, 0, none⟩)]] w fun e w' => e = .returned (.int .i64 (firstAt f l)) ∧ Below w.heap.size w w' := by
  have HZ := Lib.hid hz
  have HR := Lib.hid hr
  have HT := Lib.hid ht
  unfold maxLen at hm
  obtain ⟨r, hr0⟩ : ∃ r, r = firstAt f l := ⟨_, rfl⟩
  rw [← hr0]
  have H0 := Lib.hid hr0
  clear hz hr ht hr0
  go_enter Try.func103, Try.ntmps103
  go_wp2
  go_loopw [8, 5] (fun i _ wr => ∃ k : Nat, k ≤ n ∧ i = .int .i64 k ∧ NoneYet f l k ∧ Below w.heap.size w wr) (fun i _ _ => n - (intOf i).toNat)
  case atStart => exact ⟨0, by omega, rfl, noneYet_zero f l, Below.refl _ _⟩
  case round =>
    obtain ⟨k, hk, rfl, hto, hb⟩ := hrel
    have HN := Lib.hid hto
    clear hto
    by_cases hlt : k < n
    · obtain ⟨ad, ⟨yes, six, hi, lo, m, least, most⟩, rfl, hlk, htk, hmem, hbk, hc0, hcj⟩ := HR.out.atS RuleV.cells_length HZ.out hlt
      have q0 := (hb.cell (p := ad.add (k * 7)) (by rw [block_of_add]; exact hbk)).trans (hc0 _ rfl)
      have q1 := (hb.cell (p := ⟨(ad.add (k * 7)).block, (ad.add (k * 7)).off + 1, none⟩) (by rw [block_of_add]; exact hbk)).trans (hcj 1 _ rfl)
      have q2 := (hb.cell (p := ⟨(ad.add (k * 7)).block, (ad.add (k * 7)).off + 2, none⟩) (by rw [block_of_add]; exact hbk)).trans (hcj 2 _ rfl)
      have q3 := (hb.cell (p := ⟨(ad.add (k * 7)).block, (ad.add (k * 7)).off + 3, none⟩) (by rw [block_of_add]; exact hbk)).trans (hcj 3 _ rfl)
      have q4 := (hb.cell (p := ⟨(ad.add (k * 7)).block, (ad.add (k * 7)).off + 4, none⟩) (by rw [block_of_add]; exact hbk)).trans (hcj 4 _ rfl)
      have q5 := (hb.cell (p := ⟨(ad.add (k * 7)).block, (ad.add (k * 7)).off + 5, none⟩) (by rw [block_of_add]; exact hbk)).trans (hcj 5 _ rfl)
      have q6 := (hb.cell (p := ⟨(ad.add (k * 7)).block, (ad.add (k * 7)).off + 6, none⟩) (by rw [block_of_add]; exact hbk)).trans (hcj 6 _ rfl)
      have HC : Hid (Calls Try.prog 104 #[.agg #[.bool yes, .bool six, .int .u64 hi, .int .u64 lo, .int .i64 m, .int .i64 least, .int .i64 most], .pointer (some ⟨b, 0, none⟩)] wr fun e w'' => e = .returned (.bool (f ⟨yes, six, hi, lo, m, least, most⟩)) ∧ Below wr.heap.size wr w'') := HT.out _ hmem wr hb
      have HL := Lib.hid hlk
      have HK := Lib.hid htk
      clear hlk htk hmem hbk hc0 hcj
      generalize hfv : f ⟨yes, six, hi, lo, m, least, most⟩ = fv at *
      have HV := Lib.hid hfv
      clear hfv
      cases fv
      · have HN2 := Lib.hid (noneYet_succ HN.out HK.out HV.out)
        go_wp2_with fail
        refine HC.out.mono ?_
        rintro e w1 ⟨rfl, hb1⟩
        have HB := Lib.hid (below_step hb hb1)
        clear hb1
        go_wp2
        go_roundw
        case rel => exact ⟨k + 1, by omega, by go_num, HN2.out, HB.out⟩
        case measure => simp [intOf]; omega
      · have HN2 := Lib.hid (firstAt_at HN.out HL.out HV.out)
        go_wp2_with fail
        refine HC.out.mono ?_
        rintro e w1 ⟨rfl, hb1⟩
        have HB := Lib.hid (below_step hb hb1)
        clear hb1
        go_wp2
        go_ret
        exact ⟨ret_int (HN2.out.symm.trans H0.out.symm), HB.out⟩
    · obtain rfl : k = n := by omega
      have HN2 := Lib.hid (firstAt_end HN.out HZ.out)
      go_wp2
      go_ret
      exact ⟨ret_int (HN2.out.symm.trans H0.out.symm), hb⟩

end Go.Proofs.Ytbjojfcpehkopaa
