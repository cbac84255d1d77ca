/-
  Proved here: the contract of addr.Plus.
-/
import Derived.Test.YtaeideeimhenmaaNextPlain
import Derived.Test.YtaeideeimhenmaaMay
import Derived.Test.YtaeideeimhenmaaAuto
import Derived.Shelf.Spec.BitsCarry
import Derived.Deep.RegionWith
namespace Go.Proofs.Ytaeideeimhenmaa
open Go.ChangeShapes Go.WideShapes Go.ChangeAt Go.RowKit

theorem add64_run (x y c : Int) (w : World) (hx : 0 ≤ x) (hy : 0 ≤ y) (hc : 0 ≤ c ∧ c ≤ 1) :
    (callFunc 59 #[.int .u64 x, .int .u64 y, .int .u64 c]).run Try.prog w = .ok (.value (.tuple #[.int .u64 ((x + y + c) % 18446744073709551616), .int .u64 ((x + y + c) / 18446744073709551616)])) w := by
  rw [run_callFunc_extern Try.func59 (by kernel_rfl) (by kernel_rfl) (by kernel_rfl) (e := add64Entry) (by kernel_rfl), run_add64 x y c hx hy hc.1 hc.2]
  rfl
theorem sub64_run (x y c : Int) (w : World) (hx : 0 ≤ x ∧ x < 18446744073709551616) (hy : 0 ≤ y ∧ y < 18446744073709551616) (hc : 0 ≤ c ∧ c ≤ 1) :
    (callFunc 60 #[.int .u64 x, .int .u64 y, .int .u64 c]).run Try.prog w = .ok (.value (.tuple #[.int .u64 ((x - y - c) % 18446744073709551616), .int .u64 (-((x - y - c) / 18446744073709551616))])) w := by
  obtain ⟨a, rfl⟩ := Int.eq_ofNat_of_zero_le hx.1
  obtain ⟨b, rfl⟩ := Int.eq_ofNat_of_zero_le hy.1
  obtain ⟨d, rfl⟩ := Int.eq_ofNat_of_zero_le hc.1
  rw [run_callFunc_extern Try.func60 (by kernel_rfl) (by kernel_rfl) (by kernel_rfl) (e := sub64Entry) (by kernel_rfl), run_sub64 a b d (by omega)]
  have e1 : ((if a < b + d then 1 else 0 : Nat) : Int) = -(((a : Int) - b - d) / 18446744073709551616) := by split <;> omega
  have e2 : (((a + 18446744073709551616 - b - d) % 18446744073709551616 : Nat) : Int) = ((a : Int) - b - d) % 18446744073709551616 := by omega
  rw [e1, e2]
  rfl

set_option maxRecDepth 100000 in
set_option maxHeartbeats 1600000 in
theorem plus_up (six : Bool) (hi lo by' : Int) (w : World) (h1 : 0 ≤ hi ∧ hi < 18446744073709551616) (h2 : 0 ≤ lo ∧ lo < 18446744073709551616) (hb : 0 ≤ by') (hb2 : by' ≤ 1099511627776) :
    Calls Try.prog 48 #[.agg #[.bool six, .int .u64 hi, .int .u64 lo], .int .i64 by'] w fun e w' => e = .returned (.tuple #[.agg #[.bool six, .int .u64 (plusHi hi lo by'), .int .u64 (plusLo hi lo by')], .bool (plusOk six hi lo by')]) ∧ Below w.heap.size w w' := by
  have rp := plus_range hi lo by'
  obtain ⟨c1, hc1⟩ : ∃ c1, c1 = (lo + by' + 0) / 18446744073709551616 := ⟨_, rfl⟩
  obtain ⟨ov, hov⟩ : ∃ ov, ov = (hi + 0 + c1) / 18446744073709551616 := ⟨_, rfl⟩
  have hp : plusLo hi lo by' = (lo + by' + 0) % 18446744073709551616 := by unfold plusLo sumI; omega
  have hq : plusHi hi lo by' = (hi + 0 + c1) % 18446744073709551616 := by unfold plusHi sumI; omega
  have a1 := fun w => add64_run lo by' 0 w h2.1 hb (by omega)
  have a2 := fun w => add64_run hi 0 c1 w h1.1 (by omega) (by omega)
  rw [← hp, ← hc1] at a1
  rw [← hq, ← hov] at a2
  have hok1 : ov = 0 → plusOk six hi lo by' = mayB six (plusHi hi lo by') (plusLo hi lo by') := by
    intro h
    unfold plusOk
    rw [decide_eq_true (by unfold sumI; omega)]
    simp
  have hok2 : ¬ ov = 0 → plusOk six hi lo by' = false := by
    intro h
    unfold plusOk
    rw [decide_eq_false (by unfold sumI; omega)]
    simp
  generalize plusHi hi lo by' = ph at *
  generalize plusLo hi lo by' = pl at *
  have rc : 0 ≤ c1 ∧ c1 ≤ 1 := by omega
  clear hc1 hov
  have HM := Lib.hid (fun w => may_any six ph pl w rp.2.1)
  clear hp hq rp
  by_cases ho : ov = 0
  · have hb3 : (ov == 0) = true := by simpa using ho
    rw [hok1 ho]
    clear hok1 hok2
    subst ho
    go_enter Try.func48, Try.ntmps48
    go_wp2_with fail
    go_region_with ((go_at_call 15; ((with_reducible refine (HM.out _).mono ?_); rintro e w2 ⟨rfl, hb⟩; obtain ⟨fc, ff⟩ := bcell hb; have HB : Hid (Below w.heap.size w w2) := (by refine below_step ?_ hb; (repeat' first | with_reducible exact HM.out | with_reducible exact Below.refl _ _ | with_reducible refine Below.drew ?_ | with_reducible refine below_drewN ?_ _ | with_reducible refine Below.setCell ?_ ?_ _ | with_reducible refine Below.alloc ?_ ?_ _ | (simp; done) | (simp; omega) | omega)); clear hb)))
    all_goals go_wp2
    all_goals refine bodyPost_ret (v := .tuple #[.agg #[.bool six, .int .u64 ph, .int .u64 pl], .bool (mayB six ph pl)]) ?_ rfl ⟨rfl, ?_⟩
    all_goals first
      | (simp [results, Try.results48, go_sem, fc, Act.put]; done)
      | (repeat' first | with_reducible exact HB.out | with_reducible exact Below.refl _ _ | with_reducible refine Below.drew ?_ | with_reducible refine below_drewN ?_ _ | with_reducible refine Below.setCell ?_ ?_ _ | with_reducible refine Below.alloc ?_ ?_ _ | (simp; done) | (simp; omega) | omega)
  · have hb3 : (ov == 0) = false := by simpa using ho
    rw [hok2 ho]
    clear hok1 hok2
    go_enter Try.func48, Try.ntmps48
    go_wp2_with fail
    go_region
    all_goals go_wp2
    all_goals refine bodyPost_ret (v := .tuple #[.agg #[.bool six, .int .u64 ph, .int .u64 pl], .bool false]) ?_ rfl ⟨rfl, ?_⟩
    all_goals first
      | (simp [results, Try.results48, go_sem, Act.put]; done)
      | (repeat' first | with_reducible exact HM.out | with_reducible exact Below.refl _ _ | with_reducible refine Below.drew ?_ | with_reducible refine below_drewN ?_ _ | with_reducible refine Below.setCell ?_ ?_ _ | with_reducible refine Below.alloc ?_ ?_ _ | (simp; done) | (simp; omega) | omega)

set_option maxRecDepth 100000 in
set_option maxHeartbeats 1600000 in
theorem plus_down (six : Bool) (hi lo by' : Int) (w : World) (h1 : 0 ≤ hi ∧ hi < 18446744073709551616) (h2 : 0 ≤ lo ∧ lo < 18446744073709551616) (hb : by' < 0) (hb2 : -1099511627776 ≤ by') :
    Calls Try.prog 48 #[.agg #[.bool six, .int .u64 hi, .int .u64 lo], .int .i64 by'] w fun e w' => e = .returned (.tuple #[.agg #[.bool six, .int .u64 (plusHi hi lo by'), .int .u64 (plusLo hi lo by')], .bool (plusOk six hi lo by')]) ∧ Below w.heap.size w w' := by
  have rp := plus_range hi lo by'
  obtain ⟨c1, hc1⟩ : ∃ c1, c1 = -((lo - -by' - 0) / 18446744073709551616) := ⟨_, rfl⟩
  obtain ⟨ov, hov⟩ : ∃ ov, ov = -((hi - 0 - c1) / 18446744073709551616) := ⟨_, rfl⟩
  have hp : plusLo hi lo by' = (lo - -by' - 0) % 18446744073709551616 := by unfold plusLo sumI; omega
  have hq : plusHi hi lo by' = (hi - 0 - c1) % 18446744073709551616 := by unfold plusHi sumI; omega
  have a1 := fun w => sub64_run lo (-by') 0 w h2 (by omega) (by omega)
  have a2 := fun w => sub64_run hi 0 c1 w h1 (by omega) (by omega)
  rw [← hp, ← hc1] at a1
  rw [← hq, ← hov] at a2
  have hok1 : ov = 0 → plusOk six hi lo by' = mayB six (plusHi hi lo by') (plusLo hi lo by') := by
    intro h
    unfold plusOk
    rw [decide_eq_true (by unfold sumI; omega)]
    simp
  have hok2 : ¬ ov = 0 → plusOk six hi lo by' = false := by
    intro h
    unfold plusOk
    rw [decide_eq_false (by unfold sumI; omega)]
    simp
  generalize plusHi hi lo by' = ph at *
  generalize plusLo hi lo by' = pl at *
  have rc : 0 ≤ c1 ∧ c1 ≤ 1 := by omega
  clear hc1 hov
  have HM := Lib.hid (fun w => may_any six ph pl w rp.2.1)
  clear hp hq rp
  by_cases ho : ov = 0
  · have hb3 : (ov == 0) = true := by simpa using ho
    rw [hok1 ho]
    clear hok1 hok2
    subst ho
    go_enter Try.func48, Try.ntmps48
    go_wp2_with fail
    go_region_with ((go_at_call 15; ((with_reducible refine (HM.out _).mono ?_); rintro e w2 ⟨rfl, hb⟩; obtain ⟨fc, ff⟩ := bcell hb; have HB : Hid (Below w.heap.size w w2) := (by refine below_step ?_ hb; (repeat' first | with_reducible exact HM.out | with_reducible exact Below.refl _ _ | with_reducible refine Below.drew ?_ | with_reducible refine below_drewN ?_ _ | with_reducible refine Below.setCell ?_ ?_ _ | with_reducible refine Below.alloc ?_ ?_ _ | (simp; done) | (simp; omega) | omega)); clear hb)))
    all_goals go_wp2
    all_goals refine bodyPost_ret (v := .tuple #[.agg #[.bool six, .int .u64 ph, .int .u64 pl], .bool (mayB six ph pl)]) ?_ rfl ⟨rfl, ?_⟩
    all_goals first
      | (simp [results, Try.results48, go_sem, fc, Act.put]; done)
      | (repeat' first | with_reducible exact HB.out | with_reducible exact Below.refl _ _ | with_reducible refine Below.drew ?_ | with_reducible refine below_drewN ?_ _ | with_reducible refine Below.setCell ?_ ?_ _ | with_reducible refine Below.alloc ?_ ?_ _ | (simp; done) | (simp; omega) | omega)
  · have hb3 : (ov == 0) = false := by simpa using ho
    rw [hok2 ho]
    clear hok1 hok2
    go_enter Try.func48, Try.ntmps48
    go_wp2_with fail
    go_region
    all_goals go_wp2
    all_goals refine bodyPost_ret (v := .tuple #[.agg #[.bool six, .int .u64 ph, .int .u64 pl], .bool false]) ?_ rfl ⟨rfl, ?_⟩
    all_goals first
      | (simp [results, Try.results48, go_sem, Act.put]; done)
      | (repeat' first | with_reducible exact HM.out | with_reducible exact Below.refl _ _ | with_reducible refine Below.drew ?_ | with_reducible refine below_drewN ?_ _ | with_reducible refine Below.setCell ?_ ?_ _ | with_reducible refine Below.alloc ?_ ?_ _ | (simp; done) | (simp; omega) | omega)

theorem plus_any (six : Bool) (hi lo by' : Int) (w : World) (h1 : 0 ≤ hi ∧ hi < 18446744073709551616) (h2 : 0 ≤ lo ∧ lo < 18446744073709551616) (hb : -1099511627776 ≤ by' ∧ by' ≤ 1099511627776) :
    Calls Try.prog 48 #[.agg #[.bool six, .int .u64 hi, .int .u64 lo], .int .i64 by'] w fun e w' => e = .returned (.tuple #[.agg #[.bool six, .int .u64 (plusHi hi lo by'), .int .u64 (plusLo hi lo by')], .bool (plusOk six hi lo by')]) ∧ Below w.heap.size w w' := by
  by_cases h : 0 ≤ by'
  · exact plus_up six hi lo by' w h1 h2 h hb.2
  · exact plus_down six hi lo by' w h1 h2 (by omega) hb.1

end Go.Proofs.Ytaeideeimhenmaa
