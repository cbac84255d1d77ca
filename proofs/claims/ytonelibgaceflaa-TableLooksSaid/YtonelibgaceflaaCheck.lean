
/-
  Proved here: the contracts of pre.Check, pre.In, pre.Over and pre.Last.
-/
import Derived.Test.YtonelibgaceflaaCut
namespace Go.Proofs.Ytonelibgaceflaa
open Go.ChangeShapes Go.WideShapes Go.ChangeAt Go.RowKit

set_option maxHeartbeats 1600000 in
theorem check_any (six : Bool) (hi lo n : Int) (w : World) (h1 : 0 ≤ hi ∧ hi < 18446744073709551616) (h2 : 0 ≤ lo ∧ lo < 18446744073709551616) :
    Calls Try.prog 151 #[.agg #[.bool six, .int .u64 hi, .int .u64 lo, .int .i64 n]] w fun e w' => e = .returned (.int .i64 (chk six hi lo n)) ∧ Below w.heap.size w w' := by
  unfold chk
  by_cases hm : mayB six hi lo = false
  · rw [if_pos hm]
    go_enter Try.func151, Try.ntmps151
    go_wp2_with (go_at_call 71; refine (may_any six hi lo _ h2.1).mono ?_; rintro e w1 ⟨rfl, hb⟩; obtain ⟨B1, S1, q0, q1, q2, q3⟩ := box4 hb; clear hb)
    go_ret
    exact ⟨rfl, B1⟩
  · rw [if_neg hm]
    have hm' : mayB six hi lo = true := by simpa using hm
    clear hm
    by_cases hr : n < 0
    · rw [if_pos (.inl hr)]
      go_enter Try.func151, Try.ntmps151
      go_wp2_with (go_at_call 71; refine (may_any six hi lo _ h2.1).mono ?_; rintro e w1 ⟨rfl, hb⟩; obtain ⟨B1, S1, q0, q1, q2, q3⟩ := box4 hb; clear hb)
      go_quiet ((go_at_call 150; refine (wide_any six _).mono ?_; rintro e w2 ⟨rfl, rfl⟩))
      go_wp2
      go_ret
      exact ⟨rfl, below_drewN B1 _⟩
    · have hl := wideI_le six
      have hd : decide (n < 0) = false := by simpa using hr
      by_cases hr2 : wideI six < n
      · rw [if_pos (.inr hr2)]
        go_enter Try.func151, Try.ntmps151
        go_wp2_with (go_at_call 71; refine (may_any six hi lo _ h2.1).mono ?_; rintro e w1 ⟨rfl, hb⟩; obtain ⟨B1, S1, q0, q1, q2, q3⟩ := box4 hb; clear hb)
        go_quiet ((go_at_call 150; exact Calls.quiet_of_same ((wide_any six _).mono fun e w' h => ⟨h.1, h.2.symm⟩)))
        go_wp2
        go_ret
        exact ⟨rfl, below_drewN B1 _⟩
      · rw [if_neg (by omega)]
        have hq : six = false → lo < 4294967296 := by
          rintro rfl
          exact (mayB_four hm').2
        have HQ := Lib.hid hq
        clear hq
        by_cases hc : cleanB six hi lo n = true
        · rw [if_pos hc]
          have e1 : cutHi six hi n = hi := by simp only [cleanB, Bool.and_eq_true, beq_iff_eq] at hc; exact hc.1
          have e2 : cutLo six lo n = lo := by simp only [cleanB, Bool.and_eq_true, beq_iff_eq] at hc; exact hc.2
          clear hc
          go_enter Try.func151, Try.ntmps151
          go_wp2_with (go_at_call 71; refine (may_any six hi lo _ h2.1).mono ?_; rintro e w1 ⟨rfl, hb⟩; obtain ⟨B1, S1, q0, q1, q2, q3⟩ := box4 hb; clear hb)
          go_quiet ((go_at_call 150; exact Calls.quiet_of_same ((wide_any six _).mono fun e w' h => ⟨h.1, h.2.symm⟩)))
          go_wp2_with fail
          go_region_held3 (fun w' => Below w.heap.size w w' ∧ w.heap.size < w'.heap.size ∧ w'.cell? ⟨w.heap.size, 0, none⟩ = some (.bool six) ∧ w'.cell? ⟨w.heap.size, 1, none⟩ = some (.int .u64 hi) ∧ w'.cell? ⟨w.heap.size, 2, none⟩ = some (.int .u64 lo) ∧ w'.cell? ⟨w.heap.size, 3, none⟩ = some (.int .i64 n))
            (((try go_split_ands); (repeat' apply And.intro) <;> first | assumption | exact (below_drewN B1 _).drew | exact below_step (by assumption) (by assumption) | exact cell_step (by assumption) (by assumption) | exact size_step (by assumption) (by assumption) | go_keep))
            (first | (go_at_call 201; refine (cut_any six hi lo n _ h1 h2 HQ.out (by omega) (by omega)).mono ?_; rintro e w' ⟨rfl, hb⟩))
          all_goals go_wp2
          all_goals go_ret
          all_goals (go_split_ands; exact ⟨by simp, by assumption⟩)
        · rw [if_neg hc]
          by_cases e1 : cutHi six hi n = hi
          · have e2 : ¬ cutLo six lo n = lo := by
              intro e2
              exact hc (by simp [cleanB, e1, e2])
            have e3 : (cutLo six lo n == lo) = false := by simpa using e2
            clear hc
            go_enter Try.func151, Try.ntmps151
            go_wp2_with (go_at_call 71; refine (may_any six hi lo _ h2.1).mono ?_; rintro e w1 ⟨rfl, hb⟩; obtain ⟨B1, S1, q0, q1, q2, q3⟩ := box4 hb; clear hb)
            go_quiet ((go_at_call 150; exact Calls.quiet_of_same ((wide_any six _).mono fun e w' h => ⟨h.1, h.2.symm⟩)))
            go_wp2_with fail
            go_region_held3 (fun w' => Below w.heap.size w w' ∧ w.heap.size < w'.heap.size ∧ w'.cell? ⟨w.heap.size, 0, none⟩ = some (.bool six) ∧ w'.cell? ⟨w.heap.size, 1, none⟩ = some (.int .u64 hi) ∧ w'.cell? ⟨w.heap.size, 2, none⟩ = some (.int .u64 lo) ∧ w'.cell? ⟨w.heap.size, 3, none⟩ = some (.int .i64 n))
              (((try go_split_ands); (repeat' apply And.intro) <;> first | assumption | exact (below_drewN B1 _).drew | exact below_step (by assumption) (by assumption) | exact cell_step (by assumption) (by assumption) | exact size_step (by assumption) (by assumption) | go_keep))
              (first | (go_at_call 201; refine (cut_any six hi lo n _ h1 h2 HQ.out (by omega) (by omega)).mono ?_; rintro e w' ⟨rfl, hb⟩))
            all_goals go_wp2
            all_goals go_ret
            all_goals (go_split_ands; exact ⟨by simp, by assumption⟩)
          · have e3 : (cutHi six hi n == hi) = false := by simpa using e1
            clear hc
            go_enter Try.func151, Try.ntmps151
            go_wp2_with (go_at_call 71; refine (may_any six hi lo _ h2.1).mono ?_; rintro e w1 ⟨rfl, hb⟩; obtain ⟨B1, S1, q0, q1, q2, q3⟩ := box4 hb; clear hb)
            go_quiet ((go_at_call 150; exact Calls.quiet_of_same ((wide_any six _).mono fun e w' h => ⟨h.1, h.2.symm⟩)))
            go_wp2_with fail
            go_region_held3 (fun w' => Below w.heap.size w w' ∧ w.heap.size < w'.heap.size ∧ w'.cell? ⟨w.heap.size, 0, none⟩ = some (.bool six) ∧ w'.cell? ⟨w.heap.size, 1, none⟩ = some (.int .u64 hi) ∧ w'.cell? ⟨w.heap.size, 2, none⟩ = some (.int .u64 lo) ∧ w'.cell? ⟨w.heap.size, 3, none⟩ = some (.int .i64 n))
              (((try go_split_ands); (repeat' apply And.intro) <;> first | assumption | exact (below_drewN B1 _).drew | exact below_step (by assumption) (by assumption) | exact cell_step (by assumption) (by assumption) | exact size_step (by assumption) (by assumption) | go_keep))
              (first | (go_at_call 201; refine (cut_any six hi lo n _ h1 h2 HQ.out (by omega) (by omega)).mono ?_; rintro e w' ⟨rfl, hb⟩))
            all_goals go_wp2
            all_goals go_ret
            all_goals (go_split_ands; exact ⟨by simp, by assumption⟩)

set_option maxRecDepth 100000 in
/-- A prefix that came in. -/
theorem open_prefix {H : Type} {enc : TypeId × Value → H} {W : World} {base : Nat} {sp : Nat → Bool} {held : Bool} {b0 : Nat} {v : Value} {d : DataW H} {p : List MemPlace}
    (hv : Value.okWide Try.prog W .any b0 35 v) (h : DataW.Trod enc Try.prog W base sp held 35 v d p) :
    ∃ six hi lo n, v = .agg #[.bool six, .int .u64 hi, .int .u64 lo, .int .i64 n] ∧ (0 ≤ hi ∧ hi < 18446744073709551616) ∧ (0 ≤ lo ∧ lo < 18446744073709551616) ∧ (-9223372036854775808 ≤ n ∧ n ≤ 9223372036854775807) := by
  have hc : Try.prog.cellsOf 35 = 4 := by kernel_rfl
  have hk : flat Try.prog 9 35 = some [none, some .u64, some .u64, some .i64] := by kernel_rfl
  obtain ⟨cs, rfl, hf⟩ := open_flat (fun fuel cs x hl hx => trod_flat 9 _ _ fuel cs x hk hl (by rw [hc]; rfl) hx) Try.underlying35 hv h
  obtain ⟨six, _, rfl, hf1⟩ := hf.bool_inv
  obtain ⟨hi, _, rfl, wy, hf2⟩ := hf1.int_inv
  obtain ⟨lo, _, rfl, wz, hf3⟩ := hf2.int_inv
  obtain ⟨n, _, rfl, wu, hf4⟩ := hf3.int_inv
  obtain rfl := hf4.nil_inv
  exact ⟨six, hi, lo, n, rfl, range_u64 wy, range_u64 wz, bounds_i64 wu⟩

end Go.Proofs.Ytonelibgaceflaa
