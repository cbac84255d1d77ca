/-
  
  
  
  
  
-/
import Derived.Test.YtpecpodchkglkaaDoorC3
import Derived.Lib.ItoaMem
import Derived.Test.YtpecpodchkglkaaDoorRows
import Derived.Test.YtpecpodchkglkaaDoorC1
import Derived.Test.YtpecpodchkglkaaDoorC2
namespace Go.Proofs.YtpecpodchkglkaaDoor
open Go.ChangeShapes Go.WideShapes Go.ChangeAt Go.RowKit

set_option maxHeartbeats 400000 in
theorem ones_any (n : Int) (w : World) (h1 : -1000 ≤ n) (h2 : n ≤ 1000) :
    Calls Tryd.prog 142 #[.int .i64 n] w fun e w' => e = .returned (.int .u64 (onesI n)) ∧ w = w' := by
  rcases (by omega : n ≤ 0 ∨ (0 < n ∧ n < 64) ∨ 64 ≤ n) with h | h | h
  · have e : onesI n = 0 := by unfold onesI; rw [if_pos h]
    rw [e]
    have h4 : n < 64 := by omega
    go_enter Tryd.func142, Tryd.ntmps142
    go_wp2
    all_goals go_ret
    all_goals exact ⟨ret_int (by simp [IntKind.wrap, IntKind.bits, IntKind.signed]), rfl⟩
  · have e : onesI n = IntKind.u64.wrap (18446744073709551615 * 2 ^ (64 - n).toNat) := by
      have := ones_wrap (64 - n).toNat (by omega)
      unfold onesI
      rw [if_neg (by omega), if_neg (by omega), ← this]
      simp [IntKind.wrap, IntKind.bits, IntKind.signed]
    rw [e]
    clear e
    have h3 := h.1
    have h4 := h.2
    clear h
    go_enter Tryd.func142, Tryd.ntmps142
    go_wp2
    all_goals go_ret
    all_goals exact ⟨rfl, rfl⟩
  · have e : onesI n = 18446744073709551615 := by unfold onesI; rw [if_neg (by omega), if_pos h]
    rw [e]
    go_enter Tryd.func142, Tryd.ntmps142
    go_wp2
    all_goals go_ret
    all_goals exact ⟨ret_int (by simp), rfl⟩

def maskHi (six : Bool) (n : Int) : Int := if six then onesI n else 0
def maskLo (six : Bool) (n : Int) : Int := if six then onesI (n - 64) else onesI n / 4294967296
theorem maskHi_range (six : Bool) (n : Int) : 0 ≤ maskHi six n ∧ maskHi six n < 18446744073709551616 := by
  unfold maskHi
  split
  · exact onesI_range n
  · omega
theorem maskLo_range (six : Bool) (n : Int) : 0 ≤ maskLo six n ∧ maskLo six n < 18446744073709551616 := by
  unfold maskLo
  split
  · exact onesI_range _
  · have := onesI_range n
    omega

theorem and_32 (x : Int) (h1 : 0 ≤ x) (h2 : x < 4294967296) : bits .and .u64 x 4294967295 = x := by
  rw [u64_and x _ h1 (by omega) (by omega) (by omega)]
  rw [show (4294967295 : Int).toNat = 2 ^ 32 - 1 from rfl, Nat.and_two_pow_sub_one_eq_mod, Nat.mod_eq_of_lt (by omega)]
  omega

set_option maxHeartbeats 400000 in
theorem mask_any (six : Bool) (n : Int) (w : World) (h1 : -500 ≤ n) (h2 : n ≤ 500) :
    Calls Tryd.prog 112 #[.bool six, .int .i64 n] w fun e w' => e = .returned (.tuple #[.int .u64 (maskHi six n), .int .u64 (maskLo six n)]) ∧ w = w' := by
  cases six
  · have hr := onesI_range n
    go_enter Tryd.func112, Tryd.ntmps112
    go_wp2_with (go_at_call 142; refine (ones_any _ _ (by omega) (by omega)).mono ?_; rintro e w' ⟨rfl, rfl⟩)
    go_ret2
    exact ⟨by rw [and_32 _ (by omega) (by omega)]; rfl, rfl⟩
  · go_enter Tryd.func112, Tryd.ntmps112
    go_wp2_with (go_at_call 142; refine (ones_any _ _ (by omega) (by omega)).mono ?_; rintro e w' ⟨rfl, rfl⟩)
    go_ret2
    exact ⟨rfl, rfl⟩

theorem and_hi (six : Bool) (hi n : Int) (h1 : 0 ≤ hi ∧ hi < 18446744073709551616) : bits .and .u64 hi (maskHi six n) = cutHi six hi n := by
  have hm := maskHi_range six n
  rw [u64_and _ _ h1.1 h1.2 hm.1 hm.2]
  unfold maskHi cutHi
  cases six
  · simp
  · exact and_ones_int hi n h1.1 h1.2

theorem and_lo (six : Bool) (lo n : Int) (h1 : 0 ≤ lo ∧ lo < 18446744073709551616) (h2 : six = false → lo < 4294967296) : bits .and .u64 lo (maskLo six n) = cutLo six lo n := by
  have hm := maskLo_range six n
  rw [u64_and _ _ h1.1 h1.2 hm.1 hm.2]
  unfold maskLo cutLo
  cases six
  · have h3 := h2 rfl
    have e := and_ones_int (lo * 4294967296) n (by omega) (by omega)
    rw [if_neg (by simp), if_neg (by simp), ← e]
    have hr := onesI_range n
    have e1 : (onesI n / 4294967296).toNat = (onesI n).toNat / 2 ^ 32 := by omega
    have e2 : lo.toNat = (lo * 4294967296).toNat / 2 ^ 32 := by omega
    rw [e1, e2, ← Nat.and_div_two_pow]
    omega
  · exact and_ones_int lo (n - 64) h1.1 h1.2

set_option maxHeartbeats 800000 in
theorem cut_any (six : Bool) (hi lo n : Int) (w : World) (h1 : 0 ≤ hi ∧ hi < 18446744073709551616) (h2 : 0 ≤ lo ∧ lo < 18446744073709551616) (h3 : six = false → lo < 4294967296) (h4 : -500 ≤ n) (h5 : n ≤ 500) :
    Calls Tryd.prog 78 #[.agg #[.bool six, .int .u64 hi, .int .u64 lo], .int .i64 n] w fun e w' => e = .returned (.agg #[.bool six, .int .u64 (cutHi six hi n), .int .u64 (cutLo six lo n)]) ∧ Below w.heap.size w w' := by
  rw [← and_hi six hi n h1, ← and_lo six lo n h2 h3]
  clear h3
  go_enter Tryd.func78, Tryd.ntmps78
  go_wp2_with (go_at_call 112; refine (mask_any six n _ (by omega) (by omega)).mono ?_; rintro e w' ⟨rfl, rfl⟩)
  exact bodyPost_ret (v := .agg #[.bool six, .int .u64 (bits .and .u64 hi (maskHi six n)), .int .u64 (bits .and .u64 lo (maskLo six n))]) (by simp [results, Tryd.results78, go_sem]) rfl
    ⟨rfl, ((Below.refl _ _).alloc (Nat.le_refl _) _).alloc (by simp) _⟩

end Go.Proofs.YtpecpodchkglkaaDoor

namespace Go.Proofs.YtpecpodchkglkaaDoor
open Go.ChangeShapes Go.WideShapes Go.ChangeAt Go.RowKit

set_option maxHeartbeats 1600000 in
theorem check_any (six : Bool) (hi lo n : Int) (w : World) (h1 : 0 ≤ hi ∧ hi < 18446744073709551616) (h2 : 0 ≤ lo ∧ lo < 18446744073709551616) :
    Calls Tryd.prog 48 #[.agg #[.bool six, .int .u64 hi, .int .u64 lo, .int .i64 n]] w fun e w' => e = .returned (.int .i64 (chk six hi lo n)) ∧ Below w.heap.size w w' := by
  unfold chk
  by_cases hm : mayB six hi lo = false
  · rw [if_pos hm]
    go_enter Tryd.func48, Tryd.ntmps48
    go_wp2_with (go_at_call 39; refine (may_any six hi lo _ h2.1).mono ?_; rintro e w1 ⟨rfl, hb⟩; obtain ⟨B1, S1, q0, q1, q2, q3⟩ := box4 hb; clear hb)
    go_ret
    exact ⟨rfl, B1⟩
  · rw [if_neg hm]
    have hm' : mayB six hi lo = true := by simpa using hm
    clear hm
    by_cases hr : n < 0
    · rw [if_pos (.inl hr)]
      go_enter Tryd.func48, Tryd.ntmps48
      go_wp2_with (go_at_call 39; refine (may_any six hi lo _ h2.1).mono ?_; rintro e w1 ⟨rfl, hb⟩; obtain ⟨B1, S1, q0, q1, q2, q3⟩ := box4 hb; clear hb)
      go_quiet ((go_at_call 77; refine (wide_any six _).mono ?_; rintro e w2 ⟨rfl, rfl⟩))
      go_wp2
      go_ret
      exact ⟨rfl, below_drewN B1 _⟩
    · have hl := wideI_le six
      have hd : decide (n < 0) = false := by simpa using hr
      by_cases hr2 : wideI six < n
      · rw [if_pos (.inr hr2)]
        go_enter Tryd.func48, Tryd.ntmps48
        go_wp2_with (go_at_call 39; refine (may_any six hi lo _ h2.1).mono ?_; rintro e w1 ⟨rfl, hb⟩; obtain ⟨B1, S1, q0, q1, q2, q3⟩ := box4 hb; clear hb)
        go_quiet ((go_at_call 77; exact Calls.quiet_of_same ((wide_any six _).mono fun e w' h => ⟨h.1, h.2.symm⟩)))
        go_wp2
        go_ret
        exact ⟨rfl, below_drewN B1 _⟩
      · rw [if_neg (by omega)]
        have hq : six = false → lo < 4294967296 := by
          rintro rfl
          exact (mayB_four hm').2
        have HQ := Lib.hid hq
        clear hq
        by_cases hc : cleanB six hi lo n = true
        · rw [if_pos hc]
          have e1 : cutHi six hi n = hi := by simp only [cleanB, Bool.and_eq_true, beq_iff_eq] at hc; exact hc.1
          have e2 : cutLo six lo n = lo := by simp only [cleanB, Bool.and_eq_true, beq_iff_eq] at hc; exact hc.2
          clear hc
          go_enter Tryd.func48, Tryd.ntmps48
          go_wp2_with (go_at_call 39; refine (may_any six hi lo _ h2.1).mono ?_; rintro e w1 ⟨rfl, hb⟩; obtain ⟨B1, S1, q0, q1, q2, q3⟩ := box4 hb; clear hb)
          go_quiet ((go_at_call 77; exact Calls.quiet_of_same ((wide_any six _).mono fun e w' h => ⟨h.1, h.2.symm⟩)))
          go_wp2_with fail
          go_region_held3 (fun w' => Below w.heap.size w w' ∧ w.heap.size < w'.heap.size ∧ w'.cell? ⟨w.heap.size, 0, none⟩ = some (.bool six) ∧ w'.cell? ⟨w.heap.size, 1, none⟩ = some (.int .u64 hi) ∧ w'.cell? ⟨w.heap.size, 2, none⟩ = some (.int .u64 lo) ∧ w'.cell? ⟨w.heap.size, 3, none⟩ = some (.int .i64 n))
            (((try go_split_ands); (repeat' apply And.intro) <;> first | assumption | exact (below_drewN B1 _).drew | exact below_step (by assumption) (by assumption) | exact cell_step (by assumption) (by assumption) | exact size_step (by assumption) (by assumption) | go_keep))
            (first | (go_at_call 78; refine (cut_any six hi lo n _ h1 h2 HQ.out (by omega) (by omega)).mono ?_; rintro e w' ⟨rfl, hb⟩))
          all_goals go_wp2
          all_goals go_ret
          all_goals (go_split_ands; exact ⟨by simp, by assumption⟩)
        · rw [if_neg hc]
          by_cases e1 : cutHi six hi n = hi
          · have e2 : ¬ cutLo six lo n = lo := by
              intro e2
              exact hc (by simp [cleanB, e1, e2])
            have e3 : (cutLo six lo n == lo) = false := by simpa using e2
            clear hc
            go_enter Tryd.func48, Tryd.ntmps48
            go_wp2_with (go_at_call 39; refine (may_any six hi lo _ h2.1).mono ?_; rintro e w1 ⟨rfl, hb⟩; obtain ⟨B1, S1, q0, q1, q2, q3⟩ := box4 hb; clear hb)
            go_quiet ((go_at_call 77; exact Calls.quiet_of_same ((wide_any six _).mono fun e w' h => ⟨h.1, h.2.symm⟩)))
            go_wp2_with fail
            go_region_held3 (fun w' => Below w.heap.size w w' ∧ w.heap.size < w'.heap.size ∧ w'.cell? ⟨w.heap.size, 0, none⟩ = some (.bool six) ∧ w'.cell? ⟨w.heap.size, 1, none⟩ = some (.int .u64 hi) ∧ w'.cell? ⟨w.heap.size, 2, none⟩ = some (.int .u64 lo) ∧ w'.cell? ⟨w.heap.size, 3, none⟩ = some (.int .i64 n))
              (((try go_split_ands); (repeat' apply And.intro) <;> first | assumption | exact (below_drewN B1 _).drew | exact below_step (by assumption) (by assumption) | exact cell_step (by assumption) (by assumption) | exact size_step (by assumption) (by assumption) | go_keep))
              (first | (go_at_call 78; refine (cut_any six hi lo n _ h1 h2 HQ.out (by omega) (by omega)).mono ?_; rintro e w' ⟨rfl, hb⟩))
            all_goals go_wp2
            all_goals go_ret
            all_goals (go_split_ands; exact ⟨by simp, by assumption⟩)
          · have e3 : (cutHi six hi n == hi) = false := by simpa using e1
            clear hc
            go_enter Tryd.func48, Tryd.ntmps48
            go_wp2_with (go_at_call 39; refine (may_any six hi lo _ h2.1).mono ?_; rintro e w1 ⟨rfl, hb⟩; obtain ⟨B1, S1, q0, q1, q2, q3⟩ := box4 hb; clear hb)
            go_quiet ((go_at_call 77; exact Calls.quiet_of_same ((wide_any six _).mono fun e w' h => ⟨h.1, h.2.symm⟩)))
            go_wp2_with fail
            go_region_held3 (fun w' => Below w.heap.size w w' ∧ w.heap.size < w'.heap.size ∧ w'.cell? ⟨w.heap.size, 0, none⟩ = some (.bool six) ∧ w'.cell? ⟨w.heap.size, 1, none⟩ = some (.int .u64 hi) ∧ w'.cell? ⟨w.heap.size, 2, none⟩ = some (.int .u64 lo) ∧ w'.cell? ⟨w.heap.size, 3, none⟩ = some (.int .i64 n))
              (((try go_split_ands); (repeat' apply And.intro) <;> first | assumption | exact (below_drewN B1 _).drew | exact below_step (by assumption) (by assumption) | exact cell_step (by assumption) (by assumption) | exact size_step (by assumption) (by assumption) | go_keep))
              (first | (go_at_call 78; refine (cut_any six hi lo n _ h1 h2 HQ.out (by omega) (by omega)).mono ?_; rintro e w' ⟨rfl, hb⟩))
            all_goals go_wp2
            all_goals go_ret
            all_goals (go_split_ands; exact ⟨by simp, by assumption⟩)

set_option maxRecDepth 100000 in
/-- A prefix that came in. -/
theorem open_prefix {H : Type} {enc : TypeId × Value → H} {W : World} {base : Nat} {sp : Nat → Bool} {held : Bool} {b0 : Nat} {v : Value} {d : DataW H} {p : List MemPlace}
    (hv : Value.okWide Tryd.prog W .any b0 38 v) (h : DataW.Trod enc Tryd.prog W base sp held 38 v d p) :
    ∃ six hi lo n, v = .agg #[.bool six, .int .u64 hi, .int .u64 lo, .int .i64 n] ∧ (0 ≤ hi ∧ hi < 18446744073709551616) ∧ (0 ≤ lo ∧ lo < 18446744073709551616) ∧ (-9223372036854775808 ≤ n ∧ n ≤ 9223372036854775807) := by
  have hc : Tryd.prog.cellsOf 38 = 4 := by kernel_rfl
  have hk : flat Tryd.prog 9 38 = some [none, some .u64, some .u64, some .i64] := by kernel_rfl
  obtain ⟨cs, rfl, hf⟩ := open_flat (fun fuel cs x hl hx => trod_flat 9 _ _ fuel cs x hk hl (by rw [hc]; rfl) hx) Tryd.underlying38 hv h
  obtain ⟨six, _, rfl, hf1⟩ := hf.bool_inv
  obtain ⟨hi, _, rfl, wy, hf2⟩ := hf1.int_inv
  obtain ⟨lo, _, rfl, wz, hf3⟩ := hf2.int_inv
  obtain ⟨n, _, rfl, wu, hf4⟩ := hf3.int_inv
  obtain rfl := hf4.nil_inv
  exact ⟨six, hi, lo, n, rfl, range_u64 wy, range_u64 wz, bounds_i64 wu⟩

end Go.Proofs.YtpecpodchkglkaaDoor

namespace Go.Proofs.YtpecpodchkglkaaDoor
open Go.ChangeShapes Go.WideShapes Go.ChangeAt Go.RowKit

theorem own_cap {w : World} {base : Nat} {e : TypeId} {size n cap : Nat} {A : Option Addr} {xs : List Value} (h : w.ownsRow base e size (.slice A n cap) n xs) : n ≤ cap ∧ cap ≤ maxLen := by
  rcases h.2 with ⟨h1, rfl⟩ | ⟨g, c, cur, hv, _, _, h3, h4, _⟩
  · injection h1 with _ _ h2
    subst h2
    exact ⟨Nat.le_refl _, by unfold maxLen; omega⟩
  · injection hv with _ _ h2
    subst h2
    exact ⟨h3, h4⟩

theorem wideN (six : Bool) : ∃ n : Nat, wideI six = n ∧ 0 < n ∧ n ≤ 128 := by
  refine ⟨(wideI six).toNat, ?_⟩
  unfold wideI
  split <;> decide

/-- Cell i of a row that the call owns, of integers. -/
theorem own_int {w : World} {base n cap g : Nat} {e : TypeId} {l : List Int} (h : w.ownsRow base e 1 (.slice (some ⟨g, 0, none⟩) n cap) n (l.map (Value.int .i64))) {i : Nat} {x : Int} (hx : l[i]? = some x) : w.cell? ⟨g, i, none⟩ = some (.int .i64 x) := by
  have := h.cells (g := g) rfl i (.int .i64 x) (by rw [List.getElem?_map, hx]; rfl)
  rwa [show (⟨g, 0, none⟩ : Addr).add i = ⟨g, i, none⟩ from by unfold Addr.add; split <;> simp_all] at this

theorem bitsL_at {six : Bool} {hi lo : Int} {m i : Nat} (hm : wideI six = m) (hi' : i < m) : (bitsL six hi lo)[i]? = some (bitI six hi lo i) := by
  unfold bitsL
  rw [hm, List.getElem?_map, List.getElem?_range (by simpa using hi')]
  rfl

def ZeroTo (six : Bool) (hi lo : Int) (k j : Nat) : Prop := ∀ i : Nat, k ≤ i → i < k + j → bitI six hi lo i = 0
theorem ZeroTo.zero (six : Bool) (hi lo : Int) (k : Nat) : ZeroTo six hi lo k 0 := fun _ _ _ => by omega
theorem ZeroTo.succ {six : Bool} {hi lo : Int} {k j : Nat} (h : ZeroTo six hi lo k j) (hb : bitI six hi lo ((k + j : Nat) : Int) = 0) : ZeroTo six hi lo k (j + 1) := fun i h1 h2 => by
  rcases Nat.lt_or_ge i (k + j) with h3 | h3
  · exact h i h1 h3
  · obtain rfl : i = k + j := by omega
    exact hb

set_option maxHeartbeats 1600000 in
theorem preFault_any (six : Bool) (hi lo n : Int) (w : World) (h1 : 0 ≤ hi ∧ hi < 18446744073709551616) (h2 : 0 ≤ lo ∧ lo < 18446744073709551616) :
    Calls Tryd.prog 50 #[.agg #[.bool six, .int .u64 hi, .int .u64 lo, .int .i64 n]] w fun e w' => e = .returned (.int .i64 (chk six hi lo n)) ∧ Below w.heap.size w w' := by
  unfold chk
  by_cases hm : mayB six hi lo = false
  · rw [if_pos hm]
    go_enter Tryd.func50, Tryd.ntmps50
    go_wp2_with (go_at_call 41; refine (refMay_any six hi lo _ h2.1).mono ?_; rintro e w1 ⟨rfl, hb⟩; obtain ⟨B1, S1, q0, q1, q2, q3⟩ := box4 hb; clear hb)
    go_ret
    exact ⟨rfl, B1⟩
  · rw [if_neg hm]
    have hm' : mayB six hi lo = true := by simpa using hm
    clear hm
    obtain ⟨m, hn, hpos, hle⟩ := wideN six
    rw [hn]
    have HN := Lib.hid hn
    clear hn
    by_cases hr : n < 0
    · rw [if_pos (.inl hr)]
      go_enter Tryd.func50, Tryd.ntmps50
      go_wp2_with (go_at_call 41; refine (refMay_any six hi lo _ h2.1).mono ?_; rintro e w1 ⟨rfl, hb⟩; obtain ⟨B1, S1, q0, q1, q2, q3⟩ := box4 hb; clear hb)
      refine (bitsOf_any six hi lo _ h1 h2).mono ?_
      rintro e w2 ⟨v, rfl, hown, hb2, hs2⟩
      have B2 := B1.trans (hb2.mono (Nat.le_of_lt S1))
      have Q0 := cell_step hb2 q0
      have Q1 := cell_step hb2 q1
      have Q2 := cell_step hb2 q2
      have Q3 := cell_step hb2 q3
      rw [HN.out] at hown
      simp only [Int.toNat_natCast] at hown
      obtain ⟨g, cap, rfl, hg, hlt⟩ := hown.form hpos
      have hncap := own_cap hown
      have HO := Lib.hid hown
      clear hown hb2 q0 q1 q2 q3
      go_wp2
      go_ret
      exact ⟨rfl, B2⟩
    · by_cases hr2 : (m : Int) < n
      · rw [if_pos (.inr hr2)]
        go_enter Tryd.func50, Tryd.ntmps50
        go_wp2_with (go_at_call 41; refine (refMay_any six hi lo _ h2.1).mono ?_; rintro e w1 ⟨rfl, hb⟩; obtain ⟨B1, S1, q0, q1, q2, q3⟩ := box4 hb; clear hb)
        refine (bitsOf_any six hi lo _ h1 h2).mono ?_
        rintro e w2 ⟨v, rfl, hown, hb2, hs2⟩
        have B2 := B1.trans (hb2.mono (Nat.le_of_lt S1))
        have Q0 := cell_step hb2 q0
        have Q1 := cell_step hb2 q1
        have Q2 := cell_step hb2 q2
        have Q3 := cell_step hb2 q3
        rw [HN.out] at hown
        simp only [Int.toNat_natCast] at hown
        obtain ⟨g, cap, rfl, hg, hlt⟩ := hown.form hpos
        have hncap := own_cap hown
        have HO := Lib.hid hown
        clear hown hb2 q0 q1 q2 q3
        go_wp2
        go_ret
        exact ⟨rfl, B2⟩
      · rw [if_neg (by omega)]
        obtain ⟨k, rfl⟩ := Int.eq_ofNat_of_zero_le (by omega : 0 ≤ n)
        have hkm : k ≤ m := by omega
        obtain ⟨r, hr0⟩ : ∃ r : Int, r = if cleanB six hi lo k = true then 0 else 5 := ⟨_, rfl⟩
        rw [← hr0]
        have hci := clean_iff six hi lo k h1 h2 hm' (by rw [HN.out]; omega)
        rw [HN.out] at hci
        have hall : ZeroTo six hi lo k (m - k) → r = 0 := fun hz => by
          rw [hr0, if_pos (hci.2 fun i h3 h4 => hz i h3 (by omega))]
        have hone : ∀ j : Nat, j < m - k → bitI six hi lo ((k + j : Nat) : Int) = 1 → r = 5 := fun j hj hb => by
          rw [hr0, if_neg]
          intro hc
          have := hci.1 hc (k + j) (by omega) (by omega)
          omega
        have HA := Lib.hid hall
        have HB := Lib.hid hone
        clear hall hone hr0 hci hr hr2
        have hd : decide ((k : Int) < 0) = false := by simp
        have hd2 : decide ((m : Int) < (k : Int)) = false := by simp; omega
        go_enter Tryd.func50, Tryd.ntmps50
        go_wp2_with (go_at_call 41; refine (refMay_any six hi lo _ h2.1).mono ?_; rintro e w1 ⟨rfl, hb⟩; obtain ⟨B1, S1, q0, q1, q2, q3⟩ := box4 hb; clear hb)
        refine (bitsOf_any six hi lo _ h1 h2).mono ?_
        rintro e w2 ⟨v, rfl, hown, hb2, hs2⟩
        have B2 := B1.trans (hb2.mono (Nat.le_of_lt S1))
        have Q0 := cell_step hb2 q0
        have Q1 := cell_step hb2 q1
        have Q2 := cell_step hb2 q2
        have Q3 := cell_step hb2 q3
        rw [HN.out] at hown
        simp only [Int.toNat_natCast] at hown
        obtain ⟨g, cap, rfl, hg, hlt⟩ := hown.form hpos
        have hncap := own_cap hown
        have HO := Lib.hid hown
        clear hown hb2 q0 q1 q2 q3
        have hc1 := hncap.1
        have hc2 := hncap.2
        unfold maxLen at hc2
        clear hncap
        have hz1 : ((m - k : Nat) : Int) ≤ 128 := by omega
        by_cases hck : cap = k
        · obtain rfl : m = k := by omega
          go_wp2
          refine wp_loop_rounds 1 ?_
          rw [rounds_succ]
          go_wp2
          go_ret
          exact ⟨ret_int (HA.out (by rw [Nat.sub_self]; exact ZeroTo.zero _ _ _ _)).symm, B2⟩
        · go_wp2
          go_loop [28, 5] (fun i _ => ∃ j : Nat, j ≤ m - k ∧ i = .int .i64 j ∧ ZeroTo six hi lo k j) (fun i _ => m - k - (intOf i).toNat)
          case atStart => exact ⟨0, by omega, rfl, ZeroTo.zero _ _ _ _⟩
          case round =>
            obtain ⟨j, hj, rfl, hz⟩ := hrel
            by_cases hlt : j < m - k
            · have hcell := own_int HO.out (bitsL_at (hi := hi) (lo := lo) HN.out (show k + j < m by omega))
              have h01 := bitI_01 six hi lo ((k + j : Nat) : Int)
              have HZ := Lib.hid hz
              clear hz
              by_cases hb1 : bitI six hi lo ((k + j : Nat) : Int) = 1
              · have hr5 := HB.out j hlt hb1
                rw [hb1] at hcell
                clear hb1 h01
                have HR := Lib.hid hr5
                clear hr5
                go_wp2
                go_ret
                exact ⟨ret_int HR.out.symm, B2⟩
              · have hb0 : bitI six hi lo ((k + j : Nat) : Int) = 0 := by omega
                rw [hb0] at hcell
                have HZ2 := Lib.hid (HZ.out.succ hb0)
                clear hb1 hb0 h01
                go_wp2
                go_round
                case rel => exact ⟨j + 1, by omega, by go_num, HZ2.out⟩
                case measure => simp [intOf]; omega
            · obtain rfl : j = m - k := by omega
              have HR := Lib.hid (HA.out hz)
              clear hz
              go_wp2
              go_ret
              exact ⟨ret_int HR.out.symm, B2⟩

end Go.Proofs.YtpecpodchkglkaaDoor

namespace Go.Proofs.YtpecpodchkglkaaDoor
open Go.ChangeShapes Go.WideShapes Go.ChangeAt Go.RowKit

def preTxt (six : Bool) (hi lo n : Int) : List UInt8 := addrTxt six hi lo ++ [47] ++ numT 10 n.toNat
def ptxL (six : Bool) (hi lo n : Int) : List UInt8 := if chk six hi lo n = 0 then preTxt six hi lo n else []
theorem chk_nil {six : Bool} {hi lo n : Int} (h : chk six hi lo n = 0) : mayB six hi lo = true ∧ 0 ≤ n ∧ n ≤ 128 := by
  have hw := wideI_le six
  unfold chk at h
  split at h
  · cases h
  · split at h
    · cases h
    · refine ⟨by simpa using ‹¬ mayB six hi lo = false›, by omega, by omega⟩
theorem addrTxt_len (six : Bool) (hi lo : Int) (h1 : 0 ≤ hi) (h2 : 0 ≤ lo) : (addrTxt six hi lo).length ≤ 100 := by
  unfold addrTxt
  cases six
  · rw [if_neg (by decide)]
    refine Nat.le_trans (joinT_len 46 3 _ fun x hx => ?_) ?_
    · obtain ⟨y, hy, rfl⟩ := List.mem_map.1 hx
      have := octs4_lt _ y hy
      exact num10_len _ (by omega)
    · rw [List.length_map, show (octs4 _).length = 4 by simp [octs4]]; omega
  · rw [if_pos rfl, text_same _ (gps_len hi lo)]
    refine partT_len _ _ _ _ (fun x hx => ?_) (by rw [List.length_map]; rfl)
    obtain ⟨y, hy, rfl⟩ := List.mem_map.1 hx
    have := gps_lt hi lo h1 h2 y hy
    exact num16_len _ (by omega)
theorem addrOf_any {w : World} (six : Bool) (hi lo : Int) (h1 : 0 ≤ hi ∧ hi < 18446744073709551616) (h2 : 0 ≤ lo ∧ lo < 18446744073709551616) (ht : Tabs w) :
    Calls Tryd.prog 40 #[.agg #[.bool six, .int .u64 hi, .int .u64 lo]] w fun e w' => e = .returned (.string ⟨(addrTxt six hi lo).toArray⟩) ∧ Below w.heap.size w w' := by
  cases six
  · exact of4_any hi lo h2 ht
  · exact of6_any hi lo h1 h2 ht
theorem itoa_num (n : Nat) : Lib.itoa (n : Int) = numT 10 n := by rw [Lib.itoa_nonneg, dec_num]

set_option maxRecDepth 100000 in
set_option maxHeartbeats 1600000 in
theorem preOf_any {w : World} (six : Bool) (hi lo : Int) (n : Nat) (hn : n ≤ 128) (h1 : 0 ≤ hi ∧ hi < 18446744073709551616) (h2 : 0 ≤ lo ∧ lo < 18446744073709551616) (ht : Tabs w) :
    Calls Tryd.prog 49 #[.agg #[.bool six, .int .u64 hi, .int .u64 lo, .int .i64 n]] w fun e w' => e = .returned (.string ⟨(preTxt six hi lo n).toArray⟩) ∧ Below w.heap.size w w' := by
  have CO := Lib.hid (fun (W : World) (hb : Below w.heap.size w W) => addrOf_any six hi lo h1 h2 (ht.below hb))
  have CI : Hid (∀ W : World, Below w.heap.size w W → Calls Tryd.prog 79 #[.int .i64 n] W fun e w' => e = .returned (.string ⟨(numT 10 n).toArray⟩) ∧ Below W.heap.size W w') := by
    refine Lib.hid fun W hb => (Tryd.strconv_Itoa n (by omega) (by omega) W (ht.below hb).1).mono ?_
    rintro e w' ⟨rfl, k, os, rfl⟩
    exact ⟨by rw [itoa_num], below_regrown W (W.drawn + k) os⟩
  have hla := addrTxt_len six hi lo h1.1 h2.1
  have hlb : (numT 10 n).length ≤ 3 := num10_len n (by omega)
  have HX : Hid (preTxt six hi lo n = addrTxt six hi lo ++ [47] ++ numT 10 n) := by refine Lib.hid ?_; unfold preTxt; rw [Int.toNat_natCast]
  obtain ⟨ta, hta⟩ : ∃ ta, addrTxt six hi lo = ta := ⟨_, rfl⟩
  obtain ⟨tb, htb⟩ : ∃ tb, numT 10 n = tb := ⟨_, rfl⟩
  rw [hta] at CO HX hla
  rw [htb] at CI HX hlb
  have HB0 : Hid (Below w.heap.size w (w.alloc (.cells #[.bool six, .int .u64 hi, .int .u64 lo, .int .i64 n] 38))) := (Below.refl _ _).alloc (Nat.le_refl _) _
  obtain ⟨tc, htc⟩ : ∃ tc, ta ++ [47] = tc := ⟨_, rfl⟩
  have htl : tc.length ≤ 101 := by rw [← htc, List.length_append]; simp only [List.length_cons, List.length_nil]; omega
  have hs1 : ∀ W : World, (Op.stringOp .add ⟨ta.toArray⟩ ⟨#[47]⟩).run Tryd.prog W = .ok (.string ⟨tc.toArray⟩) W := fun W => by
    have := run_string_add_lists (P := Tryd.prog) W ta [47] (by omega) (by simp)
    rw [htc] at this
    exact this
  have hs2 : ∀ W : World, (Op.stringOp .add ⟨tc.toArray⟩ ⟨tb.toArray⟩).run Tryd.prog W = .ok (.string ⟨(tc ++ tb).toArray⟩) W := fun W => run_string_add_lists (P := Tryd.prog) W tc tb (by omega) (by omega)
  have HTC := Lib.hid htc
  obtain ⟨td, htd⟩ : ∃ td, tc ++ tb = td := ⟨_, rfl⟩
  rw [htd] at hs2
  have HTD := Lib.hid htd
  clear hta htb ht htc htd hla hlb htl
  go_enter Tryd.func49, Tryd.ntmps49
  go_wp2_with fail
  obtain ⟨wo, hwo⟩ : ∃ wo, wo = w.alloc (.cells #[.bool six, .int .u64 hi, .int .u64 lo, .int .i64 n] 38) := ⟨_, rfl⟩
  have hc0 : wo.cell? ⟨w.heap.size, 0, none⟩ = some (.bool six) := by rw [hwo]; simp [World.cell?_alloc_new]
  have hc1 : wo.cell? ⟨w.heap.size, 1, none⟩ = some (.int .u64 hi) := by rw [hwo]; simp [World.cell?_alloc_new]
  have hc2 : wo.cell? ⟨w.heap.size, 2, none⟩ = some (.int .u64 lo) := by rw [hwo]; simp [World.cell?_alloc_new]
  have hc3 : wo.cell? ⟨w.heap.size, 3, none⟩ = some (.int .i64 n) := by rw [hwo]; simp [World.cell?_alloc_new]
  have hsz : w.heap.size < wo.heap.size := by rw [hwo]; simp
  rw [← hwo] at HB0 ⊢
  clear hwo
  go_region_held3 (fun w' => (∀ b o, b < wo.heap.size → w'.cell? ⟨b, o, none⟩ = wo.cell? ⟨b, o, none⟩) ∧ wo.heap.size ≤ w'.heap.size ∧ Hid (Below wo.heap.size wo w'))
    ((first | assumption | exact keep0 _ | exact keep1 (by assumption) (by assumption) | exact keepD (by assumption) | exact keepB (by assumption) (by assumption) | exact keepA (by assumption) _ | exact ⟨fun _ _ _ => rfl, Nat.le_refl _, Below.refl _ _⟩))
    (first | (go_at_call 40; (with_reducible refine (CO.out _ ?hb1).mono ?_); (case hb1 => exact below_step HB0.out (keepBelow (by assumption))); rintro e w5 ⟨rfl, hb5⟩; obtain ⟨fc5, ff5⟩ := bcell hb5; have hz5 := hb5.size) | (go_at_call 79; (with_reducible refine (CI.out _ ?hb1).mono ?_); (case hb1 => exact below_step HB0.out (keepBelow (by assumption))); rintro e w6 ⟨rfl, hb6⟩; obtain ⟨fc6, ff6⟩ := bcell hb6; have hz6 := hb6.size))
  all_goals go_wp2
  all_goals go_ret
  all_goals (refine ⟨?_, below_step HB0.out (keepBelow (by assumption))⟩; rw [HX.out, HTC.out, HTD.out]; rfl)

set_option maxRecDepth 100000 in
set_option maxHeartbeats 800000 in
theorem preText_any {w : World} (six : Bool) (hi lo n : Int) (h1 : 0 ≤ hi ∧ hi < 18446744073709551616) (h2 : 0 ≤ lo ∧ lo < 18446744073709551616) (ht : Tabs w) :
    Calls Tryd.prog 20 #[.agg #[.bool six, .int .u64 hi, .int .u64 lo, .int .i64 n]] w (RetTxt w (ptxL six hi lo n) (chk six hi lo n)) := by
  have CC := Lib.hid (fun (W : World) => check_any six hi lo n W h1 h2)
  obtain ⟨post, hpost⟩ : ∃ post, RetTxt w (ptxL six hi lo n) (chk six hi lo n) = post := ⟨_, rfl⟩
  rw [hpost]
  unfold ptxL at hpost
  by_cases hz : chk six hi lo n = 0
  · have hr := chk_nil hz
    obtain ⟨m, rfl⟩ : ∃ m : Nat, n = m := ⟨n.toNat, by omega⟩
    rw [if_pos hz, hz] at hpost
    rw [hz] at CC
    have HP := Lib.hid hpost
    have CO := Lib.hid (fun (W : World) (hb : Below w.heap.size w W) => preOf_any six hi lo m (by omega) h1 h2 (ht.below hb))
    clear hpost hz hr ht
    go_enter Tryd.func20, Tryd.ntmps20
    go_wp2_with fail
    refine (CC.out _).mono ?_
    rintro e w1 ⟨rfl, hb1⟩
    obtain ⟨fc1, ff1⟩ := bcell hb1
    have s1 := bsize1 hb1
    have HB1 := Lib.hid (balloc1 hb1)
    clear hb1
    go_wp2_with fail
    refine (CO.out _ HB1.out).mono ?_
    rintro e w2 ⟨rfl, hb2⟩
    have HB2 := Lib.hid (below_step HB1.out hb2)
    clear hb2
    go_wp2
    rw [← HP.out]
    exact ⟨rfl, HB2.out⟩
  · rw [if_neg hz] at hpost
    obtain ⟨E, hE⟩ : ∃ E, chk six hi lo n = E := ⟨_, rfl⟩
    rw [hE] at hpost hz CC
    have HP := Lib.hid hpost
    have d0 : (E == 0) = false := by simpa using hz
    clear hpost hE ht
    go_enter Tryd.func20, Tryd.ntmps20
    go_wp2_with fail
    refine (CC.out _).mono ?_
    rintro e w1 ⟨rfl, hb1⟩
    have HB1 := Lib.hid (balloc1 hb1)
    clear hb1
    go_wp2
    rw [← HP.out]
    exact ⟨rfl, HB1.out⟩

set_option maxRecDepth 100000 in
set_option maxHeartbeats 800000 in
theorem refPreText_any {w : World} (six : Bool) (hi lo n : Int) (h1 : 0 ≤ hi ∧ hi < 18446744073709551616) (h2 : 0 ≤ lo ∧ lo < 18446744073709551616) :
    Calls Tryd.prog 21 #[.agg #[.bool six, .int .u64 hi, .int .u64 lo, .int .i64 n]] w (RetTxt w (ptxL six hi lo n) (chk six hi lo n)) := by
  have CC := Lib.hid (fun (W : World) => preFault_any six hi lo n W h1 h2)
  obtain ⟨post, hpost⟩ : ∃ post, RetTxt w (ptxL six hi lo n) (chk six hi lo n) = post := ⟨_, rfl⟩
  rw [hpost]
  unfold ptxL at hpost
  by_cases hz : chk six hi lo n = 0
  · have hr := chk_nil hz
    obtain ⟨m, rfl⟩ : ∃ m : Nat, n = m := ⟨n.toNat, by omega⟩
    rw [if_pos hz, hz] at hpost
    rw [hz] at CC
    have CA := Lib.hid (fun (W : World) => refText_any (w := W) six hi lo h1 h2)
    unfold RetTxt txtL txtE at CA
    rw [if_pos hr.1, if_pos hr.1] at CA
    have CN := Lib.hid (fun (W : World) => numText_any 10 (.inl rfl) m (by omega) W)
    have hla := addrTxt_len six hi lo h1.1 h2.1
    have hlb : (numT 10 m).length ≤ 3 := num10_len m (by omega)
    unfold preTxt at hpost
    rw [Int.toNat_natCast] at hpost
    obtain ⟨ta, hta⟩ : ∃ ta, addrTxt six hi lo = ta := ⟨_, rfl⟩
    obtain ⟨tb, htb⟩ : ∃ tb, numT 10 m = tb := ⟨_, rfl⟩
    rw [hta] at CA hpost hla
    rw [htb] at CN hpost hlb
    have HP := Lib.hid hpost
    clear hpost hz hr hta htb
    go_enter Tryd.func21, Tryd.ntmps21
    go_wp2_with fail
    refine (CC.out _).mono ?_
    rintro e w1 ⟨rfl, hb1⟩
    obtain ⟨fc1, ff1⟩ := bcell hb1
    have s1 := bsize1 hb1
    have HB1 := Lib.hid (balloc1 hb1)
    clear hb1
    go_wp2_with fail
    refine (CA.out _).mono ?_
    rintro e w2 ⟨rfl, hb2⟩
    obtain ⟨fc2, ff2⟩ := bcell hb2
    have s2 := hb2.size
    have HB2 := Lib.hid (below_step HB1.out hb2)
    clear hb2
    go_wp2_with fail
    refine (CN.out _).mono ?_
    rintro e w3 ⟨rfl, hb3⟩
    have HB3 := Lib.hid (below_step HB2.out hb3)
    clear hb3
    go_wp2
    rw [← HP.out]
    exact ⟨by simp [ByteArray.mk_append_mk], HB3.out⟩
  · rw [if_neg hz] at hpost
    obtain ⟨E, hE⟩ : ∃ E, chk six hi lo n = E := ⟨_, rfl⟩
    rw [hE] at hpost hz CC
    have HP := Lib.hid hpost
    have d0 : (E == 0) = false := by simpa using hz
    clear hpost hE
    go_enter Tryd.func21, Tryd.ntmps21
    go_wp2_with fail
    refine (CC.out _).mono ?_
    rintro e w1 ⟨rfl, hb1⟩
    have HB1 := Lib.hid (balloc1 hb1)
    clear hb1
    go_wp2
    rw [← HP.out]
    exact ⟨rfl, HB1.out⟩

end Go.Proofs.YtpecpodchkglkaaDoor

namespace Go.Proofs.YtpecpodchkglkaaDoor
open Go.ChangeShapes Go.WideShapes Go.ChangeAt Go.RowKit

set_option maxRecDepth 100000 in
set_option maxHeartbeats 800000 in
theorem preTexts_any {w : World} (six : Bool) (hi lo n : Int) (h1 : 0 ≤ hi ∧ hi < 18446744073709551616) (h2 : 0 ≤ lo ∧ lo < 18446744073709551616) (ht : Tabs w) :
    Calls Tryd.prog 6 #[.agg #[.bool six, .int .u64 hi, .int .u64 lo, .int .i64 n]] w fun e w' => e = .returned (.bool true) ∧ Below w.heap.size w w' := by
  have CT := Lib.hid (fun (W : World) (hb : Below w.heap.size w W) => preText_any six hi lo n h1 h2 (ht.below hb))
  have CR := Lib.hid (fun (W : World) => refPreText_any (w := W) six hi lo n h1 h2)
  have HB0 : Hid (Below w.heap.size w (w.alloc (.cells #[.bool six, .int .u64 hi, .int .u64 lo, .int .i64 n] 38))) := (Below.refl _ _).alloc (Nat.le_refl _) _
  obtain ⟨l, hl⟩ : ∃ l, ptxL six hi lo n = l := ⟨_, rfl⟩
  obtain ⟨E, hE⟩ : ∃ E, chk six hi lo n = E := ⟨_, rfl⟩
  rw [hl, hE] at CT CR
  unfold RetTxt at CT CR
  clear hl hE ht
  go_enter Tryd.func6, Tryd.ntmps6
  go_wp2_with fail
  refine (CT.out _ HB0.out).mono ?_
  rintro e w1 ⟨rfl, hb1⟩
  obtain ⟨fc1, ff1⟩ := bcell hb1
  have s1 := bsize1 hb1
  have HB1 := Lib.hid (balloc1 hb1)
  clear hb1
  go_wp2_with fail
  refine (CR.out _).mono ?_
  rintro e w2 ⟨rfl, hb2⟩
  have HB2 := Lib.hid (below_step HB1.out hb2)
  clear hb2
  go_wp2
  go_ret
  exact ⟨by simp, HB2.out⟩

theorem preTexts_pow : (Rows.preTextsRow.laid).filter (fun x => x.1 == "internal/strconv.uint64pow10") = [("internal/strconv.uint64pow10", Rows.laid_internal_strconv_uint64pow10)] := by
  unfold Rows.preTextsRow
  simp only [List.filter]
  rfl
theorem preTexts_bru : (Rows.preTextsRow.laid).filter (fun x => x.1 == "math/bits.deBruijn64tab") = [("math/bits.deBruijn64tab", Rows.laid_math_bits_deBruijn64tab)] := by
  unfold Rows.preTextsRow
  simp only [List.filter]
  rfl
set_option maxRecDepth 100000 in
theorem preTexts_walk {H : Type} {enc : TypeId × Value → H} (W : World) (vs : Array Value) (ds : List (DataW H)) (ps : List MemPlace)
    (h : ArgsOk Tryd.prog [38] H enc W vs.toList ds ps) (hL : laidMetH Tryd.prog Rows.preTextsRow.laid W) :
    Calls Tryd.prog 6 vs W fun e W' => e = .returned (.bool true) ∧ Below W.heap.size W W' := by
  obtain ⟨hA, ⟨base, hval⟩, _, _⟩ := h
  obtain ⟨v0, d0, e0, _, h0⟩ := trodAll_one hA
  obtain ⟨six, hi, lo, n, rfl, b1, b2, _⟩ := open_prefix (hval 0 _ v0 rfl (by rw [e0]; rfl)) h0
  obtain rfl : vs = #[.agg #[.bool six, .int .u64 hi, .int .u64 lo, .int .i64 n]] := by cases vs; simp_all
  exact preTexts_any six hi lo n b1 b2 (tabs_of_laid hL preTexts_pow preTexts_bru)

end Go.Proofs.YtpecpodchkglkaaDoor
