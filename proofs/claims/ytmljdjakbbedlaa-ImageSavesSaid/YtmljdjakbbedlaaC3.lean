/-
  
  
  
  
  
  
  
  
  
  
  
  
  
  
  
  
  
-/
import Derived.Test.YtmljdjakbbedlaaC2
import Derived.Test.YtmljdjakbbedlaaC1
import Derived.Test.YtmljdjakbbedlaaChecked
import Derived.Laws.StructEq
import Derived.Deep.DeepCutAuto
import Derived.Outline
import Derived.Sort.WalkA
namespace Go.Proofs.Ytmljdjakbbedlaa
open Go.ChangeShapes Go.WideShapes Go.ChangeAt Go.RowKit

set_option maxHeartbeats 1600000 in
theorem check_any (six : Bool) (hi lo n : Int) (w : World) (h1 : 0 ≤ hi ∧ hi < 18446744073709551616) (h2 : 0 ≤ lo ∧ lo < 18446744073709551616) :
    Calls Try.prog 53 #[.agg #[.bool six, .int .u64 hi, .int .u64 lo, .int .i64 n]] w fun e w' => e = .returned (.int .i64 (chk six hi lo n)) ∧ Below w.heap.size w w' := by
  unfold chk
  by_cases hm : mayB six hi lo = false
  · rw [if_pos hm]
    go_enter Try.func53, Try.ntmps53
    go_wp2_with (go_at_call 51; refine (may_any six hi lo _ h2.1).mono ?_; rintro e w1 ⟨rfl, hb⟩; obtain ⟨B1, S1, q0, q1, q2, q3⟩ := box4 hb; clear hb)
    go_ret
    exact ⟨rfl, B1⟩
  · rw [if_neg hm]
    have hm' : mayB six hi lo = true := by simpa using hm
    clear hm
    by_cases hr : n < 0
    · rw [if_pos (.inl hr)]
      go_enter Try.func53, Try.ntmps53
      go_wp2_with (go_at_call 51; refine (may_any six hi lo _ h2.1).mono ?_; rintro e w1 ⟨rfl, hb⟩; obtain ⟨B1, S1, q0, q1, q2, q3⟩ := box4 hb; clear hb)
      go_quiet ((go_at_call 100; refine (wide_any six _).mono ?_; rintro e w2 ⟨rfl, rfl⟩))
      go_wp2
      go_ret
      exact ⟨rfl, below_drewN B1 _⟩
    · have hl := wideI_le six
      have hd : decide (n < 0) = false := by simpa using hr
      by_cases hr2 : wideI six < n
      · rw [if_pos (.inr hr2)]
        go_enter Try.func53, Try.ntmps53
        go_wp2_with (go_at_call 51; refine (may_any six hi lo _ h2.1).mono ?_; rintro e w1 ⟨rfl, hb⟩; obtain ⟨B1, S1, q0, q1, q2, q3⟩ := box4 hb; clear hb)
        go_quiet ((go_at_call 100; exact Calls.quiet_of_same ((wide_any six _).mono fun e w' h => ⟨h.1, h.2.symm⟩)))
        go_wp2
        go_ret
        exact ⟨rfl, below_drewN B1 _⟩
      · rw [if_neg (by omega)]
        have hq : six = false → lo < 4294967296 := by
          rintro rfl
          exact (mayB_four hm').2
        have HQ := Lib.hid hq
        clear hq
        by_cases hc : cleanB six hi lo n = true
        · rw [if_pos hc]
          have e1 : cutHi six hi n = hi := by simp only [cleanB, Bool.and_eq_true, beq_iff_eq] at hc; exact hc.1
          have e2 : cutLo six lo n = lo := by simp only [cleanB, Bool.and_eq_true, beq_iff_eq] at hc; exact hc.2
          clear hc
          go_enter Try.func53, Try.ntmps53
          go_wp2_with (go_at_call 51; refine (may_any six hi lo _ h2.1).mono ?_; rintro e w1 ⟨rfl, hb⟩; obtain ⟨B1, S1, q0, q1, q2, q3⟩ := box4 hb; clear hb)
          go_quiet ((go_at_call 100; exact Calls.quiet_of_same ((wide_any six _).mono fun e w' h => ⟨h.1, h.2.symm⟩)))
          go_wp2_with fail
          go_region_held3 (fun w' => Below w.heap.size w w' ∧ w.heap.size < w'.heap.size ∧ w'.cell? ⟨w.heap.size, 0, none⟩ = some (.bool six) ∧ w'.cell? ⟨w.heap.size, 1, none⟩ = some (.int .u64 hi) ∧ w'.cell? ⟨w.heap.size, 2, none⟩ = some (.int .u64 lo) ∧ w'.cell? ⟨w.heap.size, 3, none⟩ = some (.int .i64 n))
            (((try go_split_ands); (repeat' apply And.intro) <;> first | assumption | exact (below_drewN B1 _).drew | exact below_step (by assumption) (by assumption) | exact cell_step (by assumption) (by assumption) | exact size_step (by assumption) (by assumption) | go_keep))
            (first | (go_at_call 107; refine (cut_any six hi lo n _ h1 h2 HQ.out (by omega) (by omega)).mono ?_; rintro e w' ⟨rfl, hb⟩))
          all_goals go_wp2
          all_goals go_ret
          all_goals (go_split_ands; exact ⟨by simp, by assumption⟩)
        · rw [if_neg hc]
          by_cases e1 : cutHi six hi n = hi
          · have e2 : ¬ cutLo six lo n = lo := by
              intro e2
              exact hc (by simp [cleanB, e1, e2])
            have e3 : (cutLo six lo n == lo) = false := by simpa using e2
            clear hc
            go_enter Try.func53, Try.ntmps53
            go_wp2_with (go_at_call 51; refine (may_any six hi lo _ h2.1).mono ?_; rintro e w1 ⟨rfl, hb⟩; obtain ⟨B1, S1, q0, q1, q2, q3⟩ := box4 hb; clear hb)
            go_quiet ((go_at_call 100; exact Calls.quiet_of_same ((wide_any six _).mono fun e w' h => ⟨h.1, h.2.symm⟩)))
            go_wp2_with fail
            go_region_held3 (fun w' => Below w.heap.size w w' ∧ w.heap.size < w'.heap.size ∧ w'.cell? ⟨w.heap.size, 0, none⟩ = some (.bool six) ∧ w'.cell? ⟨w.heap.size, 1, none⟩ = some (.int .u64 hi) ∧ w'.cell? ⟨w.heap.size, 2, none⟩ = some (.int .u64 lo) ∧ w'.cell? ⟨w.heap.size, 3, none⟩ = some (.int .i64 n))
              (((try go_split_ands); (repeat' apply And.intro) <;> first | assumption | exact (below_drewN B1 _).drew | exact below_step (by assumption) (by assumption) | exact cell_step (by assumption) (by assumption) | exact size_step (by assumption) (by assumption) | go_keep))
              (first | (go_at_call 107; refine (cut_any six hi lo n _ h1 h2 HQ.out (by omega) (by omega)).mono ?_; rintro e w' ⟨rfl, hb⟩))
            all_goals go_wp2
            all_goals go_ret
            all_goals (go_split_ands; exact ⟨by simp, by assumption⟩)
          · have e3 : (cutHi six hi n == hi) = false := by simpa using e1
            clear hc
            go_enter Try.func53, Try.ntmps53
            go_wp2_with (go_at_call 51; refine (may_any six hi lo _ h2.1).mono ?_; rintro e w1 ⟨rfl, hb⟩; obtain ⟨B1, S1, q0, q1, q2, q3⟩ := box4 hb; clear hb)
            go_quiet ((go_at_call 100; exact Calls.quiet_of_same ((wide_any six _).mono fun e w' h => ⟨h.1, h.2.symm⟩)))
            go_wp2_with fail
            go_region_held3 (fun w' => Below w.heap.size w w' ∧ w.heap.size < w'.heap.size ∧ w'.cell? ⟨w.heap.size, 0, none⟩ = some (.bool six) ∧ w'.cell? ⟨w.heap.size, 1, none⟩ = some (.int .u64 hi) ∧ w'.cell? ⟨w.heap.size, 2, none⟩ = some (.int .u64 lo) ∧ w'.cell? ⟨w.heap.size, 3, none⟩ = some (.int .i64 n))
              (((try go_split_ands); (repeat' apply And.intro) <;> first | assumption | exact (below_drewN B1 _).drew | exact below_step (by assumption) (by assumption) | exact cell_step (by assumption) (by assumption) | exact size_step (by assumption) (by assumption) | go_keep))
              (first | (go_at_call 107; refine (cut_any six hi lo n _ h1 h2 HQ.out (by omega) (by omega)).mono ?_; rintro e w' ⟨rfl, hb⟩))
            all_goals go_wp2
            all_goals go_ret
            all_goals (go_split_ands; exact ⟨by simp, by assumption⟩)

set_option maxRecDepth 100000 in
/-- A prefix that came in. -/
theorem open_prefix {H : Type} {enc : TypeId × Value → H} {W : World} {base : Nat} {sp : Nat → Bool} {held : Bool} {b0 : Nat} {v : Value} {d : DataW H} {p : List MemPlace}
    (hv : Value.okWide Try.prog W .any b0 42 v) (h : DataW.Trod enc Try.prog W base sp held 42 v d p) :
    ∃ six hi lo n, v = .agg #[.bool six, .int .u64 hi, .int .u64 lo, .int .i64 n] ∧ (0 ≤ hi ∧ hi < 18446744073709551616) ∧ (0 ≤ lo ∧ lo < 18446744073709551616) ∧ (-9223372036854775808 ≤ n ∧ n ≤ 9223372036854775807) := by
  have hc : Try.prog.cellsOf 42 = 4 := by kernel_rfl
  have hk : flat Try.prog 9 42 = some [none, some .u64, some .u64, some .i64] := by kernel_rfl
  obtain ⟨cs, rfl, hf⟩ := open_flat (fun fuel cs x hl hx => trod_flat 9 _ _ fuel cs x hk hl (by rw [hc]; rfl) hx) Try.underlying42 hv h
  obtain ⟨six, _, rfl, hf1⟩ := hf.bool_inv
  obtain ⟨hi, _, rfl, wy, hf2⟩ := hf1.int_inv
  obtain ⟨lo, _, rfl, wz, hf3⟩ := hf2.int_inv
  obtain ⟨n, _, rfl, wu, hf4⟩ := hf3.int_inv
  obtain rfl := hf4.nil_inv
  exact ⟨six, hi, lo, n, rfl, range_u64 wy, range_u64 wz, bounds_i64 wu⟩

end Go.Proofs.Ytmljdjakbbedlaa

namespace Go.Proofs.Ytmljdjakbbedlaa
open Go.ChangeShapes Go.WideShapes Go.ChangeAt Go.RowKit

theorem own_cap {w : World} {base : Nat} {e : TypeId} {size n cap : Nat} {A : Option Addr} {xs : List Value} (h : w.ownsRow base e size (.slice A n cap) n xs) : n ≤ cap ∧ cap ≤ maxLen := by
  rcases h.2 with ⟨h1, rfl⟩ | ⟨g, c, cur, hv, _, _, h3, h4, _⟩
  · injection h1 with _ _ h2
    subst h2
    exact ⟨Nat.le_refl _, by unfold maxLen; omega⟩
  · injection hv with _ _ h2
    subst h2
    exact ⟨h3, h4⟩

theorem wideN (six : Bool) : ∃ n : Nat, wideI six = n ∧ 0 < n ∧ n ≤ 128 := by
  refine ⟨(wideI six).toNat, ?_⟩
  unfold wideI
  split <;> decide

/-- Cell i of a row that the call owns, of integers. -/
theorem own_int {w : World} {base n cap g : Nat} {e : TypeId} {l : List Int} (h : w.ownsRow base e 1 (.slice (some ⟨g, 0, none⟩) n cap) n (l.map (Value.int .i64))) {i : Nat} {x : Int} (hx : l[i]? = some x) : w.cell? ⟨g, i, none⟩ = some (.int .i64 x) := by
  have := h.cells (g := g) rfl i (.int .i64 x) (by rw [List.getElem?_map, hx]; rfl)
  rwa [show (⟨g, 0, none⟩ : Addr).add i = ⟨g, i, none⟩ from by unfold Addr.add; split <;> simp_all] at this

theorem bitsL_at {six : Bool} {hi lo : Int} {m i : Nat} (hm : wideI six = m) (hi' : i < m) : (bitsL six hi lo)[i]? = some (bitI six hi lo i) := by
  unfold bitsL
  rw [hm, List.getElem?_map, List.getElem?_range (by simpa using hi')]
  rfl

def ZeroTo (six : Bool) (hi lo : Int) (k j : Nat) : Prop := ∀ i : Nat, k ≤ i → i < k + j → bitI six hi lo i = 0
theorem ZeroTo.zero (six : Bool) (hi lo : Int) (k : Nat) : ZeroTo six hi lo k 0 := fun _ _ _ => by omega
theorem ZeroTo.succ {six : Bool} {hi lo : Int} {k j : Nat} (h : ZeroTo six hi lo k j) (hb : bitI six hi lo ((k + j : Nat) : Int) = 0) : ZeroTo six hi lo k (j + 1) := fun i h1 h2 => by
  rcases Nat.lt_or_ge i (k + j) with h3 | h3
  · exact h i h1 h3
  · obtain rfl : i = k + j := by omega
    exact hb

set_option maxHeartbeats 1600000 in
theorem preFault_any (six : Bool) (hi lo n : Int) (w : World) (h1 : 0 ≤ hi ∧ hi < 18446744073709551616) (h2 : 0 ≤ lo ∧ lo < 18446744073709551616) :
    Calls Try.prog 110 #[.agg #[.bool six, .int .u64 hi, .int .u64 lo, .int .i64 n]] w fun e w' => e = .returned (.int .i64 (chk six hi lo n)) ∧ Below w.heap.size w w' := by
  unfold chk
  by_cases hm : mayB six hi lo = false
  · rw [if_pos hm]
    go_enter Try.func110, Try.ntmps110
    go_wp2_with (go_at_call 115; refine (refMay_any six hi lo _ h2.1).mono ?_; rintro e w1 ⟨rfl, hb⟩; obtain ⟨B1, S1, q0, q1, q2, q3⟩ := box4 hb; clear hb)
    go_ret
    exact ⟨rfl, B1⟩
  · rw [if_neg hm]
    have hm' : mayB six hi lo = true := by simpa using hm
    clear hm
    obtain ⟨m, hn, hpos, hle⟩ := wideN six
    rw [hn]
    have HN := Lib.hid hn
    clear hn
    by_cases hr : n < 0
    · rw [if_pos (.inl hr)]
      go_enter Try.func110, Try.ntmps110
      go_wp2_with (go_at_call 115; refine (refMay_any six hi lo _ h2.1).mono ?_; rintro e w1 ⟨rfl, hb⟩; obtain ⟨B1, S1, q0, q1, q2, q3⟩ := box4 hb; clear hb)
      refine (bitsOf_any six hi lo _ h1 h2).mono ?_
      rintro e w2 ⟨v, rfl, hown, hb2, hs2⟩
      have B2 := B1.trans (hb2.mono (Nat.le_of_lt S1))
      have Q0 := cell_step hb2 q0
      have Q1 := cell_step hb2 q1
      have Q2 := cell_step hb2 q2
      have Q3 := cell_step hb2 q3
      rw [HN.out] at hown
      simp only [Int.toNat_natCast] at hown
      obtain ⟨g, cap, rfl, hg, hlt⟩ := hown.form hpos
      have hncap := own_cap hown
      have HO := Lib.hid hown
      clear hown hb2 q0 q1 q2 q3
      go_wp2
      go_ret
      exact ⟨rfl, B2⟩
    · by_cases hr2 : (m : Int) < n
      · rw [if_pos (.inr hr2)]
        go_enter Try.func110, Try.ntmps110
        go_wp2_with (go_at_call 115; refine (refMay_any six hi lo _ h2.1).mono ?_; rintro e w1 ⟨rfl, hb⟩; obtain ⟨B1, S1, q0, q1, q2, q3⟩ := box4 hb; clear hb)
        refine (bitsOf_any six hi lo _ h1 h2).mono ?_
        rintro e w2 ⟨v, rfl, hown, hb2, hs2⟩
        have B2 := B1.trans (hb2.mono (Nat.le_of_lt S1))
        have Q0 := cell_step hb2 q0
        have Q1 := cell_step hb2 q1
        have Q2 := cell_step hb2 q2
        have Q3 := cell_step hb2 q3
        rw [HN.out] at hown
        simp only [Int.toNat_natCast] at hown
        obtain ⟨g, cap, rfl, hg, hlt⟩ := hown.form hpos
        have hncap := own_cap hown
        have HO := Lib.hid hown
        clear hown hb2 q0 q1 q2 q3
        go_wp2
        go_ret
        exact ⟨rfl, B2⟩
      · rw [if_neg (by omega)]
        obtain ⟨k, rfl⟩ := Int.eq_ofNat_of_zero_le (by omega : 0 ≤ n)
        have hkm : k ≤ m := by omega
        obtain ⟨r, hr0⟩ : ∃ r : Int, r = if cleanB six hi lo k = true then 0 else 5 := ⟨_, rfl⟩
        rw [← hr0]
        have hci := clean_iff six hi lo k h1 h2 hm' (by rw [HN.out]; omega)
        rw [HN.out] at hci
        have hall : ZeroTo six hi lo k (m - k) → r = 0 := fun hz => by
          rw [hr0, if_pos (hci.2 fun i h3 h4 => hz i h3 (by omega))]
        have hone : ∀ j : Nat, j < m - k → bitI six hi lo ((k + j : Nat) : Int) = 1 → r = 5 := fun j hj hb => by
          rw [hr0, if_neg]
          intro hc
          have := hci.1 hc (k + j) (by omega) (by omega)
          omega
        have HA := Lib.hid hall
        have HB := Lib.hid hone
        clear hall hone hr0 hci hr hr2
        have hd : decide ((k : Int) < 0) = false := by simp
        have hd2 : decide ((m : Int) < (k : Int)) = false := by simp; omega
        go_enter Try.func110, Try.ntmps110
        go_wp2_with (go_at_call 115; refine (refMay_any six hi lo _ h2.1).mono ?_; rintro e w1 ⟨rfl, hb⟩; obtain ⟨B1, S1, q0, q1, q2, q3⟩ := box4 hb; clear hb)
        refine (bitsOf_any six hi lo _ h1 h2).mono ?_
        rintro e w2 ⟨v, rfl, hown, hb2, hs2⟩
        have B2 := B1.trans (hb2.mono (Nat.le_of_lt S1))
        have Q0 := cell_step hb2 q0
        have Q1 := cell_step hb2 q1
        have Q2 := cell_step hb2 q2
        have Q3 := cell_step hb2 q3
        rw [HN.out] at hown
        simp only [Int.toNat_natCast] at hown
        obtain ⟨g, cap, rfl, hg, hlt⟩ := hown.form hpos
        have hncap := own_cap hown
        have HO := Lib.hid hown
        clear hown hb2 q0 q1 q2 q3
        have hc1 := hncap.1
        have hc2 := hncap.2
        unfold maxLen at hc2
        clear hncap
        have hz1 : ((m - k : Nat) : Int) ≤ 128 := by omega
        by_cases hck : cap = k
        · obtain rfl : m = k := by omega
          go_wp2
          refine wp_loop_rounds 1 ?_
          rw [rounds_succ]
          go_wp2
          go_ret
          exact ⟨ret_int (HA.out (by rw [Nat.sub_self]; exact ZeroTo.zero _ _ _ _)).symm, B2⟩
        · go_wp2
          go_loop [28, 5] (fun i _ => ∃ j : Nat, j ≤ m - k ∧ i = .int .i64 j ∧ ZeroTo six hi lo k j) (fun i _ => m - k - (intOf i).toNat)
          case atStart => exact ⟨0, by omega, rfl, ZeroTo.zero _ _ _ _⟩
          case round =>
            obtain ⟨j, hj, rfl, hz⟩ := hrel
            by_cases hlt : j < m - k
            · have hcell := own_int HO.out (bitsL_at (hi := hi) (lo := lo) HN.out (show k + j < m by omega))
              have h01 := bitI_01 six hi lo ((k + j : Nat) : Int)
              have HZ := Lib.hid hz
              clear hz
              by_cases hb1 : bitI six hi lo ((k + j : Nat) : Int) = 1
              · have hr5 := HB.out j hlt hb1
                rw [hb1] at hcell
                clear hb1 h01
                have HR := Lib.hid hr5
                clear hr5
                go_wp2
                go_ret
                exact ⟨ret_int HR.out.symm, B2⟩
              · have hb0 : bitI six hi lo ((k + j : Nat) : Int) = 0 := by omega
                rw [hb0] at hcell
                have HZ2 := Lib.hid (HZ.out.succ hb0)
                clear hb1 hb0 h01
                go_wp2
                go_round
                case rel => exact ⟨j + 1, by omega, by go_num, HZ2.out⟩
                case measure => simp [intOf]; omega
            · obtain rfl : j = m - k := by omega
              have HR := Lib.hid (HA.out hz)
              clear hz
              go_wp2
              go_ret
              exact ⟨ret_int HR.out.symm, B2⟩

end Go.Proofs.Ytmljdjakbbedlaa

namespace Go.Proofs.Ytmljdjakbbedlaa
open Go.ChangeShapes Go.WideShapes Go.ChangeAt Go.RowKit

/-- What two boxes, of four cells and of three, read as later on. -/
structure Box43 (w : World) (a b c d e f g : Value) (w' : World) : Prop where
  below : Below w.heap.size w w'
  size : w.heap.size + 1 < w'.heap.size
  c0 : w'.cell? ⟨w.heap.size, 0, none⟩ = some a
  c1 : w'.cell? ⟨w.heap.size, 1, none⟩ = some b
  c2 : w'.cell? ⟨w.heap.size, 2, none⟩ = some c
  c3 : w'.cell? ⟨w.heap.size, 3, none⟩ = some d
  d0 : w'.cell? ⟨w.heap.size + 1, 0, none⟩ = some e
  d1 : w'.cell? ⟨w.heap.size + 1, 1, none⟩ = some f
  d2 : w'.cell? ⟨w.heap.size + 1, 2, none⟩ = some g

theorem box43_start (w : World) (a b c d e f g : Value) (t t' : TypeId) : Box43 w a b c d e f g ((w.alloc (.cells #[a, b, c, d] t)).alloc (.cells #[e, f, g] t')) := by
  have hb : Below w.heap.size w ((w.alloc (.cells #[a, b, c, d] t)).alloc (.cells #[e, f, g] t')) := ((Below.refl _ _).alloc (Nat.le_refl _) _).alloc (by simp) _
  have e0 : ∀ j u, (#[a, b, c, d] : Array Value)[j]? = some u → ((w.alloc (.cells #[a, b, c, d] t)).alloc (.cells #[e, f, g] t')).cell? ⟨w.heap.size, j, none⟩ = some u := by
    intro j u hj
    rw [World.cell?_alloc_past _ _ _ (by simp), World.cell?_alloc_at _ _ _ _ rfl]
    exact hj
  have e1 : ∀ j u, (#[e, f, g] : Array Value)[j]? = some u → ((w.alloc (.cells #[a, b, c, d] t)).alloc (.cells #[e, f, g] t')).cell? ⟨w.heap.size + 1, j, none⟩ = some u := by
    intro j u hj
    rw [World.cell?_alloc_at _ _ _ _ (by simp)]
    exact hj
  exact ⟨hb, by simp, e0 0 a rfl, e0 1 b rfl, e0 2 c rfl, e0 3 d rfl, e1 0 e rfl, e1 1 f rfl, e1 2 g rfl⟩

theorem Box43.step {w w1 w2 : World} {a b c d e f g : Value} (h : Box43 w a b c d e f g w1) (hb : Below w1.heap.size w1 w2) : Box43 w a b c d e f g w2 :=
  ⟨below_step h.below hb, size_step h.size hb, cell_step hb h.c0, cell_step hb h.c1, cell_step hb h.c2, cell_step hb h.c3, cell_step hb h.d0, cell_step hb h.d1, cell_step hb h.d2⟩

theorem ne_bool {a b : Bool} (h : ¬ a = b) : b = !a := by cases a <;> cases b <;> simp_all

set_option maxHeartbeats 1600000 in
theorem in_any (six : Bool) (hi lo n : Int) (six' : Bool) (hi' lo' : Int) (w : World) (h3 : 0 ≤ hi' ∧ hi' < 18446744073709551616) (h4 : 0 ≤ lo' ∧ lo' < 18446744073709551616) (h5 : six' = false → lo' < 4294967296) (h6 : -500 ≤ n) (h7 : n ≤ 500) :
    Calls Try.prog 54 #[.agg #[.bool six, .int .u64 hi, .int .u64 lo, .int .i64 n], .agg #[.bool six', .int .u64 hi', .int .u64 lo']] w fun e w' => e = .returned (.bool (inB six hi lo n six' hi' lo')) ∧ Below w.heap.size w w' := by
  have HQ := Lib.hid h5
  clear h5
  by_cases hs : six = six'
  · subst hs
    have hres : inB six hi lo n six hi' lo' = (cutHi six hi' n == hi && cutLo six lo' n == lo) := by unfold inB; simp
    rw [hres]
    clear hres
    by_cases e1 : cutHi six hi' n = hi
    · by_cases e2 : cutLo six lo' n = lo
      · subst e1 e2
        rw [beq_self_eq_true, beq_self_eq_true]
        cases six
        · obtain ⟨b0, b1, c0, c1, c2, c3, d0, d1, d2⟩ := box43_start w (.bool false) (.int .u64 (cutHi false hi' n)) (.int .u64 (cutLo false lo' n)) (.int .i64 n) (.bool false) (.int .u64 hi') (.int .u64 lo') 42 35
          go_enter Try.func54, Try.ntmps54
          go_wp2_with fail
          go_region_held3 (fun w' => Below w.heap.size w w' ∧ w.heap.size + 1 < w'.heap.size ∧ w'.cell? ⟨w.heap.size, 0, none⟩ = some (.bool false) ∧ w'.cell? ⟨w.heap.size, 1, none⟩ = some (.int .u64 (cutHi false hi' n)) ∧ w'.cell? ⟨w.heap.size, 2, none⟩ = some (.int .u64 (cutLo false lo' n)) ∧ w'.cell? ⟨w.heap.size, 3, none⟩ = some (.int .i64 n) ∧ w'.cell? ⟨w.heap.size + 1, 0, none⟩ = some (.bool false) ∧ w'.cell? ⟨w.heap.size + 1, 1, none⟩ = some (.int .u64 hi') ∧ w'.cell? ⟨w.heap.size + 1, 2, none⟩ = some (.int .u64 lo'))
            (((try go_split_ands); (repeat' apply And.intro) <;> first | assumption | exact Below.drew (by assumption) | exact cell_drew (by assumption) | exact size_drew (by assumption) | exact below_step (by assumption) (by assumption) | exact cell_step (by assumption) (by assumption) | exact size_step (by assumption) (by assumption)))
            (first | (go_at_call 107; refine (cut_any _ hi' lo' n _ h3 h4 (by first | exact fun _ => HQ.out trivial | exact fun h => HQ.out h | simp) h6 h7).mono ?_; rintro e w' ⟨rfl, hb⟩))
          all_goals go_wp2
          all_goals go_ret
          all_goals (go_split_ands; exact ⟨by simp, by assumption⟩)
        · obtain ⟨b0, b1, c0, c1, c2, c3, d0, d1, d2⟩ := box43_start w (.bool true) (.int .u64 (cutHi true hi' n)) (.int .u64 (cutLo true lo' n)) (.int .i64 n) (.bool true) (.int .u64 hi') (.int .u64 lo') 42 35
          go_enter Try.func54, Try.ntmps54
          go_wp2_with fail
          go_region_held3 (fun w' => Below w.heap.size w w' ∧ w.heap.size + 1 < w'.heap.size ∧ w'.cell? ⟨w.heap.size, 0, none⟩ = some (.bool true) ∧ w'.cell? ⟨w.heap.size, 1, none⟩ = some (.int .u64 (cutHi true hi' n)) ∧ w'.cell? ⟨w.heap.size, 2, none⟩ = some (.int .u64 (cutLo true lo' n)) ∧ w'.cell? ⟨w.heap.size, 3, none⟩ = some (.int .i64 n) ∧ w'.cell? ⟨w.heap.size + 1, 0, none⟩ = some (.bool true) ∧ w'.cell? ⟨w.heap.size + 1, 1, none⟩ = some (.int .u64 hi') ∧ w'.cell? ⟨w.heap.size + 1, 2, none⟩ = some (.int .u64 lo'))
            (((try go_split_ands); (repeat' apply And.intro) <;> first | assumption | exact Below.drew (by assumption) | exact cell_drew (by assumption) | exact size_drew (by assumption) | exact below_step (by assumption) (by assumption) | exact cell_step (by assumption) (by assumption) | exact size_step (by assumption) (by assumption)))
            (first | (go_at_call 107; refine (cut_any _ hi' lo' n _ h3 h4 (by first | exact fun _ => HQ.out trivial | exact fun h => HQ.out h | simp) h6 h7).mono ?_; rintro e w' ⟨rfl, hb⟩))
          all_goals go_wp2
          all_goals go_ret
          all_goals (go_split_ands; exact ⟨by simp, by assumption⟩)
      · have e3 : (cutLo six lo' n == lo) = false := by simpa using e2
        rw [e3, Bool.and_false]
        subst e1
        cases six
        · obtain ⟨b0, b1, c0, c1, c2, c3, d0, d1, d2⟩ := box43_start w (.bool false) (.int .u64 (cutHi false hi' n)) (.int .u64 lo) (.int .i64 n) (.bool false) (.int .u64 hi') (.int .u64 lo') 42 35
          go_enter Try.func54, Try.ntmps54
          go_wp2_with fail
          go_region_held3 (fun w' => Below w.heap.size w w' ∧ w.heap.size + 1 < w'.heap.size ∧ w'.cell? ⟨w.heap.size, 0, none⟩ = some (.bool false) ∧ w'.cell? ⟨w.heap.size, 1, none⟩ = some (.int .u64 (cutHi false hi' n)) ∧ w'.cell? ⟨w.heap.size, 2, none⟩ = some (.int .u64 lo) ∧ w'.cell? ⟨w.heap.size, 3, none⟩ = some (.int .i64 n) ∧ w'.cell? ⟨w.heap.size + 1, 0, none⟩ = some (.bool false) ∧ w'.cell? ⟨w.heap.size + 1, 1, none⟩ = some (.int .u64 hi') ∧ w'.cell? ⟨w.heap.size + 1, 2, none⟩ = some (.int .u64 lo'))
            (((try go_split_ands); (repeat' apply And.intro) <;> first | assumption | exact Below.drew (by assumption) | exact cell_drew (by assumption) | exact size_drew (by assumption) | exact below_step (by assumption) (by assumption) | exact cell_step (by assumption) (by assumption) | exact size_step (by assumption) (by assumption)))
            (first | (go_at_call 107; refine (cut_any _ hi' lo' n _ h3 h4 (by first | exact fun _ => HQ.out trivial | exact fun h => HQ.out h | simp) h6 h7).mono ?_; rintro e w' ⟨rfl, hb⟩))
          all_goals go_wp2
          all_goals go_ret
          all_goals (go_split_ands; exact ⟨by simp, by assumption⟩)
        · obtain ⟨b0, b1, c0, c1, c2, c3, d0, d1, d2⟩ := box43_start w (.bool true) (.int .u64 (cutHi true hi' n)) (.int .u64 lo) (.int .i64 n) (.bool true) (.int .u64 hi') (.int .u64 lo') 42 35
          go_enter Try.func54, Try.ntmps54
          go_wp2_with fail
          go_region_held3 (fun w' => Below w.heap.size w w' ∧ w.heap.size + 1 < w'.heap.size ∧ w'.cell? ⟨w.heap.size, 0, none⟩ = some (.bool true) ∧ w'.cell? ⟨w.heap.size, 1, none⟩ = some (.int .u64 (cutHi true hi' n)) ∧ w'.cell? ⟨w.heap.size, 2, none⟩ = some (.int .u64 lo) ∧ w'.cell? ⟨w.heap.size, 3, none⟩ = some (.int .i64 n) ∧ w'.cell? ⟨w.heap.size + 1, 0, none⟩ = some (.bool true) ∧ w'.cell? ⟨w.heap.size + 1, 1, none⟩ = some (.int .u64 hi') ∧ w'.cell? ⟨w.heap.size + 1, 2, none⟩ = some (.int .u64 lo'))
            (((try go_split_ands); (repeat' apply And.intro) <;> first | assumption | exact Below.drew (by assumption) | exact cell_drew (by assumption) | exact size_drew (by assumption) | exact below_step (by assumption) (by assumption) | exact cell_step (by assumption) (by assumption) | exact size_step (by assumption) (by assumption)))
            (first | (go_at_call 107; refine (cut_any _ hi' lo' n _ h3 h4 (by first | exact fun _ => HQ.out trivial | exact fun h => HQ.out h | simp) h6 h7).mono ?_; rintro e w' ⟨rfl, hb⟩))
          all_goals go_wp2
          all_goals go_ret
          all_goals (go_split_ands; exact ⟨by simp, by assumption⟩)
    · have e3 : (cutHi six hi' n == hi) = false := by simpa using e1
      rw [e3, Bool.false_and]
      cases six
      · obtain ⟨b0, b1, c0, c1, c2, c3, d0, d1, d2⟩ := box43_start w (.bool false) (.int .u64 hi) (.int .u64 lo) (.int .i64 n) (.bool false) (.int .u64 hi') (.int .u64 lo') 42 35
        go_enter Try.func54, Try.ntmps54
        go_wp2_with fail
        go_region_held3 (fun w' => Below w.heap.size w w' ∧ w.heap.size + 1 < w'.heap.size ∧ w'.cell? ⟨w.heap.size, 0, none⟩ = some (.bool false) ∧ w'.cell? ⟨w.heap.size, 1, none⟩ = some (.int .u64 hi) ∧ w'.cell? ⟨w.heap.size, 2, none⟩ = some (.int .u64 lo) ∧ w'.cell? ⟨w.heap.size, 3, none⟩ = some (.int .i64 n) ∧ w'.cell? ⟨w.heap.size + 1, 0, none⟩ = some (.bool false) ∧ w'.cell? ⟨w.heap.size + 1, 1, none⟩ = some (.int .u64 hi') ∧ w'.cell? ⟨w.heap.size + 1, 2, none⟩ = some (.int .u64 lo'))
          (((try go_split_ands); (repeat' apply And.intro) <;> first | assumption | exact Below.drew (by assumption) | exact cell_drew (by assumption) | exact size_drew (by assumption) | exact below_step (by assumption) (by assumption) | exact cell_step (by assumption) (by assumption) | exact size_step (by assumption) (by assumption)))
          (first | (go_at_call 107; refine (cut_any _ hi' lo' n _ h3 h4 (by first | exact fun _ => HQ.out trivial | exact fun h => HQ.out h | simp) h6 h7).mono ?_; rintro e w' ⟨rfl, hb⟩))
        all_goals go_wp2
        all_goals go_ret
        all_goals (go_split_ands; exact ⟨by simp, by assumption⟩)
      · obtain ⟨b0, b1, c0, c1, c2, c3, d0, d1, d2⟩ := box43_start w (.bool true) (.int .u64 hi) (.int .u64 lo) (.int .i64 n) (.bool true) (.int .u64 hi') (.int .u64 lo') 42 35
        go_enter Try.func54, Try.ntmps54
        go_wp2_with fail
        go_region_held3 (fun w' => Below w.heap.size w w' ∧ w.heap.size + 1 < w'.heap.size ∧ w'.cell? ⟨w.heap.size, 0, none⟩ = some (.bool true) ∧ w'.cell? ⟨w.heap.size, 1, none⟩ = some (.int .u64 hi) ∧ w'.cell? ⟨w.heap.size, 2, none⟩ = some (.int .u64 lo) ∧ w'.cell? ⟨w.heap.size, 3, none⟩ = some (.int .i64 n) ∧ w'.cell? ⟨w.heap.size + 1, 0, none⟩ = some (.bool true) ∧ w'.cell? ⟨w.heap.size + 1, 1, none⟩ = some (.int .u64 hi') ∧ w'.cell? ⟨w.heap.size + 1, 2, none⟩ = some (.int .u64 lo'))
          (((try go_split_ands); (repeat' apply And.intro) <;> first | assumption | exact Below.drew (by assumption) | exact cell_drew (by assumption) | exact size_drew (by assumption) | exact below_step (by assumption) (by assumption) | exact cell_step (by assumption) (by assumption) | exact size_step (by assumption) (by assumption)))
          (first | (go_at_call 107; refine (cut_any _ hi' lo' n _ h3 h4 (by first | exact fun _ => HQ.out trivial | exact fun h => HQ.out h | simp) h6 h7).mono ?_; rintro e w' ⟨rfl, hb⟩))
        all_goals go_wp2
        all_goals go_ret
        all_goals (go_split_ands; exact ⟨by simp, by assumption⟩)
  · have hres : inB six hi lo n six' hi' lo' = false := by
      unfold inB
      rw [show (six' == six) = false from by simpa using fun h => hs h.symm, Bool.false_and]
    rw [hres]
    clear hres
    obtain rfl := ne_bool hs
    have hb0 : Below w.heap.size w ((w.alloc (.cells #[.bool six, .int .u64 hi, .int .u64 lo, .int .i64 n] 42)).alloc (.cells #[.bool (!six), .int .u64 hi', .int .u64 lo'] 35)) := ((Below.refl _ _).alloc (Nat.le_refl _) _).alloc (by simp) _
    cases six
    · go_enter Try.func54, Try.ntmps54
      go_wp2_with fail
      go_quiet (fail)
      go_wp2
      go_ret
      exact ⟨by simp, below_drewN hb0 _⟩
    · go_enter Try.func54, Try.ntmps54
      go_wp2_with fail
      go_quiet (fail)
      go_wp2
      go_ret
      exact ⟨by simp, below_drewN hb0 _⟩

end Go.Proofs.Ytmljdjakbbedlaa

namespace Go.Proofs.Ytmljdjakbbedlaa
open Go.ChangeShapes Go.WideShapes Go.ChangeAt Go.RowKit

set_option maxHeartbeats 1600000 in
theorem less_any (six : Bool) (hi lo : Int) (six' : Bool) (hi' lo' : Int) (w : World) :
    Calls Try.prog 126 #[.agg #[.bool six, .int .u64 hi, .int .u64 lo], .agg #[.bool six', .int .u64 hi', .int .u64 lo']] w fun e w' => e = .returned (.bool (lessB ⟨six, hi, lo⟩ ⟨six', hi', lo'⟩)) ∧ Below w.heap.size w w' := by
  have HB : ∀ w : World, Hid (Below w.heap.size w ((w.alloc (.cells #[.bool six, .int .u64 hi, .int .u64 lo] 35)).alloc (.cells #[.bool six', .int .u64 hi', .int .u64 lo'] 35))) := fun w => ((Below.refl _ _).alloc (Nat.le_refl _) _).alloc (by simp) _
  by_cases h6 : six = six'
  · subst h6
    by_cases h1 : hi < hi'
    · have hr : lessB ⟨six, hi, lo⟩ ⟨six, hi', lo'⟩ = true := by unfold lessB; simp [h1]
      rw [hr]
      have hd : decide (hi < hi') = true := by simpa using h1
      clear hr
      go_enter Try.func126, Try.ntmps126
      go_wp2
      go_ret
      exact ⟨rfl, (HB w).out⟩
    · have hd : decide (hi < hi') = false := by simpa using h1
      by_cases h2 : hi = hi'
      · subst h2
        have hr : lessB ⟨six, hi, lo⟩ ⟨six, hi, lo'⟩ = decide (lo < lo') := by unfold lessB; simp
        rw [hr]
        clear hr h1
        go_enter Try.func126, Try.ntmps126
        go_wp2
        go_ret
        exact ⟨by simp, (HB w).out⟩
      · have hr : lessB ⟨six, hi, lo⟩ ⟨six, hi', lo'⟩ = false := by unfold lessB; simp [h2]; omega
        rw [hr]
        have hd2 : (hi == hi') = false := by simpa using h2
        clear hr
        go_enter Try.func126, Try.ntmps126
        go_wp2
        go_ret
        exact ⟨rfl, (HB w).out⟩
  · have hr : lessB ⟨six, hi, lo⟩ ⟨six', hi', lo'⟩ = six' := by unfold lessB; rw [if_neg h6]
    rw [hr]
    have hn := ne_bool h6
    subst hn
    clear hr h6
    go_enter Try.func126, Try.ntmps126
    go_wp2
    go_ret
    exact ⟨rfl, (HB w).out⟩

end Go.Proofs.Ytmljdjakbbedlaa

namespace Go.Proofs.Ytmljdjakbbedlaa

theorem first_diff {a b : AV} (ha : a.Ok) (hb : b.Ok) (h6 : a.six = b.six) {i : Nat} (hi : i < widN a.six)
    (hs : ∀ j : Nat, j < i → bitI a.six a.hi a.lo j = bitI b.six b.hi b.lo j) (hne : ¬ bitI a.six a.hi a.lo i = bitI b.six b.hi b.lo i) : a.v < b.v ↔ bitI a.six a.hi a.lo i < bitI b.six b.hi b.lo i := by
  have ba := fun i (hi : i < widN a.six) => AV.bitN ha (i := i) hi
  have bb := fun i (hi : i < widN b.six) => AV.bitN hb (i := i) hi
  have la := AV.v_lt ha
  have lb := AV.v_lt hb
  rw [← h6] at bb lb
  rw [← h6] at hs hne ⊢
  obtain ⟨k, hk⟩ : ∃ k, widN a.six - 1 - i = k := ⟨_, rfl⟩
  have hup : a.v / 2 ^ (k + 1) = b.v / 2 ^ (k + 1) := by
    refine nat_div_ext la lb fun j h1 h2 => ?_
    have := hs (widN a.six - 1 - j) (by omega)
    rw [ba _ (by omega), bb _ (by omega), show widN a.six - 1 - (widN a.six - 1 - j) = j from by omega] at this
    omega
  rw [ba i hi, bb i hi, hk] at hne ⊢
  have e : ∀ x : Nat, x / 2 ^ k = 2 * (x / 2 ^ (k + 1)) + x / 2 ^ k % 2 := by
    intro x
    have : x / 2 ^ (k + 1) = x / 2 ^ k / 2 := by rw [Nat.pow_succ, Nat.div_div_eq_div_mul]
    rw [this]; omega
  have ea := e a.v
  have eb := e b.v
  rw [hup] at ea
  constructor
  · intro h
    have : a.v / 2 ^ k ≤ b.v / 2 ^ k := Nat.div_le_div_right (by omega)
    omega
  · intro h
    apply Classical.byContradiction
    intro hc
    have : b.v / 2 ^ k ≤ a.v / 2 ^ k := Nat.div_le_div_right (by omega)
    omega
theorem no_diff {a b : AV} (ha : a.Ok) (hb : b.Ok) (h6 : a.six = b.six) (hs : ∀ j : Nat, j < widN a.six → bitI a.six a.hi a.lo j = bitI b.six b.hi b.lo j) : a.v = b.v := by
  have h := addr_ext a.six a.hi a.lo b.hi b.lo ha.rhi ha.rlo hb.rhi hb.rlo ha.may (by rw [h6]; exact hb.may) (fun i hi => by rw [hs i (by have := widN_eq a.six; omega), h6])
  have : a = b := AV.ext' h6 h.1 h.2
  rw [this]

end Go.Proofs.Ytmljdjakbbedlaa

namespace Go.Proofs.Ytmljdjakbbedlaa
open Go.ChangeShapes Go.WideShapes Go.ChangeAt Go.RowKit

def SameTo (six : Bool) (hi lo hi' lo' : Int) (j : Nat) : Prop := ∀ i : Nat, i < j → bitI six hi lo i = bitI six hi' lo' i
theorem SameTo.succ {six : Bool} {hi lo hi' lo' : Int} {j : Nat} (h : SameTo six hi lo hi' lo' j) (hb : bitI six hi lo (j : Int) = bitI six hi' lo' (j : Int)) : SameTo six hi lo hi' lo' (j + 1) := fun i h1 => by
  rcases Nat.lt_or_ge i j with h3 | h3
  · exact h i h3
  · obtain rfl : i = j := by omega
    exact hb

set_option maxHeartbeats 1600000 in
theorem preIn_same (six : Bool) (hi lo : Int) (n : Nat) (hi' lo' : Int) (w : World) (hp : Pfx six hi lo n) (h3 : 0 ≤ hi' ∧ hi' < 18446744073709551616) (h4 : 0 ≤ lo' ∧ lo' < 18446744073709551616) (h5 : mayB six hi' lo' = true) :
    Calls Try.prog 117 #[.agg #[.bool six, .int .u64 hi, .int .u64 lo, .int .i64 n], .agg #[.bool six, .int .u64 hi', .int .u64 lo']] w fun e w' => e = .returned (.bool (inB six hi lo n six hi' lo')) ∧ Below w.heap.size w w' := by
  obtain ⟨r, hr0⟩ : ∃ r : Bool, r = inB six hi lo n six hi' lo' := ⟨_, rfl⟩
  have hi0 := inB_iff hp h3 h4 h5
  rw [← hr0] at hi0 ⊢
  have hall : SameTo six hi lo hi' lo' n → r = true := fun h => hi0.2 h
  have hone : ∀ j : Nat, j < n → ¬ bitI six hi lo j = bitI six hi' lo' j → r = false := fun j hj hb => by
    rw [Bool.eq_false_iff]
    intro h
    exact hb (hi0.1 h j hj)
  have HA := Lib.hid hall
  have HB := Lib.hid hone
  obtain ⟨m, hn, hpos, hle⟩ := wideN six
  have hlen : n ≤ m := by have := hp.len.2; omega
  have h1 := hp.rhi
  have h2 := hp.rlo
  have HN := Lib.hid hn
  clear hall hone hr0 hi0 hn hp h5
  obtain ⟨b0, b1, c0, c1, c2, c3, d0, d1, d2⟩ := box43_start w (.bool six) (.int .u64 hi) (.int .u64 lo) (.int .i64 n) (.bool six) (.int .u64 hi') (.int .u64 lo') 42 35
  go_enter Try.func117, Try.ntmps117
  go_wp2_with fail
  refine (bitsOf_any six hi lo _ h1 h2).mono ?_
  rintro e w1 ⟨v1, rfl, own1, hb1, hs1⟩
  have bx := Box43.step ⟨b0, b1, c0, c1, c2, c3, d0, d1, d2⟩ hb1
  clear b0 b1 c0 c1 c2 c3 d0 d1 d2
  obtain ⟨b0, b1, c0, c1, c2, c3, d0, d1, d2⟩ := bx
  go_wp2_with fail
  refine (bitsOf_any six hi' lo' _ h3 h4).mono ?_
  rintro e w2 ⟨v2, rfl, own2, hb2, hs2⟩
  have bx := Box43.step ⟨b0, b1, c0, c1, c2, c3, d0, d1, d2⟩ hb2
  clear b0 b1 c0 c1 c2 c3 d0 d1 d2
  obtain ⟨b0, b1, c0, c1, c2, c3, d0, d1, d2⟩ := bx
  rw [HN.out] at own1 own2
  simp only [Int.toNat_natCast] at own1 own2
  have own1' := own_below own1 hb2
  obtain ⟨g1, cap1, rfl, _, hlt1⟩ := own1.form hpos
  obtain ⟨g2, cap2, rfl, _, hlt2⟩ := own2.form hpos
  have H1 := Lib.hid own1'
  have H2 := Lib.hid own2
  clear own1 own2 own1' hb1 hb2
  have hm1 : (m : Int) ≤ 128 := by omega
  go_wp2
  go_loopw [7] (fun i wr => ∃ j : Nat, j ≤ n ∧ i = .int .i64 j ∧ SameTo six hi lo hi' lo' j ∧ Below w2.heap.size w2 wr) (fun i _ => n - (intOf i).toNat)
  case atStart => exact ⟨0, by omega, rfl, fun _ h => by omega, Below.refl _ _⟩
  case round =>
    obtain ⟨j, hj, rfl, hsame, hbr⟩ := hrel
    have q3 := cell_step hbr c3
    by_cases hlt : j < n
    · have x1 := cell_step hbr (own_int H1.out (bitsL_at (hi := hi) (lo := lo) HN.out (show j < m by omega)))
      have x2 := cell_step hbr (own_int H2.out (bitsL_at (hi := hi') (lo := lo') HN.out (show j < m by omega)))
      have k1 : (0 : Int) ≤ (j : Int) := by omega
      have k2 : (j : Int) < (m : Int) := by omega
      by_cases hb : bitI six hi lo j = bitI six hi' lo' j
      · have HS := Lib.hid (hsame.succ hb)
        rw [← hb] at x2
        clear hsame hb
        go_wp2
        go_quiet (fail)
        go_wp2
        go_roundw
        case rel => exact ⟨j + 1, by omega, by go_num, HS.out, below_drewN hbr _⟩
        case measure => simp [intOf]; omega
      · have HR := Lib.hid (HB.out j hlt hb)
        have hb' : (bitI six hi lo j == bitI six hi' lo' j) = false := by simpa using hb
        have hb'' : (bitI six hi lo j != bitI six hi' lo' j) = true := by simpa using hb
        clear hsame
        go_wp2
        go_quiet (fail)
        go_wp2
        go_ret
        exact ⟨ret_bool HR.out.symm, b0.trans ((below_drewN hbr _).mono b0.size)⟩
    · obtain rfl : j = n := by omega
      have HR := Lib.hid (HA.out hsame)
      clear hsame
      go_wp2
      go_ret
      exact ⟨ret_bool HR.out.symm, b0.trans (hbr.mono b0.size)⟩

set_option maxHeartbeats 800000 in
theorem preIn_any (six : Bool) (hi lo : Int) (n : Nat) (six' : Bool) (hi' lo' : Int) (w : World) (hp : Pfx six hi lo n) (h3 : 0 ≤ hi' ∧ hi' < 18446744073709551616) (h4 : 0 ≤ lo' ∧ lo' < 18446744073709551616) (h5 : mayB six' hi' lo' = true) :
    Calls Try.prog 117 #[.agg #[.bool six, .int .u64 hi, .int .u64 lo, .int .i64 n], .agg #[.bool six', .int .u64 hi', .int .u64 lo']] w fun e w' => e = .returned (.bool (inB six hi lo n six' hi' lo')) ∧ Below w.heap.size w w' := by
  by_cases hs : six = six'
  · subst hs
    exact preIn_same six hi lo n hi' lo' w hp h3 h4 h5
  · have hres : inB six hi lo n six' hi' lo' = false := by
      unfold inB
      rw [show (six' == six) = false from by simpa using fun h => hs h.symm, Bool.false_and]
    rw [hres]
    clear hres hp h5
    obtain rfl := ne_bool hs
    have hb0 : Below w.heap.size w ((w.alloc (.cells #[.bool six, .int .u64 hi, .int .u64 lo, .int .i64 n] 42)).alloc (.cells #[.bool (!six), .int .u64 hi', .int .u64 lo'] 35)) := ((Below.refl _ _).alloc (Nat.le_refl _) _).alloc (by simp) _
    cases six
    · go_enter Try.func117, Try.ntmps117
      go_wp2
      go_ret
      exact ⟨by simp, hb0⟩
    · go_enter Try.func117, Try.ntmps117
      go_wp2
      go_ret
      exact ⟨by simp, hb0⟩

end Go.Proofs.Ytmljdjakbbedlaa

namespace Go.Proofs.Ytmljdjakbbedlaa
open Go.ChangeShapes Go.WideShapes Go.ChangeAt Go.RowKit

set_option maxHeartbeats 1600000 in
theorem refLess_any (six : Bool) (hi lo : Int) (six' : Bool) (hi' lo' : Int) (w : World) (ha : AV.Ok ⟨six, hi, lo⟩) (hb : AV.Ok ⟨six', hi', lo'⟩) :
    Calls Try.prog 79 #[.agg #[.bool six, .int .u64 hi, .int .u64 lo], .agg #[.bool six', .int .u64 hi', .int .u64 lo']] w fun e w' => e = .returned (.bool (lessB ⟨six, hi, lo⟩ ⟨six', hi', lo'⟩)) ∧ Below w.heap.size w w' := by
  by_cases h6 : six = six'
  · subst h6
    obtain ⟨r, hr0⟩ : ∃ r : Bool, r = lessB ⟨six, hi, lo⟩ ⟨six, hi', lo'⟩ := ⟨_, rfl⟩
    rw [← hr0]
    have hnum := less_num ha hb rfl
    rw [← hr0] at hnum
    obtain ⟨m, hn, hpos, hle⟩ := wideN six
    have hmw : widN six = m := by have := widN_eq six; omega
    have hall : SameTo six hi lo hi' lo' m → r = false := fun h => by
      have := no_diff ha hb rfl (fun j hj => h j (by simp only at hj; omega))
      rw [Bool.eq_false_iff]
      intro hx
      have := hnum.1 hx
      omega
    have hone : ∀ j : Nat, j < m → SameTo six hi lo hi' lo' j → ¬ bitI six hi lo j = bitI six hi' lo' j → r = decide (bitI six hi lo j < bitI six hi' lo' j) := fun j hj hs hne => by
      have := first_diff ha hb rfl (i := j) (by simp only; omega) hs hne
      rw [Bool.eq_iff_iff, decide_eq_true_iff, hnum, this]
    have HA := Lib.hid hall
    have HB := Lib.hid hone
    have h1 := ha.rhi
    have h2 := ha.rlo
    have h3 := hb.rhi
    have h4 := hb.rlo
    simp only at h1 h2 h3 h4
    have HN := Lib.hid hn
    clear hall hone hr0 hnum hn ha hb hmw
    have fB : Hid (Below w.heap.size w ((w.alloc (.cells #[.bool six, .int .u64 hi, .int .u64 lo] 35)).alloc (.cells #[.bool six, .int .u64 hi', .int .u64 lo'] 35))) := ((Below.refl _ _).alloc (Nat.le_refl _) _).alloc (by simp) _
    go_enter Try.func79, Try.ntmps79
    go_wp2_with fail
    refine (bitsOf_any six hi lo _ h1 h2).mono ?_
    rintro e w1 ⟨v1, rfl, own1, hb1, hs1⟩
    obtain ⟨fc, ff⟩ := bcell hb1
    obtain ⟨s1, s2⟩ := bsize2 hb1
    have B1 : Hid (Below w.heap.size w w1) := balloc2 hb1
    clear hb1
    go_wp2_with fail
    refine (bitsOf_any six hi' lo' _ h3 h4).mono ?_
    rintro e w2 ⟨v2, rfl, own2, hb2, hs2⟩
    have B2 : Hid (Below w.heap.size w w2) := below_step B1.out hb2
    rw [HN.out] at own1 own2
    simp only [Int.toNat_natCast] at own1 own2
    have own1' := own_below own1 hb2
    obtain ⟨g1, cap1, rfl, _, hlt1⟩ := own1.form hpos
    obtain ⟨g2, cap2, rfl, _, hlt2⟩ := own2.form hpos
    have H1 := Lib.hid own1'
    have H2 := Lib.hid own2
    clear own1 own2 own1' hb2 fc ff
    have hm1 : (m : Int) ≤ 128 := by omega
    go_wp2
    go_loopw [22, 7, 4] (fun i _ _ wr => ∃ j : Nat, j ≤ m ∧ i = .int .i64 j ∧ SameTo six hi lo hi' lo' j ∧ Below w2.heap.size w2 wr) (fun i _ _ _ => m - (intOf i).toNat)
    case atStart => exact ⟨0, by omega, rfl, fun _ h => by omega, Below.refl _ _⟩
    case round =>
      obtain ⟨j, hj, rfl, hsame, hbr⟩ := hrel
      by_cases hlt : j < m
      · have x1 := cell_step hbr (own_int H1.out (bitsL_at (hi := hi) (lo := lo) HN.out (show j < m by omega)))
        have x2 := cell_step hbr (own_int H2.out (bitsL_at (hi := hi') (lo := lo') HN.out (show j < m by omega)))
        have k1 : (0 : Int) ≤ (j : Int) := by omega
        have k2 : (j : Int) < (m : Int) := by omega
        have HBR := Lib.hid hbr
        by_cases hb : bitI six hi lo j = bitI six hi' lo' j
        · have HS := Lib.hid (hsame.succ hb)
          rw [← hb] at x2
          clear hsame hb hbr
          go_wp2
          go_quiet (fail)
          go_wp2
          go_roundw
          case rel => exact ⟨j + 1, by omega, by go_num, HS.out, below_drewN HBR.out _⟩
          case measure => simp [intOf]; omega
        · have HR := Lib.hid (HB.out j hlt hsame hb)
          have hb' : (bitI six hi lo j == bitI six hi' lo' j) = false := by simpa using hb
          have hb'' : (bitI six hi lo j != bitI six hi' lo' j) = true := by simpa using hb
          clear hsame hbr
          go_wp2
          go_quiet (fail)
          go_wp2
          go_quiet (fail)
          go_wp2
          go_ret
          exact ⟨ret_bool HR.out.symm, B2.out.trans ((below_drewN (below_drewN HBR.out _) _).mono B2.out.size)⟩
      · obtain rfl : j = m := by omega
        have HR := Lib.hid (HA.out hsame)
        clear hsame
        go_wp2
        go_ret
        exact ⟨ret_bool HR.out.symm, B2.out.trans (hbr.mono B2.out.size)⟩
  · have hr : lessB ⟨six, hi, lo⟩ ⟨six', hi', lo'⟩ = six' := by unfold lessB; rw [if_neg h6]
    rw [hr]
    have hn := ne_bool h6
    subst hn
    clear hr h6 ha hb
    have fB : Hid (Below w.heap.size w ((w.alloc (.cells #[.bool six, .int .u64 hi, .int .u64 lo] 35)).alloc (.cells #[.bool (!six), .int .u64 hi', .int .u64 lo'] 35))) := ((Below.refl _ _).alloc (Nat.le_refl _) _).alloc (by simp) _
    go_enter Try.func79, Try.ntmps79
    go_wp2
    go_ret
    exact ⟨rfl, fB.out⟩

end Go.Proofs.Ytmljdjakbbedlaa

namespace Go.Proofs.Ytmljdjakbbedlaa
open Go.ChangeShapes Go.WideShapes Go.ChangeAt Go.RowKit

def PV.cells (p : PV) : List Value := [.bool p.six, .int .u64 p.hi, .int .u64 p.lo, .int .i64 p.n]
theorem PV.cells_length (p : PV) : p.cells.length = 4 := rfl
def PV.val (p : PV) : Value := .agg #[.bool p.six, .int .u64 p.hi, .int .u64 p.lo, .int .i64 p.n]
def Tr.ptr : Tr → Value
  | .nil => .pointer none
  | .node g _ _ _ _ => .pointer (some ⟨g, 0, none⟩)
def nodeCs (p : PV) (h : Int) (a b : Value) : Array Value := #[.bool p.six, .int .u64 p.hi, .int .u64 p.lo, .int .i64 p.n, .int .i64 h, a, b]
def Tr.blocks : Tr → List Nat
  | .nil => []
  | .node g _ _ l r => g :: (l.blocks ++ r.blocks)
def Tr.size : Tr → Nat
  | .nil => 0
  | .node _ _ _ l r => l.size + r.size + 1
def Tr.Lies (w : World) (B : Nat) : Tr → Prop
  | .nil => True
  | .node g p h l r => B ≤ g ∧ Blk w g 193 (nodeCs p h l.ptr r.ptr) ∧ l.Lies w B ∧ r.Lies w B

theorem Tr.Lies.keep {w w' : World} {B : Nat} : ∀ {t : Tr}, t.Lies w B → (∀ g ∈ t.blocks, w'.heap[g]? = w.heap[g]?) → t.Lies w' B
  | .nil, _, _ => trivial
  | .node g p h l r, h1, h2 => ⟨h1.1, (h2 g (by simp [Tr.blocks])).trans h1.2.1, h1.2.2.1.keep fun k hk => h2 k (by simp [Tr.blocks, hk]), h1.2.2.2.keep fun k hk => h2 k (by simp [Tr.blocks, hk])⟩
theorem Tr.Lies.lt {w : World} {B : Nat} : ∀ {t : Tr}, t.Lies w B → ∀ g ∈ t.blocks, B ≤ g ∧ g < w.heap.size
  | .nil, _, g, hg => by simp [Tr.blocks] at hg
  | .node g p h l r, h1, k, hk => by
    simp only [Tr.blocks, List.mem_cons, List.mem_append] at hk
    rcases hk with rfl | hk | hk
    · exact ⟨h1.1, h1.2.1.lt⟩
    · exact h1.2.2.1.lt k hk
    · exact h1.2.2.2.lt k hk
theorem Tr.Lies.below {w w' : World} {B : Nat} {t : Tr} (h : t.Lies w B) (hb : Below w.heap.size w w') : t.Lies w' B := h.keep fun g hg => hb.block g (h.lt g hg).2
theorem Tr.Lies.far {w : World} {B : Nat} {t : Tr} (h : t.Lies w B) {p : Addr} (hp : p.block ∉ t.blocks) (u : Value) : t.Lies (w.setCell p u) B :=
  h.keep fun g hg => Below.heap_setCell w p u g (fun e => by subst e; exact hp hg)

/-- What stands round a place of a tree. -/
inductive Ctx where
  | top : Ctx
  | left (C : Ctx) (g : Nat) (p : PV) (h : Int) (r : Tr) : Ctx
  | right (C : Ctx) (g : Nat) (p : PV) (h : Int) (l : Tr) : Ctx

def Ctx.plug : Ctx → Tr → Tr
  | .top, t => t
  | .left C g p h r, t => C.plug (.node g p h t r)
  | .right C g p h l, t => C.plug (.node g p h l t)
def slotOf (tb : Nat) (six : Bool) : Addr := ⟨tb, if six then 1 else 0, none⟩
def Ctx.slot (tb : Nat) (six : Bool) : Ctx → Addr
  | .top => slotOf tb six
  | .left _ g _ _ _ => ⟨g, 5, none⟩
  | .right _ g _ _ _ => ⟨g, 6, none⟩
def Ctx.outer : Ctx → Value → Value
  | .top, v => v
  | .left C g _ _ _, _ => C.outer (.pointer (some ⟨g, 0, none⟩))
  | .right C g _ _ _, _ => C.outer (.pointer (some ⟨g, 0, none⟩))
def Ctx.blocks : Ctx → List Nat
  | .top => []
  | .left C g _ _ r => g :: (r.blocks ++ C.blocks)
  | .right C g _ _ l => g :: (l.blocks ++ C.blocks)
def Ctx.Lies (w : World) (B : Nat) : Ctx → Value → Prop
  | .top, _ => True
  | .left C g p h r, v => B ≤ g ∧ Blk w g 193 (nodeCs p h v r.ptr) ∧ r.Lies w B ∧ C.Lies w B (.pointer (some ⟨g, 0, none⟩))
  | .right C g p h l, v => B ≤ g ∧ Blk w g 193 (nodeCs p h l.ptr v) ∧ l.Lies w B ∧ C.Lies w B (.pointer (some ⟨g, 0, none⟩))
/-- p's way leads to the place. -/
def Ctx.OnPath (p : PV) : Ctx → Prop
  | .top => True
  | .left C _ q _ _ => ¬ q = p ∧ q.over p = true ∧ p.bit q.n = 0 ∧ C.OnPath p
  | .right C _ q _ _ => ¬ q = p ∧ q.over p = true ∧ ¬ p.bit q.n = 0 ∧ C.OnPath p

theorem plug_ptr : ∀ (C : Ctx) (t : Tr), (C.plug t).ptr = C.outer t.ptr
  | .top, _ => rfl
  | .left C g p h r, t => plug_ptr C (.node g p h t r)
  | .right C g p h l, t => plug_ptr C (.node g p h l t)
theorem plug_lies {w : World} {B : Nat} : ∀ (C : Ctx) (t : Tr), (C.plug t).Lies w B ↔ C.Lies w B t.ptr ∧ t.Lies w B
  | .top, t => by simp [Ctx.plug, Ctx.Lies]
  | .left C g p h r, t => by
    show (C.plug (.node g p h t r)).Lies w B ↔ _
    rw [plug_lies C]
    constructor
    · rintro ⟨h1, h2, h3, h4, h5⟩; exact ⟨⟨h2, h3, h5, h1⟩, h4⟩
    · rintro ⟨⟨h2, h3, h5, h1⟩, h4⟩; exact ⟨h1, h2, h3, h4, h5⟩
  | .right C g p h l, t => by
    show (C.plug (.node g p h l t)).Lies w B ↔ _
    rw [plug_lies C]
    constructor
    · rintro ⟨h1, h2, h3, h4, h5⟩; exact ⟨⟨h2, h3, h4, h1⟩, h5⟩
    · rintro ⟨⟨h2, h3, h4, h1⟩, h5⟩; exact ⟨h1, h2, h3, h4, h5⟩
theorem plug_blocks : ∀ (C : Ctx) (t : Tr), (C.plug t).blocks.Perm (t.blocks ++ C.blocks)
  | .top, t => by simp [Ctx.plug, Ctx.blocks]
  | .left C g p h r, t => by
    refine (plug_blocks C (.node g p h t r)).trans ?_
    simp only [Tr.blocks, Ctx.blocks, List.cons_append, List.append_assoc]
    exact (List.perm_middle).symm
  | .right C g p h l, t => by
    refine (plug_blocks C (.node g p h l t)).trans ?_
    simp only [Tr.blocks, Ctx.blocks, List.cons_append, List.append_assoc]
    refine List.Perm.trans ?_ (List.perm_middle).symm
    refine List.Perm.cons _ ?_
    rw [← List.append_assoc, ← List.append_assoc]
    exact List.Perm.append_right _ List.perm_append_comm
theorem plug_put {p : PV} {hop : Int} {G1 G2 : Nat} : ∀ (C : Ctx) (t : Tr), C.OnPath p → putT p hop G1 G2 (C.plug t) = C.plug (putT p hop G1 G2 t)
  | .top, _, _ => rfl
  | .left C g q h r, t, hp => by
    show putT p hop G1 G2 (C.plug (.node g q h t r)) = C.plug (.node g q h (putT p hop G1 G2 t) r)
    rw [plug_put C _ hp.2.2.2]
    congr 1
    conv => lhs; unfold putT
    rw [if_neg hp.1, if_neg (by simp [hp.2.1]), if_pos hp.2.2.1]
  | .right C g q h l, t, hp => by
    show putT p hop G1 G2 (C.plug (.node g q h l t)) = C.plug (.node g q h l (putT p hop G1 G2 t))
    rw [plug_put C _ hp.2.2.2]
    congr 1
    conv => lhs; unfold putT
    rw [if_neg hp.1, if_neg (by simp [hp.2.1]), if_neg hp.2.2.1]
theorem plug_hop {p : PV} : ∀ (C : Ctx) (t : Tr), C.OnPath p → hopAt (C.plug t) p = hopAt t p
  | .top, _, _ => rfl
  | .left C g q h r, t, hp => by
    show hopAt (C.plug (.node g q h t r)) p = _
    rw [plug_hop C _ hp.2.2.2]
    conv => lhs; unfold hopAt
    rw [if_neg hp.1, if_neg (by simp [hp.2.1]), if_pos hp.2.2.1]
  | .right C g q h l, t, hp => by
    show hopAt (C.plug (.node g q h l t)) p = _
    rw [plug_hop C _ hp.2.2.2]
    conv => lhs; unfold hopAt
    rw [if_neg hp.1, if_neg (by simp [hp.2.1]), if_neg hp.2.2.1]
theorem Ctx.Lies.keep {w w' : World} {B : Nat} : ∀ {C : Ctx} {v : Value}, C.Lies w B v → (∀ g ∈ C.blocks, w'.heap[g]? = w.heap[g]?) → C.Lies w' B v
  | .top, _, _, _ => trivial
  | .left C g p h r, v, h1, h2 => ⟨h1.1, (h2 g (by simp [Ctx.blocks])).trans h1.2.1, h1.2.2.1.keep fun k hk => h2 k (by simp [Ctx.blocks, hk]), h1.2.2.2.keep fun k hk => h2 k (by simp [Ctx.blocks, hk])⟩
  | .right C g p h l, v, h1, h2 => ⟨h1.1, (h2 g (by simp [Ctx.blocks])).trans h1.2.1, h1.2.2.1.keep fun k hk => h2 k (by simp [Ctx.blocks, hk]), h1.2.2.2.keep fun k hk => h2 k (by simp [Ctx.blocks, hk])⟩
theorem Ctx.Lies.far {w : World} {B : Nat} {C : Ctx} {v : Value} (h : C.Lies w B v) {p : Addr} (hp : p.block ∉ C.blocks) (u : Value) : C.Lies (w.setCell p u) B v :=
  h.keep fun g hg => Below.heap_setCell w p u g (fun e => by subst e; exact hp hg)
/-- A store at a place that is not the top one. -/
theorem Ctx.Lies.store {w : World} {B tb : Nat} {six : Bool} {v : Value} (u : Value) : ∀ {C : Ctx}, ¬ C = .top → C.Lies w B v → C.blocks.Nodup → C.Lies (w.setCell (C.slot tb six) u) B u
  | .top, h0, _, _ => absurd rfl h0
  | .left C g p h r, _, h1, hn => by
    simp only [Ctx.blocks, List.nodup_cons, List.mem_append, not_or] at hn
    exact ⟨h1.1, h1.2.1.set_ 5 u, h1.2.2.1.far (p := ⟨g, 5, none⟩) hn.1.1 u, h1.2.2.2.far (p := ⟨g, 5, none⟩) hn.1.2 u⟩
  | .right C g p h l, _, h1, hn => by
    simp only [Ctx.blocks, List.nodup_cons, List.mem_append, not_or] at hn
    exact ⟨h1.1, h1.2.1.set_ 6 u, h1.2.2.1.far (p := ⟨g, 6, none⟩) hn.1.1 u, h1.2.2.2.far (p := ⟨g, 6, none⟩) hn.1.2 u⟩
theorem Ctx.slot_cell {w : World} {B tb : Nat} {six : Bool} {v : Value} : ∀ {C : Ctx}, ¬ C = .top → C.Lies w B v → w.cell? (C.slot tb six) = some v ∧ w.frozen? (C.slot tb six) = false ∧ (C.slot tb six).block ∈ C.blocks
  | .top, h0, _ => absurd rfl h0
  | .left C g p h r, _, h1 => ⟨h1.2.1.cell 5, h1.2.1.frozen 5, by simp [Ctx.slot, Ctx.blocks]⟩
  | .right C g p h l, _, h1 => ⟨h1.2.1.cell 6, h1.2.1.frozen 6, by simp [Ctx.slot, Ctx.blocks]⟩
theorem outer_const {C : Ctx} (h : ¬ C = .top) (u v : Value) : C.outer u = C.outer v := by
  cases C with
  | top => exact absurd rfl h
  | left C g p h r => rfl
  | right C g p h l => rfl

/-- A table as it lies in memory. -/
structure Tab (w : World) (B tb : Nat) (R : Bool → Tr) (c : Int) : Prop where
  blk : Blk w tb 190 #[(R false).ptr, (R true).ptr, .int .i64 c]
  base : B ≤ tb
  lies : ∀ s, (R s).Lies w B
  nodup : (tb :: ((R false).blocks ++ (R true).blocks)).Nodup
def tabBlocks (tb : Nat) (R : Bool → Tr) : List Nat := tb :: ((R false).blocks ++ (R true).blocks)
theorem mem_tab {tb : Nat} {R : Bool → Tr} {s : Bool} {g : Nat} (h : g ∈ (R s).blocks) : g ∈ tabBlocks tb R := by
  cases s <;> simp [tabBlocks, h]
theorem Tab.keep {w w' : World} {B tb : Nat} {R : Bool → Tr} {c : Int} (h : Tab w B tb R c) (hk : ∀ g ∈ tabBlocks tb R, w'.heap[g]? = w.heap[g]?) : Tab w' B tb R c :=
  ⟨(hk tb (by simp [tabBlocks])).trans h.blk, h.base, fun s => (h.lies s).keep fun g hg => hk g (mem_tab hg), h.nodup⟩
theorem Tab.lt {w : World} {B tb : Nat} {R : Bool → Tr} {c : Int} (h : Tab w B tb R c) : ∀ g ∈ tabBlocks tb R, B ≤ g ∧ g < w.heap.size := by
  intro g hg
  simp only [tabBlocks, List.mem_cons, List.mem_append] at hg
  rcases hg with rfl | hg | hg
  · exact ⟨h.base, h.blk.lt⟩
  · exact (h.lies false).lt g hg
  · exact (h.lies true).lt g hg
theorem Tab.below {w w' : World} {B tb : Nat} {R : Bool → Tr} {c : Int} (h : Tab w B tb R c) (hb : Below w.heap.size w w') : Tab w' B tb R c := h.keep fun g hg => hb.block g (h.lt g hg).2

def upd (R : Bool → Tr) (s : Bool) (t : Tr) : Bool → Tr := fun s' => if s' = s then t else R s'
theorem upd_same (R : Bool → Tr) (s : Bool) (t : Tr) : upd R s t s = t := by simp [upd]
theorem upd_other (R : Bool → Tr) (s : Bool) (t : Tr) : upd R s t (!s) = R (!s) := by cases s <;> simp [upd]

theorem nodup_parts {w : World} {B tb : Nat} {R : Bool → Tr} {c : Int} {s : Bool} {C : Ctx} {cur : Tr} (h : Tab w B tb R c) (hR : R s = C.plug cur) :
    tb ∉ cur.blocks ∧ tb ∉ C.blocks ∧ tb ∉ (R (!s)).blocks ∧ cur.blocks.Nodup ∧ C.blocks.Nodup ∧ (∀ g ∈ cur.blocks, g ∉ C.blocks ∧ g ∉ (R (!s)).blocks) ∧ (∀ g ∈ C.blocks, g ∉ (R (!s)).blocks) ∧ (R (!s)).blocks.Nodup := by
  have hp := plug_blocks C cur
  rw [← hR] at hp
  have hn := h.nodup
  have hall : (tb :: ((R s).blocks ++ (R (!s)).blocks)).Nodup := by
    cases s
    · exact hn
    · refine (List.Perm.nodup_iff ?_).1 hn
      exact List.Perm.cons _ List.perm_append_comm
  have hall2 : (tb :: ((cur.blocks ++ C.blocks) ++ (R (!s)).blocks)).Nodup := (List.Perm.nodup_iff (List.Perm.cons _ (List.Perm.append_right _ hp))).1 hall
  simp only [List.nodup_cons, List.mem_append, not_or, List.nodup_append] at hall2
  obtain ⟨⟨⟨a1, a2⟩, a3⟩, ⟨b1, b2, b3⟩, b4, b5⟩ := hall2
  exact ⟨a1, a2, a3, b1, b2, fun g hg => ⟨fun h => b3 g hg g h rfl, fun h => b5 g (.inl hg) g h rfl⟩, fun g hg h => b5 g (.inr hg) g h rfl, b4⟩

theorem tab_of {w : World} {B tb : Nat} {R : Bool → Tr} {c : Int} {s : Bool} {C : Ctx} {new : Tr} (hb : Blk w tb 190 #[(upd R s (C.plug new) false).ptr, (upd R s (C.plug new) true).ptr, .int .i64 c]) (h0 : B ≤ tb)
    (h1 : C.Lies w B new.ptr) (h2 : new.Lies w B) (h3 : (R (!s)).Lies w B)
    (n1 : tb ∉ new.blocks) (n2 : tb ∉ C.blocks) (n3 : tb ∉ (R (!s)).blocks) (n4 : new.blocks.Nodup) (n5 : C.blocks.Nodup) (n6 : ∀ g ∈ new.blocks, g ∉ C.blocks ∧ g ∉ (R (!s)).blocks) (n7 : ∀ g ∈ C.blocks, g ∉ (R (!s)).blocks) (n8 : (R (!s)).blocks.Nodup) :
    Tab w B tb (upd R s (C.plug new)) c := by
  have hp := plug_blocks C new
  have hx : (tb :: ((C.plug new).blocks ++ (R (!s)).blocks)).Nodup := by
    refine (List.Perm.nodup_iff (List.Perm.cons _ (List.Perm.append_right _ hp))).2 ?_
    simp only [List.nodup_cons, List.mem_append, not_or, List.nodup_append]
    exact ⟨⟨⟨n1, n2⟩, n3⟩, ⟨n4, n5, fun a ha b hb e => by subst e; exact (n6 a ha).1 hb⟩, n8, fun a ha b hb e => by
      subst e
      rcases ha with ha | ha
      · exact (n6 a ha).2 hb
      · exact n7 a ha hb⟩
  refine ⟨hb, h0, fun s' => ?_, ?_⟩
  · by_cases e : s' = s
    · subst e; rw [upd_same]; exact (plug_lies C new).2 ⟨h1, h2⟩
    · have : s' = !s := by cases s <;> cases s' <;> simp_all
      subst this
      rw [upd_other]; exact h3
  · cases s
    · simpa [upd] using hx
    · have : (tb :: ((R false).blocks ++ (C.plug new).blocks)).Nodup := (List.Perm.nodup_iff (List.Perm.cons _ List.perm_append_comm)).1 hx
      simpa [upd] using this

/-- A store at a place of a tree. -/
theorem Tab.store {w : World} {B tb : Nat} {R : Bool → Tr} {c : Int} {s : Bool} {C : Ctx} {cur new : Tr} (h : Tab w B tb R c) (hR : R s = C.plug cur) (hl : new.Lies w B) (hn : new.blocks.Nodup)
    (hd : ∀ g ∈ new.blocks, g ∈ cur.blocks ∨ g ∉ tabBlocks tb R) : Tab (w.setCell (C.slot tb s) new.ptr) B tb (upd R s (C.plug new)) c := by
  obtain ⟨n1, n2, n3, n4, n5, n6, n7, n8⟩ := nodup_parts h hR
  have hC : ∀ g ∈ C.blocks, g ∈ tabBlocks tb R := by
    intro g hg
    have : g ∈ (R s).blocks := by rw [hR]; exact (plug_blocks C cur).mem_iff.2 (by simp [hg])
    exact mem_tab this
  have m1 : tb ∉ new.blocks := fun hx => by
    rcases hd tb hx with h' | h'
    · exact n1 h'
    · exact h' (by simp [tabBlocks])
  have m6 : ∀ g ∈ new.blocks, g ∉ C.blocks ∧ g ∉ (R (!s)).blocks := fun g hg => by
    rcases hd g hg with h' | h'
    · exact n6 g h'
    · exact ⟨fun hx => h' (hC g hx), fun hx => h' (mem_tab hx)⟩
  have hCl := (plug_lies C cur).1 (hR ▸ h.lies s)
  by_cases ht : C = .top
  · subst ht
    refine tab_of ?_ h.base trivial (hl.far (p := slotOf tb s) m1 _) ((h.lies (!s)).far (p := slotOf tb s) n3 _) m1 n2 n3 hn n5 m6 n7 n8
    have := h.blk.set_ (if s then 1 else 0) new.ptr
    cases s
    · simpa [upd, Ctx.plug, Ctx.slot, slotOf] using this
    · simpa [upd, Ctx.plug, Ctx.slot, slotOf] using this
  · have hsl := (Ctx.slot_cell (tb := tb) (six := s) ht hCl.1).2.2
    refine tab_of ?_ h.base (hCl.1.store new.ptr ht n5) (hl.far (fun hx => (m6 _ hx).1 hsl) _) ((h.lies (!s)).far (fun hx => n7 _ hsl hx) _) m1 n2 n3 hn n5 m6 n7 n8
    have := h.blk.far (p := C.slot tb s) (fun e => by rw [e] at n2; exact n2 hsl) new.ptr
    have e : (C.plug new).ptr = (R s).ptr := by rw [hR, plug_ptr, plug_ptr]; exact outer_const ht _ _
    cases s
    · simpa [upd, e] using this
    · simpa [upd, e] using this

/-- A node's hop is stored. -/
theorem Tab.hop {w : World} {B tb : Nat} {R : Bool → Tr} {c : Int} {s : Bool} {C : Ctx} {g : Nat} {q : PV} {h0 : Int} {l r : Tr} (h : Tab w B tb R c) (hR : R s = C.plug (.node g q h0 l r)) (hop : Int) :
    Tab (w.setCell ⟨g, 4, none⟩ (.int .i64 hop)) B tb (upd R s (C.plug (.node g q hop l r))) c := by
  obtain ⟨n1, n2, n3, n4, n5, n6, n7, n8⟩ := nodup_parts h hR
  have hCl := (plug_lies C _).1 (hR ▸ h.lies s)
  obtain ⟨b1, b2, b3, b4⟩ := hCl.2
  have hg : g ∈ (Tr.node g q h0 l r).blocks := by simp [Tr.blocks]
  have n4' := n4
  simp only [Tr.blocks, List.nodup_cons, List.mem_append, not_or] at n4'
  refine tab_of ?_ h.base (hCl.1.far (p := ⟨g, 4, none⟩) (n6 g hg).1 _) ⟨b1, b2.set_ 4 _, b3.far (p := ⟨g, 4, none⟩) n4'.1.1 _, b4.far (p := ⟨g, 4, none⟩) n4'.1.2 _⟩ ((h.lies (!s)).far (p := ⟨g, 4, none⟩) (n6 g hg).2 _) n1 n2 n3 n4 n5 n6 n7 n8
  have := h.blk.far (p := ⟨g, 4, none⟩) (fun e => by subst e; exact n1 hg) (.int .i64 hop)
  have e : (C.plug (.node g q hop l r)).ptr = (R s).ptr := by rw [hR, plug_ptr, plug_ptr]; rfl
  cases s
  · simpa [upd, e] using this
  · simpa [upd, e] using this
theorem Tab.count {w : World} {B tb : Nat} {R : Bool → Tr} {c : Int} (h : Tab w B tb R c) (c' : Int) : Tab (w.setCell ⟨tb, 2, none⟩ (.int .i64 c')) B tb R c' := by
  have hn := h.nodup
  simp only [List.nodup_cons, List.mem_append, not_or] at hn
  refine ⟨h.blk.set_ 2 _, h.base, fun s => (h.lies s).far (p := ⟨tb, 2, none⟩) (by cases s; exact hn.1.1; exact hn.1.2) _, h.nodup⟩

theorem Tab.slot {w : World} {B tb : Nat} {R : Bool → Tr} {c : Int} {s : Bool} {C : Ctx} {cur : Tr} (h : Tab w B tb R c) (hR : R s = C.plug cur) :
    w.cell? (C.slot tb s) = some cur.ptr ∧ w.frozen? (C.slot tb s) = false ∧ (C.slot tb s).block ∈ tabBlocks tb R := by
  by_cases ht : C = .top
  · subst ht
    have e : (R s).ptr = cur.ptr := by rw [hR]; rfl
    refine ⟨?_, h.blk.frozen _, by simp [Ctx.slot, slotOf, tabBlocks]⟩
    show w.cell? ⟨tb, _, none⟩ = _
    rw [h.blk.cell, ← e]
    cases s <;> rfl
  · have hCl := (plug_lies C cur).1 (hR ▸ h.lies s)
    obtain ⟨a, b, d⟩ := Ctx.slot_cell (tb := tb) (six := s) ht hCl.1
    refine ⟨a, b, mem_tab (s := s) ?_⟩
    rw [hR]
    exact (plug_blocks C cur).mem_iff.2 (by simp [d])
theorem Tab.node {w : World} {B tb : Nat} {R : Bool → Tr} {c : Int} {s : Bool} {C : Ctx} {g : Nat} {q : PV} {h0 : Int} {l r : Tr} (h : Tab w B tb R c) (hR : R s = C.plug (.node g q h0 l r)) :
    Blk w g 193 (nodeCs q h0 l.ptr r.ptr) ∧ g ∈ tabBlocks tb R := by
  have hCl := (plug_lies C _).1 (hR ▸ h.lies s)
  refine ⟨hCl.2.2.1, mem_tab (s := s) ?_⟩
  rw [hR]
  exact (plug_blocks C _).mem_iff.2 (by simp [Tr.blocks])

/-- All blocks but some are as they were. -/
structure Kept (S : List Nat) (w w' : World) : Prop where
  os : w'.os = w.os
  tape : w'.tape = w.tape
  output : w'.output = w.output
  size : w.heap.size ≤ w'.heap.size
  block : ∀ k, k < w.heap.size → k ∉ S → w'.heap[k]? = w.heap[k]?

end Go.Proofs.Ytmljdjakbbedlaa

namespace Go.Proofs.Ytmljdjakbbedlaa

/-- The first place of a list where a test holds; -1: there is none. -/
def firstAt {α : Type} (f : α → Bool) : List α → Int
  | [] => -1
  | x :: l => if f x = true then 0 else if firstAt f l < 0 then -1 else firstAt f l + 1
def NoneYet {α : Type} (f : α → Bool) (l : List α) (k : Nat) : Prop := ∀ x ∈ l.take k, f x = false

theorem noneYet_zero {α : Type} (f : α → Bool) (l : List α) : NoneYet f l 0 := fun x hx => by simp at hx
theorem noneYet_succ {α : Type} {f : α → Bool} {l : List α} {k : Nat} {x : α} (h : NoneYet f l k) (hk : l.take (k + 1) = l.take k ++ [x]) (hf : f x = false) : NoneYet f l (k + 1) := by
  intro y hy
  rw [hk, List.mem_append] at hy
  rcases hy with hy | hy
  · exact h y hy
  · rw [List.mem_singleton.1 hy]; exact hf
theorem firstAt_at {α : Type} {f : α → Bool} : ∀ {l : List α} {k : Nat} {x : α}, NoneYet f l k → l[k]? = some x → f x = true → firstAt f l = k
  | [], k, x, _, h, _ => by simp at h
  | y :: l, 0, x, _, h, hf => by
    simp at h
    subst h
    unfold firstAt
    rw [if_pos hf]
    rfl
  | y :: l, k + 1, x, hn, h, hf => by
    have hy : f y = false := hn y (by simp)
    have ih : firstAt f l = k := firstAt_at (fun z hz => hn z (by simp [hz])) (by simpa using h) hf
    unfold firstAt
    rw [if_neg (by rw [hy]; simp), ih, if_neg (by omega)]
    omega
theorem firstAt_none {α : Type} {f : α → Bool} : ∀ {l : List α}, (∀ x ∈ l, f x = false) → firstAt f l = -1
  | [], _ => rfl
  | y :: l, h => by
    unfold firstAt
    rw [if_neg (by rw [h y (by simp)]; simp), firstAt_none (l := l) (fun x hx => h x (by simp [hx]))]
    rfl
theorem firstAt_end {α : Type} {f : α → Bool} {l : List α} {k : Nat} (h : NoneYet f l k) (hl : l.length = k) : firstAt f l = -1 := by
  unfold NoneYet at h
  rw [← hl, List.take_length] at h
  exact firstAt_none h
/-- Either there is none, or it is a place, and the test holds there. -/
theorem firstAt_cases {α : Type} (f : α → Bool) : ∀ (l : List α), (firstAt f l = -1 ∧ ∀ x ∈ l, f x = false) ∨ ∃ (k : Nat) (x : α), firstAt f l = k ∧ l[k]? = some x ∧ f x = true
  | [] => .inl ⟨rfl, by simp⟩
  | y :: l => by
    by_cases hy : f y = true
    · exact .inr ⟨0, y, by unfold firstAt; rw [if_pos hy]; rfl, rfl, hy⟩
    · rcases firstAt_cases f l with ⟨h1, h2⟩ | ⟨k, x, h1, h2, h3⟩
      · refine .inl ⟨by unfold firstAt; rw [if_neg hy, h1]; rfl, fun x hx => ?_⟩
        rcases List.mem_cons.1 hx with rfl | hx
        · simpa using hy
        · exact h2 x hx
      · exact .inr ⟨k + 1, x, by unfold firstAt; rw [if_neg hy, h1, if_neg (by omega)]; omega, by simpa using h2, h3⟩

end Go.Proofs.Ytmljdjakbbedlaa

namespace Go.Proofs.Ytmljdjakbbedlaa
open Go.ChangeShapes Go.WideShapes Go.ChangeAt Go.RowKit

def RouteV.cells (r : RouteV) : List Value := [.bool r.p.six, .int .u64 r.p.hi, .int .u64 r.p.lo, .int .i64 r.p.n, .int .i64 r.hop]
theorem RouteV.cells_length (r : RouteV) : r.cells.length = 5 := rfl
/-- What is known of a slice of routes. -/
def IsRoutes (w : World) (A : Option Addr) (n c : Nat) (l : List RouteV) : Prop :=
  l.length = n ∧ (n ≤ c ∧ c ≤ maxLen) ∧ (∀ r ∈ l, r.Ok) ∧ Reads w w.heap.size 5 A n (l.flatMap RouteV.cells)
theorem IsRoutes.below {w w' : World} {A : Option Addr} {n c : Nat} {l : List RouteV} (h : IsRoutes w A n c l) (hb : Below w.heap.size w w') : IsRoutes w' A n c l :=
  ⟨h.1, h.2.1, h.2.2.1, (h.2.2.2.below hb).more hb.size⟩

set_option maxRecDepth 100000 in
theorem open_routes {H : Type} {enc : TypeId × Value → H} {W : World} {base : Nat} {sp : Nat → Bool} {held : Bool} {a0 : Option Addr} {len0 cap0 : Nat} {d : DataW H} {p : List MemPlace}
    (h : DataW.Trod enc Try.prog W base sp held 26 (.slice a0 len0 cap0) d p) : ∃ l : List RouteV, IsRoutes W a0 len0 cap0 l := by
  have hk : flat Try.prog 9 48 = some [none, some .u64, some .u64, some .i64, some .i64] := by kernel_rfl
  obtain ⟨css, hcl, hfit, hr, hl, hm⟩ := open_flats Try.underlying26 hk (by kernel_rfl) (by simp) h
  obtain ⟨l, rfl, hz⟩ := choose_list (f := RouteV.cells) (Q := RouteV.Ok) css (fun cs hc => by
    have hf := hfit cs hc
    clear hr hcl hfit
    obtain ⟨six, _, rfl, hf0⟩ := hf.bool_inv
    obtain ⟨hi, _, rfl, w1, hf1⟩ := hf0.int_inv
    obtain ⟨lo, _, rfl, w2, hf2⟩ := hf1.int_inv
    obtain ⟨n, _, rfl, w3, hf3⟩ := hf2.int_inv
    obtain ⟨hop, _, rfl, w4, hf4⟩ := hf3.int_inv
    obtain rfl := hf4.nil_inv
    exact ⟨⟨⟨six, hi, lo, n⟩, hop⟩, ⟨range_u64 w1, range_u64 w2, bounds_i64 w3, bounds_i64 w4⟩, rfl⟩)
  exact ⟨l, by simpa using hcl, ⟨hl, hm⟩, hz, by rw [List.flatMap_def]; exact hr⟩

/-- The table holds the routes. -/
def Holds (w : World) (B tb : Nat) (l : List RouteV) : Prop :=
  ∃ R c, Tab w B tb R c ∧ (∀ s, Inv s (fun _ => True) (R s)) ∧ (∀ p : PV, p.Ok → hopAt (R p.six) p = getR l p) ∧ c = l.length
theorem Holds.below {w w' : World} {B tb : Nat} {l : List RouteV} (h : Holds w B tb l) (hb : Below w.heap.size w w') : Holds w' B tb l := by
  obtain ⟨R, c, h1, h2⟩ := h
  exact ⟨R, c, h1.below hb, h2⟩
theorem holds_new (w : World) : Holds (w.alloc (.cells #[.pointer none, .pointer none, .int .i64 0] 190)) w.heap.size w.heap.size [] := by
  refine ⟨fun _ => .nil, 0, ⟨Blk.new _ _ _, Nat.le_refl _, fun _ => trivial, by simp [Tr.blocks]⟩, fun _ => trivial, fun _ _ => rfl, rfl⟩

theorem holds_put {w' : World} {B tb G1 G2 : Nat} {R : Bool → Tr} {c : Int} {l : List RouteV} {p : PV} {hop : Int} (hI : ∀ s, Inv s (fun _ => True) (R s)) (hm : ∀ p : PV, p.Ok → hopAt (R p.six) p = getR l p) (hc : c = l.length)
    (hp : p.Ok) (hh : 1 ≤ hop ∧ hop ≤ 999) (hn : hasR l p = false) (hT : Tab w' B tb (upd R p.six (putT p hop G1 G2 (R p.six))) (if hopAt (R p.six) p = 0 then c + 1 else c)) : Holds w' B tb (l ++ [⟨p, hop⟩]) := by
  rw [hm p hp, getR_none hn, if_pos rfl] at hT
  refine ⟨_, _, hT, fun s => ?_, fun p' hp' => ?_, by rw [hc]; simp⟩
  · unfold upd
    split
    · rename_i e; subst e
      exact inv_put hp rfl (by omega) _ _ (hI p.six) trivial (fun _ _ _ _ _ _ _ _ => trivial)
    · exact hI s
  · rw [getR_snoc hn]
    unfold upd
    by_cases e : p'.six = p.six
    · rw [if_pos e]
      have := hopAt_put (hop := hop) (G1 := G1) (G2 := G2) hp rfl p' hp' (R p.six) _ (hI p.six)
      rw [this, ← e, hm p' hp']
    · have e2 : ¬ p' = p := fun h => e (by rw [h])
      rw [if_neg e, if_neg e2]
      exact hm p' hp'

end Go.Proofs.Ytmljdjakbbedlaa

namespace Go.Proofs.Ytmljdjakbbedlaa
open Go.ChangeShapes Go.WideShapes Go.ChangeAt Go.RowKit

set_option maxRecDepth 100000 in
/-- '==' on addresses. -/
theorem eqAV (d : Nat) (six : Bool) (hi lo : Int) (six' : Bool) (hi' lo' : Int) (w : World) : (Op.equalIn (d + 1 + 1) 35 (.agg #[.bool six, .int .u64 hi, .int .u64 lo]) (.agg #[.bool six', .int .u64 hi', .int .u64 lo'])).run Try.prog w = .ok (six == six' && (hi == hi' && lo == lo')) w := by
  have hS : Try.prog.underlying 35 = some (.struct (Try.prog.fieldsOf 35)) := by kernel_rfl
  have hp : Try.prog.stoodInHeld 35 = false := by kernel_rfl
  rw [run_equalIn_agg w (d + 1) 35 _ _ hS hp]
  clear hS hp
  have a1 := Try.isAgg33
  have z1 := Try.sizeOf33
  have a2 := Try.isAgg4
  have z2 := Try.sizeOf4
  simp only [Program.fieldsOf, Try.underlying35]
  go_simp
  by_cases h1 : six = six' <;> by_cases h2 : hi = hi' <;> by_cases h3 : lo = lo' <;> simp [h1, h2, h3]

set_option maxRecDepth 100000 in
/-- '==' on prefixes. -/
theorem eqPVd (d : Nat) (p q : PV) (w : World) : (Op.equalIn (d + 1 + 1 + 1) 42 p.val q.val).run Try.prog w = .ok (decide (p = q)) w := by
  obtain ⟨six, hi, lo, n⟩ := p
  obtain ⟨six', hi', lo', n'⟩ := q
  have hS : Try.prog.underlying 42 = some (.struct (Try.prog.fieldsOf 42)) := by kernel_rfl
  have hp : Try.prog.stoodInHeld 42 = false := by kernel_rfl
  have inner := fun w => eqAV d six hi lo six' hi' lo' w
  have e : (decide ((⟨six, hi, lo, n⟩ : PV) = ⟨six', hi', lo', n'⟩)) = ((six == six' && (hi == hi' && lo == lo')) && n == n') := by
    rw [Bool.eq_iff_iff]
    simp
    constructor
    · rintro ⟨a, b, c, d⟩; exact ⟨⟨a, b, c⟩, d⟩
    · rintro ⟨⟨a, b, c⟩, d⟩; exact ⟨a, b, c, d⟩
  rw [e]
  unfold PV.val
  simp only
  rw [run_equalIn_agg w (d + 1 + 1) 42 _ _ hS hp]
  clear hS hp e
  generalize (six == six' && (hi == hi' && lo == lo')) = b at *
  have a1 := Try.isAgg35
  have z1 := Try.sizeOf35
  have a2 := Try.isAgg3
  have z2 := Try.sizeOf3
  simp only [Program.fieldsOf, Try.underlying42]
  go_simp
  cases b <;> by_cases h4 : n = n' <;> simp [h4]
theorem eqPV (p q : PV) (w : World) : (Op.equalIn 10000 42 p.val q.val).run Try.prog w = .ok (decide (p = q)) w := eqPVd 9997 p q w

def RouteV.val (r : RouteV) : Value := .agg #[.bool r.p.six, .int .u64 r.p.hi, .int .u64 r.p.lo, .int .i64 r.p.n, .int .i64 r.hop]
theorem RouteV.ext' {r r' : RouteV} (h1 : r.p = r'.p) (h2 : r.hop = r'.hop) : r = r' := by cases r; cases r'; simp_all
instance : DecidableEq RouteV := fun a b => decidable_of_iff (a.p = b.p ∧ a.hop = b.hop) ⟨fun h => RouteV.ext' h.1 h.2, fun h => by subst h; exact ⟨rfl, rfl⟩⟩
set_option maxRecDepth 100000 in
/-- '==' on routes. -/
theorem eqRV (r r' : RouteV) (w : World) : (Op.equalIn 10000 48 r.val r'.val).run Try.prog w = .ok (decide (r = r')) w := by
  obtain ⟨⟨six, hi, lo, n⟩, h⟩ := r
  obtain ⟨⟨six', hi', lo', n'⟩, h'⟩ := r'
  have hS : Try.prog.underlying 48 = some (.struct (Try.prog.fieldsOf 48)) := by kernel_rfl
  have hp : Try.prog.stoodInHeld 48 = false := by kernel_rfl
  have inner := fun w => eqPVd 9996 ⟨six, hi, lo, n⟩ ⟨six', hi', lo', n'⟩ w
  have e : (decide ((⟨⟨six, hi, lo, n⟩, h⟩ : RouteV) = ⟨⟨six', hi', lo', n'⟩, h'⟩)) = (decide ((⟨six, hi, lo, n⟩ : PV) = ⟨six', hi', lo', n'⟩) && h == h') := by
    rw [Bool.eq_iff_iff]
    simp
  rw [e]
  unfold RouteV.val
  unfold PV.val at inner
  simp only at inner ⊢
  rw [show (10000 : Nat) = 9999 + 1 from rfl, run_equalIn_agg w 9999 48 _ _ hS hp]
  clear hS hp e
  generalize decide ((⟨six, hi, lo, n⟩ : PV) = ⟨six', hi', lo', n'⟩) = b at *
  have a1 := Try.isAgg42
  have z1 := Try.sizeOf42
  have a2 := Try.isAgg3
  have z2 := Try.sizeOf3
  simp only [Program.fieldsOf, Try.underlying48]
  go_simp
  cases b <;> by_cases h4 : h = h' <;> simp [h4]

end Go.Proofs.Ytmljdjakbbedlaa

namespace Go.Proofs.Ytmljdjakbbedlaa

def hasB (r : RouteV) (six : Bool) (hi lo : Int) : Bool := inB r.p.six r.p.hi r.p.lo r.p.n six hi lo
/-- The hop and the length of the longest prefix so far. -/
def bestStep (six : Bool) (hi lo : Int) (b : Int × Int) (r : RouteV) : Int × Int := if hasB r six hi lo = true ∧ b.2 < r.p.n then (r.hop, r.p.n) else b
def bestTo (l : List RouteV) (six : Bool) (hi lo : Int) : Int × Int := l.foldl (bestStep six hi lo) (0, -1)
def goesR (l : List RouteV) (six : Bool) (hi lo : Int) : Int × Int := if (bestTo l six hi lo).2 < 0 then ((bestTo l six hi lo).1, 0) else bestTo l six hi lo
theorem bestTo_snoc (l : List RouteV) (r : RouteV) (six : Bool) (hi lo : Int) : bestTo (l ++ [r]) six hi lo = bestStep six hi lo (bestTo l six hi lo) r := by
  unfold bestTo; rw [List.foldl_append]; rfl

theorem bestTo_cases (six : Bool) (hi lo : Int) : ∀ (l : List RouteV), (∀ r ∈ l, 0 ≤ r.p.n) →
    (bestTo l six hi lo = (0, -1) ∧ ∀ r ∈ l, hasB r six hi lo = false) ∨ ∃ r ∈ l, hasB r six hi lo = true ∧ bestTo l six hi lo = (r.hop, r.p.n) ∧ ∀ r' ∈ l, hasB r' six hi lo = true → r'.p.n ≤ r.p.n := by
  intro l
  induction hn : l.length generalizing l with
  | zero =>
    intro _
    have : l = [] := List.eq_nil_of_length_eq_zero hn
    subst this
    exact .inl ⟨rfl, by simp⟩
  | succ n ih =>
    intro hpos
    rcases List.eq_nil_or_concat l with rfl | ⟨l', r, rfl⟩
    · simp at hn
    rw [List.concat_eq_append] at *
    have hl' : l'.length = n := by simpa using hn
    have hrn := hpos r (by simp)
    rw [bestTo_snoc]
    unfold bestStep
    rcases ih l' hl' (fun r hr => hpos r (by simp [hr])) with ⟨h1, h2⟩ | ⟨x, hx, h1, h2, h3⟩
    · rw [h1]
      by_cases hb : hasB r six hi lo = true
      · rw [if_pos ⟨hb, by simp only; omega⟩]
        refine .inr ⟨r, by simp, hb, rfl, fun r' hr' hb' => ?_⟩
        rcases List.mem_append.1 hr' with h | h
        · rw [h2 r' h] at hb'; cases hb'
        · simp at h; subst h; exact Int.le_refl _
      · rw [if_neg (fun h => hb h.1)]
        refine .inl ⟨rfl, fun r' hr' => ?_⟩
        rcases List.mem_append.1 hr' with h | h
        · exact h2 r' h
        · simp at h; subst h; simpa using hb
    · rw [h2]
      by_cases hb : hasB r six hi lo = true ∧ x.p.n < r.p.n
      · rw [if_pos hb]
        refine .inr ⟨r, by simp, hb.1, rfl, fun r' hr' hb' => ?_⟩
        rcases List.mem_append.1 hr' with h | h
        · have := h3 r' h hb'; omega
        · simp at h; subst h; exact Int.le_refl _
      · rw [if_neg hb]
        refine .inr ⟨x, by simp [hx], h1, rfl, fun r' hr' hb' => ?_⟩
        rcases List.mem_append.1 hr' with h | h
        · exact h3 r' h hb'
        · simp at h
          subst h
          apply Classical.byContradiction
          intro hc
          exact hb ⟨hb', by omega⟩

theorem getR_mem {l : List RouteV} (hv : Valid l) : ∀ r ∈ l, getR l r.p = r.hop := by
  obtain ⟨hv1, hv2⟩ := hv
  induction l with
  | nil => simp
  | cons x l ih =>
    intro r hr
    simp only [List.map_cons, List.nodup_cons] at hv2
    unfold getR
    rcases List.mem_cons.1 hr with rfl | hr
    · rw [if_pos rfl]
    · rw [if_neg (fun he => hv2.1 (by rw [he]; exact List.mem_map.2 ⟨r, hr, rfl⟩))]
      exact ih (fun r hr => hv1 r (by simp [hr])) hv2.2 r hr
theorem getR_ne {l : List RouteV} {p : PV} (h : ¬ getR l p = 0) : ∃ r ∈ l, r.p = p := by
  induction l with
  | nil => exact absurd rfl h
  | cons x l ih =>
    unfold getR at h
    by_cases hx : x.p = p
    · exact ⟨x, by simp, hx⟩
    · rw [if_neg hx] at h
      obtain ⟨r, hr, he⟩ := ih h
      exact ⟨r, by simp [hr], he⟩

theorem over_addr {q : PV} (hq : q.Ok) (six : Bool) (hi lo : Int) : q.over ⟨six, hi, lo, wideI six⟩ = inB q.six q.hi q.lo q.n six hi lo := by
  unfold PV.over overB
  simp only
  by_cases h : inB q.six q.hi q.lo q.n six hi lo = true
  · rw [h]
    have h6 : q.six = six := by
      unfold inB at h
      simp at h
      exact h.1.symm
    have := (ok_n hq).2
    rw [h6] at this
    simp [this]
  · rw [Bool.not_eq_true] at h
    rw [h]; simp

/-- What the tree finds is what the list says. -/
theorem look_goes {l : List RouteV} {t : Tr} {six : Bool} {hi lo : Int} (hv : Valid l) (hp : PV.Ok ⟨six, hi, lo, wideI six⟩) (hI : Inv six (fun _ => True) t) (hm : ∀ p : PV, p.Ok → p.six = six → hopAt t p = getR l p) :
    lookT ⟨six, hi, lo, wideI six⟩ t (0, 0) = goesR l six hi lo := by
  have hb := look_best hp rfl t _ (0, 0) hI
  have hc := bestTo_cases six hi lo l (fun r hr => (ok_n (hv.1 r hr).1).1)
  unfold goesR
  rcases hb with ⟨hres, hall⟩ | ⟨q, hq, hov, hne, hres, hmax⟩
  · rw [hres]
    rcases hc with ⟨h1, h2⟩ | ⟨r, hr, h1, h2, h3⟩
    · rw [h1, if_pos (by simp only; omega)]
    · exfalso
      have hrv := hv.1 r hr
      have ho := over_addr hrv.1 six hi lo
      have ho2 : r.p.over ⟨six, hi, lo, wideI six⟩ = true := by rw [ho]; exact h1
      have := hall r.p hrv.1 ho2
      rw [hm r.p hrv.1 (over_six hrv.1 hp ho2), getR_mem hv r hr] at this
      omega
  · rw [hres]
    rw [hm q hq (over_six hq hp hov)] at hne
    rw [hm q hq (over_six hq hp hov)]
    obtain ⟨x, hx, rfl⟩ := getR_ne hne
    have hxb : hasB x six hi lo = true := by unfold hasB; rw [← over_addr hq]; exact hov
    rcases hc with ⟨h1, h2⟩ | ⟨r, hr, h1, h2, h3⟩
    · rw [h2 x hx] at hxb; cases hxb
    · have hrv := hv.1 r hr
      have ho2 : r.p.over ⟨six, hi, lo, wideI six⟩ = true := by rw [over_addr hrv.1]; exact h1
      have hr0 := (ok_n hrv.1).1
      have n1 := h3 x hx hxb
      have n2 := hmax r.p hrv.1 ho2 (by rw [hm r.p hrv.1 (over_six hrv.1 hp ho2), getR_mem hv r hr]; omega)
      have he : x.p = r.p := over_eq hq hrv.1 (over_two hq hrv.1 hp hov ho2 n1) (by omega)
      rw [h2, if_neg (by simp only; omega), he, getR_mem hv r hr]

end Go.Proofs.Ytmljdjakbbedlaa

namespace Go.Proofs.Ytmljdjakbbedlaa

structure ActV where
  kind : Int
  p : PV
  hop : Int
  a : AV
structure AnsV where
  code : Int
  hop : Int
  len : Int

def delR (l : List RouteV) (p : PV) : List RouteV := l.filter fun r => decide (¬ r.p = p)
def setR (l : List RouteV) (p : PV) (hop : Int) : List RouteV := if hasR l p = true then l.map (fun r => if r.p = p then ⟨p, hop⟩ else r) else l ++ [⟨p, hop⟩]

theorem hasR_iff {l : List RouteV} {p : PV} : hasR l p = true ↔ ∃ r ∈ l, r.p = p := by
  unfold hasR
  simp [List.any_eq_true]
theorem hasR_get {l : List RouteV} {p : PV} (hv : ∀ r ∈ l, 1 ≤ r.hop) : hasR l p = true ↔ ¬ getR l p = 0 := by
  constructor
  · exact getR_some hv
  · intro h
    cases hh : hasR l p with
    | true => rfl
    | false => exact absurd (getR_none hh) h

theorem getR_del (l : List RouteV) (p p' : PV) : getR (delR l p) p' = if p' = p then 0 else getR l p' := by
  induction l with
  | nil => unfold delR getR; simp
  | cons r l ih =>
    unfold delR at ih ⊢
    rw [List.filter_cons]
    by_cases h : r.p = p
    · rw [if_neg (by simp [h]), ih]
      conv => rhs; rhs; unfold getR
      by_cases e : p' = p
      · rw [if_pos e, if_pos e]
      · rw [if_neg e, if_neg e, if_neg (fun h' => e (h'.symm.trans h))]
    · rw [if_pos (by simp [h])]
      show (if r.p = p' then r.hop else getR (l.filter _) p') = _
      rw [ih]
      conv => rhs; rhs; unfold getR
      by_cases e : r.p = p'
      · rw [if_pos e, if_neg (fun h' => h (e.trans h')), if_pos e]
      · rw [if_neg e, if_neg e]
theorem del_none {l : List RouteV} {p : PV} (h : hasR l p = false) : delR l p = l := by
  unfold delR
  refine List.filter_eq_self.2 fun r hr => ?_
  unfold hasR at h
  rw [List.any_eq_false] at h
  simpa using h r hr
theorem del_length {l : List RouteV} {p : PV} (hn : (l.map RouteV.p).Nodup) (h : hasR l p = true) : (delR l p).length + 1 = l.length := by
  induction l with
  | nil => simp [hasR] at h
  | cons r l ih =>
    rw [List.map_cons, List.nodup_cons] at hn
    by_cases e : r.p = p
    · have : hasR l p = false := by
        cases hh : hasR l p with
        | false => rfl
        | true =>
          obtain ⟨x, hx, hx2⟩ := hasR_iff.1 hh
          exact absurd (List.mem_map.2 ⟨x, hx, hx2.trans e.symm⟩) hn.1
      have hd := del_none this
      unfold delR at hd ⊢
      rw [List.filter_cons, if_neg (by simp [e]), hd, List.length_cons]
    · have h2 : hasR l p = true := by
        obtain ⟨x, hx, hx2⟩ := hasR_iff.1 h
        rcases List.mem_cons.1 hx with rfl | hx
        · exact absurd hx2 e
        · exact hasR_iff.2 ⟨x, hx, hx2⟩
      have := ih hn.2 h2
      unfold delR at this ⊢
      rw [List.filter_cons, if_pos (by simp [e]), List.length_cons, List.length_cons]
      omega
theorem valid_del {l : List RouteV} (hv : Valid l) (p : PV) : Valid (delR l p) :=
  ⟨fun r hr => hv.1 r (List.mem_filter.1 hr).1, hv.2.sublist (List.filter_sublist.map _)⟩

theorem getR_map {l : List RouteV} {p : PV} {hop : Int} (h : hasR l p = true) (p' : PV) : getR (l.map fun r => if r.p = p then ⟨p, hop⟩ else r) p' = if p' = p then hop else getR l p' := by
  induction l with
  | nil => simp [hasR] at h
  | cons r l ih =>
    rw [List.map_cons]
    by_cases e : r.p = p
    · rw [if_pos e]
      show (if p = p' then hop else getR _ p') = _
      by_cases e' : p' = p
      · rw [if_pos e', if_pos e'.symm]
      · rw [if_neg e', if_neg (fun x => e' x.symm)]
        conv => rhs; unfold getR
        rw [if_neg (fun x => e' (x.symm.trans e))]
        cases hh : hasR l p with
        | true => rw [ih hh, if_neg e']
        | false =>
          congr 1
          conv => rhs; rw [← List.map_id l]
          refine List.map_congr_left fun x hx => ?_
          unfold hasR at hh
          rw [List.any_eq_false] at hh
          rw [if_neg (by simpa using hh x hx)]
          rfl
    · rw [if_neg e]
      show (if r.p = p' then r.hop else getR _ p') = _
      have h2 : hasR l p = true := by
        obtain ⟨x, hx, hx2⟩ := hasR_iff.1 h
        rcases List.mem_cons.1 hx with rfl | hx
        · exact absurd hx2 e
        · exact hasR_iff.2 ⟨x, hx, hx2⟩
      rw [ih h2]
      conv => rhs; rhs; unfold getR
      by_cases e' : r.p = p'
      · rw [if_pos e', if_neg (fun x => e (e'.trans x)), if_pos e']
      · rw [if_neg e', if_neg e']
theorem getR_set (l : List RouteV) (p : PV) (hop : Int) (p' : PV) : getR (setR l p hop) p' = if p' = p then hop else getR l p' := by
  unfold setR
  by_cases h : hasR l p = true
  · rw [if_pos h]; exact getR_map h p'
  · rw [if_neg h]; exact getR_snoc (by simpa using h)
theorem map_p (l : List RouteV) (p : PV) (hop : Int) : (l.map fun r => if r.p = p then (⟨p, hop⟩ : RouteV) else r).map RouteV.p = l.map RouteV.p := by
  rw [List.map_map]
  refine List.map_congr_left fun r _ => ?_
  by_cases e : r.p = p
  · simp [e]
  · simp [e]
theorem valid_set {l : List RouteV} (hv : Valid l) {p : PV} {hop : Int} (hp : p.Ok) (hh : 1 ≤ hop ∧ hop ≤ 999) : Valid (setR l p hop) := by
  unfold setR
  by_cases h : hasR l p = true
  · rw [if_pos h]
    refine ⟨fun r hr => ?_, by rw [map_p]; exact hv.2⟩
    obtain ⟨x, hx, rfl⟩ := List.mem_map.1 hr
    by_cases e : x.p = p
    · rw [if_pos e]; exact ⟨hp, hh.1, hh.2⟩
    · rw [if_neg e]; exact hv.1 x hx
  · rw [if_neg h]; exact valid_snoc hv hp hh (by simpa using h)
theorem set_length (l : List RouteV) (p : PV) (hop : Int) : (setR l p hop).length = if hasR l p = true then l.length else l.length + 1 := by
  unfold setR
  split <;> simp

/-- What an act comes to. -/
def doA (l : List RouteV) (a : ActV) : AnsV :=
  if a.kind < 1 ∨ 4 < a.kind then ⟨3, 0, 0⟩
  else if a.kind = 3 then (if mayB a.a.six a.a.hi a.a.lo = false then ⟨4, 0, 0⟩ else ⟨0, (goesR l a.a.six a.a.hi a.a.lo).1, (goesR l a.a.six a.a.hi a.a.lo).2⟩)
  else if ¬ a.p.chk = 0 then ⟨a.p.chk, 0, 0⟩
  else if a.kind = 2 then (if getR l a.p = 0 then ⟨7, 0, 0⟩ else ⟨0, getR l a.p, 0⟩)
  else if a.kind = 4 then (if getR l a.p = 0 then ⟨7, 0, 0⟩ else ⟨0, getR l a.p, a.p.n⟩)
  else if a.hop < 1 ∨ 999 < a.hop then ⟨2, 0, 0⟩
  else if l.length = 60 ∧ getR l a.p = 0 then ⟨9, 0, 0⟩
  else ⟨0, getR l a.p, 0⟩
/-- The routes behind an act. -/
def doL (l : List RouteV) (a : ActV) : List RouteV :=
  if ¬ (a.kind = 1 ∨ a.kind = 2) then l
  else if ¬ a.p.chk = 0 then l
  else if a.kind = 2 then delR l a.p
  else if a.hop < 1 ∨ 999 < a.hop then l
  else if l.length = 60 ∧ getR l a.p = 0 then l
  else setR l a.p a.hop

end Go.Proofs.Ytmljdjakbbedlaa

namespace Go.Proofs.Ytmljdjakbbedlaa
set_option linter.unusedVariables false

def routesT : Tr → List RouteV
  | .nil => []
  | .node _ q h l r => (if h = 0 then [] else [⟨q, h⟩]) ++ (routesT l ++ routesT r)
/-- One prefix stands ahead of another. -/
def ltP (p q : PV) : Prop := lessB p.a q.a = true ∨ (p.a = q.a ∧ p.n < q.n)

theorem lessB_six {a b : AV} (h1 : a.six = false) (h2 : b.six = true) : lessB a b = true := by
  unfold lessB
  rw [if_neg (by rw [h1, h2]; simp)]
  exact h2
theorem lessB_num {a b : AV} (ha : a.Ok) (hb : b.Ok) : lessB a b = true ↔ (a.six = false ∧ b.six = true) ∨ (a.six = b.six ∧ a.v < b.v) := by
  by_cases h6 : a.six = b.six
  · rw [less_num ha hb h6]
    constructor
    · intro h; exact .inr ⟨h6, h⟩
    · rintro (⟨h1, h2⟩ | ⟨_, h⟩)
      · rw [h6, h2] at h1; cases h1
      · exact h
  · unfold lessB
    rw [if_neg h6]
    cases h1 : a.six <;> cases h2 : b.six <;> simp_all
theorem ltP_num {p q : PV} (hp : p.Ok) (hq : q.Ok) : ltP p q ↔ (p.six = false ∧ q.six = true) ∨ (p.six = q.six ∧ (p.v < q.v ∨ p.v = q.v ∧ p.n < q.n)) := by
  unfold ltP
  rw [lessB_num hp.addr hq.addr]
  show (((p.six = false ∧ q.six = true) ∨ (p.six = q.six ∧ p.v < q.v)) ∨ (p.a = q.a ∧ p.n < q.n)) ↔ _
  constructor
  · rintro ((h | ⟨h, h'⟩) | ⟨h, h'⟩)
    · exact .inl h
    · exact .inr ⟨h, .inl h'⟩
    · exact .inr ⟨congrArg AV.six h, .inr ⟨congrArg AV.v h, h'⟩⟩
  · rintro (h | ⟨h, h' | ⟨h', h''⟩⟩)
    · exact .inl (.inl h)
    · exact .inl (.inr ⟨h, h'⟩)
    · exact .inr ⟨AV.v_inj hp.addr hq.addr h h', h''⟩
theorem ltP_irrefl {p : PV} (hp : p.Ok) : ¬ ltP p p := by
  rw [ltP_num hp hp]
  rintro (⟨h1, h2⟩ | ⟨_, h | ⟨_, h⟩⟩)
  · rw [h1] at h2; cases h2
  · omega
  · omega
theorem ltP_asymm {p q : PV} (hp : p.Ok) (hq : q.Ok) (h : ltP p q) : ¬ ltP q p := by
  rw [ltP_num hp hq] at h
  rw [ltP_num hq hp]
  rintro (⟨h1, h2⟩ | ⟨h6, h'⟩)
  · rcases h with ⟨h3, h4⟩ | ⟨h6, _⟩
    · rw [h2] at h3; cases h3
    · rw [h1, h2] at h6; cases h6
  · rcases h with ⟨h3, h4⟩ | ⟨_, h⟩
    · rw [h3, h4] at h6; cases h6
    · omega
theorem ltP_trans {p q r : PV} (hp : p.Ok) (hq : q.Ok) (hr : r.Ok) (h : ltP p q) (h' : ltP q r) : ltP p r := by
  rw [ltP_num hp hq] at h
  rw [ltP_num hq hr] at h'
  rw [ltP_num hp hr]
  rcases h with ⟨a, b⟩ | ⟨a, b⟩ <;> rcases h' with ⟨c, d⟩ | ⟨c, d⟩
  · exact .inl ⟨a, d⟩
  · exact .inl ⟨a, by rw [← c]; exact b⟩
  · exact .inl ⟨by rw [a]; exact c, d⟩
  · exact .inr ⟨a.trans c, by omega⟩
theorem ltP_total {p q : PV} (hp : p.Ok) (hq : q.Ok) (h1 : ¬ ltP p q) (h2 : ¬ ltP q p) : p = q := by
  rw [ltP_num hp hq] at h1
  rw [ltP_num hq hp] at h2
  have h6 : p.six = q.six := by
    cases e1 : p.six <;> cases e2 : q.six <;> simp_all
  have hv : p.v = q.v := by
    rcases Nat.lt_trichotomy p.v q.v with h | h | h
    · exact absurd (.inr ⟨h6, .inl h⟩) h1
    · exact h
    · exact absurd (.inr ⟨h6.symm, .inl h⟩) h2
  have hn : p.n = q.n := by
    rcases Int.lt_trichotomy p.n q.n with h | h | h
    · exact absurd (.inr ⟨h6, .inr ⟨hv, h⟩⟩) h1
    · exact h
    · exact absurd (.inr ⟨h6.symm, .inr ⟨hv.symm, h⟩⟩) h2
  have ha := AV.v_inj hp.addr hq.addr h6 hv
  have e1 := congrArg AV.hi ha
  have e2 := congrArg AV.lo ha
  exact PV.ext' h6 e1 e2 hn

theorem under_lt {q x : PV} {b : Bool} (hq : q.Ok) (hx : x.Ok) (h : Under q b x) : ltP q x := by
  obtain ⟨h1, h2, _⟩ := h
  obtain ⟨a, b, _⟩ := (over_num hq hx).1 h2
  rw [ltP_num hq hx]
  refine .inr ⟨a, ?_⟩
  rcases Nat.lt_or_ge q.v x.v with h | h
  · exact .inl h
  · exact .inr ⟨by omega, h1⟩
theorem under_two {q x y : PV} (hq : q.Ok) (hx : x.Ok) (hy : y.Ok) (h : Under q true x) (h' : Under q false y) : ltP x y := by
  obtain ⟨a1, a2, a3⟩ := h
  obtain ⟨b1, b2, b3⟩ := h'
  obtain ⟨s1, l1, u1⟩ := (over_num hq hx).1 a2
  obtain ⟨s2, l2, u2⟩ := (over_num hq hy).1 b2
  obtain ⟨k1, k2⟩ := PV.k_le hq
  obtain ⟨x1, x2⟩ := PV.k_le hx
  obtain ⟨y1, y2⟩ := PV.k_le hy
  have hk0 : 0 < q.k := by rw [s1] at k2; omega
  obtain ⟨m, hm⟩ : ∃ m, q.k = m + 1 := ⟨q.k - 1, by omega⟩
  have hd := PV.dvd hq
  rw [hm] at hd u1 u2
  obtain ⟨c, hc⟩ := hd
  have hqn : q.n = ((widN q.six - 1 - m : Nat) : Int) := by omega
  have hlt : widN q.six - 1 - m < widN q.six := by omega
  have ex := AV.bitN hx.addr (i := widN q.six - 1 - m) (by show _ < widN x.six; rw [← s1]; exact hlt)
  have ey := AV.bitN hy.addr (i := widN q.six - 1 - m) (by show _ < widN y.six; rw [← s2]; exact hlt)
  have bx : PV.bit x q.n = 0 := a3.2 rfl
  have by' : ¬ PV.bit y q.n = 0 := fun e => by cases b3.1 e
  have ex' : PV.bit x q.n = ((x.v / 2 ^ (widN x.six - 1 - (widN q.six - 1 - m)) % 2 : Nat) : Int) := by rw [hqn]; exact ex
  have ey' : PV.bit y q.n = ((y.v / 2 ^ (widN y.six - 1 - (widN q.six - 1 - m)) % 2 : Nat) : Int) := by rw [hqn]; exact ey
  rw [← s1, show widN q.six - 1 - (widN q.six - 1 - m) = m by omega] at ex'
  rw [← s2, show widN q.six - 1 - (widN q.six - 1 - m) = m by omega] at ey'
  rw [ex'] at bx
  rw [ey'] at by'
  have hpx := Nat.two_pow_pos x.k
  have hpy := Nat.two_pow_pos y.k
  have hpm := Nat.two_pow_pos m
  have e2 : 2 ^ (m + 1) = 2 ^ m + 2 ^ m := by rw [Nat.pow_succ]; omega
  rw [e2] at hc u1 u2
  rw [ltP_num hx hy]
  refine .inr ⟨s1.symm.trans s2, .inl ?_⟩
  apply Classical.byContradiction
  intro hge
  -- both in the same half
  have dx : x.v / 2 ^ m = 2 * c ∨ x.v / 2 ^ m = 2 * c + 1 := by
    have h1 : x.v / 2 ^ m * 2 ^ m ≤ x.v := Nat.div_mul_le_self _ _
    have h2 : x.v < (x.v / 2 ^ m + 1) * 2 ^ m := by rw [Nat.mul_comm]; exact Nat.lt_mul_div_succ _ hpm
    have hcv : q.v = 2 * c * 2 ^ m := by rw [hc, Nat.add_mul, Nat.mul_comm 2 c, Nat.mul_assoc, Nat.two_mul, Nat.mul_add, Nat.mul_comm c]
    have h3 : 2 * c * 2 ^ m < (x.v / 2 ^ m + 1) * 2 ^ m := by omega
    have h4 : x.v / 2 ^ m * 2 ^ m < (2 * c + 2) * 2 ^ m := by rw [Nat.add_mul]; omega
    have h5 := Nat.lt_of_mul_lt_mul_right h3
    have h6 := Nat.lt_of_mul_lt_mul_right h4
    omega
  have dy : y.v / 2 ^ m = 2 * c ∨ y.v / 2 ^ m = 2 * c + 1 := by
    have h1 : y.v / 2 ^ m * 2 ^ m ≤ y.v := Nat.div_mul_le_self _ _
    have h2 : y.v < (y.v / 2 ^ m + 1) * 2 ^ m := by rw [Nat.mul_comm]; exact Nat.lt_mul_div_succ _ hpm
    have hcv : q.v = 2 * c * 2 ^ m := by rw [hc, Nat.add_mul, Nat.mul_comm 2 c, Nat.mul_assoc, Nat.two_mul, Nat.mul_add, Nat.mul_comm c]
    have h3 : 2 * c * 2 ^ m < (y.v / 2 ^ m + 1) * 2 ^ m := by omega
    have h4 : y.v / 2 ^ m * 2 ^ m < (2 * c + 2) * 2 ^ m := by rw [Nat.add_mul]; omega
    have h5 := Nat.lt_of_mul_lt_mul_right h3
    have h6 := Nat.lt_of_mul_lt_mul_right h4
    omega
  have hle : y.v / 2 ^ m ≤ x.v / 2 ^ m := Nat.div_le_div_right (by omega)
  omega

/-- All routes of a tree keep what its places keep. -/
theorem routes_all {six : Bool} : ∀ (t : Tr) (U : PV → Prop), (∀ x y b, x.Ok → y.Ok → U x → Under x b y → U y) → Inv six U t → ∀ r ∈ routesT t, r.p.Ok ∧ r.p.six = six ∧ U r.p ∧ 1 ≤ r.hop ∧ r.hop ≤ 999 := by
  intro t
  induction t with
  | nil => intro U _ _ r hr; simp [routesT] at hr
  | node g q h l r ihl ihr =>
    intro U hc hi x hx
    obtain ⟨hq, h6, hU, hh, hl, hr⟩ := hi
    have cl : ∀ b, ∀ x y b', x.Ok → y.Ok → Under q b x → Under x b' y → Under q b y := by
      intro b x y b' hx hy hU hV
      refine ⟨by have := hU.1; have := hV.1; omega, over_trans hq hx hy hU.2.1 hV.2.1, ?_⟩
      rw [← over_bit hx hy hV.2.1 (ok_n hq).1 hU.1]
      exact hU.2.2
    unfold routesT at hx
    rcases List.mem_append.1 hx with hx | hx
    · by_cases h0 : h = 0
      · rw [if_pos h0] at hx; cases hx
      · rw [if_neg h0, List.mem_singleton] at hx
        subst hx
        exact ⟨hq, h6, hU, by show 1 ≤ h; omega, hh.2⟩
    · rcases List.mem_append.1 hx with hx | hx
      · obtain ⟨a, b, c, d⟩ := ihl _ (cl true) hl x hx
        exact ⟨a, b, hc q x.p true hq a hU c, d⟩
      · obtain ⟨a, b, c, d⟩ := ihr _ (cl false) hr x hx
        exact ⟨a, b, hc q x.p false hq a hU c, d⟩
theorem under_closed {q : PV} (hq : q.Ok) (b : Bool) : ∀ x y b', x.Ok → y.Ok → Under q b x → Under x b' y → Under q b y := by
  intro x y b' hx hy hU hV
  refine ⟨by have := hU.1; have := hV.1; omega, over_trans hq hx hy hU.2.1 hV.2.1, ?_⟩
  rw [← over_bit hx hy hV.2.1 (ok_n hq).1 hU.1]
  exact hU.2.2
theorem routes_sorted {six : Bool} : ∀ (t : Tr) (U : PV → Prop), Inv six U t → (routesT t).Pairwise fun x y => ltP x.p y.p := by
  intro t
  induction t with
  | nil => intro U _; exact List.Pairwise.nil
  | node g q h l r ihl ihr =>
    intro U hi
    obtain ⟨hq, h6, hU, hh, hl, hr⟩ := hi
    have al := routes_all l _ (under_closed hq true) hl
    have ar := routes_all r _ (under_closed hq false) hr
    unfold routesT
    rw [List.pairwise_append]
    refine ⟨?_, ?_, ?_⟩
    · by_cases h0 : h = 0
      · rw [if_pos h0]; exact List.Pairwise.nil
      · rw [if_neg h0]; exact List.pairwise_singleton _ _
    · rw [List.pairwise_append]
      exact ⟨ihl _ hl, ihr _ hr, fun x hx y hy => under_two hq (al x hx).1 (ar y hy).1 (al x hx).2.2.1 (ar y hy).2.2.1⟩
    · intro x hx y hy
      by_cases h0 : h = 0
      · rw [if_pos h0] at hx; cases hx
      · rw [if_neg h0, List.mem_singleton] at hx
        subst hx
        rcases List.mem_append.1 hy with hy | hy
        · exact under_lt hq (al y hy).1 (al y hy).2.2.1
        · exact under_lt hq (ar y hy).1 (ar y hy).2.2.1
/-- They are those that are there. -/
theorem routes_mem {six : Bool} : ∀ (t : Tr) (U : PV → Prop), Inv six U t → ∀ x : RouteV, x.p.Ok → (x ∈ routesT t ↔ ¬ x.hop = 0 ∧ hopAt t x.p = x.hop) := by
  intro t
  induction t with
  | nil =>
    intro U _ x _
    constructor
    · intro h; simp [routesT] at h
    · rintro ⟨h1, h2⟩; exact absurd h2.symm h1
  | node g q h l r ihl ihr =>
    intro U hi x hx
    obtain ⟨hq, h6, hU, hh, hl, hr⟩ := hi
    have al := routes_all l _ (under_closed hq true) hl
    have ar := routes_all r _ (under_closed hq false) hr
    have il := ihl _ hl x hx
    have ir := ihr _ hr x hx
    unfold routesT
    rw [List.mem_append, List.mem_append]
    show _ ↔ ¬ x.hop = 0 ∧ (if q = x.p then h else if q.over x.p = false then 0 else if x.p.bit q.n = 0 then hopAt l x.p else hopAt r x.p) = x.hop
    constructor
    · rintro (h1 | h1 | h1)
      · by_cases h0 : h = 0
        · rw [if_pos h0] at h1; cases h1
        · rw [if_neg h0, List.mem_singleton] at h1
          subst h1
          exact ⟨h0, by rw [if_pos rfl]⟩
      · obtain ⟨_, _, ⟨u1, u2, u3⟩, _⟩ := al x h1
        obtain ⟨e1, e2⟩ := il.1 h1
        refine ⟨e1, ?_⟩
        rw [if_neg (fun e => by rw [e] at u1; omega), if_neg (by rw [u2]; simp), if_pos (u3.2 rfl)]
        exact e2
      · obtain ⟨_, _, ⟨u1, u2, u3⟩, _⟩ := ar x h1
        obtain ⟨e1, e2⟩ := ir.1 h1
        refine ⟨e1, ?_⟩
        rw [if_neg (fun e => by rw [e] at u1; omega), if_neg (by rw [u2]; simp), if_neg (fun e => by cases u3.1 e)]
        exact e2
    · rintro ⟨e1, e2⟩
      by_cases hqx : q = x.p
      · rw [if_pos hqx] at e2
        left
        rw [if_neg (by rw [e2]; exact e1), List.mem_singleton]
        obtain ⟨p, hop⟩ := x
        simp only at hqx e2
        rw [hqx, e2]
      · rw [if_neg hqx] at e2
        right
        by_cases ho : q.over x.p = false
        · rw [if_pos ho] at e2; exact absurd e2.symm e1
        · rw [if_neg ho] at e2
          by_cases hb : x.p.bit q.n = 0
          · rw [if_pos hb] at e2; exact .inl (il.2 ⟨e1, e2⟩)
          · rw [if_neg hb] at e2; exact .inr (ir.2 ⟨e1, e2⟩)

/-- Two lists sorted without two alike, with the same things. -/
theorem sorted_unique {l m : List RouteV} (hl : l.Pairwise fun x y => ltP x.p y.p) (hm : m.Pairwise fun x y => ltP x.p y.p) (ol : ∀ r ∈ l, r.p.Ok) (he : ∀ r, r ∈ l ↔ r ∈ m) : l = m := by
  induction l generalizing m with
  | nil =>
    cases m with
    | nil => rfl
    | cons y m => exact absurd ((he y).2 (by simp)) (by simp)
  | cons x l ih =>
    cases m with
    | nil => exact absurd ((he x).1 (by simp)) (by simp)
    | cons y m =>
      rw [List.pairwise_cons] at hl hm
      have hx := ol x (by simp)
      have hy := ol y ((he y).2 (by simp))
      have hxy : x = y := by
        rcases List.mem_cons.1 ((he x).1 (by simp)) with h | h
        · exact h
        · rcases List.mem_cons.1 ((he y).2 (by simp)) with h' | h'
          · exact h'.symm
          · exact absurd (hl.1 y h') (ltP_asymm hy hx (hm.1 x h))
      subst hxy
      congr 1
      refine ih hl.2 hm.2 (fun r hr => ol r (by simp [hr])) fun r => ?_
      constructor
      · intro hr
        rcases List.mem_cons.1 ((he r).1 (by simp [hr])) with h | h
        · subst h; exact absurd (hl.1 r hr) (ltP_irrefl hx)
        · exact h
      · intro hr
        rcases List.mem_cons.1 ((he r).2 (by simp [hr])) with h | h
        · subst h; exact absurd (hm.1 r hr) (ltP_irrefl hx)
        · exact h
/-- The routes of both trees. -/
def routesR (R : Bool → Tr) : List RouteV := routesT (R false) ++ routesT (R true)
theorem routesR_sorted {R : Bool → Tr} (hI : ∀ s, Inv s (fun _ => True) (R s)) : (routesR R).Pairwise fun x y => ltP x.p y.p := by
  unfold routesR
  rw [List.pairwise_append]
  have c0 : ∀ x y b, x.Ok → y.Ok → (fun _ : PV => True) x → Under x b y → (fun _ : PV => True) y := fun _ _ _ _ _ _ _ => trivial
  refine ⟨routes_sorted _ _ (hI false), routes_sorted _ _ (hI true), fun x hx y hy => .inl (lessB_six (routes_all _ _ c0 (hI false) x hx).2.1 (routes_all _ _ c0 (hI true) y hy).2.1)⟩
theorem routesR_mem {R : Bool → Tr} (hI : ∀ s, Inv s (fun _ => True) (R s)) {l : List RouteV} (hv : Valid l) (hm : ∀ p : PV, p.Ok → hopAt (R p.six) p = getR l p) (x : RouteV) : x ∈ routesR R ↔ x ∈ l := by
  have c0 : ∀ x y b, x.Ok → y.Ok → (fun _ : PV => True) x → Under x b y → (fun _ : PV => True) y := fun _ _ _ _ _ _ _ => trivial
  have key : ∀ s, x ∈ routesT (R s) → x ∈ l := by
    intro s hx
    obtain ⟨ok, h6, _, _⟩ := routes_all _ _ c0 (hI s) x hx
    obtain ⟨h1, h2⟩ := (routes_mem _ _ (hI s) x ok).1 hx
    subst h6
    rw [hm x.p ok] at h2
    obtain ⟨y, hy, e⟩ := getR_ne (l := l) (p := x.p) (by rw [h2]; exact h1)
    have := getR_mem hv y hy
    rw [e, h2] at this
    have : x = y := by
      obtain ⟨p, hop⟩ := x
      obtain ⟨p', hop'⟩ := y
      simp only at e this
      rw [e, this]
    rw [this]; exact hy
  unfold routesR
  constructor
  · intro hx
    rcases List.mem_append.1 hx with hx | hx
    · exact key _ hx
    · exact key _ hx
  · intro hx
    obtain ⟨ok, h1, h2⟩ := hv.1 x hx
    have hin : x ∈ routesT (R x.p.six) := (routes_mem _ _ (hI _) x ok).2 ⟨by omega, by rw [hm x.p ok, getR_mem hv x hx]⟩
    rw [List.mem_append]
    cases e : x.p.six with
    | false => rw [e] at hin; exact .inl hin
    | true => rw [e] at hin; exact .inr hin

end Go.Proofs.Ytmljdjakbbedlaa

namespace Go.Proofs.Ytmljdjakbbedlaa
open Go.ChangeShapes Go.WideShapes Go.ChangeAt Go.RowKit
open Go.Sort (swp size_swp PermIn SortedIn SWO putRowK HoldsK)

/-- Routes whose prefixes may be. -/
abbrev OkR := {r : RouteV // r.p.Ok}
theorem zero_pv : (⟨false, 0, 0, 0⟩ : PV).Ok := ⟨by simp, by simp, by decide, by simp [wideI], by decide⟩
instance : Inhabited OkR := ⟨⟨⟨⟨false, 0, 0, 0⟩, 0⟩, zero_pv⟩⟩
def encR (r : OkR) : List Value := r.1.cells
theorem encR_length (r : OkR) : (encR r).length = 5 := rfl
def ltR (x y : OkR) : Bool := lessB x.1.p.a y.1.p.a || (decide (x.1.p.a = y.1.p.a) && decide (x.1.p.n < y.1.p.n))
theorem ltR_iff (x y : OkR) : ltR x y = true ↔ ltP x.1.p y.1.p := by
  unfold ltR ltP
  simp
theorem swo_ltR : SWO ltR where
  irrefl x := by
    rw [Bool.eq_false_iff, ne_eq, ltR_iff]
    exact ltP_irrefl x.2
  trans x y z h1 h2 := by
    rw [ltR_iff] at *
    exact ltP_trans x.2 y.2 z.2 h1 h2
  ntrans x y z h1 h2 := by
    rw [Bool.eq_false_iff, ne_eq, ltR_iff] at *
    intro h
    by_cases hyx : ltP y.1.p x.1.p
    · exact h2 (ltP_trans y.2 x.2 z.2 hyx h)
    · have e := ltP_total x.2 y.2 h1 hyx
      rw [e] at h
      exact h2 h

set_option maxHeartbeats 2000000 in
set_option maxRecDepth 100000 in
theorem sortLess_any (W : World) (blk n c bx : Nat) (dk : Array OkR) (hH : HoldsK encR 5 W blk 0 dk) (hblk : blk < W.heap.size) (hbx : bx < W.heap.size) (hs : dk.size = n) (_hn : n < 4611686018427387904) (_hcap : n ≤ c ∧ c ≤ maxLen) (i j : Nat) (hi : i < n) (hj : j < n)
    (hc : W.cell? ⟨bx, 0, none⟩ = some (.slice (some ⟨blk, 0, none⟩) n c)) :
    Calls Try.prog 140 #[.int .i64 i, .int .i64 j, .pointer (some ⟨bx, 0, none⟩)] W fun e w' => e = .returned (.bool (ltR dk[i]! dk[j]!)) ∧ Below W.heap.size W w' := by
  have hcell : ∀ (x : Nat), x < n → ∀ t, t < 5 → W.cell? ⟨blk, x * 5 + t, none⟩ = some (encR dk[x]!)[t]! := by
    intro x hx t ht
    have := (hH.cell (i := x) (c := t) (by omega) ht).1
    rw [Nat.zero_add] at this
    exact this
  generalize hx : dk[i]! = x at *
  generalize hy : dk[j]! = y at *
  have hxc := hcell i hi
  have hyc := hcell j hj
  rw [hx] at hxc
  rw [hy] at hyc
  clear hcell hx hy hH
  obtain ⟨⟨⟨s1, h1, l1, n1⟩, p1⟩, ok1⟩ := x
  obtain ⟨⟨⟨s2, h2, l2, n2⟩, p2⟩, ok2⟩ := y
  have x0 : W.cell? ⟨blk, i * 5, none⟩ = some (.bool s1) := hxc 0 (by omega)
  have x1 : W.cell? ⟨blk, i * 5 + 1, none⟩ = some (.int .u64 h1) := hxc 1 (by omega)
  have x2 : W.cell? ⟨blk, i * 5 + 2, none⟩ = some (.int .u64 l1) := hxc 2 (by omega)
  have x3 : W.cell? ⟨blk, i * 5 + 3, none⟩ = some (.int .i64 n1) := hxc 3 (by omega)
  have y0 : W.cell? ⟨blk, j * 5, none⟩ = some (.bool s2) := hyc 0 (by omega)
  have y1 : W.cell? ⟨blk, j * 5 + 1, none⟩ = some (.int .u64 h2) := hyc 1 (by omega)
  have y2 : W.cell? ⟨blk, j * 5 + 2, none⟩ = some (.int .u64 l2) := hyc 2 (by omega)
  have y3 : W.cell? ⟨blk, j * 5 + 3, none⟩ = some (.int .i64 n2) := hyc 3 (by omega)
  clear hxc hyc
  obtain ⟨res, hres⟩ : ∃ res, res = ltR ⟨⟨⟨s1, h1, l1, n1⟩, p1⟩, ok1⟩ ⟨⟨⟨s2, h2, l2, n2⟩, p2⟩, ok2⟩ := ⟨_, rfl⟩
  rw [← hres]
  obtain ⟨lv, hlv⟩ : ∃ lv, lv = lessB ⟨s1, h1, l1⟩ ⟨s2, h2, l2⟩ := ⟨_, rfl⟩
  have CL0 := fun (X : World) => refLess_any s1 h1 l1 s2 h2 l2 X ⟨ok1.rhi, ok1.rlo, ok1.may⟩ ⟨ok2.rhi, ok2.rlo, ok2.may⟩
  rw [← hlv] at CL0
  have CL := Lib.hid CL0
  clear CL0
  have hres' : res = (lv || (s1 == s2 && (h1 == h2 && l1 == l2) && decide (n1 < n2))) := by
    rw [hres, hlv]
    unfold ltR
    congr 2
    rw [Bool.eq_iff_iff]
    simp [PV.a]
  have HR := Lib.hid hres'
  clear hres hres' hlv
  have i1 : (0 : Int) ≤ (i : Int) := by omega
  have i2 : (i : Int) < (n : Int) := by omega
  have j1 : (0 : Int) ≤ (j : Int) := by omega
  have j2 : (j : Int) < (n : Int) := by omega
  obtain ⟨w7, hw7⟩ : ∃ w7 : World, w7 = (W.alloc (.cells #[.bool s1, .int .u64 h1, .int .u64 l1, .int .i64 n1] 42)).alloc (.cells #[.bool s2, .int .u64 h2, .int .u64 l2, .int .i64 n2] 42) := ⟨_, rfl⟩
  have kp : Blk w7 W.heap.size 42 #[.bool s1, .int .u64 h1, .int .u64 l1, .int .i64 n1] := by rw [hw7]; exact (Blk.new W _ _).alloc _
  have kq : Blk w7 (W.heap.size + 1) 42 #[.bool s2, .int .u64 h2, .int .u64 l2, .int .i64 n2] := by rw [hw7]; have := Blk.new (W.alloc (.cells #[.bool s1, .int .u64 h1, .int .u64 l1, .int .i64 n1] 42)) 42 #[.bool s2, .int .u64 h2, .int .u64 l2, .int .i64 n2]; simpa using this
  have HB7 : Hid (Below W.heap.size W w7) := by show Below _ _ _; rw [hw7]; exact ((Below.refl _ _).alloc (Nat.le_refl _) _).alloc (by simp) _
  have u0 : w7.cell? ⟨W.heap.size, 0, none⟩ = some (.bool s1) := kp.cell 0
  have u1 : w7.cell? ⟨W.heap.size, 1, none⟩ = some (.int .u64 h1) := kp.cell 1
  have u2 : w7.cell? ⟨W.heap.size, 2, none⟩ = some (.int .u64 l1) := kp.cell 2
  have u3 : w7.cell? ⟨W.heap.size, 3, none⟩ = some (.int .i64 n1) := kp.cell 3
  have v0 : w7.cell? ⟨W.heap.size + 1, 0, none⟩ = some (.bool s2) := kq.cell 0
  have v1 : w7.cell? ⟨W.heap.size + 1, 1, none⟩ = some (.int .u64 h2) := kq.cell 1
  have v2 : w7.cell? ⟨W.heap.size + 1, 2, none⟩ = some (.int .u64 l2) := kq.cell 2
  have v3 : w7.cell? ⟨W.heap.size + 1, 3, none⟩ = some (.int .i64 n2) := kq.cell 3
  have l7a := kp.lt
  have l7b := kq.lt
  have HW7 := Lib.hid hw7
  clear hw7 kp kq
  have q := fun w => eqAV 9998 s1 h1 l1 s2 h2 l2 w
  go_enter Try.func140, Try.ntmps140
  go_upto_region 3 with fail
  rw [← HW7.out]
  cases lv with
  | true =>
    have HRES : Hid (true = res) := by show _ = _; rw [HR.out]; rfl
    clear HR
    go_wp2_with (go_at_call 79; (with_reducible refine (CL.out _).mono ?_); rintro e w8 ⟨rfl, hb8⟩; obtain ⟨fc8, ff8⟩ := bcell hb8; have hz8 := hb8.size; have HB8 := Lib.hid hb8; clear hb8)
    go_ret
    exact ⟨ret_bool (by first | rfl | exact HRES.out), HB7.out.trans (HB8.out.mono HB7.out.size)⟩
  | false =>
    cases hv : (s1 == s2 && (h1 == h2 && l1 == l2)) with
    | true =>
      have HRES : Hid (decide (n1 < n2) = res) := by show _ = _; rw [HR.out, hv]; simp
      rw [hv] at q
      clear HR hv
      go_wp2_with (go_at_call 79; (with_reducible refine (CL.out _).mono ?_); rintro e w8 ⟨rfl, hb8⟩; obtain ⟨fc8, ff8⟩ := bcell hb8; have hz8 := hb8.size; have HB8 := Lib.hid hb8; clear hb8)
      go_ret
      exact ⟨ret_bool (by first | rfl | exact HRES.out), HB7.out.trans (HB8.out.mono HB7.out.size)⟩
    | false =>
      have HRES : Hid (false = res) := by show _ = _; rw [HR.out, hv]; rfl
      rw [hv] at q
      clear HR hv
      go_wp2_with (go_at_call 79; (with_reducible refine (CL.out _).mono ?_); rintro e w8 ⟨rfl, hb8⟩; obtain ⟨fc8, ff8⟩ := bcell hb8; have hz8 := hb8.size; have HB8 := Lib.hid hb8; clear hb8)
      go_ret
      exact ⟨ret_bool (by first | rfl | exact HRES.out), HB7.out.trans (HB8.out.mono HB7.out.size)⟩

end Go.Proofs.Ytmljdjakbbedlaa

namespace Go.Proofs.Ytmljdjakbbedlaa
open Go.ChangeShapes Go.WideShapes Go.ChangeAt Go.RowKit
open Go.Sort (swp size_swp PermIn SortedIn SWO putRowK HoldsK insOuter insInner)

variable {α : Type} [Inhabited α] {enc : α → List Value} {k blk off : Nat} {lt : α → α → Bool} {g : Nat} {lb : Array Value} {sf : Nat} {sb : Array Value} {n : Nat} {w : World} {d : Array α}

set_option maxHeartbeats 1000000 in
set_option maxRecDepth 100000 in
theorem insertionSort_g (S : Srt Try.prog enc k blk off lt g lb sf sb n w d) (a b : Nat) (hab : a ≤ b) (hb : b ≤ n) :
    Calls Try.prog 199 #[.agg #[.func (.func g) #[] lb, .func (.func sf) #[] sb], .int .i64 a, .int .i64 b] w fun e w' =>
      e = .returned (.tuple #[]) ∧ RowIn enc k blk off w (Go.Sort.insertionSort lt d a b) w' := by
  have S1 := S.box (.cells #[.func (.func g) #[] lb, .func (.func sf) #[] sb] 283)
  have eg := S.eg
  have hblk := S.lt'
  have hn := S.small
  have hsd := S.sz
  go_enter Try.func199, Try.ntmps199
  go_wp2
  go_loopw [6] (fun vi wr => ∃ (i : Nat) (dk : Array α), vi = .int .i64 i ∧ a < i ∧ i ≤ b + 1 ∧ dk.size = n ∧ RowIn enc k blk off (w.alloc (.cells #[.func (.func g) #[] lb, .func (.func sf) #[] sb] 283)) dk wr ∧
      Hid (insOuter lt a b i dk = insOuter lt a b (a + 1) d)) (fun vi _ => b + 1 - (intOf vi).toNat)
  case atStart => exact ⟨a + 1, d, by go_num, by omega, by omega, hsd, S1.start, rfl⟩
  case round =>
    obtain ⟨i, dk, rfl, hai, hib, hsk, hR, HO⟩ := hrel
    by_cases hlt : i < b
    · go_wp2
      obtain ⟨wo, rfl⟩ : ∃ wo : World, wo = wr := ⟨_, rfl⟩
      go_loopw [7] (fun vj wr2 => ∃ (j : Nat) (dj : Array α), vj = .int .i64 j ∧ a ≤ j ∧ j ≤ i ∧ dj.size = n ∧ RowIn enc k blk off (w.alloc (.cells #[.func (.func g) #[] lb, .func (.func sf) #[] sb] 283)) dj wr2 ∧
          Hid (insInner lt a j dj = insInner lt a i dk)) (fun vj _ => (intOf vj).toNat)
      case atStart => exact ⟨i, dk, rfl, by omega, Nat.le_refl _, hsk, hR, rfl⟩
      case round =>
        obtain ⟨j, dj, rfl, haj, hji, hsj, hR2, HI⟩ := hrel
        have out : ∀ w', RowIn enc k blk off (w.alloc (.cells #[.func (.func g) #[] lb, .func (.func sf) #[] sb] 283)) dj w' → (j ≤ a ∨ lt dj[j]! dj[j - 1]! = false) → ∃ (i' : Nat) (dk' : Array α), Value.int .i64 ((i : Int) + 1) = .int .i64 i' ∧ a < i' ∧ i' ≤ b + 1 ∧ dk'.size = n ∧ RowIn enc k blk off (w.alloc (.cells #[.func (.func g) #[] lb, .func (.func sf) #[] sb] 283)) dk' w' ∧
            Hid (insOuter lt a b i' dk' = insOuter lt a b (a + 1) d) := fun w' hw hs => ⟨i + 1, dj, by go_num, by omega, by omega, hsj, hw, by
              show _ = _
              rw [← HO.out, insOuter_go _ _ _ _ _ hlt, ← HI.out, insInner_stop _ _ _ _ hs]⟩
        have OUT := Lib.hid out
        clear out hR
        by_cases hja : a < j
        · have hl := S1.lessAt hR2 hsj j (j - 1) ((j : Int)) ((j : Int) - 1) rfl (by omega) (by omega) (by omega)
          obtain ⟨c0, _⟩ := hR2.boxed hblk
          cases hlv : lt dj[j]! dj[j - 1]! with
          | true =>
            rw [hlv] at hl
            go_wp2_with (go_at_fn g; refine hl.mono ?_; rintro e w2 ⟨rfl, hb2⟩; have hR3 := hR2.step hb2; obtain ⟨_, c1'⟩ := hR3.boxed hblk; obtain ⟨w4, hrun, hR4⟩ := S1.swapAt hR3 hsj j (j - 1) ((j : Int)) ((j : Int) - 1) rfl (by omega) (by omega) (by omega); clear hb2)
            go_roundw
            case rel => exact ⟨j - 1, swp dj j (j - 1), by go_num, by omega, by omega, by rw [size_swp]; exact hsj, hR4, by show _ = _; rw [← HI.out, insInner_go lt a j dj hja hlv]⟩
            case measure => simp [intOf]; omega
          | false =>
            rw [hlv] at hl
            go_wp2_with (go_at_fn g; refine hl.mono ?_; rintro e w2 ⟨rfl, hb2⟩)
            have hR3 := hR2.step hb2
            clear hb2
            go_roundw
            case rel => exact OUT.out _ hR3 (Or.inr hlv)
            case measure => simp [intOf]; omega
        · go_wp2
          go_roundw
          case rel => exact OUT.out _ hR2 (Or.inl (by omega))
          case measure => simp [intOf]; omega
    · go_wp2
      go_end0
      refine ⟨rfl, ?_⟩
      unfold Go.Sort.insertionSort
      rw [← HO.out, insOuter_stop _ _ _ _ _ hlt]
      exact hR.box hblk

end Go.Proofs.Ytmljdjakbbedlaa

namespace Go.Proofs.Ytmljdjakbbedlaa
open Go.ChangeShapes Go.WideShapes Go.ChangeAt Go.RowKit
open Go.Sort (swp size_swp PermIn SortedIn SWO putRowK HoldsK)

/-- All blocks but one are as they were. -/
structure ButC (cb : Nat) (W W' : World) : Prop where
  os : W'.os = W.os
  tape : W'.tape = W.tape
  output : W'.output = W.output
  size : W.heap.size ≤ W'.heap.size
  block : ∀ b, b < W.heap.size → b ≠ cb → W'.heap[b]? = W.heap[b]?
theorem ButC.refl (cb : Nat) (W : World) : ButC cb W W := ⟨rfl, rfl, rfl, Nat.le_refl _, fun _ _ _ => rfl⟩
theorem ButC.trans {cb : Nat} {a b c : World} (h : ButC cb a b) (h' : ButC cb b c) : ButC cb a c :=
  ⟨h'.os.trans h.os, h'.tape.trans h.tape, h'.output.trans h.output, Nat.le_trans h.size h'.size, fun x hx hn => (h'.block x (Nat.lt_of_lt_of_le hx h.size) hn).trans (h.block x hx hn)⟩
theorem ButC.of {cb : Nat} {a b : World} (h : Below a.heap.size a b) : ButC cb a b := ⟨h.os, h.tape, h.output, h.size, fun x hx _ => h.block x hx⟩
theorem ButC.set {cb : Nat} {a b : World} (h : ButC cb a b) (o : Nat) (u : Value) : ButC cb a (b.setCell ⟨cb, o, none⟩ u) :=
  ⟨h.os, h.tape, h.output, by simp; exact h.size, fun x hx hn => (Below.heap_setCell _ _ _ _ hn).trans (h.block x hx hn)⟩
theorem ButC.cell {cb : Nat} {a b : World} (h : ButC cb a b) {x o : Nat} (hx : x < a.heap.size) (hn : x ≠ cb) : b.cell? ⟨x, o, none⟩ = a.cell? ⟨x, o, none⟩ := World.cell?_of_block (w := a) (h.block x hx hn)
theorem ButC.box {cb : Nat} {a b : World} {o : Obj} (h : ButC cb (a.alloc o) b) : ButC cb a b := (ButC.of ((Below.refl _ _).alloc (Nat.le_refl _) _)).trans h
theorem ButC.below {cb B : Nat} {a b : World} (h : ButC cb a b) (hB : B ≤ cb) (hs : B ≤ a.heap.size) : Below B a b :=
  ⟨h.os, h.tape, h.output, h.size, fun x hx => h.block x (by omega) (by omega)⟩

/-- A counter in a block of its own. -/
structure Cnt (cb : Nat) (W : World) (s : Nat) : Prop where
  cell : W.cell? ⟨cb, 0, none⟩ = some (.int .i64 s)
  free : W.frozen? ⟨cb, 0, none⟩ = false
  lt : cb < W.heap.size
theorem Cnt.step {cb s : Nat} {W W' : World} (h : Cnt cb W s) (hb : Below W.heap.size W W') : Cnt cb W' s :=
  ⟨(hb.cell (p := ⟨cb, 0, none⟩) h.lt).trans h.cell, (hb.frozen (p := ⟨cb, 0, none⟩) h.lt).trans h.free, Nat.lt_of_lt_of_le h.lt hb.size⟩
theorem Cnt.alloc {cb s : Nat} {W : World} (h : Cnt cb W s) (o : Obj) : Cnt cb (W.alloc o) s := h.step ((Below.refl _ _).alloc (Nat.le_refl _) _)
theorem Cnt.set {cb s : Nat} {W : World} (h : Cnt cb W s) (t : Nat) (x : Int) (hx : x = t) : Cnt cb (W.setCell ⟨cb, 0, none⟩ (.int .i64 x)) t := by
  subst hx
  obtain ⟨cs, e, fr, hh, hc⟩ : ∃ cs e fr, W.heap[cb]? = some (.cells cs e fr) ∧ cs[0]? = some (.int .i64 s) := by
    have := h.cell
    unfold World.cell? at this
    split at this
    · rename_i cs e fr hh
      exact ⟨cs, e, fr, hh, this⟩
    · cases this
  have e2 : (W.setCell ⟨cb, 0, none⟩ (.int .i64 t)).heap[cb]? = some (.cells (cs.setIfInBounds 0 (.int .i64 t)) e fr) := by
    simp only [World.setCell, Array.getElem?_modify, hh, if_true, Option.map_some]
    rfl
  refine ⟨?_, ?_, by simp; exact h.lt⟩
  · unfold World.cell?
    simp only [e2]
    have : 0 < cs.size := by
      rcases Nat.eq_zero_or_pos cs.size with h0 | h0
      · rw [Array.getElem?_eq_none (by omega)] at hc; cases hc
      · exact h0
    simp [this]
  · have hf := h.free
    unfold World.frozen? at hf ⊢
    simp only [hh] at hf
    simp only [e2]
    exact hf

variable {α : Type} [Inhabited α] {enc : α → List Value} {k blk off : Nat} {lt : α → α → Bool} {g : Nat} {lb : Array Value} {sf : Nat} {sb : Array Value} {n : Nat} {w0 W W' : World} {d : Array α}

theorem RowIn.but {cb : Nat} (h : RowIn enc k blk off w0 d W) (hb : ButC cb W W') (hcb : w0.heap.size ≤ cb) : RowIn enc k blk off w0 d W' := by
  have hlt := h.lt
  have hsz := h.size
  have hb2 := hb.below (B := w0.heap.size) hcb hsz
  exact ⟨h.below.trans hb2, fun j hj => ⟨(hb2.cell (p := ⟨blk, off + j, none⟩) hlt).trans (h.holds j hj).1, (hb2.frozen (p := ⟨blk, off + j, none⟩) hlt).trans (h.holds j hj).2⟩, hlt⟩

def TwoOf (a b s cb : Nat) (W : World) (e : Ending) (w' : World) : Prop :=
  ∃ x y s' : Nat, e = .returned (.tuple #[.int .i64 x, .int .i64 y]) ∧ (x = a ∧ y = b ∨ x = b ∧ y = a) ∧ s' ≤ s + 1 ∧ Cnt cb w' s' ∧ ButC cb W w'
def OneOf (p : Nat → Prop) (s cb : Nat) (W : World) (e : Ending) (w' : World) : Prop :=
  ∃ x s' : Nat, e = .returned (.int .i64 x) ∧ p x ∧ s' ≤ s ∧ Cnt cb w' s' ∧ ButC cb W w'

set_option maxHeartbeats 1000000 in
set_option maxRecDepth 100000 in
theorem order2_g (S : Srt Try.prog enc k blk off lt g lb sf sb n w0 d) (hR : RowIn enc k blk off w0 d W) (a b : Nat) (ha : a < n) (hb : b < n) (cb s : Nat) (_hcb : w0.heap.size ≤ cb) (hs : s < 1000) (hC : Cnt cb W s) :
    Calls Try.prog 232 #[.agg #[.func (.func g) #[] lb, .func (.func sf) #[] sb], .int .i64 a, .int .i64 b, .pointer (some ⟨cb, 0, none⟩)] W (TwoOf a b s cb W) := by
  have eg := S.eg
  have hn := S.small
  have hR1 := hR.step ((Below.refl _ _).alloc (Nat.le_refl _) (.cells #[.func (.func g) #[] lb, .func (.func sf) #[] sb] 283))
  have hC1 := hC.alloc (.cells #[.func (.func g) #[] lb, .func (.func sf) #[] sb] 283)
  have hl := S.lessAt hR1 S.sz b a (b : Int) (a : Int) rfl rfl hb ha
  have hlt := hC.lt
  go_enter Try.func232, Try.ntmps232
  cases hlv : lt d[b]! d[a]! with
  | true =>
    rw [hlv] at hl
    go_wp2_with (go_at_fn g; refine hl.mono ?_; rintro e w2 ⟨rfl, hb2⟩; have hC2 := hC1.step hb2; have q1 := hC2.cell; have q2 := hC2.free; have q3 := hC2.lt; have HB := Lib.hid hb2; clear hb2)
    go_ret2
    exact ⟨b, a, s + 1, rfl, Or.inr ⟨rfl, rfl⟩, Nat.le_refl _, hC2.set (s + 1) _ (by omega), ((ButC.of HB.out).box).set _ _⟩
  | false =>
    rw [hlv] at hl
    go_wp2_with (go_at_fn g; refine hl.mono ?_; rintro e w2 ⟨rfl, hb2⟩; have hC2 := hC1.step hb2; have HB := Lib.hid hb2; clear hb2)
    go_ret2
    exact ⟨a, b, s, rfl, Or.inl ⟨rfl, rfl⟩, by omega, hC2, (ButC.of HB.out).box⟩

theorem but_boxed {cb : Nat} {t : TypeId} {fr : Nat × Nat} {x y : Value} {w X : World} (h : ButC cb (w.alloc (.cells #[x, y] t fr)) X) (hne : w.heap.size ≠ cb) :
    X.cell? ⟨w.heap.size, 0, none⟩ = some x ∧ X.cell? ⟨w.heap.size, 1, none⟩ = some y := by
  have e : (w.alloc (.cells #[x, y] t fr)).heap[w.heap.size]? = some (.cells #[x, y] t fr) := heap_alloc_new w _
  constructor
  · rw [h.cell (by simp) hne]; unfold World.cell?; simp only [e]; rfl
  · rw [h.cell (by simp) hne]; unfold World.cell?; simp only [e]; rfl

set_option maxHeartbeats 1000000 in
set_option maxRecDepth 100000 in
theorem median_g (S : Srt Try.prog enc k blk off lt g lb sf sb n w0 d) (hR : RowIn enc k blk off w0 d W) (a b c : Nat) (x y z : Int) (hx : x = a) (hy : y = b) (hz : z = c) (ha : a < n) (hb : b < n) (hc : c < n) (cb s : Nat) (hcb : w0.heap.size ≤ cb) (hs : s < 900) (hC : Cnt cb W s) :
    Calls Try.prog 224 #[.agg #[.func (.func g) #[] lb, .func (.func sf) #[] sb], .int .i64 x, .int .i64 y, .int .i64 z, .pointer (some ⟨cb, 0, none⟩)] W (OneOf (fun p => p = a ∨ p = b ∨ p = c) (s + 3) cb W) := by
  subst hx hy hz
  have hR1 := hR.step ((Below.refl _ _).alloc (Nat.le_refl _) (.cells #[.func (.func g) #[] lb, .func (.func sf) #[] sb] 283))
  have hC1 := hC.alloc (.cells #[.func (.func g) #[] lb, .func (.func sf) #[] sb] 283)
  have hlt := hC.lt
  have K1 := ButC.refl cb (W.alloc (.cells #[.func (.func g) #[] lb, .func (.func sf) #[] sb] 283))
  go_enter Try.func224, Try.ntmps224
  go_wp2_with fail
  refine (order2_g S hR1 a b ha hb cb s hcb (by omega) hC1).mono ?_
  rintro e w2 ⟨a1, b1, s1, rfl, h1, hs1, hC2, K2⟩
  have ha1 : a1 < n := by omega
  have hb1 : b1 < n := by omega
  have q1 := but_boxed K2 (by omega)
  obtain ⟨q10, q11⟩ := q1
  have hR2 := hR1.but K2 hcb
  go_wp2_with fail
  refine (order2_g S hR2 b1 c hb1 hc cb s1 hcb (by omega) hC2).mono ?_
  rintro e w3 ⟨b2, c2, s2, rfl, h2, hs2, hC3, K3⟩
  have hb2 : b2 < n := by omega
  have q2 := but_boxed (K2.trans K3) (by omega)
  obtain ⟨q20, q21⟩ := q2
  have hR3 := hR2.but K3 hcb
  go_wp2_with fail
  refine (order2_g S hR3 a1 b2 ha1 hb2 cb s2 hcb (by omega) hC3).mono ?_
  rintro e w4 ⟨a3, b3, s3, rfl, h3, hs3, hC4, K4⟩
  go_wp2
  go_ret
  exact ⟨b3, s3, rfl, by omega, by omega, hC4, ((K2.trans K3).trans K4).box⟩

set_option maxHeartbeats 1000000 in
set_option maxRecDepth 100000 in
theorem medianAdjacent_g (S : Srt Try.prog enc k blk off lt g lb sf sb n w0 d) (hR : RowIn enc k blk off w0 d W) (a : Nat) (x : Int) (hx : x = a) (ha : 1 ≤ a) (ha2 : a + 1 < n) (cb s : Nat) (hcb : w0.heap.size ≤ cb) (hs : s < 900) (hC : Cnt cb W s) :
    Calls Try.prog 223 #[.agg #[.func (.func g) #[] lb, .func (.func sf) #[] sb], .int .i64 x, .pointer (some ⟨cb, 0, none⟩)] W (OneOf (fun p => p = a - 1 ∨ p = a ∨ p = a + 1) (s + 3) cb W) := by
  subst hx
  have hR1 := hR.step ((Below.refl _ _).alloc (Nat.le_refl _) (.cells #[.func (.func g) #[] lb, .func (.func sf) #[] sb] 283))
  have hC1 := hC.alloc (.cells #[.func (.func g) #[] lb, .func (.func sf) #[] sb] 283)
  have hn := S.small
  go_enter Try.func223, Try.ntmps223
  go_wp2_with fail
  refine (median_g S hR1 (a - 1) a (a + 1) _ _ _ (by omega) (by omega) (by omega) (by omega) (by omega) (by omega) cb s hcb hs hC1).mono ?_
  rintro e w2 ⟨p, s1, rfl, hp, hs1, hC2, K2⟩
  go_wp2
  go_ret
  exact ⟨p, s1, rfl, hp, hs1, hC2, K2.box⟩

theorem ret2_i {x y : Int} {v : Value} (h : x = y) : Ending.returned (.tuple #[.int .i64 x, v]) = .returned (.tuple #[.int .i64 y, v]) := by rw [h]
def PivotIn (a b : Nat) (w : World) (e : Ending) (w' : World) : Prop :=
  ∃ p h : Nat, e = .returned (.tuple #[.int .i64 p, .int .i64 h]) ∧ a ≤ p ∧ p < b ∧ h ≤ 2 ∧ Below w.heap.size w w'

theorem new_cnt (w : World) (t : TypeId) : Cnt w.heap.size (w.alloc (.cells #[.int .i64 0] t)) 0 := by
  have e : (w.alloc (.cells #[.int .i64 0] t)).heap[w.heap.size]? = some (.cells #[.int .i64 0] t (0, 0)) := heap_alloc_new w _
  refine ⟨?_, ?_, by simp⟩
  · unfold World.cell?; simp only [e]; rfl
  · unfold World.frozen?; simp only [e]; rfl

set_option maxHeartbeats 2000000 in
set_option maxRecDepth 100000 in
theorem choosePivot_g (S : Srt Try.prog enc k blk off lt g lb sf sb n w0 d) (a b : Nat) (hab : a < b) (hb : b ≤ n) :
    Calls Try.prog 202 #[.agg #[.func (.func g) #[] lb, .func (.func sf) #[] sb], .int .i64 a, .int .i64 b] w0 (PivotIn a b w0) := by
  have hn := S.small
  have hB1 : Below w0.heap.size w0 (w0.alloc (.cells #[.func (.func g) #[] lb, .func (.func sf) #[] sb] 283)) := (Below.refl _ _).alloc (Nat.le_refl _) _
  have hC0 : Cnt (w0.heap.size + 1) ((w0.alloc (.cells #[.func (.func g) #[] lb, .func (.func sf) #[] sb] 283)).alloc (.cells #[.int .i64 0] 3)) 0 := by
    have := new_cnt (w0.alloc (.cells #[.func (.func g) #[] lb, .func (.func sf) #[] sb] 283)) 3
    simpa using this
  have hB2 : Below w0.heap.size w0 ((w0.alloc (.cells #[.func (.func g) #[] lb, .func (.func sf) #[] sb] 283)).alloc (.cells #[.int .i64 0] 3)) := hB1.alloc (by simp) _
  have hR0 := S.start.step hB2
  have K0 : ButC (w0.heap.size + 1) (w0.alloc (.cells #[.func (.func g) #[] lb, .func (.func sf) #[] sb] 283)) ((w0.alloc (.cells #[.func (.func g) #[] lb, .func (.func sf) #[] sb] 283)).alloc (.cells #[.int .i64 0] 3)) := ButC.of ((Below.refl _ _).alloc (Nat.le_refl _) _)
  have HB1 := Lib.hid hB1
  clear hB1 hB2
  have fin : ∀ {X : World}, ButC (w0.heap.size + 1) (w0.alloc (.cells #[.func (.func g) #[] lb, .func (.func sf) #[] sb] 283)) X → Below w0.heap.size w0 X := fun K => HB1.out.trans (K.below (by omega) (by simp))
  go_enter Try.func202, Try.ntmps202
  by_cases h8 : b - a < 8
  · have h8z : ¬ (8 ≤ (b : Int) - (a : Int)) := by omega
    go_wp2
    go_ret2
    exact ⟨a + (b - a) / 4 * 2, 1, ret2_i (by omega), by omega, by omega, by omega, fin K0⟩
  · have h8z : (8 : Int) ≤ (b : Int) - (a : Int) := by omega
    by_cases h50 : b - a < 50
    · have h50z : ¬ (50 ≤ (b : Int) - (a : Int)) := by omega
      go_wp2_with fail
      refine (median_g S hR0 (a + (b - a) / 4 * 1) (a + (b - a) / 4 * 2) (a + (b - a) / 4 * 3) _ _ _ (by omega) (by omega) (by omega) (by omega) (by omega) (by omega) _ 0 (by omega) (by omega) hC0).mono ?_
      rintro e w2 ⟨p, s, rfl, hp, hs, hC, K⟩
      have hK := K0.trans K
      have qc := hC.cell
      by_cases z0 : s = 0
      · subst z0
        go_wp2
        go_ret2
        exact ⟨p, 1, rfl, by omega, by omega, by omega, fin hK⟩
      · have z0' : ((s : Int) == 0) = false := by simp; omega
        have z12 : ((s : Int) == 12) = false := by simp; omega
        go_wp2
        go_ret2
        exact ⟨p, 0, rfl, by omega, by omega, by omega, fin hK⟩
    · have h50z : (50 : Int) ≤ (b : Int) - (a : Int) := by omega
      go_wp2_with fail
      refine (medianAdjacent_g S hR0 (a + (b - a) / 4 * 1) _ (by omega) (by omega) (by omega) _ 0 (by omega) (by omega) hC0).mono ?_
      rintro e w1 ⟨pi, s1, rfl, hpi, hs1, hC1, K1⟩
      have hK1 := K0.trans K1
      have hR1 := hR0.but K1 (by omega)
      obtain ⟨c10, c11⟩ := but_boxed hK1 (by omega)
      go_wp2_with fail
      refine (medianAdjacent_g S hR1 (a + (b - a) / 4 * 2) _ (by omega) (by omega) (by omega) _ s1 (by omega) (by omega) hC1).mono ?_
      rintro e w2 ⟨pj, s2, rfl, hpj, hs2, hC2, K2⟩
      have hK2 := hK1.trans K2
      have hR2 := hR1.but K2 (by omega)
      obtain ⟨c20, c21⟩ := but_boxed hK2 (by omega)
      go_wp2_with fail
      refine (medianAdjacent_g S hR2 (a + (b - a) / 4 * 3) _ (by omega) (by omega) (by omega) _ s2 (by omega) (by omega) hC2).mono ?_
      rintro e w3 ⟨pk, s3, rfl, hpk, hs3, hC3, K3⟩
      have hK3 := hK2.trans K3
      have hR3 := hR2.but K3 (by omega)
      obtain ⟨c30, c31⟩ := but_boxed hK3 (by omega)
      go_wp2_with fail
      refine (median_g S hR3 pi pj pk _ _ _ rfl rfl rfl (by omega) (by omega) (by omega) _ s3 (by omega) (by omega) hC3).mono ?_
      rintro e w4 ⟨p, s, rfl, hp, hs, hC, K⟩
      have hK := hK3.trans K
      have qc := hC.cell
      by_cases z0 : s = 0
      · subst z0
        go_wp2
        go_ret2
        exact ⟨p, 1, rfl, by omega, by omega, by omega, fin hK⟩
      · have z0' : ((s : Int) == 0) = false := by simp; omega
        by_cases z12 : s = 12
        · subst z12
          go_wp2
          go_ret2
          exact ⟨p, 2, rfl, by omega, by omega, by omega, fin hK⟩
        · have z12' : ((s : Int) == 12) = false := by simp; omega
          go_wp2
          go_ret2
          exact ⟨p, 0, rfl, by omega, by omega, by omega, fin hK⟩

end Go.Proofs.Ytmljdjakbbedlaa
