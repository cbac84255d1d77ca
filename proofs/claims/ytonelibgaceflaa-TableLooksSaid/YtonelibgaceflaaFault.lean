
/-
  Proved here: the contract of the reference's PreFault.
-/
import Derived.Test.YtonelibgaceflaaCheck
namespace Go.Proofs.Ytonelibgaceflaa
open Go.ChangeShapes Go.WideShapes Go.ChangeAt Go.RowKit

theorem own_cap {w : World} {base : Nat} {e : TypeId} {size n cap : Nat} {A : Option Addr} {xs : List Value} (h : w.ownsRow base e size (.slice A n cap) n xs) : n ≤ cap ∧ cap ≤ maxLen := by
  rcases h.2 with ⟨h1, rfl⟩ | ⟨g, c, cur, hv, _, _, h3, h4, _⟩
  · injection h1 with _ _ h2
    subst h2
    exact ⟨Nat.le_refl _, by unfold maxLen; omega⟩
  · injection hv with _ _ h2
    subst h2
    exact ⟨h3, h4⟩

theorem wideN (six : Bool) : ∃ n : Nat, wideI six = n ∧ 0 < n ∧ n ≤ 128 := by
  refine ⟨(wideI six).toNat, ?_⟩
  unfold wideI
  split <;> decide

/-- Cell i of a row that the call owns, of integers. -/
theorem own_int {w : World} {base n cap g : Nat} {e : TypeId} {l : List Int} (h : w.ownsRow base e 1 (.slice (some ⟨g, 0, none⟩) n cap) n (l.map (Value.int .i64))) {i : Nat} {x : Int} (hx : l[i]? = some x) : w.cell? ⟨g, i, none⟩ = some (.int .i64 x) := by
  have := h.cells (g := g) rfl i (.int .i64 x) (by rw [List.getElem?_map, hx]; rfl)
  rwa [show (⟨g, 0, none⟩ : Addr).add i = ⟨g, i, none⟩ from by unfold Addr.add; split <;> simp_all] at this

theorem bitsL_at {six : Bool} {hi lo : Int} {m i : Nat} (hm : wideI six = m) (hi' : i < m) : (bitsL six hi lo)[i]? = some (bitI six hi lo i) := by
  unfold bitsL
  rw [hm, List.getElem?_map, List.getElem?_range (by simpa using hi')]
  rfl

def ZeroTo (six : Bool) (hi lo : Int) (k j : Nat) : Prop := ∀ i : Nat, k ≤ i → i < k + j → bitI six hi lo i = 0
theorem ZeroTo.zero (six : Bool) (hi lo : Int) (k : Nat) : ZeroTo six hi lo k 0 := fun _ _ _ => by omega
theorem ZeroTo.succ {six : Bool} {hi lo : Int} {k j : Nat} (h : ZeroTo six hi lo k j) (hb : bitI six hi lo ((k + j : Nat) : Int) = 0) : ZeroTo six hi lo k (j + 1) := fun i h1 h2 => by
  rcases Nat.lt_or_ge i (k + j) with h3 | h3
  · exact h i h1 h3
  · obtain rfl : i = k + j := by omega
    exact hb

set_option maxHeartbeats 1600000 in
theorem preFault_any (six : Bool) (hi lo n : Int) (w : World) (h1 : 0 ≤ hi ∧ hi < 18446744073709551616) (h2 : 0 ≤ lo ∧ lo < 18446744073709551616) :
    Calls Try.prog 81 #[.agg #[.bool six, .int .u64 hi, .int .u64 lo, .int .i64 n]] w fun e w' => e = .returned (.int .i64 (chk six hi lo n)) ∧ Below w.heap.size w w' := by
  unfold chk
  by_cases hm : mayB six hi lo = false
  · rw [if_pos hm]
    go_enter Try.func81, Try.ntmps81
    go_wp2_with (go_at_call 82; refine (refMay_any six hi lo _ h2.1).mono ?_; rintro e w1 ⟨rfl, hb⟩; obtain ⟨B1, S1, q0, q1, q2, q3⟩ := box4 hb; clear hb)
    go_ret
    exact ⟨rfl, B1⟩
  · rw [if_neg hm]
    have hm' : mayB six hi lo = true := by simpa using hm
    clear hm
    obtain ⟨m, hn, hpos, hle⟩ := wideN six
    rw [hn]
    have HN := Lib.hid hn
    clear hn
    by_cases hr : n < 0
    · rw [if_pos (.inl hr)]
      go_enter Try.func81, Try.ntmps81
      go_wp2_with (go_at_call 82; refine (refMay_any six hi lo _ h2.1).mono ?_; rintro e w1 ⟨rfl, hb⟩; obtain ⟨B1, S1, q0, q1, q2, q3⟩ := box4 hb; clear hb)
      refine (bitsOf_any six hi lo _ h1 h2).mono ?_
      rintro e w2 ⟨v, rfl, hown, hb2, hs2⟩
      have B2 := B1.trans (hb2.mono (Nat.le_of_lt S1))
      have Q0 := cell_step hb2 q0
      have Q1 := cell_step hb2 q1
      have Q2 := cell_step hb2 q2
      have Q3 := cell_step hb2 q3
      rw [HN.out] at hown
      simp only [Int.toNat_natCast] at hown
      obtain ⟨g, cap, rfl, hg, hlt⟩ := hown.form hpos
      have hncap := own_cap hown
      have HO := Lib.hid hown
      clear hown hb2 q0 q1 q2 q3
      go_wp2
      go_ret
      exact ⟨rfl, B2⟩
    · by_cases hr2 : (m : Int) < n
      · rw [if_pos (.inr hr2)]
        go_enter Try.func81, Try.ntmps81
        go_wp2_with (go_at_call 82; refine (refMay_any six hi lo _ h2.1).mono ?_; rintro e w1 ⟨rfl, hb⟩; obtain ⟨B1, S1, q0, q1, q2, q3⟩ := box4 hb; clear hb)
        refine (bitsOf_any six hi lo _ h1 h2).mono ?_
        rintro e w2 ⟨v, rfl, hown, hb2, hs2⟩
        have B2 := B1.trans (hb2.mono (Nat.le_of_lt S1))
        have Q0 := cell_step hb2 q0
        have Q1 := cell_step hb2 q1
        have Q2 := cell_step hb2 q2
        have Q3 := cell_step hb2 q3
        rw [HN.out] at hown
        simp only [Int.toNat_natCast] at hown
        obtain ⟨g, cap, rfl, hg, hlt⟩ := hown.form hpos
        have hncap := own_cap hown
        have HO := Lib.hid hown
        clear hown hb2 q0 q1 q2 q3
        go_wp2
        go_ret
        exact ⟨rfl, B2⟩
      · rw [if_neg (by omega)]
        obtain ⟨k, rfl⟩ := Int.eq_ofNat_of_zero_le (by omega : 0 ≤ n)
        have hkm : k ≤ m := by omega
        obtain ⟨r, hr0⟩ : ∃ r : Int, r = if cleanB six hi lo k = true then 0 else 5 := ⟨_, rfl⟩
        rw [← hr0]
        have hci := clean_iff six hi lo k h1 h2 hm' (by rw [HN.out]; omega)
        rw [HN.out] at hci
        have hall : ZeroTo six hi lo k (m - k) → r = 0 := fun hz => by
          rw [hr0, if_pos (hci.2 fun i h3 h4 => hz i h3 (by omega))]
        have hone : ∀ j : Nat, j < m - k → bitI six hi lo ((k + j : Nat) : Int) = 1 → r = 5 := fun j hj hb => by
          rw [hr0, if_neg]
          intro hc
          have := hci.1 hc (k + j) (by omega) (by omega)
          omega
        have HA := Lib.hid hall
        have HB := Lib.hid hone
        clear hall hone hr0 hci hr hr2
        have hd : decide ((k : Int) < 0) = false := by simp
        have hd2 : decide ((m : Int) < (k : Int)) = false := by simp; omega
        go_enter Try.func81, Try.ntmps81
        go_wp2_with (go_at_call 82; refine (refMay_any six hi lo _ h2.1).mono ?_; rintro e w1 ⟨rfl, hb⟩; obtain ⟨B1, S1, q0, q1, q2, q3⟩ := box4 hb; clear hb)
        refine (bitsOf_any six hi lo _ h1 h2).mono ?_
        rintro e w2 ⟨v, rfl, hown, hb2, hs2⟩
        have B2 := B1.trans (hb2.mono (Nat.le_of_lt S1))
        have Q0 := cell_step hb2 q0
        have Q1 := cell_step hb2 q1
        have Q2 := cell_step hb2 q2
        have Q3 := cell_step hb2 q3
        rw [HN.out] at hown
        simp only [Int.toNat_natCast] at hown
        obtain ⟨g, cap, rfl, hg, hlt⟩ := hown.form hpos
        have hncap := own_cap hown
        have HO := Lib.hid hown
        clear hown hb2 q0 q1 q2 q3
        have hc1 := hncap.1
        have hc2 := hncap.2
        unfold maxLen at hc2
        clear hncap
        have hz1 : ((m - k : Nat) : Int) ≤ 128 := by omega
        by_cases hck : cap = k
        · obtain rfl : m = k := by omega
          go_wp2
          refine wp_loop_rounds 1 ?_
          rw [rounds_succ]
          go_wp2
          go_ret
          exact ⟨ret_int (HA.out (by rw [Nat.sub_self]; exact ZeroTo.zero _ _ _ _)).symm, B2⟩
        · go_wp2
          go_loop [28, 5] (fun i _ => ∃ j : Nat, j ≤ m - k ∧ i = .int .i64 j ∧ ZeroTo six hi lo k j) (fun i _ => m - k - (intOf i).toNat)
          case atStart => exact ⟨0, by omega, rfl, ZeroTo.zero _ _ _ _⟩
          case round =>
            obtain ⟨j, hj, rfl, hz⟩ := hrel
            by_cases hlt : j < m - k
            · have hcell := own_int HO.out (bitsL_at (hi := hi) (lo := lo) HN.out (show k + j < m by omega))
              have h01 := bitI_01 six hi lo ((k + j : Nat) : Int)
              have HZ := Lib.hid hz
              clear hz
              by_cases hb1 : bitI six hi lo ((k + j : Nat) : Int) = 1
              · have hr5 := HB.out j hlt hb1
                rw [hb1] at hcell
                clear hb1 h01
                have HR := Lib.hid hr5
                clear hr5
                go_wp2
                go_ret
                exact ⟨ret_int HR.out.symm, B2⟩
              · have hb0 : bitI six hi lo ((k + j : Nat) : Int) = 0 := by omega
                rw [hb0] at hcell
                have HZ2 := Lib.hid (HZ.out.succ hb0)
                clear hb1 hb0 h01
                go_wp2
                go_round
                case rel => exact ⟨j + 1, by omega, by go_num, HZ2.out⟩
                case measure => simp [intOf]; omega
            · obtain rfl : j = m - k := by omega
              have HR := Lib.hid (HA.out hz)
              clear hz
              go_wp2
              go_ret
              exact ⟨ret_int HR.out.symm, B2⟩

end Go.Proofs.Ytonelibgaceflaa
