/-
  Proved here: the walk of the law AddrBits.
-/
import Derived.Test.YtaeideeimhenmaaAddr
namespace Go.Proofs.Ytaeideeimhenmaa
open Go.ChangeShapes Go.WideShapes Go.ChangeAt Go.RowKit

def bitRes (six : Bool) (hi lo i : Int) : Value :=
  if mayB six hi lo = false then .tuple #[.int .i64 0, .int .i64 4] else if i < 0 ∨ wideI six ≤ i then .tuple #[.int .i64 0, .int .i64 2] else .tuple #[.int .i64 (bitI six hi lo i), .int .i64 0]

theorem ret_v {a b : Value} (h : a = b) : Ending.returned a = .returned b := by rw [h]

set_option maxHeartbeats 800000 in
theorem bit_any (six : Bool) (hi lo i : Int) (w : World) (h1 : 0 ≤ hi ∧ hi < 18446744073709551616) (h2 : 0 ≤ lo ∧ lo < 18446744073709551616) :
    Calls Try.prog 19 #[.agg #[.bool six, .int .u64 hi, .int .u64 lo], .int .i64 i] w fun e w' => e = .returned (bitRes six hi lo i) ∧ Below w.heap.size w w' := by
  unfold bitRes
  by_cases hm : mayB six hi lo = false
  · rw [if_pos hm]
    go_enter Try.func19, Try.ntmps19
    go_wp2_with (go_at_call 15; refine (may_any six hi lo _ h2.1).mono ?_; rintro e w1 ⟨rfl, hb⟩; obtain ⟨B1, S1, q0, q1, q2⟩ := box3 hb; clear hb)
    go_ret2
    exact ⟨rfl, B1⟩
  · rw [if_neg hm]
    have hm' : mayB six hi lo = true := by simpa using hm
    clear hm
    by_cases hr : i < 0
    · rw [if_pos (.inl hr)]
      go_enter Try.func19, Try.ntmps19
      go_wp2_with (go_at_call 15; refine (may_any six hi lo _ h2.1).mono ?_; rintro e w1 ⟨rfl, hb⟩; obtain ⟨B1, S1, q0, q1, q2⟩ := box3 hb; clear hb)
      go_ret2
      exact ⟨rfl, B1⟩
    · by_cases hr2 : wideI six ≤ i
      · rw [if_pos (.inr hr2)]
        go_enter Try.func19, Try.ntmps19
        go_wp2_with (first | (go_at_call 15; refine (may_any six hi lo _ h2.1).mono ?_; rintro e w1 ⟨rfl, hb⟩; obtain ⟨B1, S1, q0, q1, q2⟩ := box3 hb; clear hb) | (go_at_call 38; refine (wide_any six _).mono ?_; rintro e w2 ⟨rfl, rfl⟩))
        go_ret2
        exact ⟨rfl, B1⟩
      · rw [if_neg (by omega)]
        go_enter Try.func19, Try.ntmps19
        go_wp2_with (first | (go_at_call 15; refine (may_any six hi lo _ h2.1).mono ?_; rintro e w1 ⟨rfl, hb⟩; obtain ⟨B1, S1, q0, q1, q2⟩ := box3 hb; clear hb) | (go_at_call 38; refine (wide_any six _).mono ?_; rintro e w2 ⟨rfl, rfl⟩) | (go_at_call 39; refine (at_any six hi lo i _ h1 h2 (by omega) (by omega)).mono ?_; rintro e w2 ⟨rfl, hb2⟩))
        go_ret2
        exact ⟨rfl, B1.trans (hb2.mono (by omega))⟩

set_option maxHeartbeats 800000 in
theorem refBit_any (six : Bool) (hi lo i : Int) (w : World) (h1 : 0 ≤ hi ∧ hi < 18446744073709551616) (h2 : 0 ≤ lo ∧ lo < 18446744073709551616) :
    Calls Try.prog 20 #[.agg #[.bool six, .int .u64 hi, .int .u64 lo], .int .i64 i] w fun e w' => e = .returned (bitRes six hi lo i) ∧ Below w.heap.size w w' := by
  unfold bitRes
  by_cases hm : mayB six hi lo = false
  · rw [if_pos hm]
    go_enter Try.func20, Try.ntmps20
    go_wp2_with (go_at_call 16; refine (refMay_any six hi lo _ h2.1).mono ?_; rintro e w1 ⟨rfl, hb⟩; obtain ⟨B1, S1, q0, q1, q2⟩ := box3 hb; clear hb)
    go_ret2
    exact ⟨rfl, B1⟩
  · rw [if_neg hm]
    have hm' : mayB six hi lo = true := by simpa using hm
    clear hm
    obtain ⟨n, hn⟩ : ∃ n : Nat, wideI six = n := ⟨(wideI six).toNat, by unfold wideI; split <;> rfl⟩
    have hpos : 0 < n := by have : (0 : Int) < wideI six := (by unfold wideI; split <;> omega); omega
    have hle : n ≤ 128 := by have : wideI six ≤ 128 := (by unfold wideI; split <;> omega); omega
    rw [hn]
    have HN := Lib.hid hn
    clear hn
    by_cases hr : i < 0
    · rw [if_pos (.inl hr)]
      go_enter Try.func20, Try.ntmps20
      go_wp2_with (go_at_call 16; refine (refMay_any six hi lo _ h2.1).mono ?_; rintro e w1 ⟨rfl, hb⟩; obtain ⟨B1, S1, q0, q1, q2⟩ := box3 hb; clear hb)
      refine (bitsOf_any six hi lo _ h1 h2).mono ?_
      rintro e w2 ⟨v, rfl, hown, hb2, hs2⟩
      have B2 := B1.trans (hb2.mono (Nat.le_of_lt S1))
      rw [HN.out] at hown
      simp only [Int.toNat_natCast] at hown
      obtain ⟨g, cap, rfl, hg, hlt⟩ := hown.form hpos
      have HO := Lib.hid hown
      clear hown hb2
      go_wp2
      go_ret2
      exact ⟨rfl, B2⟩
    · by_cases hr2 : (n : Int) ≤ i
      · rw [if_pos (.inr hr2)]
        go_enter Try.func20, Try.ntmps20
        go_wp2_with (go_at_call 16; refine (refMay_any six hi lo _ h2.1).mono ?_; rintro e w1 ⟨rfl, hb⟩; obtain ⟨B1, S1, q0, q1, q2⟩ := box3 hb; clear hb)
        refine (bitsOf_any six hi lo _ h1 h2).mono ?_
        rintro e w2 ⟨v, rfl, hown, hb2, hs2⟩
        have B2 := B1.trans (hb2.mono (Nat.le_of_lt S1))
        rw [HN.out] at hown
        simp only [Int.toNat_natCast] at hown
        obtain ⟨g, cap, rfl, hg, hlt⟩ := hown.form hpos
        have HO := Lib.hid hown
        clear hown hb2
        go_wp2
        go_ret2
        exact ⟨rfl, B2⟩
      · rw [if_neg (by omega)]
        obtain ⟨j, rfl⟩ := Int.eq_ofNat_of_zero_le (by omega : 0 ≤ i)
        go_enter Try.func20, Try.ntmps20
        go_wp2_with (go_at_call 16; refine (refMay_any six hi lo _ h2.1).mono ?_; rintro e w1 ⟨rfl, hb⟩; obtain ⟨B1, S1, q0, q1, q2⟩ := box3 hb; clear hb)
        refine (bitsOf_any six hi lo _ h1 h2).mono ?_
        rintro e w2 ⟨v, rfl, hown, hb2, hs2⟩
        have B2 := B1.trans (hb2.mono (Nat.le_of_lt S1))
        rw [HN.out] at hown
        simp only [Int.toNat_natCast] at hown
        obtain ⟨g, cap, rfl, hg, hlt⟩ := hown.form hpos
        have HO := Lib.hid hown
        clear hown hb2
        have hc : w2.cell? ⟨g, j, none⟩ = some (.int .i64 (bitI six hi lo j)) := by
          have := HO.out.cells (g := g) rfl j (.int .i64 (bitI six hi lo j)) (by
            have hj : j < n := by omega
            rw [List.getElem?_map]
            unfold bitsL
            rw [HN.out, List.getElem?_map, List.getElem?_range (by simpa using hj)]
            rfl)
          rwa [show (⟨g, 0, none⟩ : Addr).add j = ⟨g, j, none⟩ from by unfold Addr.add; split <;> simp_all] at this
        go_wp2
        go_ret2
        exact ⟨rfl, B2⟩

set_option maxHeartbeats 800000 in
theorem addrBits_any (six : Bool) (hi lo i : Int) (w : World) (h1 : 0 ≤ hi ∧ hi < 18446744073709551616) (h2 : 0 ≤ lo ∧ lo < 18446744073709551616) :
    Calls Try.prog 6 #[.agg #[.bool six, .int .u64 hi, .int .u64 lo], .int .i64 i] w fun e w' => e = .returned (.bool true) ∧ Below w.heap.size w w' := by
  have hr : ∃ a b, bitRes six hi lo i = .tuple #[.int .i64 a, .int .i64 b] := by
    unfold bitRes
    split
    · exact ⟨_, _, rfl⟩
    · split <;> exact ⟨_, _, rfl⟩
  obtain ⟨a, b, hr⟩ := hr
  have c1 := fun w => bit_any six hi lo i w h1 h2
  have c2 := fun w => refBit_any six hi lo i w h1 h2
  rw [hr] at c1 c2
  have C1 := Lib.hid c1
  have C2 := Lib.hid c2
  clear c1 c2 hr
  go_enter Try.func6, Try.ntmps6
  go_wp2_with (first | (go_at_call 19; refine (C1.out _).mono ?_; rintro e w1 ⟨rfl, hb⟩; obtain ⟨B1, S1, q0, q1, q2⟩ := box3 hb; clear hb) | (go_at_call 20; refine (C2.out _).mono ?_; rintro e w2 ⟨rfl, hb2⟩))
  go_ret
  exact ⟨by simp, B1.trans (hb2.mono (by omega))⟩

theorem addrBits_walk {H : Type} {enc : TypeId × Value → H} (W : World) (vs : Array Value) (ds : List (DataW H)) (ps : List MemPlace) (h : ArgsOk Try.prog [28, 3] H enc W vs.toList ds ps) :
    Calls Try.prog 6 vs W fun e W' => e = .returned (.bool true) ∧ Below W.heap.size W W' := by
  obtain ⟨hA, ⟨base, hval⟩, _, _⟩ := h
  obtain ⟨v0, v1, d0, d1, p0, p1, e0, _, _, h0, h1⟩ := trodAll_two hA
  obtain ⟨six, hi, lo, rfl, b1, b2⟩ := open_addr (hval 0 _ v0 rfl (by rw [e0]; rfl)) h0
  obtain ⟨x, rfl, _, _, wx⟩ := open_int Try.underlying3 (hval 1 _ v1 rfl (by rw [e0]; rfl)) h1
  obtain rfl : vs = #[.agg #[.bool six, .int .u64 hi, .int .u64 lo], .int .i64 x] := by cases vs; simp_all
  exact addrBits_any six hi lo x W b1 b2

end Go.Proofs.Ytaeideeimhenmaa
