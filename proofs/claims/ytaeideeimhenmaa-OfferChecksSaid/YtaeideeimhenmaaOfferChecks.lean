/-
  Proved here: the contracts of offers.Check and of the reference's OfferFault, and the walk of the law OfferChecks.
-/
import Derived.Test.YtaeideeimhenmaaFault
namespace Go.Proofs.Ytaeideeimhenmaa
open Go.ChangeShapes Go.WideShapes Go.ChangeAt Go.RowKit

/-- The fault of an offer whose prefix has the fault c. -/
def offE (c src peer met hop : Int) : Int :=
  if ¬ c = 0 then c else if src < 1 ∨ 4 < src then 3 else if peer < 0 ∨ 999 < peer ∨ met < 0 ∨ 999 < met ∨ hop < 1 ∨ 999 < hop then 2 else 0

set_option maxHeartbeats 1600000 in
theorem offerCheck_any (six : Bool) (hi lo n src peer met hop : Int) (w : World) (h1 : 0 ≤ hi ∧ hi < 18446744073709551616) (h2 : 0 ≤ lo ∧ lo < 18446744073709551616) :
    Calls Try.prog 33 #[.agg #[.bool six, .int .u64 hi, .int .u64 lo, .int .i64 n, .int .i64 src, .int .i64 peer, .int .i64 met, .int .i64 hop]] w fun e w' => e = .returned (.int .i64 (offE (chk six hi lo n) src peer met hop)) ∧ Below w.heap.size w w' := by
  have c := fun w => check_any six hi lo n w h1 h2
  obtain ⟨r, hr⟩ : ∃ r, r = offE (chk six hi lo n) src peer met hop := ⟨_, rfl⟩
  rw [← hr]
  by_cases hz : chk six hi lo n = 0
  · rw [hz] at c hr
    have CC := Lib.hid c
    have HR := Lib.hid hr
    clear c hz hr
    go_enter Try.func33, Try.ntmps33
    go_wp2_with fail
    refine (CC.out _).mono ?_
    rintro e w1 ⟨rfl, hb⟩
    obtain ⟨B1, S1, F⟩ := box1 (cs := [.bool six, .int .u64 hi, .int .u64 lo, .int .i64 n, .int .i64 _, .int .i64 peer, .int .i64 met, .int .i64 hop]) hb
    have q4 := F 4 _ rfl
    have q5 := F 5 _ rfl
    have q6 := F 6 _ rfl
    have q7 := F 7 _ rfl
    clear hb F
    go_wp2
    all_goals go_ret
    all_goals exact ⟨ret_int (by rw [HR.out]; unfold offE; rw [if_neg (by omega)]; split <;> (try split) <;> omega), B1⟩
  · generalize chk six hi lo n = k at *
    have CC := Lib.hid c
    have hb1 : (k == 0) = false := by simpa using hz
    have hb2 : (k != 0) = true := by simpa using hz
    have HR := Lib.hid (show r = k by rw [hr]; unfold offE; rw [if_pos hz])
    clear c hr
    go_enter Try.func33, Try.ntmps33
    go_wp2_with fail
    refine (CC.out _).mono ?_
    rintro e w1 ⟨rfl, hb⟩
    obtain ⟨B1, S1, F⟩ := box1 (cs := [.bool six, .int .u64 hi, .int .u64 lo, .int .i64 n, .int .i64 _, .int .i64 peer, .int .i64 met, .int .i64 hop]) hb
    have q4 := F 4 _ rfl
    have q5 := F 5 _ rfl
    have q6 := F 6 _ rfl
    have q7 := F 7 _ rfl
    clear hb F
    go_wp2
    go_ret
    exact ⟨ret_int HR.out.symm, B1⟩

set_option maxHeartbeats 1600000 in
theorem offerFault_any (six : Bool) (hi lo n src peer met hop : Int) (w : World) (h1 : 0 ≤ hi ∧ hi < 18446744073709551616) (h2 : 0 ≤ lo ∧ lo < 18446744073709551616) :
    Calls Try.prog 34 #[.agg #[.bool six, .int .u64 hi, .int .u64 lo, .int .i64 n, .int .i64 src, .int .i64 peer, .int .i64 met, .int .i64 hop]] w fun e w' => e = .returned (.int .i64 (offE (chk six hi lo n) src peer met hop)) ∧ Below w.heap.size w w' := by
  have c := fun w => preFault_any six hi lo n w h1 h2
  obtain ⟨r, hr⟩ : ∃ r, r = offE (chk six hi lo n) src peer met hop := ⟨_, rfl⟩
  rw [← hr]
  by_cases hz : chk six hi lo n = 0
  · rw [hz] at c hr
    have CC := Lib.hid c
    have HR := Lib.hid hr
    clear c hz hr
    rcases (by omega : src = 1 ∨ src = 2 ∨ src = 3 ∨ src = 4 ∨ (src < 1 ∨ 4 < src)) with rfl | rfl | rfl | rfl | hs
    · go_enter Try.func34, Try.ntmps34
      go_wp2_with fail
      refine (CC.out _).mono ?_
      rintro e w1 ⟨rfl, hb⟩
      obtain ⟨B1, S1, F⟩ := box1 (cs := [.bool six, .int .u64 hi, .int .u64 lo, .int .i64 n, .int .i64 _, .int .i64 peer, .int .i64 met, .int .i64 hop]) hb
      have q4 := F 4 _ rfl
      have q5 := F 5 _ rfl
      have q6 := F 6 _ rfl
      have q7 := F 7 _ rfl
      clear hb F
      go_wp2
      all_goals go_ret
      all_goals exact ⟨ret_int (by rw [HR.out]; unfold offE; rw [if_neg (by omega)]; split <;> (try split) <;> omega), B1⟩
    · go_enter Try.func34, Try.ntmps34
      go_wp2_with fail
      refine (CC.out _).mono ?_
      rintro e w1 ⟨rfl, hb⟩
      obtain ⟨B1, S1, F⟩ := box1 (cs := [.bool six, .int .u64 hi, .int .u64 lo, .int .i64 n, .int .i64 _, .int .i64 peer, .int .i64 met, .int .i64 hop]) hb
      have q4 := F 4 _ rfl
      have q5 := F 5 _ rfl
      have q6 := F 6 _ rfl
      have q7 := F 7 _ rfl
      clear hb F
      go_wp2
      all_goals go_ret
      all_goals exact ⟨ret_int (by rw [HR.out]; unfold offE; rw [if_neg (by omega)]; split <;> (try split) <;> omega), B1⟩
    · go_enter Try.func34, Try.ntmps34
      go_wp2_with fail
      refine (CC.out _).mono ?_
      rintro e w1 ⟨rfl, hb⟩
      obtain ⟨B1, S1, F⟩ := box1 (cs := [.bool six, .int .u64 hi, .int .u64 lo, .int .i64 n, .int .i64 _, .int .i64 peer, .int .i64 met, .int .i64 hop]) hb
      have q4 := F 4 _ rfl
      have q5 := F 5 _ rfl
      have q6 := F 6 _ rfl
      have q7 := F 7 _ rfl
      clear hb F
      go_wp2
      all_goals go_ret
      all_goals exact ⟨ret_int (by rw [HR.out]; unfold offE; rw [if_neg (by omega)]; split <;> (try split) <;> omega), B1⟩
    · go_enter Try.func34, Try.ntmps34
      go_wp2_with fail
      refine (CC.out _).mono ?_
      rintro e w1 ⟨rfl, hb⟩
      obtain ⟨B1, S1, F⟩ := box1 (cs := [.bool six, .int .u64 hi, .int .u64 lo, .int .i64 n, .int .i64 _, .int .i64 peer, .int .i64 met, .int .i64 hop]) hb
      have q4 := F 4 _ rfl
      have q5 := F 5 _ rfl
      have q6 := F 6 _ rfl
      have q7 := F 7 _ rfl
      clear hb F
      go_wp2
      all_goals go_ret
      all_goals exact ⟨ret_int (by rw [HR.out]; unfold offE; rw [if_neg (by omega)]; split <;> (try split) <;> omega), B1⟩
    · have s1 : (src == 1) = false := by simp; omega
      have s2 : (src == 2) = false := by simp; omega
      have s3 : (src == 3) = false := by simp; omega
      have s4 : (src == 4) = false := by simp; omega
      have t1 : (src != 1) = true := by simp; omega
      have t2 : (src != 2) = true := by simp; omega
      have t3 : (src != 3) = true := by simp; omega
      have t4 : (src != 4) = true := by simp; omega
      go_enter Try.func34, Try.ntmps34
      go_wp2_with fail
      refine (CC.out _).mono ?_
      rintro e w1 ⟨rfl, hb⟩
      obtain ⟨B1, S1, F⟩ := box1 (cs := [.bool six, .int .u64 hi, .int .u64 lo, .int .i64 n, .int .i64 _, .int .i64 peer, .int .i64 met, .int .i64 hop]) hb
      have q4 := F 4 _ rfl
      have q5 := F 5 _ rfl
      have q6 := F 6 _ rfl
      have q7 := F 7 _ rfl
      clear hb F
      go_wp2
      all_goals go_ret
      all_goals exact ⟨ret_int (by rw [HR.out]; unfold offE; rw [if_neg (by omega)]; split <;> (try split) <;> omega), B1⟩
  · generalize chk six hi lo n = k at *
    have CC := Lib.hid c
    have hb1 : (k == 0) = false := by simpa using hz
    have hb2 : (k != 0) = true := by simpa using hz
    have HR := Lib.hid (show r = k by rw [hr]; unfold offE; rw [if_pos hz])
    clear c hr
    go_enter Try.func34, Try.ntmps34
    go_wp2_with fail
    refine (CC.out _).mono ?_
    rintro e w1 ⟨rfl, hb⟩
    obtain ⟨B1, S1, F⟩ := box1 (cs := [.bool six, .int .u64 hi, .int .u64 lo, .int .i64 n, .int .i64 _, .int .i64 peer, .int .i64 met, .int .i64 hop]) hb
    have q4 := F 4 _ rfl
    have q5 := F 5 _ rfl
    have q6 := F 6 _ rfl
    have q7 := F 7 _ rfl
    clear hb F
    go_wp2
    go_ret
    exact ⟨ret_int HR.out.symm, B1⟩

set_option maxHeartbeats 800000 in
theorem offerChecks_law (six : Bool) (hi lo n src peer met hop : Int) (w : World) (h1 : 0 ≤ hi ∧ hi < 18446744073709551616) (h2 : 0 ≤ lo ∧ lo < 18446744073709551616) :
    Calls Try.prog 13 #[.agg #[.bool six, .int .u64 hi, .int .u64 lo, .int .i64 n, .int .i64 src, .int .i64 peer, .int .i64 met, .int .i64 hop]] w fun e w' => e = .returned (.bool true) ∧ Below w.heap.size w w' := by
  have c1 := fun w => offerCheck_any six hi lo n src peer met hop w h1 h2
  have c2 := fun w => offerFault_any six hi lo n src peer met hop w h1 h2
  generalize offE (chk six hi lo n) src peer met hop = r at *
  have C1 := Lib.hid c1
  have C2 := Lib.hid c2
  clear c1 c2
  go_enter Try.func13, Try.ntmps13
  go_wp2_with fail
  go_region_held3 (fun w' => Below w.heap.size w w' ∧ w.heap.size < w'.heap.size ∧ w'.cell? ⟨w.heap.size, 0, none⟩ = some (.bool six) ∧ w'.cell? ⟨w.heap.size, 1, none⟩ = some (.int .u64 hi) ∧ w'.cell? ⟨w.heap.size, 2, none⟩ = some (.int .u64 lo) ∧ w'.cell? ⟨w.heap.size, 3, none⟩ = some (.int .i64 n) ∧ w'.cell? ⟨w.heap.size, 4, none⟩ = some (.int .i64 src) ∧ w'.cell? ⟨w.heap.size, 5, none⟩ = some (.int .i64 peer) ∧ w'.cell? ⟨w.heap.size, 6, none⟩ = some (.int .i64 met) ∧ w'.cell? ⟨w.heap.size, 7, none⟩ = some (.int .i64 hop))
    (((try go_split_ands); (repeat' apply And.intro) <;> first | assumption | exact ((Below.refl _ _).alloc (Nat.le_refl _) _).drew | go_keep | exact Below.drew (by assumption) | exact cell_drew (by assumption) | exact size_drew (by assumption) | exact below_step (by assumption) (by assumption) | exact cell_step (by assumption) (by assumption) | exact size_step (by assumption) (by assumption)))
    (first | (go_at_call 33; refine (C1.out _).mono ?_; rintro e w' ⟨rfl, hb⟩) | (go_at_call 34; refine (C2.out _).mono ?_; rintro e w' ⟨rfl, hb⟩))
  all_goals go_wp2
  all_goals go_ret
  all_goals (go_split_ands; exact ⟨by simp, by assumption⟩)

theorem offerChecks_walk {H : Type} {enc : TypeId × Value → H} (W : World) (vs : Array Value) (ds : List (DataW H)) (ps : List MemPlace) (h : ArgsOk Try.prog [56] H enc W vs.toList ds ps) :
    Calls Try.prog 13 vs W fun e W' => e = .returned (.bool true) ∧ Below W.heap.size W W' := by
  obtain ⟨hA, ⟨base, hval⟩, _, _⟩ := h
  obtain ⟨v0, d0, e0, _, h0⟩ := trodAll_one hA
  have hc : Try.prog.cellsOf 56 = 8 := by kernel_rfl
  have hk : flat Try.prog 9 56 = some [none, some .u64, some .u64, some .i64, some .i64, some .i64, some .i64, some .i64] := by kernel_rfl
  obtain ⟨cs, rfl, hf⟩ := open_flat (fun fuel cs x hl hx => trod_flat 9 _ _ fuel cs x hk hl (by rw [hc]; rfl) hx) Try.underlying56 (hval 0 _ v0 rfl (by rw [e0]; rfl)) h0
  obtain ⟨six, _, rfl, hf1⟩ := hf.bool_inv
  obtain ⟨hi, _, rfl, wy, hf2⟩ := hf1.int_inv
  obtain ⟨lo, _, rfl, wz, hf3⟩ := hf2.int_inv
  obtain ⟨n, _, rfl, _, hf4⟩ := hf3.int_inv
  obtain ⟨src, _, rfl, _, hf5⟩ := hf4.int_inv
  obtain ⟨peer, _, rfl, _, hf6⟩ := hf5.int_inv
  obtain ⟨met, _, rfl, _, hf7⟩ := hf6.int_inv
  obtain ⟨hop, _, rfl, _, hf8⟩ := hf7.int_inv
  obtain rfl := hf8.nil_inv
  obtain rfl : vs = #[.agg #[.bool six, .int .u64 hi, .int .u64 lo, .int .i64 n, .int .i64 src, .int .i64 peer, .int .i64 met, .int .i64 hop]] := by cases vs; simp_all
  exact offerChecks_law six hi lo n src peer met hop W (range_u64 wy) (range_u64 wz)

end Go.Proofs.Ytaeideeimhenmaa
