/-
  Proved here: the contracts of pre.Has and of the reference's PreHas, and the walk of the law PreHas.
-/
import Derived.Test.YtaeideeimhenmaaPreIn
namespace Go.Proofs.Ytaeideeimhenmaa
open Go.ChangeShapes Go.WideShapes Go.ChangeAt Go.RowKit

def hasB (six : Bool) (hi lo n : Int) (six' : Bool) (hi' lo' : Int) : Bool :=
  if ¬ chk six hi lo n = 0 then false else if mayB six' hi' lo' = false then false else if ¬ six = six' then false else inB six hi lo n six' hi' lo'
def hasE (six : Bool) (hi lo n : Int) (six' : Bool) (hi' lo' : Int) : Int :=
  if ¬ chk six hi lo n = 0 then chk six hi lo n else if mayB six' hi' lo' = false then 4 else if ¬ six = six' then 6 else 0

set_option maxHeartbeats 1600000 in
theorem has_any (six : Bool) (hi lo n : Int) (six' : Bool) (hi' lo' : Int) (w : World) (h1 : 0 ≤ hi ∧ hi < 18446744073709551616) (h2 : 0 ≤ lo ∧ lo < 18446744073709551616) (h3 : 0 ≤ hi' ∧ hi' < 18446744073709551616) (h4 : 0 ≤ lo' ∧ lo' < 18446744073709551616) :
    Calls Try.prog 31 #[.agg #[.bool six, .int .u64 hi, .int .u64 lo, .int .i64 n], .agg #[.bool six', .int .u64 hi', .int .u64 lo']] w fun e w' => e = .returned (.tuple #[.bool (hasB six hi lo n six' hi' lo'), .int .i64 (hasE six hi lo n six' hi' lo')]) ∧ Below w.heap.size w w' := by
  have c := fun w => check_any six hi lo n w h1 h2
  by_cases hz : chk six hi lo n = 0
  · have hp := chk_zero h1 h2 hz
    have c' := c
    rw [hz] at c'
    have CC := Lib.hid c'
    clear c c'
    by_cases hm : mayB six' hi' lo' = false
    · have eB : hasB six hi lo n six' hi' lo' = false ∧ hasE six hi lo n six' hi' lo' = 4 := by simp [hasB, hasE, hz, hm]
      rw [eB.1, eB.2]
      clear hp hz eB
      go_enter Try.func31, Try.ntmps31
      go_wp2_with fail
      refine (CC.out _).mono ?_
      rintro e w1 ⟨rfl, hb⟩
      obtain ⟨b0, b1, c0, c1, c2, c3, d0, d1, d2⟩ := Box43.step (box43_start w _ _ _ _ _ _ _ _ _) hb
      clear hb
      go_wp2_with fail
      refine (may_any _ hi' lo' _ h4.1).mono ?_
      rintro e w2 ⟨rfl, hb⟩
      have bx := Box43.step ⟨b0, b1, c0, c1, c2, c3, d0, d1, d2⟩ hb
      clear b0 b1 c0 c1 c2 c3 d0 d1 d2 hb
      obtain ⟨b0, b1, c0, c1, c2, c3, d0, d1, d2⟩ := bx
      go_wp2
      go_ret2
      exact ⟨rfl, b0⟩
    · have hm' : mayB six' hi' lo' = true := by simpa using hm
      clear hm
      by_cases hs : six = six'
      · subst hs
        have eB : hasB six hi lo n six hi' lo' = inB six hi lo n six hi' lo' ∧ hasE six hi lo n six hi' lo' = 0 := by simp [hasB, hasE, hz, hm']
        rw [eB.1, eB.2]
        clear hz eB
        obtain ⟨k, rfl⟩ := Int.eq_ofNat_of_zero_le hp.len.1
        have hkl := hp.len
        have hwl := wideI_le six
        have HP := Lib.hid hp
        have HM := Lib.hid hm'
        clear hp
        go_enter Try.func31, Try.ntmps31
        go_wp2_with fail
        refine (CC.out _).mono ?_
        rintro e w1 ⟨rfl, hb⟩
        obtain ⟨b0, b1, c0, c1, c2, c3, d0, d1, d2⟩ := Box43.step (box43_start w _ _ _ _ _ _ _ _ _) hb
        clear hb
        go_wp2_with fail
        refine (may_any _ hi' lo' _ h4.1).mono ?_
        rintro e w2 ⟨rfl, hb⟩
        have bx := Box43.step ⟨b0, b1, c0, c1, c2, c3, d0, d1, d2⟩ hb
        clear b0 b1 c0 c1 c2 c3 d0 d1 d2 hb
        obtain ⟨b0, b1, c0, c1, c2, c3, d0, d1, d2⟩ := bx
        go_wp2_with fail
        refine (in_any six hi lo k six hi' lo' _ h3 h4 (fun h => by subst h; exact (mayB_four HM.out).2) (by omega) (by omega)).mono ?_
        rintro e w3 ⟨rfl, hb⟩
        go_wp2
        go_ret2
        exact ⟨rfl, below_step b0 hb⟩
      · have eB : hasB six hi lo n six' hi' lo' = false ∧ hasE six hi lo n six' hi' lo' = 6 := by simp [hasB, hasE, hz, hm', hs]
        rw [eB.1, eB.2]
        clear hz eB
        obtain rfl := ne_bool hs
        clear hp hs
        cases six
        · replace hm' : mayB true hi' lo' = true := hm'
          go_enter Try.func31, Try.ntmps31
          go_wp2_with fail
          refine (CC.out _).mono ?_
          rintro e w1 ⟨rfl, hb⟩
          obtain ⟨b0, b1, c0, c1, c2, c3, d0, d1, d2⟩ := Box43.step (box43_start w _ _ _ _ _ _ _ _ _) hb
          clear hb
          go_wp2_with fail
          refine (may_any _ hi' lo' _ h4.1).mono ?_
          rintro e w2 ⟨rfl, hb⟩
          have bx := Box43.step ⟨b0, b1, c0, c1, c2, c3, d0, d1, d2⟩ hb
          clear b0 b1 c0 c1 c2 c3 d0 d1 d2 hb
          obtain ⟨b0, b1, c0, c1, c2, c3, d0, d1, d2⟩ := bx
          go_wp2
          go_ret2
          exact ⟨rfl, b0⟩
        · replace hm' : mayB false hi' lo' = true := hm'
          go_enter Try.func31, Try.ntmps31
          go_wp2_with fail
          refine (CC.out _).mono ?_
          rintro e w1 ⟨rfl, hb⟩
          obtain ⟨b0, b1, c0, c1, c2, c3, d0, d1, d2⟩ := Box43.step (box43_start w _ _ _ _ _ _ _ _ _) hb
          clear hb
          go_wp2_with fail
          refine (may_any _ hi' lo' _ h4.1).mono ?_
          rintro e w2 ⟨rfl, hb⟩
          have bx := Box43.step ⟨b0, b1, c0, c1, c2, c3, d0, d1, d2⟩ hb
          clear b0 b1 c0 c1 c2 c3 d0 d1 d2 hb
          obtain ⟨b0, b1, c0, c1, c2, c3, d0, d1, d2⟩ := bx
          go_wp2
          go_ret2
          exact ⟨rfl, b0⟩
  · have eB : hasB six hi lo n six' hi' lo' = false ∧ hasE six hi lo n six' hi' lo' = chk six hi lo n := by simp [hasB, hasE, hz]
    rw [eB.1, eB.2]
    clear eB
    generalize chk six hi lo n = k at *
    have CC := Lib.hid c
    have hb1 : (k == 0) = false := by simpa using hz
    have hb2 : (k != 0) = true := by simpa using hz
    clear c
    go_enter Try.func31, Try.ntmps31
    go_wp2_with fail
    refine (CC.out _).mono ?_
    rintro e w1 ⟨rfl, hb⟩
    obtain ⟨b0, b1, c0, c1, c2, c3, d0, d1, d2⟩ := Box43.step (box43_start w _ _ _ _ _ _ _ _ _) hb
    clear hb
    go_wp2
    go_ret2
    exact ⟨rfl, b0⟩

set_option maxHeartbeats 1600000 in
theorem refHas_any (six : Bool) (hi lo n : Int) (six' : Bool) (hi' lo' : Int) (w : World) (h1 : 0 ≤ hi ∧ hi < 18446744073709551616) (h2 : 0 ≤ lo ∧ lo < 18446744073709551616) (h3 : 0 ≤ hi' ∧ hi' < 18446744073709551616) (h4 : 0 ≤ lo' ∧ lo' < 18446744073709551616) :
    Calls Try.prog 32 #[.agg #[.bool six, .int .u64 hi, .int .u64 lo, .int .i64 n], .agg #[.bool six', .int .u64 hi', .int .u64 lo']] w fun e w' => e = .returned (.tuple #[.bool (hasB six hi lo n six' hi' lo'), .int .i64 (hasE six hi lo n six' hi' lo')]) ∧ Below w.heap.size w w' := by
  have c := fun w => preFault_any six hi lo n w h1 h2
  by_cases hz : chk six hi lo n = 0
  · have hp := chk_zero h1 h2 hz
    have c' := c
    rw [hz] at c'
    have CC := Lib.hid c'
    clear c c'
    by_cases hm : mayB six' hi' lo' = false
    · have eB : hasB six hi lo n six' hi' lo' = false ∧ hasE six hi lo n six' hi' lo' = 4 := by simp [hasB, hasE, hz, hm]
      rw [eB.1, eB.2]
      clear hp hz eB
      go_enter Try.func32, Try.ntmps32
      go_wp2_with fail
      refine (CC.out _).mono ?_
      rintro e w1 ⟨rfl, hb⟩
      obtain ⟨b0, b1, c0, c1, c2, c3, d0, d1, d2⟩ := Box43.step (box43_start w _ _ _ _ _ _ _ _ _) hb
      clear hb
      go_wp2_with fail
      refine (refMay_any _ hi' lo' _ h4.1).mono ?_
      rintro e w2 ⟨rfl, hb⟩
      have bx := Box43.step ⟨b0, b1, c0, c1, c2, c3, d0, d1, d2⟩ hb
      clear b0 b1 c0 c1 c2 c3 d0 d1 d2 hb
      obtain ⟨b0, b1, c0, c1, c2, c3, d0, d1, d2⟩ := bx
      go_wp2
      go_ret2
      exact ⟨rfl, b0⟩
    · have hm' : mayB six' hi' lo' = true := by simpa using hm
      clear hm
      by_cases hs : six = six'
      · subst hs
        have eB : hasB six hi lo n six hi' lo' = inB six hi lo n six hi' lo' ∧ hasE six hi lo n six hi' lo' = 0 := by simp [hasB, hasE, hz, hm']
        rw [eB.1, eB.2]
        clear hz eB
        obtain ⟨k, rfl⟩ := Int.eq_ofNat_of_zero_le hp.len.1
        have hkl := hp.len
        have hwl := wideI_le six
        have HP := Lib.hid hp
        have HM := Lib.hid hm'
        clear hp
        go_enter Try.func32, Try.ntmps32
        go_wp2_with fail
        refine (CC.out _).mono ?_
        rintro e w1 ⟨rfl, hb⟩
        obtain ⟨b0, b1, c0, c1, c2, c3, d0, d1, d2⟩ := Box43.step (box43_start w _ _ _ _ _ _ _ _ _) hb
        clear hb
        go_wp2_with fail
        refine (refMay_any _ hi' lo' _ h4.1).mono ?_
        rintro e w2 ⟨rfl, hb⟩
        have bx := Box43.step ⟨b0, b1, c0, c1, c2, c3, d0, d1, d2⟩ hb
        clear b0 b1 c0 c1 c2 c3 d0 d1 d2 hb
        obtain ⟨b0, b1, c0, c1, c2, c3, d0, d1, d2⟩ := bx
        go_wp2_with fail
        refine (preIn_any six hi lo k six hi' lo' _ HP.out h3 h4 HM.out).mono ?_
        rintro e w3 ⟨rfl, hb⟩
        go_wp2
        go_ret2
        exact ⟨rfl, below_step b0 hb⟩
      · have eB : hasB six hi lo n six' hi' lo' = false ∧ hasE six hi lo n six' hi' lo' = 6 := by simp [hasB, hasE, hz, hm', hs]
        rw [eB.1, eB.2]
        clear hz eB
        obtain rfl := ne_bool hs
        clear hp hs
        cases six
        · replace hm' : mayB true hi' lo' = true := hm'
          go_enter Try.func32, Try.ntmps32
          go_wp2_with fail
          refine (CC.out _).mono ?_
          rintro e w1 ⟨rfl, hb⟩
          obtain ⟨b0, b1, c0, c1, c2, c3, d0, d1, d2⟩ := Box43.step (box43_start w _ _ _ _ _ _ _ _ _) hb
          clear hb
          go_wp2_with fail
          refine (refMay_any _ hi' lo' _ h4.1).mono ?_
          rintro e w2 ⟨rfl, hb⟩
          have bx := Box43.step ⟨b0, b1, c0, c1, c2, c3, d0, d1, d2⟩ hb
          clear b0 b1 c0 c1 c2 c3 d0 d1 d2 hb
          obtain ⟨b0, b1, c0, c1, c2, c3, d0, d1, d2⟩ := bx
          go_wp2
          go_ret2
          exact ⟨rfl, b0⟩
        · replace hm' : mayB false hi' lo' = true := hm'
          go_enter Try.func32, Try.ntmps32
          go_wp2_with fail
          refine (CC.out _).mono ?_
          rintro e w1 ⟨rfl, hb⟩
          obtain ⟨b0, b1, c0, c1, c2, c3, d0, d1, d2⟩ := Box43.step (box43_start w _ _ _ _ _ _ _ _ _) hb
          clear hb
          go_wp2_with fail
          refine (refMay_any _ hi' lo' _ h4.1).mono ?_
          rintro e w2 ⟨rfl, hb⟩
          have bx := Box43.step ⟨b0, b1, c0, c1, c2, c3, d0, d1, d2⟩ hb
          clear b0 b1 c0 c1 c2 c3 d0 d1 d2 hb
          obtain ⟨b0, b1, c0, c1, c2, c3, d0, d1, d2⟩ := bx
          go_wp2
          go_ret2
          exact ⟨rfl, b0⟩
  · have eB : hasB six hi lo n six' hi' lo' = false ∧ hasE six hi lo n six' hi' lo' = chk six hi lo n := by simp [hasB, hasE, hz]
    rw [eB.1, eB.2]
    clear eB
    generalize chk six hi lo n = k at *
    have CC := Lib.hid c
    have hb1 : (k == 0) = false := by simpa using hz
    have hb2 : (k != 0) = true := by simpa using hz
    clear c
    go_enter Try.func32, Try.ntmps32
    go_wp2_with fail
    refine (CC.out _).mono ?_
    rintro e w1 ⟨rfl, hb⟩
    obtain ⟨b0, b1, c0, c1, c2, c3, d0, d1, d2⟩ := Box43.step (box43_start w _ _ _ _ _ _ _ _ _) hb
    clear hb
    go_wp2
    go_ret2
    exact ⟨rfl, b0⟩

set_option maxHeartbeats 800000 in
theorem preHas_law (six : Bool) (hi lo n : Int) (six' : Bool) (hi' lo' : Int) (w : World) (h1 : 0 ≤ hi ∧ hi < 18446744073709551616) (h2 : 0 ≤ lo ∧ lo < 18446744073709551616) (h3 : 0 ≤ hi' ∧ hi' < 18446744073709551616) (h4 : 0 ≤ lo' ∧ lo' < 18446744073709551616) :
    Calls Try.prog 12 #[.agg #[.bool six, .int .u64 hi, .int .u64 lo, .int .i64 n], .agg #[.bool six', .int .u64 hi', .int .u64 lo']] w fun e w' => e = .returned (.bool true) ∧ Below w.heap.size w w' := by
  have c1 := fun w => has_any six hi lo n six' hi' lo' w h1 h2 h3 h4
  have c2 := fun w => refHas_any six hi lo n six' hi' lo' w h1 h2 h3 h4
  generalize hasB six hi lo n six' hi' lo' = a at *
  generalize hasE six hi lo n six' hi' lo' = b at *
  have C1 := Lib.hid c1
  have C2 := Lib.hid c2
  clear c1 c2
  go_enter Try.func12, Try.ntmps12
  go_wp2_with fail
  refine (C1.out _).mono ?_
  rintro e w1 ⟨rfl, hb⟩
  obtain ⟨b0, b1, c0, c1, c2, c3, d0, d1, d2⟩ := Box43.step (box43_start w (.bool six) (.int .u64 hi) (.int .u64 lo) (.int .i64 n) (.bool six') (.int .u64 hi') (.int .u64 lo') 43 28) hb
  clear hb
  go_wp2_with fail
  refine (C2.out _).mono ?_
  rintro e w2 ⟨rfl, hb⟩
  go_wp2
  go_ret
  exact ⟨by simp, below_step b0 hb⟩

theorem preHas_walk {H : Type} {enc : TypeId × Value → H} (W : World) (vs : Array Value) (ds : List (DataW H)) (ps : List MemPlace) (h : ArgsOk Try.prog [43, 28] H enc W vs.toList ds ps) :
    Calls Try.prog 12 vs W fun e W' => e = .returned (.bool true) ∧ Below W.heap.size W W' := by
  obtain ⟨hA, ⟨base, hval⟩, _, _⟩ := h
  obtain ⟨v0, v1, d0, d1, p0, p1, e0, _, _, h0, h1⟩ := trodAll_two hA
  obtain ⟨six, hi, lo, n, rfl, b1, b2, _⟩ := open_prefix (hval 0 _ v0 rfl (by rw [e0]; rfl)) h0
  obtain ⟨six', hi', lo', rfl, b3, b4⟩ := open_addr (hval 1 _ v1 rfl (by rw [e0]; rfl)) h1
  obtain rfl : vs = #[.agg #[.bool six, .int .u64 hi, .int .u64 lo, .int .i64 n], .agg #[.bool six', .int .u64 hi', .int .u64 lo']] := by cases vs; simp_all
  exact preHas_law six hi lo n six' hi' lo' W b1 b2 b3 b4

end Go.Proofs.Ytaeideeimhenmaa
