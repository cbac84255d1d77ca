
/-
  Proved here: the contracts of pre.both and of the reference's preBoth.
-/
import Derived.Test.YtonelibgaceflaaIn
namespace Go.Proofs.Ytonelibgaceflaa
open Go.ChangeShapes Go.WideShapes Go.ChangeAt Go.RowKit

/-- What two boxes of four cells read as later on. -/
structure Box44 (w : World) (a b c d e f g h : Value) (w' : World) : Prop where
  below : Below w.heap.size w w'
  size : w.heap.size + 1 < w'.heap.size
  c0 : w'.cell? ⟨w.heap.size, 0, none⟩ = some a
  c1 : w'.cell? ⟨w.heap.size, 1, none⟩ = some b
  c2 : w'.cell? ⟨w.heap.size, 2, none⟩ = some c
  c3 : w'.cell? ⟨w.heap.size, 3, none⟩ = some d
  d0 : w'.cell? ⟨w.heap.size + 1, 0, none⟩ = some e
  d1 : w'.cell? ⟨w.heap.size + 1, 1, none⟩ = some f
  d2 : w'.cell? ⟨w.heap.size + 1, 2, none⟩ = some g
  d3 : w'.cell? ⟨w.heap.size + 1, 3, none⟩ = some h

theorem box44_start (w : World) (a b c d e f g h : Value) (t : TypeId) : Box44 w a b c d e f g h ((w.alloc (.cells #[a, b, c, d] t)).alloc (.cells #[e, f, g, h] t)) := by
  have hb : Below w.heap.size w ((w.alloc (.cells #[a, b, c, d] t)).alloc (.cells #[e, f, g, h] t)) := ((Below.refl _ _).alloc (Nat.le_refl _) _).alloc (by simp) _
  have e0 : ∀ j u, (#[a, b, c, d] : Array Value)[j]? = some u → ((w.alloc (.cells #[a, b, c, d] t)).alloc (.cells #[e, f, g, h] t)).cell? ⟨w.heap.size, j, none⟩ = some u := by
    intro j u hj
    rw [World.cell?_alloc_past _ _ _ (by simp), World.cell?_alloc_at _ _ _ _ rfl]
    exact hj
  have e1 : ∀ j u, (#[e, f, g, h] : Array Value)[j]? = some u → ((w.alloc (.cells #[a, b, c, d] t)).alloc (.cells #[e, f, g, h] t)).cell? ⟨w.heap.size + 1, j, none⟩ = some u := by
    intro j u hj
    rw [World.cell?_alloc_at _ _ _ _ (by simp)]
    exact hj
  exact ⟨hb, by simp, e0 0 a rfl, e0 1 b rfl, e0 2 c rfl, e0 3 d rfl, e1 0 e rfl, e1 1 f rfl, e1 2 g rfl, e1 3 h rfl⟩

theorem Box44.step {w w1 w2 : World} {a b c d e f g h : Value} (x : Box44 w a b c d e f g h w1) (hb : Below w1.heap.size w1 w2) : Box44 w a b c d e f g h w2 :=
  ⟨below_step x.below hb, size_step x.size hb, cell_step hb x.c0, cell_step hb x.c1, cell_step hb x.c2, cell_step hb x.c3, cell_step hb x.d0, cell_step hb x.d1, cell_step hb x.d2, cell_step hb x.d3⟩

def bothE (six : Bool) (hi lo n : Int) (six' : Bool) (hi' lo' n' : Int) : Int :=
  if ¬ chk six hi lo n = 0 then chk six hi lo n else if ¬ chk six' hi' lo' n' = 0 then chk six' hi' lo' n' else if ¬ six = six' then 6 else 0

set_option maxHeartbeats 1600000 in
theorem both_any (six : Bool) (hi lo n : Int) (six' : Bool) (hi' lo' n' : Int) (w : World) (h1 : 0 ≤ hi ∧ hi < 18446744073709551616) (h2 : 0 ≤ lo ∧ lo < 18446744073709551616) (h3 : 0 ≤ hi' ∧ hi' < 18446744073709551616) (h4 : 0 ≤ lo' ∧ lo' < 18446744073709551616) :
    Calls Try.prog 240 #[.agg #[.bool six, .int .u64 hi, .int .u64 lo, .int .i64 n], .agg #[.bool six', .int .u64 hi', .int .u64 lo', .int .i64 n']] w fun e w' => e = .returned (.int .i64 (bothE six hi lo n six' hi' lo' n')) ∧ Below w.heap.size w w' := by
  have c1 := fun w => check_any six hi lo n w h1 h2
  have c2 := fun w => check_any six' hi' lo' n' w h3 h4
  by_cases hz : chk six hi lo n = 0
  · by_cases hz2 : chk six' hi' lo' n' = 0
    · rw [hz] at c1
      rw [hz2] at c2
      by_cases hs : six = six'
      · have hE : bothE six hi lo n six' hi' lo' n' = 0 := by unfold bothE; rw [if_neg (fun h => h hz), if_neg (fun h => h hz2), if_neg (fun h => h hs)]
        rw [hE]
        subst hs
        have C1 := Lib.hid c1
        have C2 := Lib.hid c2
        clear c1 c2 hz hz2 hE
        go_enter Try.func240, Try.ntmps240
        go_wp2_with fail
        refine (C1.out _).mono ?_
        rintro e w1 ⟨rfl, hb⟩
        obtain ⟨b0, b1, c0, c1, c2, c3, d0, d1, d2, d3⟩ := Box44.step (box44_start w _ _ _ _ _ _ _ _ _) hb
        clear hb
        go_wp2_with fail
        refine (C2.out _).mono ?_
        rintro e w2 ⟨rfl, hb⟩
        have bx := Box44.step ⟨b0, b1, c0, c1, c2, c3, d0, d1, d2, d3⟩ hb
        clear b0 b1 c0 c1 c2 c3 d0 d1 d2 d3 hb
        obtain ⟨b0, b1, c0, c1, c2, c3, d0, d1, d2, d3⟩ := bx
        go_wp2
        go_ret
        exact ⟨rfl, b0⟩
      · have hE : bothE six hi lo n six' hi' lo' n' = 6 := by unfold bothE; rw [if_neg (fun h => h hz), if_neg (fun h => h hz2), if_pos hs]
        rw [hE]
        obtain rfl := ne_bool hs
        clear hz hz2 hE hs
        cases six
        · replace c2 : ∀ w, Calls Try.prog 151 #[.agg #[.bool true, .int .u64 hi', .int .u64 lo', .int .i64 n']] w fun e w' => e = .returned (.int .i64 0) ∧ Below w.heap.size w w' := c2
          have C1 := Lib.hid c1
          have C2 := Lib.hid c2
          clear c1 c2
          go_enter Try.func240, Try.ntmps240
          go_wp2_with fail
          refine (C1.out _).mono ?_
          rintro e w1 ⟨rfl, hb⟩
          obtain ⟨b0, b1, c0, c1, c2, c3, d0, d1, d2, d3⟩ := Box44.step (box44_start w _ _ _ _ _ _ _ _ _) hb
          clear hb
          go_wp2_with fail
          refine (C2.out _).mono ?_
          rintro e w2 ⟨rfl, hb⟩
          have bx := Box44.step ⟨b0, b1, c0, c1, c2, c3, d0, d1, d2, d3⟩ hb
          clear b0 b1 c0 c1 c2 c3 d0 d1 d2 d3 hb
          obtain ⟨b0, b1, c0, c1, c2, c3, d0, d1, d2, d3⟩ := bx
          go_wp2
          go_ret
          exact ⟨rfl, b0⟩
        · replace c2 : ∀ w, Calls Try.prog 151 #[.agg #[.bool false, .int .u64 hi', .int .u64 lo', .int .i64 n']] w fun e w' => e = .returned (.int .i64 0) ∧ Below w.heap.size w w' := c2
          have C1 := Lib.hid c1
          have C2 := Lib.hid c2
          clear c1 c2
          go_enter Try.func240, Try.ntmps240
          go_wp2_with fail
          refine (C1.out _).mono ?_
          rintro e w1 ⟨rfl, hb⟩
          obtain ⟨b0, b1, c0, c1, c2, c3, d0, d1, d2, d3⟩ := Box44.step (box44_start w _ _ _ _ _ _ _ _ _) hb
          clear hb
          go_wp2_with fail
          refine (C2.out _).mono ?_
          rintro e w2 ⟨rfl, hb⟩
          have bx := Box44.step ⟨b0, b1, c0, c1, c2, c3, d0, d1, d2, d3⟩ hb
          clear b0 b1 c0 c1 c2 c3 d0 d1 d2 d3 hb
          obtain ⟨b0, b1, c0, c1, c2, c3, d0, d1, d2, d3⟩ := bx
          go_wp2
          go_ret
          exact ⟨rfl, b0⟩
    · have hE : bothE six hi lo n six' hi' lo' n' = chk six' hi' lo' n' := by unfold bothE; rw [if_neg (fun h => h hz), if_pos hz2]
      rw [hE]
      rw [hz] at c1
      generalize chk six' hi' lo' n' = k at *
      have C1 := Lib.hid c1
      have C2 := Lib.hid c2
      have hb1 : (k == 0) = false := by simpa using hz2
      have hb2 : (k != 0) = true := by simpa using hz2
      clear c1 c2 hz hE
      go_enter Try.func240, Try.ntmps240
      go_wp2_with fail
      refine (C1.out _).mono ?_
      rintro e w1 ⟨rfl, hb⟩
      obtain ⟨b0, b1, c0, c1, c2, c3, d0, d1, d2, d3⟩ := Box44.step (box44_start w _ _ _ _ _ _ _ _ _) hb
      clear hb
      go_wp2_with fail
      refine (C2.out _).mono ?_
      rintro e w2 ⟨rfl, hb⟩
      have bx := Box44.step ⟨b0, b1, c0, c1, c2, c3, d0, d1, d2, d3⟩ hb
      clear b0 b1 c0 c1 c2 c3 d0 d1 d2 d3 hb
      obtain ⟨b0, b1, c0, c1, c2, c3, d0, d1, d2, d3⟩ := bx
      go_wp2
      go_ret
      exact ⟨rfl, b0⟩
  · have hE : bothE six hi lo n six' hi' lo' n' = chk six hi lo n := by unfold bothE; rw [if_pos hz]
    rw [hE]
    generalize chk six hi lo n = k at *
    have C1 := Lib.hid c1
    have hb1 : (k == 0) = false := by simpa using hz
    have hb2 : (k != 0) = true := by simpa using hz
    clear c1 c2 hE
    go_enter Try.func240, Try.ntmps240
    go_wp2_with fail
    refine (C1.out _).mono ?_
    rintro e w1 ⟨rfl, hb⟩
    obtain ⟨b0, b1, c0, c1, c2, c3, d0, d1, d2, d3⟩ := Box44.step (box44_start w _ _ _ _ _ _ _ _ _) hb
    clear hb
    go_wp2
    go_ret
    exact ⟨rfl, b0⟩

end Go.Proofs.Ytonelibgaceflaa
