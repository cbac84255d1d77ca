
/-
  Proved here: the contracts of pre.In and of the reference's preIn.
-/
import Derived.Test.YtonelibgaceflaaFault
namespace Go.Proofs.Ytonelibgaceflaa
open Go.ChangeShapes Go.WideShapes Go.ChangeAt Go.RowKit

/-- What two boxes, of four cells and of three, read as later on. -/
structure Box43 (w : World) (a b c d e f g : Value) (w' : World) : Prop where
  below : Below w.heap.size w w'
  size : w.heap.size + 1 < w'.heap.size
  c0 : w'.cell? ⟨w.heap.size, 0, none⟩ = some a
  c1 : w'.cell? ⟨w.heap.size, 1, none⟩ = some b
  c2 : w'.cell? ⟨w.heap.size, 2, none⟩ = some c
  c3 : w'.cell? ⟨w.heap.size, 3, none⟩ = some d
  d0 : w'.cell? ⟨w.heap.size + 1, 0, none⟩ = some e
  d1 : w'.cell? ⟨w.heap.size + 1, 1, none⟩ = some f
  d2 : w'.cell? ⟨w.heap.size + 1, 2, none⟩ = some g

theorem box43_start (w : World) (a b c d e f g : Value) (t t' : TypeId) : Box43 w a b c d e f g ((w.alloc (.cells #[a, b, c, d] t)).alloc (.cells #[e, f, g] t')) := by
  have hb : Below w.heap.size w ((w.alloc (.cells #[a, b, c, d] t)).alloc (.cells #[e, f, g] t')) := ((Below.refl _ _).alloc (Nat.le_refl _) _).alloc (by simp) _
  have e0 : ∀ j u, (#[a, b, c, d] : Array Value)[j]? = some u → ((w.alloc (.cells #[a, b, c, d] t)).alloc (.cells #[e, f, g] t')).cell? ⟨w.heap.size, j, none⟩ = some u := by
    intro j u hj
    rw [World.cell?_alloc_past _ _ _ (by simp), World.cell?_alloc_at _ _ _ _ rfl]
    exact hj
  have e1 : ∀ j u, (#[e, f, g] : Array Value)[j]? = some u → ((w.alloc (.cells #[a, b, c, d] t)).alloc (.cells #[e, f, g] t')).cell? ⟨w.heap.size + 1, j, none⟩ = some u := by
    intro j u hj
    rw [World.cell?_alloc_at _ _ _ _ (by simp)]
    exact hj
  exact ⟨hb, by simp, e0 0 a rfl, e0 1 b rfl, e0 2 c rfl, e0 3 d rfl, e1 0 e rfl, e1 1 f rfl, e1 2 g rfl⟩

theorem Box43.step {w w1 w2 : World} {a b c d e f g : Value} (h : Box43 w a b c d e f g w1) (hb : Below w1.heap.size w1 w2) : Box43 w a b c d e f g w2 :=
  ⟨below_step h.below hb, size_step h.size hb, cell_step hb h.c0, cell_step hb h.c1, cell_step hb h.c2, cell_step hb h.c3, cell_step hb h.d0, cell_step hb h.d1, cell_step hb h.d2⟩

theorem ne_bool {a b : Bool} (h : ¬ a = b) : b = !a := by cases a <;> cases b <;> simp_all

set_option maxHeartbeats 1600000 in
theorem in_any (six : Bool) (hi lo n : Int) (six' : Bool) (hi' lo' : Int) (w : World) (h3 : 0 ≤ hi' ∧ hi' < 18446744073709551616) (h4 : 0 ≤ lo' ∧ lo' < 18446744073709551616) (h5 : six' = false → lo' < 4294967296) (h6 : -500 ≤ n) (h7 : n ≤ 500) :
    Calls Try.prog 195 #[.agg #[.bool six, .int .u64 hi, .int .u64 lo, .int .i64 n], .agg #[.bool six', .int .u64 hi', .int .u64 lo']] w fun e w' => e = .returned (.bool (inB six hi lo n six' hi' lo')) ∧ Below w.heap.size w w' := by
  have HQ := Lib.hid h5
  clear h5
  by_cases hs : six = six'
  · subst hs
    have hres : inB six hi lo n six hi' lo' = (cutHi six hi' n == hi && cutLo six lo' n == lo) := by unfold inB; simp
    rw [hres]
    clear hres
    by_cases e1 : cutHi six hi' n = hi
    · by_cases e2 : cutLo six lo' n = lo
      · subst e1 e2
        rw [beq_self_eq_true, beq_self_eq_true]
        cases six
        · obtain ⟨b0, b1, c0, c1, c2, c3, d0, d1, d2⟩ := box43_start w (.bool false) (.int .u64 (cutHi false hi' n)) (.int .u64 (cutLo false lo' n)) (.int .i64 n) (.bool false) (.int .u64 hi') (.int .u64 lo') 35 24
          go_enter Try.func195, Try.ntmps195
          go_wp2_with fail
          go_region_held3 (fun w' => Below w.heap.size w w' ∧ w.heap.size + 1 < w'.heap.size ∧ w'.cell? ⟨w.heap.size, 0, none⟩ = some (.bool false) ∧ w'.cell? ⟨w.heap.size, 1, none⟩ = some (.int .u64 (cutHi false hi' n)) ∧ w'.cell? ⟨w.heap.size, 2, none⟩ = some (.int .u64 (cutLo false lo' n)) ∧ w'.cell? ⟨w.heap.size, 3, none⟩ = some (.int .i64 n) ∧ w'.cell? ⟨w.heap.size + 1, 0, none⟩ = some (.bool false) ∧ w'.cell? ⟨w.heap.size + 1, 1, none⟩ = some (.int .u64 hi') ∧ w'.cell? ⟨w.heap.size + 1, 2, none⟩ = some (.int .u64 lo'))
            (((try go_split_ands); (repeat' apply And.intro) <;> first | assumption | exact Below.drew (by assumption) | exact cell_drew (by assumption) | exact size_drew (by assumption) | exact below_step (by assumption) (by assumption) | exact cell_step (by assumption) (by assumption) | exact size_step (by assumption) (by assumption)))
            (first | (go_at_call 201; refine (cut_any _ hi' lo' n _ h3 h4 (by first | exact fun _ => HQ.out trivial | exact fun h => HQ.out h | simp) h6 h7).mono ?_; rintro e w' ⟨rfl, hb⟩))
          all_goals go_wp2
          all_goals go_ret
          all_goals (go_split_ands; exact ⟨by simp, by assumption⟩)
        · obtain ⟨b0, b1, c0, c1, c2, c3, d0, d1, d2⟩ := box43_start w (.bool true) (.int .u64 (cutHi true hi' n)) (.int .u64 (cutLo true lo' n)) (.int .i64 n) (.bool true) (.int .u64 hi') (.int .u64 lo') 35 24
          go_enter Try.func195, Try.ntmps195
          go_wp2_with fail
          go_region_held3 (fun w' => Below w.heap.size w w' ∧ w.heap.size + 1 < w'.heap.size ∧ w'.cell? ⟨w.heap.size, 0, none⟩ = some (.bool true) ∧ w'.cell? ⟨w.heap.size, 1, none⟩ = some (.int .u64 (cutHi true hi' n)) ∧ w'.cell? ⟨w.heap.size, 2, none⟩ = some (.int .u64 (cutLo true lo' n)) ∧ w'.cell? ⟨w.heap.size, 3, none⟩ = some (.int .i64 n) ∧ w'.cell? ⟨w.heap.size + 1, 0, none⟩ = some (.bool true) ∧ w'.cell? ⟨w.heap.size + 1, 1, none⟩ = some (.int .u64 hi') ∧ w'.cell? ⟨w.heap.size + 1, 2, none⟩ = some (.int .u64 lo'))
            (((try go_split_ands); (repeat' apply And.intro) <;> first | assumption | exact Below.drew (by assumption) | exact cell_drew (by assumption) | exact size_drew (by assumption) | exact below_step (by assumption) (by assumption) | exact cell_step (by assumption) (by assumption) | exact size_step (by assumption) (by assumption)))
            (first | (go_at_call 201; refine (cut_any _ hi' lo' n _ h3 h4 (by first | exact fun _ => HQ.out trivial | exact fun h => HQ.out h | simp) h6 h7).mono ?_; rintro e w' ⟨rfl, hb⟩))
          all_goals go_wp2
          all_goals go_ret
          all_goals (go_split_ands; exact ⟨by simp, by assumption⟩)
      · have e3 : (cutLo six lo' n == lo) = false := by simpa using e2
        rw [e3, Bool.and_false]
        subst e1
        cases six
        · obtain ⟨b0, b1, c0, c1, c2, c3, d0, d1, d2⟩ := box43_start w (.bool false) (.int .u64 (cutHi false hi' n)) (.int .u64 lo) (.int .i64 n) (.bool false) (.int .u64 hi') (.int .u64 lo') 35 24
          go_enter Try.func195, Try.ntmps195
          go_wp2_with fail
          go_region_held3 (fun w' => Below w.heap.size w w' ∧ w.heap.size + 1 < w'.heap.size ∧ w'.cell? ⟨w.heap.size, 0, none⟩ = some (.bool false) ∧ w'.cell? ⟨w.heap.size, 1, none⟩ = some (.int .u64 (cutHi false hi' n)) ∧ w'.cell? ⟨w.heap.size, 2, none⟩ = some (.int .u64 lo) ∧ w'.cell? ⟨w.heap.size, 3, none⟩ = some (.int .i64 n) ∧ w'.cell? ⟨w.heap.size + 1, 0, none⟩ = some (.bool false) ∧ w'.cell? ⟨w.heap.size + 1, 1, none⟩ = some (.int .u64 hi') ∧ w'.cell? ⟨w.heap.size + 1, 2, none⟩ = some (.int .u64 lo'))
            (((try go_split_ands); (repeat' apply And.intro) <;> first | assumption | exact Below.drew (by assumption) | exact cell_drew (by assumption) | exact size_drew (by assumption) | exact below_step (by assumption) (by assumption) | exact cell_step (by assumption) (by assumption) | exact size_step (by assumption) (by assumption)))
            (first | (go_at_call 201; refine (cut_any _ hi' lo' n _ h3 h4 (by first | exact fun _ => HQ.out trivial | exact fun h => HQ.out h | simp) h6 h7).mono ?_; rintro e w' ⟨rfl, hb⟩))
          all_goals go_wp2
          all_goals go_ret
          all_goals (go_split_ands; exact ⟨by simp, by assumption⟩)
        · obtain ⟨b0, b1, c0, c1, c2, c3, d0, d1, d2⟩ := box43_start w (.bool true) (.int .u64 (cutHi true hi' n)) (.int .u64 lo) (.int .i64 n) (.bool true) (.int .u64 hi') (.int .u64 lo') 35 24
          go_enter Try.func195, Try.ntmps195
          go_wp2_with fail
          go_region_held3 (fun w' => Below w.heap.size w w' ∧ w.heap.size + 1 < w'.heap.size ∧ w'.cell? ⟨w.heap.size, 0, none⟩ = some (.bool true) ∧ w'.cell? ⟨w.heap.size, 1, none⟩ = some (.int .u64 (cutHi true hi' n)) ∧ w'.cell? ⟨w.heap.size, 2, none⟩ = some (.int .u64 lo) ∧ w'.cell? ⟨w.heap.size, 3, none⟩ = some (.int .i64 n) ∧ w'.cell? ⟨w.heap.size + 1, 0, none⟩ = some (.bool true) ∧ w'.cell? ⟨w.heap.size + 1, 1, none⟩ = some (.int .u64 hi') ∧ w'.cell? ⟨w.heap.size + 1, 2, none⟩ = some (.int .u64 lo'))
            (((try go_split_ands); (repeat' apply And.intro) <;> first | assumption | exact Below.drew (by assumption) | exact cell_drew (by assumption) | exact size_drew (by assumption) | exact below_step (by assumption) (by assumption) | exact cell_step (by assumption) (by assumption) | exact size_step (by assumption) (by assumption)))
            (first | (go_at_call 201; refine (cut_any _ hi' lo' n _ h3 h4 (by first | exact fun _ => HQ.out trivial | exact fun h => HQ.out h | simp) h6 h7).mono ?_; rintro e w' ⟨rfl, hb⟩))
          all_goals go_wp2
          all_goals go_ret
          all_goals (go_split_ands; exact ⟨by simp, by assumption⟩)
    · have e3 : (cutHi six hi' n == hi) = false := by simpa using e1
      rw [e3, Bool.false_and]
      cases six
      · obtain ⟨b0, b1, c0, c1, c2, c3, d0, d1, d2⟩ := box43_start w (.bool false) (.int .u64 hi) (.int .u64 lo) (.int .i64 n) (.bool false) (.int .u64 hi') (.int .u64 lo') 35 24
        go_enter Try.func195, Try.ntmps195
        go_wp2_with fail
        go_region_held3 (fun w' => Below w.heap.size w w' ∧ w.heap.size + 1 < w'.heap.size ∧ w'.cell? ⟨w.heap.size, 0, none⟩ = some (.bool false) ∧ w'.cell? ⟨w.heap.size, 1, none⟩ = some (.int .u64 hi) ∧ w'.cell? ⟨w.heap.size, 2, none⟩ = some (.int .u64 lo) ∧ w'.cell? ⟨w.heap.size, 3, none⟩ = some (.int .i64 n) ∧ w'.cell? ⟨w.heap.size + 1, 0, none⟩ = some (.bool false) ∧ w'.cell? ⟨w.heap.size + 1, 1, none⟩ = some (.int .u64 hi') ∧ w'.cell? ⟨w.heap.size + 1, 2, none⟩ = some (.int .u64 lo'))
          (((try go_split_ands); (repeat' apply And.intro) <;> first | assumption | exact Below.drew (by assumption) | exact cell_drew (by assumption) | exact size_drew (by assumption) | exact below_step (by assumption) (by assumption) | exact cell_step (by assumption) (by assumption) | exact size_step (by assumption) (by assumption)))
          (first | (go_at_call 201; refine (cut_any _ hi' lo' n _ h3 h4 (by first | exact fun _ => HQ.out trivial | exact fun h => HQ.out h | simp) h6 h7).mono ?_; rintro e w' ⟨rfl, hb⟩))
        all_goals go_wp2
        all_goals go_ret
        all_goals (go_split_ands; exact ⟨by simp, by assumption⟩)
      · obtain ⟨b0, b1, c0, c1, c2, c3, d0, d1, d2⟩ := box43_start w (.bool true) (.int .u64 hi) (.int .u64 lo) (.int .i64 n) (.bool true) (.int .u64 hi') (.int .u64 lo') 35 24
        go_enter Try.func195, Try.ntmps195
        go_wp2_with fail
        go_region_held3 (fun w' => Below w.heap.size w w' ∧ w.heap.size + 1 < w'.heap.size ∧ w'.cell? ⟨w.heap.size, 0, none⟩ = some (.bool true) ∧ w'.cell? ⟨w.heap.size, 1, none⟩ = some (.int .u64 hi) ∧ w'.cell? ⟨w.heap.size, 2, none⟩ = some (.int .u64 lo) ∧ w'.cell? ⟨w.heap.size, 3, none⟩ = some (.int .i64 n) ∧ w'.cell? ⟨w.heap.size + 1, 0, none⟩ = some (.bool true) ∧ w'.cell? ⟨w.heap.size + 1, 1, none⟩ = some (.int .u64 hi') ∧ w'.cell? ⟨w.heap.size + 1, 2, none⟩ = some (.int .u64 lo'))
          (((try go_split_ands); (repeat' apply And.intro) <;> first | assumption | exact Below.drew (by assumption) | exact cell_drew (by assumption) | exact size_drew (by assumption) | exact below_step (by assumption) (by assumption) | exact cell_step (by assumption) (by assumption) | exact size_step (by assumption) (by assumption)))
          (first | (go_at_call 201; refine (cut_any _ hi' lo' n _ h3 h4 (by first | exact fun _ => HQ.out trivial | exact fun h => HQ.out h | simp) h6 h7).mono ?_; rintro e w' ⟨rfl, hb⟩))
        all_goals go_wp2
        all_goals go_ret
        all_goals (go_split_ands; exact ⟨by simp, by assumption⟩)
  · have hres : inB six hi lo n six' hi' lo' = false := by
      unfold inB
      rw [show (six' == six) = false from by simpa using fun h => hs h.symm, Bool.false_and]
    rw [hres]
    clear hres
    obtain rfl := ne_bool hs
    have hb0 : Below w.heap.size w ((w.alloc (.cells #[.bool six, .int .u64 hi, .int .u64 lo, .int .i64 n] 35)).alloc (.cells #[.bool (!six), .int .u64 hi', .int .u64 lo'] 24)) := ((Below.refl _ _).alloc (Nat.le_refl _) _).alloc (by simp) _
    cases six
    · go_enter Try.func195, Try.ntmps195
      go_wp2_with fail
      go_quiet (fail)
      go_wp2
      go_ret
      exact ⟨by simp, below_drewN hb0 _⟩
    · go_enter Try.func195, Try.ntmps195
      go_wp2_with fail
      go_quiet (fail)
      go_wp2
      go_ret
      exact ⟨by simp, below_drewN hb0 _⟩

end Go.Proofs.Ytonelibgaceflaa
