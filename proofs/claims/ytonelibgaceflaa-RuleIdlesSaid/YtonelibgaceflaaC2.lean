/-
  
  
  
  
  
  
  
  
  
  
  
  
  
  
  
  
  
  
-/
import Derived.Test.YtonelibgaceflaaC1
import Derived.Deep.RegionWith
namespace Go.Proofs.Ytonelibgaceflaa
open Go.ChangeShapes Go.WideShapes Go.ChangeAt Go.RowKit

set_option maxHeartbeats 400000 in
theorem ruleCheck_big (A : Option Addr) (n c : Nat) (w : World) (hn : 30 < n) (hm : n ≤ maxLen) :
    Calls Try.prog 77 #[.slice A n c] w fun e w' => e = .returned (.int .i64 1) ∧ Below w.heap.size w w' := by
  unfold maxLen at hm
  go_enter Try.func77, Try.ntmps77
  go_wp2
  go_ret
  exact ⟨rfl, Below.refl _ _⟩

set_option maxHeartbeats 400000 in
theorem ruleFault_big (A : Option Addr) (n c : Nat) (w : World) (hn : 30 < n) (hm : n ≤ maxLen) :
    Calls Try.prog 79 #[.slice A n c] w fun e w' => e = .returned (.int .i64 1) ∧ Below w.heap.size w w' := by
  unfold maxLen at hm
  go_enter Try.func79, Try.ntmps79
  go_wp2
  go_ret
  exact ⟨rfl, Below.refl _ _⟩

/-- What is known of a slice of rules that came in. -/
def IsRules (w : World) (A : Option Addr) (n : Nat) (l : List RuleV) : Prop :=
  l.length = n ∧ n ≤ maxLen ∧ (∀ r ∈ l, r.Ok) ∧ Reads w w.heap.size 7 A n (l.flatMap RuleV.cells)

theorem IsRules.below {w w' : World} {A : Option Addr} {n : Nat} {l : List RuleV} (h : IsRules w A n l) (hb : Below w.heap.size w w') : IsRules w' A n l :=
  ⟨h.1, h.2.1, h.2.2.1, (h.2.2.2.below hb).more hb.size⟩

/-- What rules.Check returns. -/
def rulesF (l : List RuleV) : Int := if 30 < l.length then 1 else rulesE l

theorem rulesCheck_is {A : Option Addr} {n : Nat} {l : List RuleV} {w : World} (h : IsRules w A n l) (c : Nat) :
    Calls Try.prog 77 #[.slice A n c] w fun e w' => e = .returned (.int .i64 (rulesF l)) ∧ Below w.heap.size w w' := by
  unfold rulesF
  by_cases hn : 30 < l.length
  · rw [if_pos hn]
    exact ruleCheck_big A n c w (by have := h.1; omega) h.2.1
  · rw [if_neg hn]
    exact ruleCheck_any A n c l w (by have := h.1; omega) h.1 h.2.2.1 h.2.2.2

theorem rulesFault_is {A : Option Addr} {n : Nat} {l : List RuleV} {w : World} (h : IsRules w A n l) (c : Nat) :
    Calls Try.prog 79 #[.slice A n c] w fun e w' => e = .returned (.int .i64 (rulesF l)) ∧ Below w.heap.size w w' := by
  unfold rulesF
  by_cases hn : 30 < l.length
  · rw [if_pos hn]
    exact ruleFault_big A n c w (by have := h.1; omega) h.2.1
  · rw [if_neg hn]
    exact ruleFault_any A n c l w (by have := h.1; omega) h.1 h.2.2.1 h.2.2.2

set_option maxRecDepth 100000 in
theorem open_rules {H : Type} {enc : TypeId × Value → H} {W : World} {base : Nat} {sp : Nat → Bool} {held : Bool} {a0 : Option Addr} {len0 cap0 : Nat} {d : DataW H} {p : List MemPlace}
    (h : DataW.Trod enc Try.prog W base sp held 43 (.slice a0 len0 cap0) d p) : ∃ l : List RuleV, IsRules W a0 len0 l := by
  have hk : flat Try.prog 9 125 = some [none, none, some .u64, some .u64, some .i64, some .i64, some .i64] := by kernel_rfl
  obtain ⟨css, hcl, hfit, hr, hl, hm⟩ := open_flats Try.underlying43 hk (by kernel_rfl) (by simp) h
  obtain ⟨l, rfl, hz⟩ := choose_list (f := RuleV.cells) (Q := RuleV.Ok) css (fun cs hc => by
    have hf := hfit cs hc
    clear hr hcl hfit
    obtain ⟨yes, _, rfl, hf0⟩ := hf.bool_inv
    obtain ⟨six, _, rfl, hf1⟩ := hf0.bool_inv
    obtain ⟨hi, _, rfl, wy, hf2⟩ := hf1.int_inv
    obtain ⟨lo, _, rfl, wz, hf3⟩ := hf2.int_inv
    obtain ⟨m, _, rfl, _, hf4⟩ := hf3.int_inv
    obtain ⟨least, _, rfl, _, hf5⟩ := hf4.int_inv
    obtain ⟨most, _, rfl, _, hf6⟩ := hf5.int_inv
    obtain rfl := hf6.nil_inv
    exact ⟨⟨yes, six, hi, lo, m, least, most⟩, ⟨range_u64 wy, range_u64 wz⟩, rfl⟩)
  exact ⟨l, by simpa using hcl, by omega, hz, by rw [List.flatMap_def]; exact hr⟩

end Go.Proofs.Ytonelibgaceflaa

namespace Go.Proofs.Ytonelibgaceflaa
open Go.ChangeShapes Go.WideShapes Go.ChangeAt Go.RowKit

/-- What two boxes, of four cells and of three, read as later on. -/
structure Box43 (w : World) (a b c d e f g : Value) (w' : World) : Prop where
  below : Below w.heap.size w w'
  size : w.heap.size + 1 < w'.heap.size
  c0 : w'.cell? ⟨w.heap.size, 0, none⟩ = some a
  c1 : w'.cell? ⟨w.heap.size, 1, none⟩ = some b
  c2 : w'.cell? ⟨w.heap.size, 2, none⟩ = some c
  c3 : w'.cell? ⟨w.heap.size, 3, none⟩ = some d
  d0 : w'.cell? ⟨w.heap.size + 1, 0, none⟩ = some e
  d1 : w'.cell? ⟨w.heap.size + 1, 1, none⟩ = some f
  d2 : w'.cell? ⟨w.heap.size + 1, 2, none⟩ = some g

theorem box43_start (w : World) (a b c d e f g : Value) (t t' : TypeId) : Box43 w a b c d e f g ((w.alloc (.cells #[a, b, c, d] t)).alloc (.cells #[e, f, g] t')) := by
  have hb : Below w.heap.size w ((w.alloc (.cells #[a, b, c, d] t)).alloc (.cells #[e, f, g] t')) := ((Below.refl _ _).alloc (Nat.le_refl _) _).alloc (by simp) _
  have e0 : ∀ j u, (#[a, b, c, d] : Array Value)[j]? = some u → ((w.alloc (.cells #[a, b, c, d] t)).alloc (.cells #[e, f, g] t')).cell? ⟨w.heap.size, j, none⟩ = some u := by
    intro j u hj
    rw [World.cell?_alloc_past _ _ _ (by simp), World.cell?_alloc_at _ _ _ _ rfl]
    exact hj
  have e1 : ∀ j u, (#[e, f, g] : Array Value)[j]? = some u → ((w.alloc (.cells #[a, b, c, d] t)).alloc (.cells #[e, f, g] t')).cell? ⟨w.heap.size + 1, j, none⟩ = some u := by
    intro j u hj
    rw [World.cell?_alloc_at _ _ _ _ (by simp)]
    exact hj
  exact ⟨hb, by simp, e0 0 a rfl, e0 1 b rfl, e0 2 c rfl, e0 3 d rfl, e1 0 e rfl, e1 1 f rfl, e1 2 g rfl⟩

theorem Box43.step {w w1 w2 : World} {a b c d e f g : Value} (h : Box43 w a b c d e f g w1) (hb : Below w1.heap.size w1 w2) : Box43 w a b c d e f g w2 :=
  ⟨below_step h.below hb, size_step h.size hb, cell_step hb h.c0, cell_step hb h.c1, cell_step hb h.c2, cell_step hb h.c3, cell_step hb h.d0, cell_step hb h.d1, cell_step hb h.d2⟩

theorem ne_bool {a b : Bool} (h : ¬ a = b) : b = !a := by cases a <;> cases b <;> simp_all

set_option maxHeartbeats 1600000 in
theorem in_any (six : Bool) (hi lo n : Int) (six' : Bool) (hi' lo' : Int) (w : World) (h3 : 0 ≤ hi' ∧ hi' < 18446744073709551616) (h4 : 0 ≤ lo' ∧ lo' < 18446744073709551616) (h5 : six' = false → lo' < 4294967296) (h6 : -500 ≤ n) (h7 : n ≤ 500) :
    Calls Try.prog 195 #[.agg #[.bool six, .int .u64 hi, .int .u64 lo, .int .i64 n], .agg #[.bool six', .int .u64 hi', .int .u64 lo']] w fun e w' => e = .returned (.bool (inB six hi lo n six' hi' lo')) ∧ Below w.heap.size w w' := by
  have HQ := Lib.hid h5
  clear h5
  by_cases hs : six = six'
  · subst hs
    have hres : inB six hi lo n six hi' lo' = (cutHi six hi' n == hi && cutLo six lo' n == lo) := by unfold inB; simp
    rw [hres]
    clear hres
    by_cases e1 : cutHi six hi' n = hi
    · by_cases e2 : cutLo six lo' n = lo
      · subst e1 e2
        rw [beq_self_eq_true, beq_self_eq_true]
        cases six
        · obtain ⟨b0, b1, c0, c1, c2, c3, d0, d1, d2⟩ := box43_start w (.bool false) (.int .u64 (cutHi false hi' n)) (.int .u64 (cutLo false lo' n)) (.int .i64 n) (.bool false) (.int .u64 hi') (.int .u64 lo') 35 24
          go_enter Try.func195, Try.ntmps195
          go_wp2_with fail
          go_region_held3 (fun w' => Below w.heap.size w w' ∧ w.heap.size + 1 < w'.heap.size ∧ w'.cell? ⟨w.heap.size, 0, none⟩ = some (.bool false) ∧ w'.cell? ⟨w.heap.size, 1, none⟩ = some (.int .u64 (cutHi false hi' n)) ∧ w'.cell? ⟨w.heap.size, 2, none⟩ = some (.int .u64 (cutLo false lo' n)) ∧ w'.cell? ⟨w.heap.size, 3, none⟩ = some (.int .i64 n) ∧ w'.cell? ⟨w.heap.size + 1, 0, none⟩ = some (.bool false) ∧ w'.cell? ⟨w.heap.size + 1, 1, none⟩ = some (.int .u64 hi') ∧ w'.cell? ⟨w.heap.size + 1, 2, none⟩ = some (.int .u64 lo'))
            (((try go_split_ands); (repeat' apply And.intro) <;> first | assumption | exact Below.drew (by assumption) | exact cell_drew (by assumption) | exact size_drew (by assumption) | exact below_step (by assumption) (by assumption) | exact cell_step (by assumption) (by assumption) | exact size_step (by assumption) (by assumption)))
            (first | (go_at_call 201; refine (cut_any _ hi' lo' n _ h3 h4 (by first | exact fun _ => HQ.out trivial | exact fun h => HQ.out h | simp) h6 h7).mono ?_; rintro e w' ⟨rfl, hb⟩))
          all_goals go_wp2
          all_goals go_ret
          all_goals (go_split_ands; exact ⟨by simp, by assumption⟩)
        · obtain ⟨b0, b1, c0, c1, c2, c3, d0, d1, d2⟩ := box43_start w (.bool true) (.int .u64 (cutHi true hi' n)) (.int .u64 (cutLo true lo' n)) (.int .i64 n) (.bool true) (.int .u64 hi') (.int .u64 lo') 35 24
          go_enter Try.func195, Try.ntmps195
          go_wp2_with fail
          go_region_held3 (fun w' => Below w.heap.size w w' ∧ w.heap.size + 1 < w'.heap.size ∧ w'.cell? ⟨w.heap.size, 0, none⟩ = some (.bool true) ∧ w'.cell? ⟨w.heap.size, 1, none⟩ = some (.int .u64 (cutHi true hi' n)) ∧ w'.cell? ⟨w.heap.size, 2, none⟩ = some (.int .u64 (cutLo true lo' n)) ∧ w'.cell? ⟨w.heap.size, 3, none⟩ = some (.int .i64 n) ∧ w'.cell? ⟨w.heap.size + 1, 0, none⟩ = some (.bool true) ∧ w'.cell? ⟨w.heap.size + 1, 1, none⟩ = some (.int .u64 hi') ∧ w'.cell? ⟨w.heap.size + 1, 2, none⟩ = some (.int .u64 lo'))
            (((try go_split_ands); (repeat' apply And.intro) <;> first | assumption | exact Below.drew (by assumption) | exact cell_drew (by assumption) | exact size_drew (by assumption) | exact below_step (by assumption) (by assumption) | exact cell_step (by assumption) (by assumption) | exact size_step (by assumption) (by assumption)))
            (first | (go_at_call 201; refine (cut_any _ hi' lo' n _ h3 h4 (by first | exact fun _ => HQ.out trivial | exact fun h => HQ.out h | simp) h6 h7).mono ?_; rintro e w' ⟨rfl, hb⟩))
          all_goals go_wp2
          all_goals go_ret
          all_goals (go_split_ands; exact ⟨by simp, by assumption⟩)
      · have e3 : (cutLo six lo' n == lo) = false := by simpa using e2
        rw [e3, Bool.and_false]
        subst e1
        cases six
        · obtain ⟨b0, b1, c0, c1, c2, c3, d0, d1, d2⟩ := box43_start w (.bool false) (.int .u64 (cutHi false hi' n)) (.int .u64 lo) (.int .i64 n) (.bool false) (.int .u64 hi') (.int .u64 lo') 35 24
          go_enter Try.func195, Try.ntmps195
          go_wp2_with fail
          go_region_held3 (fun w' => Below w.heap.size w w' ∧ w.heap.size + 1 < w'.heap.size ∧ w'.cell? ⟨w.heap.size, 0, none⟩ = some (.bool false) ∧ w'.cell? ⟨w.heap.size, 1, none⟩ = some (.int .u64 (cutHi false hi' n)) ∧ w'.cell? ⟨w.heap.size, 2, none⟩ = some (.int .u64 lo) ∧ w'.cell? ⟨w.heap.size, 3, none⟩ = some (.int .i64 n) ∧ w'.cell? ⟨w.heap.size + 1, 0, none⟩ = some (.bool false) ∧ w'.cell? ⟨w.heap.size + 1, 1, none⟩ = some (.int .u64 hi') ∧ w'.cell? ⟨w.heap.size + 1, 2, none⟩ = some (.int .u64 lo'))
            (((try go_split_ands); (repeat' apply And.intro) <;> first | assumption | exact Below.drew (by assumption) | exact cell_drew (by assumption) | exact size_drew (by assumption) | exact below_step (by assumption) (by assumption) | exact cell_step (by assumption) (by assumption) | exact size_step (by assumption) (by assumption)))
            (first | (go_at_call 201; refine (cut_any _ hi' lo' n _ h3 h4 (by first | exact fun _ => HQ.out trivial | exact fun h => HQ.out h | simp) h6 h7).mono ?_; rintro e w' ⟨rfl, hb⟩))
          all_goals go_wp2
          all_goals go_ret
          all_goals (go_split_ands; exact ⟨by simp, by assumption⟩)
        · obtain ⟨b0, b1, c0, c1, c2, c3, d0, d1, d2⟩ := box43_start w (.bool true) (.int .u64 (cutHi true hi' n)) (.int .u64 lo) (.int .i64 n) (.bool true) (.int .u64 hi') (.int .u64 lo') 35 24
          go_enter Try.func195, Try.ntmps195
          go_wp2_with fail
          go_region_held3 (fun w' => Below w.heap.size w w' ∧ w.heap.size + 1 < w'.heap.size ∧ w'.cell? ⟨w.heap.size, 0, none⟩ = some (.bool true) ∧ w'.cell? ⟨w.heap.size, 1, none⟩ = some (.int .u64 (cutHi true hi' n)) ∧ w'.cell? ⟨w.heap.size, 2, none⟩ = some (.int .u64 lo) ∧ w'.cell? ⟨w.heap.size, 3, none⟩ = some (.int .i64 n) ∧ w'.cell? ⟨w.heap.size + 1, 0, none⟩ = some (.bool true) ∧ w'.cell? ⟨w.heap.size + 1, 1, none⟩ = some (.int .u64 hi') ∧ w'.cell? ⟨w.heap.size + 1, 2, none⟩ = some (.int .u64 lo'))
            (((try go_split_ands); (repeat' apply And.intro) <;> first | assumption | exact Below.drew (by assumption) | exact cell_drew (by assumption) | exact size_drew (by assumption) | exact below_step (by assumption) (by assumption) | exact cell_step (by assumption) (by assumption) | exact size_step (by assumption) (by assumption)))
            (first | (go_at_call 201; refine (cut_any _ hi' lo' n _ h3 h4 (by first | exact fun _ => HQ.out trivial | exact fun h => HQ.out h | simp) h6 h7).mono ?_; rintro e w' ⟨rfl, hb⟩))
          all_goals go_wp2
          all_goals go_ret
          all_goals (go_split_ands; exact ⟨by simp, by assumption⟩)
    · have e3 : (cutHi six hi' n == hi) = false := by simpa using e1
      rw [e3, Bool.false_and]
      cases six
      · obtain ⟨b0, b1, c0, c1, c2, c3, d0, d1, d2⟩ := box43_start w (.bool false) (.int .u64 hi) (.int .u64 lo) (.int .i64 n) (.bool false) (.int .u64 hi') (.int .u64 lo') 35 24
        go_enter Try.func195, Try.ntmps195
        go_wp2_with fail
        go_region_held3 (fun w' => Below w.heap.size w w' ∧ w.heap.size + 1 < w'.heap.size ∧ w'.cell? ⟨w.heap.size, 0, none⟩ = some (.bool false) ∧ w'.cell? ⟨w.heap.size, 1, none⟩ = some (.int .u64 hi) ∧ w'.cell? ⟨w.heap.size, 2, none⟩ = some (.int .u64 lo) ∧ w'.cell? ⟨w.heap.size, 3, none⟩ = some (.int .i64 n) ∧ w'.cell? ⟨w.heap.size + 1, 0, none⟩ = some (.bool false) ∧ w'.cell? ⟨w.heap.size + 1, 1, none⟩ = some (.int .u64 hi') ∧ w'.cell? ⟨w.heap.size + 1, 2, none⟩ = some (.int .u64 lo'))
          (((try go_split_ands); (repeat' apply And.intro) <;> first | assumption | exact Below.drew (by assumption) | exact cell_drew (by assumption) | exact size_drew (by assumption) | exact below_step (by assumption) (by assumption) | exact cell_step (by assumption) (by assumption) | exact size_step (by assumption) (by assumption)))
          (first | (go_at_call 201; refine (cut_any _ hi' lo' n _ h3 h4 (by first | exact fun _ => HQ.out trivial | exact fun h => HQ.out h | simp) h6 h7).mono ?_; rintro e w' ⟨rfl, hb⟩))
        all_goals go_wp2
        all_goals go_ret
        all_goals (go_split_ands; exact ⟨by simp, by assumption⟩)
      · obtain ⟨b0, b1, c0, c1, c2, c3, d0, d1, d2⟩ := box43_start w (.bool true) (.int .u64 hi) (.int .u64 lo) (.int .i64 n) (.bool true) (.int .u64 hi') (.int .u64 lo') 35 24
        go_enter Try.func195, Try.ntmps195
        go_wp2_with fail
        go_region_held3 (fun w' => Below w.heap.size w w' ∧ w.heap.size + 1 < w'.heap.size ∧ w'.cell? ⟨w.heap.size, 0, none⟩ = some (.bool true) ∧ w'.cell? ⟨w.heap.size, 1, none⟩ = some (.int .u64 hi) ∧ w'.cell? ⟨w.heap.size, 2, none⟩ = some (.int .u64 lo) ∧ w'.cell? ⟨w.heap.size, 3, none⟩ = some (.int .i64 n) ∧ w'.cell? ⟨w.heap.size + 1, 0, none⟩ = some (.bool true) ∧ w'.cell? ⟨w.heap.size + 1, 1, none⟩ = some (.int .u64 hi') ∧ w'.cell? ⟨w.heap.size + 1, 2, none⟩ = some (.int .u64 lo'))
          (((try go_split_ands); (repeat' apply And.intro) <;> first | assumption | exact Below.drew (by assumption) | exact cell_drew (by assumption) | exact size_drew (by assumption) | exact below_step (by assumption) (by assumption) | exact cell_step (by assumption) (by assumption) | exact size_step (by assumption) (by assumption)))
          (first | (go_at_call 201; refine (cut_any _ hi' lo' n _ h3 h4 (by first | exact fun _ => HQ.out trivial | exact fun h => HQ.out h | simp) h6 h7).mono ?_; rintro e w' ⟨rfl, hb⟩))
        all_goals go_wp2
        all_goals go_ret
        all_goals (go_split_ands; exact ⟨by simp, by assumption⟩)
  · have hres : inB six hi lo n six' hi' lo' = false := by
      unfold inB
      rw [show (six' == six) = false from by simpa using fun h => hs h.symm, Bool.false_and]
    rw [hres]
    clear hres
    obtain rfl := ne_bool hs
    have hb0 : Below w.heap.size w ((w.alloc (.cells #[.bool six, .int .u64 hi, .int .u64 lo, .int .i64 n] 35)).alloc (.cells #[.bool (!six), .int .u64 hi', .int .u64 lo'] 24)) := ((Below.refl _ _).alloc (Nat.le_refl _) _).alloc (by simp) _
    cases six
    · go_enter Try.func195, Try.ntmps195
      go_wp2_with fail
      go_quiet (fail)
      go_wp2
      go_ret
      exact ⟨by simp, below_drewN hb0 _⟩
    · go_enter Try.func195, Try.ntmps195
      go_wp2_with fail
      go_quiet (fail)
      go_wp2
      go_ret
      exact ⟨by simp, below_drewN hb0 _⟩

end Go.Proofs.Ytonelibgaceflaa

namespace Go.Proofs.Ytonelibgaceflaa
open Go.ChangeShapes Go.WideShapes Go.ChangeAt Go.RowKit

/-- What two boxes of four cells read as later on. -/
structure Box44 (w : World) (a b c d e f g h : Value) (w' : World) : Prop where
  below : Below w.heap.size w w'
  size : w.heap.size + 1 < w'.heap.size
  c0 : w'.cell? ⟨w.heap.size, 0, none⟩ = some a
  c1 : w'.cell? ⟨w.heap.size, 1, none⟩ = some b
  c2 : w'.cell? ⟨w.heap.size, 2, none⟩ = some c
  c3 : w'.cell? ⟨w.heap.size, 3, none⟩ = some d
  d0 : w'.cell? ⟨w.heap.size + 1, 0, none⟩ = some e
  d1 : w'.cell? ⟨w.heap.size + 1, 1, none⟩ = some f
  d2 : w'.cell? ⟨w.heap.size + 1, 2, none⟩ = some g
  d3 : w'.cell? ⟨w.heap.size + 1, 3, none⟩ = some h

theorem box44_start (w : World) (a b c d e f g h : Value) (t : TypeId) : Box44 w a b c d e f g h ((w.alloc (.cells #[a, b, c, d] t)).alloc (.cells #[e, f, g, h] t)) := by
  have hb : Below w.heap.size w ((w.alloc (.cells #[a, b, c, d] t)).alloc (.cells #[e, f, g, h] t)) := ((Below.refl _ _).alloc (Nat.le_refl _) _).alloc (by simp) _
  have e0 : ∀ j u, (#[a, b, c, d] : Array Value)[j]? = some u → ((w.alloc (.cells #[a, b, c, d] t)).alloc (.cells #[e, f, g, h] t)).cell? ⟨w.heap.size, j, none⟩ = some u := by
    intro j u hj
    rw [World.cell?_alloc_past _ _ _ (by simp), World.cell?_alloc_at _ _ _ _ rfl]
    exact hj
  have e1 : ∀ j u, (#[e, f, g, h] : Array Value)[j]? = some u → ((w.alloc (.cells #[a, b, c, d] t)).alloc (.cells #[e, f, g, h] t)).cell? ⟨w.heap.size + 1, j, none⟩ = some u := by
    intro j u hj
    rw [World.cell?_alloc_at _ _ _ _ (by simp)]
    exact hj
  exact ⟨hb, by simp, e0 0 a rfl, e0 1 b rfl, e0 2 c rfl, e0 3 d rfl, e1 0 e rfl, e1 1 f rfl, e1 2 g rfl, e1 3 h rfl⟩

theorem Box44.step {w w1 w2 : World} {a b c d e f g h : Value} (x : Box44 w a b c d e f g h w1) (hb : Below w1.heap.size w1 w2) : Box44 w a b c d e f g h w2 :=
  ⟨below_step x.below hb, size_step x.size hb, cell_step hb x.c0, cell_step hb x.c1, cell_step hb x.c2, cell_step hb x.c3, cell_step hb x.d0, cell_step hb x.d1, cell_step hb x.d2, cell_step hb x.d3⟩

def bothE (six : Bool) (hi lo n : Int) (six' : Bool) (hi' lo' n' : Int) : Int :=
  if ¬ chk six hi lo n = 0 then chk six hi lo n else if ¬ chk six' hi' lo' n' = 0 then chk six' hi' lo' n' else if ¬ six = six' then 6 else 0

set_option maxHeartbeats 1600000 in
theorem both_any (six : Bool) (hi lo n : Int) (six' : Bool) (hi' lo' n' : Int) (w : World) (h1 : 0 ≤ hi ∧ hi < 18446744073709551616) (h2 : 0 ≤ lo ∧ lo < 18446744073709551616) (h3 : 0 ≤ hi' ∧ hi' < 18446744073709551616) (h4 : 0 ≤ lo' ∧ lo' < 18446744073709551616) :
    Calls Try.prog 240 #[.agg #[.bool six, .int .u64 hi, .int .u64 lo, .int .i64 n], .agg #[.bool six', .int .u64 hi', .int .u64 lo', .int .i64 n']] w fun e w' => e = .returned (.int .i64 (bothE six hi lo n six' hi' lo' n')) ∧ Below w.heap.size w w' := by
  have c1 := fun w => check_any six hi lo n w h1 h2
  have c2 := fun w => check_any six' hi' lo' n' w h3 h4
  by_cases hz : chk six hi lo n = 0
  · by_cases hz2 : chk six' hi' lo' n' = 0
    · rw [hz] at c1
      rw [hz2] at c2
      by_cases hs : six = six'
      · have hE : bothE six hi lo n six' hi' lo' n' = 0 := by unfold bothE; rw [if_neg (fun h => h hz), if_neg (fun h => h hz2), if_neg (fun h => h hs)]
        rw [hE]
        subst hs
        have C1 := Lib.hid c1
        have C2 := Lib.hid c2
        clear c1 c2 hz hz2 hE
        go_enter Try.func240, Try.ntmps240
        go_wp2_with fail
        refine (C1.out _).mono ?_
        rintro e w1 ⟨rfl, hb⟩
        obtain ⟨b0, b1, c0, c1, c2, c3, d0, d1, d2, d3⟩ := Box44.step (box44_start w _ _ _ _ _ _ _ _ _) hb
        clear hb
        go_wp2_with fail
        refine (C2.out _).mono ?_
        rintro e w2 ⟨rfl, hb⟩
        have bx := Box44.step ⟨b0, b1, c0, c1, c2, c3, d0, d1, d2, d3⟩ hb
        clear b0 b1 c0 c1 c2 c3 d0 d1 d2 d3 hb
        obtain ⟨b0, b1, c0, c1, c2, c3, d0, d1, d2, d3⟩ := bx
        go_wp2
        go_ret
        exact ⟨rfl, b0⟩
      · have hE : bothE six hi lo n six' hi' lo' n' = 6 := by unfold bothE; rw [if_neg (fun h => h hz), if_neg (fun h => h hz2), if_pos hs]
        rw [hE]
        obtain rfl := ne_bool hs
        clear hz hz2 hE hs
        cases six
        · replace c2 : ∀ w, Calls Try.prog 151 #[.agg #[.bool true, .int .u64 hi', .int .u64 lo', .int .i64 n']] w fun e w' => e = .returned (.int .i64 0) ∧ Below w.heap.size w w' := c2
          have C1 := Lib.hid c1
          have C2 := Lib.hid c2
          clear c1 c2
          go_enter Try.func240, Try.ntmps240
          go_wp2_with fail
          refine (C1.out _).mono ?_
          rintro e w1 ⟨rfl, hb⟩
          obtain ⟨b0, b1, c0, c1, c2, c3, d0, d1, d2, d3⟩ := Box44.step (box44_start w _ _ _ _ _ _ _ _ _) hb
          clear hb
          go_wp2_with fail
          refine (C2.out _).mono ?_
          rintro e w2 ⟨rfl, hb⟩
          have bx := Box44.step ⟨b0, b1, c0, c1, c2, c3, d0, d1, d2, d3⟩ hb
          clear b0 b1 c0 c1 c2 c3 d0 d1 d2 d3 hb
          obtain ⟨b0, b1, c0, c1, c2, c3, d0, d1, d2, d3⟩ := bx
          go_wp2
          go_ret
          exact ⟨rfl, b0⟩
        · replace c2 : ∀ w, Calls Try.prog 151 #[.agg #[.bool false, .int .u64 hi', .int .u64 lo', .int .i64 n']] w fun e w' => e = .returned (.int .i64 0) ∧ Below w.heap.size w w' := c2
          have C1 := Lib.hid c1
          have C2 := Lib.hid c2
          clear c1 c2
          go_enter Try.func240, Try.ntmps240
          go_wp2_with fail
          refine (C1.out _).mono ?_
          rintro e w1 ⟨rfl, hb⟩
          obtain ⟨b0, b1, c0, c1, c2, c3, d0, d1, d2, d3⟩ := Box44.step (box44_start w _ _ _ _ _ _ _ _ _) hb
          clear hb
          go_wp2_with fail
          refine (C2.out _).mono ?_
          rintro e w2 ⟨rfl, hb⟩
          have bx := Box44.step ⟨b0, b1, c0, c1, c2, c3, d0, d1, d2, d3⟩ hb
          clear b0 b1 c0 c1 c2 c3 d0 d1 d2 d3 hb
          obtain ⟨b0, b1, c0, c1, c2, c3, d0, d1, d2, d3⟩ := bx
          go_wp2
          go_ret
          exact ⟨rfl, b0⟩
    · have hE : bothE six hi lo n six' hi' lo' n' = chk six' hi' lo' n' := by unfold bothE; rw [if_neg (fun h => h hz), if_pos hz2]
      rw [hE]
      rw [hz] at c1
      generalize chk six' hi' lo' n' = k at *
      have C1 := Lib.hid c1
      have C2 := Lib.hid c2
      have hb1 : (k == 0) = false := by simpa using hz2
      have hb2 : (k != 0) = true := by simpa using hz2
      clear c1 c2 hz hE
      go_enter Try.func240, Try.ntmps240
      go_wp2_with fail
      refine (C1.out _).mono ?_
      rintro e w1 ⟨rfl, hb⟩
      obtain ⟨b0, b1, c0, c1, c2, c3, d0, d1, d2, d3⟩ := Box44.step (box44_start w _ _ _ _ _ _ _ _ _) hb
      clear hb
      go_wp2_with fail
      refine (C2.out _).mono ?_
      rintro e w2 ⟨rfl, hb⟩
      have bx := Box44.step ⟨b0, b1, c0, c1, c2, c3, d0, d1, d2, d3⟩ hb
      clear b0 b1 c0 c1 c2 c3 d0 d1 d2 d3 hb
      obtain ⟨b0, b1, c0, c1, c2, c3, d0, d1, d2, d3⟩ := bx
      go_wp2
      go_ret
      exact ⟨rfl, b0⟩
  · have hE : bothE six hi lo n six' hi' lo' n' = chk six hi lo n := by unfold bothE; rw [if_pos hz]
    rw [hE]
    generalize chk six hi lo n = k at *
    have C1 := Lib.hid c1
    have hb1 : (k == 0) = false := by simpa using hz
    have hb2 : (k != 0) = true := by simpa using hz
    clear c1 c2 hE
    go_enter Try.func240, Try.ntmps240
    go_wp2_with fail
    refine (C1.out _).mono ?_
    rintro e w1 ⟨rfl, hb⟩
    obtain ⟨b0, b1, c0, c1, c2, c3, d0, d1, d2, d3⟩ := Box44.step (box44_start w _ _ _ _ _ _ _ _ _) hb
    clear hb
    go_wp2
    go_ret
    exact ⟨rfl, b0⟩

end Go.Proofs.Ytonelibgaceflaa

namespace Go.Proofs.Ytonelibgaceflaa
open Go.ChangeShapes Go.WideShapes Go.ChangeAt Go.RowKit

def SameTo (six : Bool) (hi lo hi' lo' : Int) (j : Nat) : Prop := ∀ i : Nat, i < j → bitI six hi lo i = bitI six hi' lo' i
theorem SameTo.succ {six : Bool} {hi lo hi' lo' : Int} {j : Nat} (h : SameTo six hi lo hi' lo' j) (hb : bitI six hi lo (j : Int) = bitI six hi' lo' (j : Int)) : SameTo six hi lo hi' lo' (j + 1) := fun i h1 => by
  rcases Nat.lt_or_ge i j with h3 | h3
  · exact h i h3
  · obtain rfl : i = j := by omega
    exact hb

set_option maxHeartbeats 1600000 in
theorem preIn_same (six : Bool) (hi lo : Int) (n : Nat) (hi' lo' : Int) (w : World) (hp : Pfx six hi lo n) (h3 : 0 ≤ hi' ∧ hi' < 18446744073709551616) (h4 : 0 ≤ lo' ∧ lo' < 18446744073709551616) (h5 : mayB six hi' lo' = true) :
    Calls Try.prog 95 #[.agg #[.bool six, .int .u64 hi, .int .u64 lo, .int .i64 n], .agg #[.bool six, .int .u64 hi', .int .u64 lo']] w fun e w' => e = .returned (.bool (inB six hi lo n six hi' lo')) ∧ Below w.heap.size w w' := by
  obtain ⟨r, hr0⟩ : ∃ r : Bool, r = inB six hi lo n six hi' lo' := ⟨_, rfl⟩
  have hi0 := inB_iff hp h3 h4 h5
  rw [← hr0] at hi0 ⊢
  have hall : SameTo six hi lo hi' lo' n → r = true := fun h => hi0.2 h
  have hone : ∀ j : Nat, j < n → ¬ bitI six hi lo j = bitI six hi' lo' j → r = false := fun j hj hb => by
    rw [Bool.eq_false_iff]
    intro h
    exact hb (hi0.1 h j hj)
  have HA := Lib.hid hall
  have HB := Lib.hid hone
  obtain ⟨m, hn, hpos, hle⟩ := wideN six
  have hlen : n ≤ m := by have := hp.len.2; omega
  have h1 := hp.rhi
  have h2 := hp.rlo
  have HN := Lib.hid hn
  clear hall hone hr0 hi0 hn hp h5
  obtain ⟨b0, b1, c0, c1, c2, c3, d0, d1, d2⟩ := box43_start w (.bool six) (.int .u64 hi) (.int .u64 lo) (.int .i64 n) (.bool six) (.int .u64 hi') (.int .u64 lo') 35 24
  go_enter Try.func95, Try.ntmps95
  go_wp2_with fail
  refine (bitsOf_any six hi lo _ h1 h2).mono ?_
  rintro e w1 ⟨v1, rfl, own1, hb1, hs1⟩
  have bx := Box43.step ⟨b0, b1, c0, c1, c2, c3, d0, d1, d2⟩ hb1
  clear b0 b1 c0 c1 c2 c3 d0 d1 d2
  obtain ⟨b0, b1, c0, c1, c2, c3, d0, d1, d2⟩ := bx
  go_wp2_with fail
  refine (bitsOf_any six hi' lo' _ h3 h4).mono ?_
  rintro e w2 ⟨v2, rfl, own2, hb2, hs2⟩
  have bx := Box43.step ⟨b0, b1, c0, c1, c2, c3, d0, d1, d2⟩ hb2
  clear b0 b1 c0 c1 c2 c3 d0 d1 d2
  obtain ⟨b0, b1, c0, c1, c2, c3, d0, d1, d2⟩ := bx
  rw [HN.out] at own1 own2
  simp only [Int.toNat_natCast] at own1 own2
  have own1' := own_below own1 hb2
  obtain ⟨g1, cap1, rfl, _, hlt1⟩ := own1.form hpos
  obtain ⟨g2, cap2, rfl, _, hlt2⟩ := own2.form hpos
  have H1 := Lib.hid own1'
  have H2 := Lib.hid own2
  clear own1 own2 own1' hb1 hb2
  have hm1 : (m : Int) ≤ 128 := by omega
  go_wp2
  go_loopw [7] (fun i wr => ∃ j : Nat, j ≤ n ∧ i = .int .i64 j ∧ SameTo six hi lo hi' lo' j ∧ Below w2.heap.size w2 wr) (fun i _ => n - (intOf i).toNat)
  case atStart => exact ⟨0, by omega, rfl, fun _ h => by omega, Below.refl _ _⟩
  case round =>
    obtain ⟨j, hj, rfl, hsame, hbr⟩ := hrel
    have q3 := cell_step hbr c3
    by_cases hlt : j < n
    · have x1 := cell_step hbr (own_int H1.out (bitsL_at (hi := hi) (lo := lo) HN.out (show j < m by omega)))
      have x2 := cell_step hbr (own_int H2.out (bitsL_at (hi := hi') (lo := lo') HN.out (show j < m by omega)))
      have k1 : (0 : Int) ≤ (j : Int) := by omega
      have k2 : (j : Int) < (m : Int) := by omega
      by_cases hb : bitI six hi lo j = bitI six hi' lo' j
      · have HS := Lib.hid (hsame.succ hb)
        rw [← hb] at x2
        clear hsame hb
        go_wp2
        go_quiet (fail)
        go_wp2
        go_roundw
        case rel => exact ⟨j + 1, by omega, by go_num, HS.out, below_drewN hbr _⟩
        case measure => simp [intOf]; omega
      · have HR := Lib.hid (HB.out j hlt hb)
        have hb' : (bitI six hi lo j == bitI six hi' lo' j) = false := by simpa using hb
        have hb'' : (bitI six hi lo j != bitI six hi' lo' j) = true := by simpa using hb
        clear hsame
        go_wp2
        go_quiet (fail)
        go_wp2
        go_ret
        exact ⟨ret_bool HR.out.symm, b0.trans ((below_drewN hbr _).mono b0.size)⟩
    · obtain rfl : j = n := by omega
      have HR := Lib.hid (HA.out hsame)
      clear hsame
      go_wp2
      go_ret
      exact ⟨ret_bool HR.out.symm, b0.trans (hbr.mono b0.size)⟩

set_option maxHeartbeats 800000 in
theorem preIn_any (six : Bool) (hi lo : Int) (n : Nat) (six' : Bool) (hi' lo' : Int) (w : World) (hp : Pfx six hi lo n) (h3 : 0 ≤ hi' ∧ hi' < 18446744073709551616) (h4 : 0 ≤ lo' ∧ lo' < 18446744073709551616) (h5 : mayB six' hi' lo' = true) :
    Calls Try.prog 95 #[.agg #[.bool six, .int .u64 hi, .int .u64 lo, .int .i64 n], .agg #[.bool six', .int .u64 hi', .int .u64 lo']] w fun e w' => e = .returned (.bool (inB six hi lo n six' hi' lo')) ∧ Below w.heap.size w w' := by
  by_cases hs : six = six'
  · subst hs
    exact preIn_same six hi lo n hi' lo' w hp h3 h4 h5
  · have hres : inB six hi lo n six' hi' lo' = false := by
      unfold inB
      rw [show (six' == six) = false from by simpa using fun h => hs h.symm, Bool.false_and]
    rw [hres]
    clear hres hp h5
    obtain rfl := ne_bool hs
    have hb0 : Below w.heap.size w ((w.alloc (.cells #[.bool six, .int .u64 hi, .int .u64 lo, .int .i64 n] 35)).alloc (.cells #[.bool (!six), .int .u64 hi', .int .u64 lo'] 24)) := ((Below.refl _ _).alloc (Nat.le_refl _) _).alloc (by simp) _
    cases six
    · go_enter Try.func95, Try.ntmps95
      go_wp2
      go_ret
      exact ⟨by simp, hb0⟩
    · go_enter Try.func95, Try.ntmps95
      go_wp2
      go_ret
      exact ⟨by simp, hb0⟩

end Go.Proofs.Ytonelibgaceflaa

namespace Go.Proofs.Ytonelibgaceflaa
set_option linter.unusedVariables false

/-- The number that bits make, the highest first. -/
def numL (l : List Int) : Int := l.foldl (fun a b => 2 * a + b) 0
def Bits (l : List Int) : Prop := ∀ b ∈ l, 0 ≤ b ∧ b ≤ 1

theorem numL_nil : numL [] = 0 := rfl
theorem numL_snoc (l : List Int) (b : Int) : numL (l ++ [b]) = 2 * numL l + b := by simp [numL, List.foldl_append]
theorem numL_range (l : List Int) (h : Bits l) : 0 ≤ numL l ∧ numL l < 2 ^ l.length := by
  induction hk : l.length generalizing l with
  | zero =>
    have : l = [] := List.eq_nil_of_length_eq_zero hk
    subst this
    simp [numL]
  | succ m ih =>
    rcases List.eq_nil_or_concat l with rfl | ⟨l', b, rfl⟩
    · simp at hk
    · rw [List.concat_eq_append] at *
      have hb := h b (by simp)
      have := ih l' (fun x hx => h x (by simp [hx])) (by simpa using hk)
      rw [numL_snoc, Int.pow_succ]
      omega

/-- The bits of such a number are the bits. -/
theorem numL_bit (l : List Int) (h : Bits l) : ∀ (i : Nat) (b : Int), l[i]? = some b → numL l / 2 ^ (l.length - 1 - i) % 2 = b := by
  induction hk : l.length generalizing l with
  | zero =>
    intro i b hb
    have : l = [] := List.eq_nil_of_length_eq_zero hk
    subst this
    simp at hb
  | succ m ih =>
    intro i b hb
    rcases List.eq_nil_or_concat l with rfl | ⟨l', c, rfl⟩
    · simp at hk
    · rw [List.concat_eq_append] at *
      have hc := h c (by simp)
      have hl : l'.length = m := by simpa using hk
      rw [numL_snoc]
      rcases Nat.lt_or_ge i m with hi | hi
      · rw [List.getElem?_append_left (by omega)] at hb
        have := ih l' (fun x hx => h x (by simp [hx])) hl i b hb
        rw [show m + 1 - 1 - i = (m - 1 - i) + 1 from by omega, Int.pow_succ, Int.mul_comm (2 ^ (m - 1 - i)) 2, ← Int.ediv_ediv_of_nonneg (by omega)]
        rw [show (2 * numL l' + c) / 2 = numL l' from by omega]
        exact this
      · rw [List.getElem?_append_right (by omega)] at hb
        have hz : i - l'.length = 0 := by
          rcases Nat.eq_zero_or_pos (i - l'.length) with h0 | h0
          · exact h0
          · rw [List.getElem?_eq_none (by simp; omega)] at hb; cases hb
        rw [hz] at hb
        simp at hb
        subst hb
        rw [show m + 1 - 1 - i = 0 from by omega]
        simp
        omega

theorem Bits.take {l : List Int} (h : Bits l) (k : Nat) : Bits (l.take k) := fun b hb => h b (List.mem_of_mem_take hb)
theorem Bits.drop {l : List Int} (h : Bits l) (k : Nat) : Bits (l.drop k) := fun b hb => h b (List.mem_of_mem_drop hb)

/-- The words that bits of an address make. -/
def hiOf (six : Bool) (l : List Int) : Int := if six then numL (l.take 64) else 0
def loOf (six : Bool) (l : List Int) : Int := if six then numL (l.drop 64) else numL l

theorem e64 : (2 : Int) ^ 64 = 18446744073709551616 := by decide
theorem e32 : (2 : Int) ^ 32 = 4294967296 := by decide

theorem of_range (six : Bool) (l : List Int) (h : Bits l) (hl : (l.length : Int) = wideI six) :
    (0 ≤ hiOf six l ∧ hiOf six l < 18446744073709551616) ∧ (0 ≤ loOf six l ∧ loOf six l < 18446744073709551616) ∧ mayB six (hiOf six l) (loOf six l) = true := by
  cases six
  · have hl' : (l.length : Int) = 32 := hl
    have hl2 : l.length = 32 := by omega
    have r := numL_range l h
    rw [hl2, e32] at r
    unfold hiOf loOf mayB
    simp only [Bool.false_eq_true, ↓reduceIte, Bool.false_or, Bool.and_eq_true, beq_self_eq_true, decide_eq_true_eq, true_and]
    omega
  · have hl' : (l.length : Int) = 128 := hl
    have r1 := numL_range (l.take 64) (h.take 64)
    have r2 := numL_range (l.drop 64) (h.drop 64)
    rw [List.length_take, show min 64 l.length = 64 from by omega, e64] at r1
    rw [List.length_drop, show l.length - 64 = 64 from by omega, e64] at r2
    unfold hiOf loOf
    simp only [↓reduceIte]
    exact ⟨r1, r2, by simp [mayB]⟩

theorem of_bit (six : Bool) (l : List Int) (h : Bits l) (hl : (l.length : Int) = wideI six) (i : Nat) (b : Int) (hb : l[i]? = some b) : bitI six (hiOf six l) (loOf six l) i = b := by
  have hil := (List.getElem?_eq_some_iff.1 hb).1
  cases six
  · have hl' : (l.length : Int) = 32 := hl
    have := numL_bit l h i b hb
    unfold bitI loOf
    simp only [Bool.false_eq_true, ↓reduceIte]
    rwa [show (31 - (i : Int)).toNat = l.length - 1 - i from by omega]
  · have hl' : (l.length : Int) = 128 := hl
    unfold bitI loOf hiOf
    simp only [↓reduceIte]
    by_cases h64 : i < 64
    · rw [if_pos (by omega)]
      have := numL_bit (l.take 64) (h.take 64) i b (by rw [List.getElem?_take_of_lt h64]; exact hb)
      rw [List.length_take, show min 64 l.length = 64 from by omega] at this
      rwa [show (63 - (i : Int)).toNat = 64 - 1 - i from by omega]
    · rw [if_neg (by omega)]
      have := numL_bit (l.drop 64) (h.drop 64) (i - 64) b (by rw [List.getElem?_drop, show 64 + (i - 64) = i from by omega]; exact hb)
      rw [List.length_drop, show l.length - 64 = 64 from by omega] at this
      rwa [show (127 - (i : Int)).toNat = 64 - 1 - (i - 64) from by omega]

/-- Words whose bits are given. -/
theorem of_unique (six : Bool) (l : List Int) (h : Bits l) (hl : (l.length : Int) = wideI six) (hi lo : Int) (h1 : 0 ≤ hi ∧ hi < 18446744073709551616) (h2 : 0 ≤ lo ∧ lo < 18446744073709551616) (hm : mayB six hi lo = true)
    (hb : ∀ i : Nat, (i : Int) < wideI six → l[i]? = some (bitI six hi lo i)) : hiOf six l = hi ∧ loOf six l = lo := by
  have r := of_range six l h hl
  exact addr_ext six _ _ _ _ r.1 r.2.1 h1 h2 r.2.2 hm fun i hi' => of_bit six l h hl i _ (hb i hi')

end Go.Proofs.Ytonelibgaceflaa

namespace Go.Proofs.Ytonelibgaceflaa
open Go.ChangeShapes Go.WideShapes Go.ChangeAt Go.RowKit

theorem half_bound (l : List Int) (k : Nat) (h : Bits l) (hk : k < 64) : 0 ≤ numL (l.take k) ∧ numL (l.take k) ≤ 9223372036854775807 := by
  have h1 := numL_range (l.take k) (h.take k)
  have h2 : (2 : Int) ^ (l.take k).length ≤ 9223372036854775808 := by
    have : (2 : Nat) ^ (l.take k).length ≤ 2 ^ 63 := Nat.pow_le_pow_right (by omega) (by rw [List.length_take]; omega)
    have e : ((2 ^ (l.take k).length : Nat) : Int) = 2 ^ (l.take k).length := by simp
    rw [← e]
    have : (2 ^ 63 : Nat) = 9223372036854775808 := by decide
    omega
  omega

set_option maxRecDepth 100000 in
set_option maxHeartbeats 1600000 in
theorem addrOf_four (l : List Int) (g cap : Nat) (w : World) (hb : Bits l) (hl : l.length = 32) (hown : ∀ (i : Nat) (b : Int), l[i]? = some b → w.cell? ⟨g, i, none⟩ = some (.int .i64 b)) (hg : g < w.heap.size) :
    Calls Try.prog 160 #[.slice (some ⟨g, 0, none⟩) 32 cap] w fun e w' => e = .returned (.agg #[.bool false, .int .u64 (hiOf false l), .int .u64 (loOf false l)]) ∧ Below w.heap.size w w' := by
  have HB := Lib.hid hb
  have HL := Lib.hid hl
  have HO := Lib.hid hown
  have HE := Lib.hid (show hiOf false l = 0 ∧ loOf false l = numL l from ⟨rfl, rfl⟩)
  obtain ⟨a, ha⟩ : ∃ a, a = hiOf false l := ⟨_, rfl⟩
  obtain ⟨b, hbb⟩ : ∃ b, b = loOf false l := ⟨_, rfl⟩
  rw [← ha, ← hbb]
  rw [← ha, ← hbb] at HE
  clear hb hl hown ha hbb
  go_enter Try.func160, Try.ntmps160
  go_wp2
  go_loopw [12, 4, 5] (fun i _ _ wr => ∃ k : Nat, k ≤ 32 ∧ i = .int .i64 k ∧ wr = (w.alloc (.cells #[.bool false, .int .u64 0, .int .u64 0] 24)).alloc (.cells #[.bool false, .int .u64 0, .int .u64 (numL (l.take k))] 24)) (fun i _ _ _ => 32 - (intOf i).toNat)
  case atStart => exact ⟨0, by omega, rfl, rfl⟩
  case round =>
    obtain ⟨k, hk, rfl, rfl⟩ := hrel
    by_cases hlt : k < 32
    · obtain ⟨x, hx⟩ : ∃ x, l[k]? = some x := ⟨_, List.getElem?_eq_getElem (by rw [HL.out]; exact hlt)⟩
      have hx1 := HB.out x (List.mem_of_getElem? hx)
      have q := HO.out k x hx
      have q2 : ((w.alloc (.cells #[.bool false, .int .u64 0, .int .u64 0] 24)).alloc (.cells #[.bool false, .int .u64 0, .int .u64 (numL (l.take k))] 24)).cell? ⟨g, k, none⟩ = some (.int .i64 x) := by
        rw [World.cell?_alloc_past _ _ _ (by simp; omega), World.cell?_alloc_past _ _ _ (by simpa using hg)]
        exact q
      have hs := half_bound l k HB.out (by omega)
      have e : Hid (numL (l.take (k + 1)) = 2 * numL (l.take k) + x) := by
        show _ = _
        rw [List.take_add_one, hx]
        exact numL_snoc _ _
      clear hx q
      go_wp2
      go_roundw
      case rel => exact ⟨k + 1, by omega, by go_num, by rw [e.out]⟩
      case measure => simp [intOf]; omega
    · obtain rfl : k = 32 := by omega
      have e0 : Hid (l.take 32 = l) := by
        show _ = _
        rw [← HL.out]
        exact List.take_length
      go_wp2
      exact bodyPost_ret (v := .agg #[.bool false, .int .u64 a, .int .u64 b]) (by simp [results, Try.results160, go_sem, HE.out.1, HE.out.2, e0.out]) rfl
        ⟨rfl, ((Below.refl _ _).alloc (Nat.le_refl _) _).alloc (by simp) _⟩

def hiTo (l : List Int) (k : Nat) : Int := numL ((l.take k).take 64)
def loTo (l : List Int) (k : Nat) : Int := numL ((l.take k).drop 64)
theorem hiTo_lt {l : List Int} {k : Nat} {x : Int} (hx : l[k]? = some x) (hk : k < 64) : hiTo l (k + 1) = 2 * hiTo l k + x := by
  unfold hiTo
  rw [List.take_take, List.take_take, show min 64 (k + 1) = k + 1 from by omega, show min 64 k = k from by omega, List.take_add_one, hx]
  exact numL_snoc _ _
theorem hiTo_ge {l : List Int} {k : Nat} (hk : 64 ≤ k) : hiTo l (k + 1) = hiTo l k := by
  unfold hiTo
  rw [List.take_take, List.take_take, show min 64 (k + 1) = 64 from by omega, show min 64 k = 64 from by omega]
theorem loTo_lt {l : List Int} {k : Nat} (hk : k < 64) : loTo l (k + 1) = loTo l k := by
  unfold loTo
  rw [List.drop_eq_nil_of_le (by rw [List.length_take]; omega), List.drop_eq_nil_of_le (by rw [List.length_take]; omega)]
theorem loTo_ge {l : List Int} {k : Nat} {x : Int} (hx : l[k]? = some x) (hk : 64 ≤ k) : loTo l (k + 1) = 2 * loTo l k + x := by
  unfold loTo
  have hl := (List.getElem?_eq_some_iff.1 hx).1
  rw [List.take_add_one, hx, List.drop_append_of_le_length (by rw [List.length_take]; omega)]
  exact numL_snoc _ _
theorem hiTo_bound (l : List Int) (k : Nat) (h : Bits l) (hk : k < 64) : 0 ≤ hiTo l k ∧ hiTo l k ≤ 9223372036854775807 := by
  have := half_bound l k h hk
  unfold hiTo
  rwa [List.take_take, show min 64 k = k from by omega]
theorem loTo_bound (l : List Int) (k : Nat) (h : Bits l) (hk : k < 128) : 0 ≤ loTo l k ∧ loTo l k ≤ 9223372036854775807 := by
  have h1 := numL_range ((l.take k).drop 64) ((h.take k).drop 64)
  have h2 : (2 : Int) ^ ((l.take k).drop 64).length ≤ 9223372036854775808 := by
    have : (2 : Nat) ^ ((l.take k).drop 64).length ≤ 2 ^ 63 := Nat.pow_le_pow_right (by omega) (by rw [List.length_drop, List.length_take]; omega)
    have e : ((2 ^ ((l.take k).drop 64).length : Nat) : Int) = 2 ^ ((l.take k).drop 64).length := by simp
    rw [← e]
    have : (2 ^ 63 : Nat) = 9223372036854775808 := by decide
    omega
  unfold loTo
  omega

set_option maxRecDepth 100000 in
set_option maxHeartbeats 1600000 in
theorem addrOf_six (l : List Int) (g cap : Nat) (w : World) (hb : Bits l) (hl : l.length = 128) (hown : ∀ (i : Nat) (b : Int), l[i]? = some b → w.cell? ⟨g, i, none⟩ = some (.int .i64 b)) (hg : g < w.heap.size) :
    Calls Try.prog 160 #[.slice (some ⟨g, 0, none⟩) 128 cap] w fun e w' => e = .returned (.agg #[.bool true, .int .u64 (hiOf true l), .int .u64 (loOf true l)]) ∧ Below w.heap.size w w' := by
  have HB := Lib.hid hb
  have HL := Lib.hid hl
  have HO := Lib.hid hown
  have HE := Lib.hid (show hiOf true l = hiTo l 128 ∧ loOf true l = loTo l 128 from by
    unfold hiOf loOf hiTo loTo
    rw [← hl, List.take_length]
    exact ⟨rfl, rfl⟩)
  obtain ⟨a, ha⟩ : ∃ a, a = hiOf true l := ⟨_, rfl⟩
  obtain ⟨b, hbb⟩ : ∃ b, b = loOf true l := ⟨_, rfl⟩
  rw [← ha, ← hbb]
  rw [← ha, ← hbb] at HE
  clear hb hl hown ha hbb
  go_enter Try.func160, Try.ntmps160
  go_wp2
  go_loopw [12, 4, 5] (fun i _ _ wr => ∃ k : Nat, k ≤ 128 ∧ i = .int .i64 k ∧ wr = (w.alloc (.cells #[.bool false, .int .u64 0, .int .u64 0] 24)).alloc (.cells #[.bool true, .int .u64 (hiTo l k), .int .u64 (loTo l k)] 24)) (fun i _ _ _ => 128 - (intOf i).toNat)
  case atStart => exact ⟨0, by omega, rfl, rfl⟩
  case round =>
    obtain ⟨k, hk, rfl, rfl⟩ := hrel
    by_cases hlt : k < 128
    · obtain ⟨x, hx⟩ : ∃ x, l[k]? = some x := ⟨_, List.getElem?_eq_getElem (by rw [HL.out]; exact hlt)⟩
      have hx1 := HB.out x (List.mem_of_getElem? hx)
      have q := HO.out k x hx
      have q2 : ((w.alloc (.cells #[.bool false, .int .u64 0, .int .u64 0] 24)).alloc (.cells #[.bool true, .int .u64 (hiTo l k), .int .u64 (loTo l k)] 24)).cell? ⟨g, k, none⟩ = some (.int .i64 x) := by
        rw [World.cell?_alloc_past _ _ _ (by simp; omega), World.cell?_alloc_past _ _ _ (by simpa using hg)]
        exact q
      by_cases h64 : k < 64
      · have hs := hiTo_bound l k HB.out h64
        have e1 := Lib.hid (hiTo_lt hx h64)
        have e2 := Lib.hid (loTo_lt (l := l) h64)
        clear hx q
        go_wp2
        go_roundw
        case rel => exact ⟨k + 1, by omega, by go_num, by rw [e1.out, e2.out]⟩
        case measure => simp [intOf]; omega
      · have hs := loTo_bound l k HB.out hlt
        have e1 := Lib.hid (hiTo_ge (l := l) (k := k) (by omega))
        have e2 := Lib.hid (loTo_ge hx (by omega))
        clear hx q
        go_wp2
        go_roundw
        case rel => exact ⟨k + 1, by omega, by go_num, by rw [e1.out, e2.out]⟩
        case measure => simp [intOf]; omega
    · obtain rfl : k = 128 := by omega
      go_wp2
      exact bodyPost_ret (v := .agg #[.bool true, .int .u64 a, .int .u64 b]) (by simp [results, Try.results160, go_sem, HE.out.1, HE.out.2]) rfl
        ⟨rfl, ((Below.refl _ _).alloc (Nat.le_refl _) _).alloc (by simp) _⟩

/-- addrOf of a row of bits of the call's own, as long as an address of a family. -/
theorem addrOf_any (six : Bool) (l : List Int) (n : Nat) (g cap : Nat) (w : World) (hb : Bits l) (hl : l.length = n) (hn : wideI six = n) (hown : ∀ (i : Nat) (b : Int), l[i]? = some b → w.cell? ⟨g, i, none⟩ = some (.int .i64 b)) (hg : g < w.heap.size) :
    Calls Try.prog 160 #[.slice (some ⟨g, 0, none⟩) n cap] w fun e w' => e = .returned (.agg #[.bool six, .int .u64 (hiOf six l), .int .u64 (loOf six l)]) ∧ Below w.heap.size w w' := by
  cases six
  · have : (32 : Int) = n := hn
    obtain rfl : n = 32 := by omega
    exact addrOf_four l g cap w hb hl hown hg
  · have : (128 : Int) = n := hn
    obtain rfl : n = 128 := by omega
    exact addrOf_six l g cap w hb hl hown hg

end Go.Proofs.Ytonelibgaceflaa

namespace Go.Proofs.Ytonelibgaceflaa
set_option linter.unusedVariables false

theorem int_bit (x j : Nat) : ((x : Int) / 2 ^ j % 2) = ((x.testBit j).toNat : Int) := by
  have e : ((x : Int) / 2 ^ j % 2) = ((x / 2 ^ j % 2 : Nat) : Int) := by simp
  rw [e, Nat.testBit_eq_decide_div_mod_eq]
  rcases (by omega : x / 2 ^ j % 2 = 0 ∨ x / 2 ^ j % 2 = 1) with h | h <;> simp [h]

theorem onesI_keep (n : Int) : onesI n = keepW 18446744073709551615 n := by
  have h := and_ones_int 18446744073709551615 n (by omega) (by omega)
  have hr := onesI_range n
  rw [← h, Nat.and_comm, show (18446744073709551615 : Int).toNat = 2 ^ 64 - 1 from by decide, Nat.and_two_pow_sub_one_eq_mod]
  have : (2 ^ 64 : Nat) = 18446744073709551616 := by decide
  rw [Nat.mod_eq_of_lt (by omega)]
  omega

theorem ones_bit (n : Int) (j : Nat) (hj : j < 64) : (onesI n).toNat.testBit j = decide (64 - n ≤ j) := by
  have h1 := int_bit (onesI n).toNat j
  rw [Int.toNat_of_nonneg (onesI_range n).1, onesI_keep, bit_keepW _ n j hj] at h1
  have h2 : (18446744073709551615 : Int) / 2 ^ j % 2 = 1 := by
    have := int_bit (2 ^ 64 - 1) j
    rw [Nat.testBit_two_pow_sub_one] at this
    have e : ((2 ^ 64 - 1 : Nat) : Int) = 18446744073709551615 := by decide
    rw [e] at this
    rw [this]
    simp [hj]
  rw [h2] at h1
  cases hb : (onesI n).toNat.testBit j
  · rw [← onesI_keep, hb] at h1
    by_cases hc : 64 - n ≤ (j : Int)
    · rw [if_pos hc] at h1; simp at h1
    · simp [hc]
  · rw [← onesI_keep, hb] at h1
    by_cases hc : 64 - n ≤ (j : Int)
    · simp [hc]
    · rw [if_neg hc] at h1; simp at h1

/-- A word behind whose first n bits all is 1. -/
def fillN (x m : Int) : Nat := x.toNat ||| (18446744073709551615 ^^^ m.toNat)

theorem fillN_lt (x m : Int) (hx : 0 ≤ x ∧ x < 18446744073709551616) (hm : 0 ≤ m ∧ m < 18446744073709551616) : fillN x m < 2 ^ 64 := by
  have e : (2 ^ 64 : Nat) = 18446744073709551616 := by decide
  exact Nat.or_lt_two_pow (by omega) (Nat.xor_lt_two_pow (by omega) (by omega))
theorem fillN_bit (x m : Int) (j : Nat) (hj : j < 64) : (fillN x m).testBit j = (x.toNat.testBit j || !m.toNat.testBit j) := by
  unfold fillN
  rw [Nat.testBit_or, Nat.testBit_xor, show (18446744073709551615 : Nat) = 2 ^ 64 - 1 from by decide, Nat.testBit_two_pow_sub_one]
  simp [hj]

/-- All bits of the last address of a prefix. -/
def lastL (six : Bool) (hi lo n : Int) : List Int := (List.range (wideI six).toNat).map fun (i : Nat) => if (i : Int) < n then bitI six hi lo i else 1
def lastHi (six : Bool) (hi lo n : Int) : Int := hiOf six (lastL six hi lo n)
def lastLo (six : Bool) (hi lo n : Int) : Int := loOf six (lastL six hi lo n)

theorem lastL_length (six : Bool) (hi lo n : Int) : ((lastL six hi lo n).length : Int) = wideI six := by
  unfold lastL wideI
  cases six <;> simp
theorem lastL_bits (six : Bool) (hi lo n : Int) : Bits (lastL six hi lo n) := by
  intro b hb
  unfold lastL at hb
  obtain ⟨i, _, rfl⟩ := List.mem_map.1 hb
  have := bitI_01 six hi lo i
  split <;> omega
theorem lastL_at (six : Bool) (hi lo n : Int) (i : Nat) (hi' : (i : Int) < wideI six) : (lastL six hi lo n)[i]? = some (if (i : Int) < n then bitI six hi lo i else 1) := by
  unfold lastL
  rw [List.getElem?_map, List.getElem?_range (by omega)]
  rfl

theorem last_range (six : Bool) (hi lo n : Int) : (0 ≤ lastHi six hi lo n ∧ lastHi six hi lo n < 18446744073709551616) ∧ (0 ≤ lastLo six hi lo n ∧ lastLo six hi lo n < 18446744073709551616) ∧ mayB six (lastHi six hi lo n) (lastLo six hi lo n) = true :=
  of_range six _ (lastL_bits six hi lo n) (lastL_length six hi lo n)
theorem last_bit (six : Bool) (hi lo n : Int) (i : Nat) (hi' : (i : Int) < wideI six) : bitI six (lastHi six hi lo n) (lastLo six hi lo n) i = if (i : Int) < n then bitI six hi lo i else 1 :=
  of_bit six _ (lastL_bits six hi lo n) (lastL_length six hi lo n) i _ (lastL_at six hi lo n i hi')

theorem last_six_eq (hi lo n : Int) (h1 : 0 ≤ hi ∧ hi < 18446744073709551616) (h2 : 0 ≤ lo ∧ lo < 18446744073709551616) :
    lastHi true hi lo n = (fillN hi (onesI n) : Int) ∧ lastLo true hi lo n = (fillN lo (onesI (n - 64)) : Int) := by
  have e : (2 ^ 64 : Nat) = 18446744073709551616 := by decide
  have f1 := fillN_lt hi (onesI n) h1 (onesI_range n)
  have f2 := fillN_lt lo (onesI (n - 64)) h2 (onesI_range _)
  refine of_unique true _ (lastL_bits true hi lo n) (lastL_length true hi lo n) _ _ (by omega) (by omega) (by simp [mayB]) fun i hi' => ?_
  rw [lastL_at true hi lo n i hi']
  have h128 : (i : Int) < 128 := hi'
  congr 1
  unfold bitI
  simp only [↓reduceIte]
  by_cases h64 : (i : Int) < 64
  · rw [if_pos h64, if_pos h64]
    rw [int_bit, fillN_bit _ _ _ (by omega), ones_bit _ _ (by omega)]
    have := int_bit hi.toNat (63 - (i : Int)).toNat
    rw [Int.toNat_of_nonneg h1.1] at this
    rw [this]
    by_cases hc : (i : Int) < n
    · rw [if_pos hc, show decide (64 - n ≤ ((63 - (i : Int)).toNat : Int)) = true from by simp; omega]
      simp
    · rw [if_neg hc, show decide (64 - n ≤ ((63 - (i : Int)).toNat : Int)) = false from by simp; omega]
      simp
  · rw [if_neg h64, if_neg h64]
    rw [int_bit, fillN_bit _ _ _ (by omega), ones_bit _ _ (by omega)]
    have := int_bit lo.toNat (127 - (i : Int)).toNat
    rw [Int.toNat_of_nonneg h2.1] at this
    rw [this]
    by_cases hc : (i : Int) < n
    · rw [if_pos hc, show decide (64 - (n - 64) ≤ ((127 - (i : Int)).toNat : Int)) = true from by simp; omega]
      simp
    · rw [if_neg hc, show decide (64 - (n - 64) ≤ ((127 - (i : Int)).toNat : Int)) = false from by simp; omega]
      simp

theorem last_four_eq (hi lo n : Int) (h2 : 0 ≤ lo ∧ lo < 18446744073709551616) :
    lastHi false hi lo n = 0 ∧ lastLo false hi lo n = ((fillN lo (onesI n / 4294967296) % 2 ^ 32 : Nat) : Int) := by
  have e : (2 ^ 32 : Nat) = 4294967296 := by decide
  have hlt : fillN lo (onesI n / 4294967296) % 2 ^ 32 < 2 ^ 32 := Nat.mod_lt _ (by omega)
  refine of_unique false _ (lastL_bits false hi lo n) (lastL_length false hi lo n) _ _ (by omega) (by omega) (by simp [mayB]; omega) fun i hi' => ?_
  rw [lastL_at false hi lo n i hi']
  have h32 : (i : Int) < 32 := hi'
  congr 1
  unfold bitI
  simp only [Bool.false_eq_true, ↓reduceIte]
  rw [int_bit, Nat.testBit_mod_two_pow, fillN_bit _ _ _ (by omega)]
  have hm : (onesI n / 4294967296).toNat.testBit (31 - (i : Int)).toNat = (onesI n).toNat.testBit (63 - (i : Int)).toNat := by
    rw [show (onesI n / 4294967296).toNat = (onesI n).toNat / 2 ^ 32 from by have := onesI_range n; omega, Nat.testBit_div_two_pow, show (31 - (i : Int)).toNat + 32 = (63 - (i : Int)).toNat from by omega]
  rw [hm, ones_bit _ _ (by omega)]
  have := int_bit lo.toNat (31 - (i : Int)).toNat
  rw [Int.toNat_of_nonneg h2.1] at this
  rw [this, show decide ((31 - (i : Int)).toNat < 32) = true from by simp; omega]
  by_cases hc : (i : Int) < n
  · rw [if_pos hc, show decide (64 - n ≤ ((63 - (i : Int)).toNat : Int)) = true from by simp; omega]
    simp
  · rw [if_neg hc, show decide (64 - n ≤ ((63 - (i : Int)).toNat : Int)) = false from by simp; omega]
    simp

end Go.Proofs.Ytonelibgaceflaa

namespace Go.Proofs.Ytonelibgaceflaa
open Go.ChangeShapes Go.WideShapes Go.ChangeAt Go.RowKit

theorem or_fill (x m : Int) (hx : 0 ≤ x ∧ x < 18446744073709551616) (hm : 0 ≤ m ∧ m < 18446744073709551616) : bits .or .u64 x (bits .xor .u64 IntKind.u64.max m) = (fillN x m : Int) := by
  have e : (2 ^ 64 : Nat) = 18446744073709551616 := by decide
  have hmax : IntKind.u64.max = 18446744073709551615 := rfl
  have hlt : 18446744073709551615 ^^^ m.toNat < 2 ^ 64 := Nat.xor_lt_two_pow (by omega) (by omega)
  rw [hmax, u64_xor _ _ (by omega) (by omega) hm.1 hm.2, show (18446744073709551615 : Int).toNat = 18446744073709551615 from by decide, u64_or x _ hx.1 hx.2 (by omega) (by omega)]
  rfl

theorem and_fill (x m : Int) (hx : 0 ≤ x ∧ x < 18446744073709551616) (hm : 0 ≤ m ∧ m < 18446744073709551616) : bits .and .u64 (bits .or .u64 x (bits .xor .u64 IntKind.u64.max m)) 4294967295 = ((fillN x m % 2 ^ 32 : Nat) : Int) := by
  have e : (2 ^ 64 : Nat) = 18446744073709551616 := by decide
  have hlt := fillN_lt x m hx hm
  rw [or_fill x m hx hm, u64_and _ _ (by omega) (by omega) (by omega) (by omega), show (4294967295 : Int).toNat = 2 ^ 32 - 1 from by decide, Nat.and_two_pow_sub_one_eq_mod]
  simp

set_option maxRecDepth 100000 in
set_option maxHeartbeats 1600000 in
theorem last_four (hi lo n : Int) (w : World) (_h1 : 0 ≤ hi ∧ hi < 18446744073709551616) (h2 : 0 ≤ lo ∧ lo < 18446744073709551616) (h3 : 0 ≤ n) (h4 : n ≤ 128) :
    Calls Try.prog 113 #[.agg #[.bool false, .int .u64 hi, .int .u64 lo, .int .i64 n]] w fun e w' => e = .returned (.agg #[.bool false, .int .u64 (lastHi false hi lo n), .int .u64 (lastLo false hi lo n)]) ∧ Below w.heap.size w w' := by
  have hv : (Value.agg #[.bool false, .int .u64 (lastHi false hi lo n), .int .u64 (lastLo false hi lo n)]) = .agg #[.bool false, .int .u64 0, .int .u64 (bits .and .u64 (bits .or .u64 lo (bits .xor .u64 IntKind.u64.max (maskLo false n))) 4294967295)] := by
    have hq := last_four_eq hi lo n h2
    rw [hq.1, hq.2, ← and_fill lo (onesI n / 4294967296) h2 (by have := onesI_range n; omega)]
    rfl
  rw [hv]
  clear hv
  go_enter Try.func113, Try.ntmps113
  go_wp2_with (go_at_call 182; refine (mask_any _ n _ (by omega) (by omega)).mono ?_; rintro e w' ⟨rfl, rfl⟩)
  exact bodyPost_ret (v := .agg #[.bool false, .int .u64 0, .int .u64 (bits .and .u64 (bits .or .u64 lo (bits .xor .u64 IntKind.u64.max (maskLo false n))) 4294967295)]) (by simp [results, Try.results113, go_sem]) rfl
    ⟨rfl, (((Below.refl _ _).alloc (Nat.le_refl _) _).alloc (by simp) _).alloc (by simp; omega) _⟩

set_option maxRecDepth 100000 in
set_option maxHeartbeats 1600000 in
theorem last_six (hi lo n : Int) (w : World) (h1 : 0 ≤ hi ∧ hi < 18446744073709551616) (h2 : 0 ≤ lo ∧ lo < 18446744073709551616) (h3 : 0 ≤ n) (h4 : n ≤ 128) :
    Calls Try.prog 113 #[.agg #[.bool true, .int .u64 hi, .int .u64 lo, .int .i64 n]] w fun e w' => e = .returned (.agg #[.bool true, .int .u64 (lastHi true hi lo n), .int .u64 (lastLo true hi lo n)]) ∧ Below w.heap.size w w' := by
  have hv : (Value.agg #[.bool true, .int .u64 (lastHi true hi lo n), .int .u64 (lastLo true hi lo n)]) = .agg #[.bool true, .int .u64 (bits .or .u64 hi (bits .xor .u64 IntKind.u64.max (maskHi true n))), .int .u64 (bits .or .u64 lo (bits .xor .u64 IntKind.u64.max (maskLo true n)))] := by
    have hq := last_six_eq hi lo n h1 h2
    rw [hq.1, hq.2, ← or_fill hi (onesI n) h1 (onesI_range n), ← or_fill lo (onesI (n - 64)) h2 (onesI_range _)]
    rfl
  rw [hv]
  clear hv
  go_enter Try.func113, Try.ntmps113
  go_wp2_with (go_at_call 182; refine (mask_any _ n _ (by omega) (by omega)).mono ?_; rintro e w' ⟨rfl, rfl⟩)
  exact bodyPost_ret (v := .agg #[.bool true, .int .u64 (bits .or .u64 hi (bits .xor .u64 IntKind.u64.max (maskHi true n))), .int .u64 (bits .or .u64 lo (bits .xor .u64 IntKind.u64.max (maskLo true n)))]) (by simp [results, Try.results113, go_sem]) rfl
    ⟨rfl, (((Below.refl _ _).alloc (Nat.le_refl _) _).alloc (by simp) _).alloc (by simp; omega) _⟩

theorem last_any (six : Bool) (hi lo n : Int) (w : World) (h1 : 0 ≤ hi ∧ hi < 18446744073709551616) (h2 : 0 ≤ lo ∧ lo < 18446744073709551616) (h3 : 0 ≤ n) (h4 : n ≤ 128) :
    Calls Try.prog 113 #[.agg #[.bool six, .int .u64 hi, .int .u64 lo, .int .i64 n]] w fun e w' => e = .returned (.agg #[.bool six, .int .u64 (lastHi six hi lo n), .int .u64 (lastLo six hi lo n)]) ∧ Below w.heap.size w w' := by
  cases six
  · exact last_four hi lo n w h1 h2 h3 h4
  · exact last_six hi lo n w h1 h2 h3 h4

end Go.Proofs.Ytonelibgaceflaa

namespace Go.Proofs.Ytonelibgaceflaa
open Go.ChangeShapes Go.WideShapes Go.ChangeAt Go.RowKit

structure Span1 (w : World) (a b c d : Value) (w' : World) : Prop where
  below : Below w.heap.size w w'
  size : w.heap.size + 1 + 1 < w'.heap.size
  c0 : w'.cell? ⟨w.heap.size, 0, none⟩ = some a
  c1 : w'.cell? ⟨w.heap.size, 1, none⟩ = some b
  c2 : w'.cell? ⟨w.heap.size, 2, none⟩ = some c
  c3 : w'.cell? ⟨w.heap.size, 3, none⟩ = some d
  zA0 : w'.cell? ⟨w.heap.size + 1, 0, none⟩ = some (.bool false)
  zA1 : w'.cell? ⟨w.heap.size + 1, 1, none⟩ = some (.int .u64 0)
  zA2 : w'.cell? ⟨w.heap.size + 1, 2, none⟩ = some (.int .u64 0)
  zB0 : w'.cell? ⟨w.heap.size + 1 + 1, 0, none⟩ = some (.bool false)
  zB1 : w'.cell? ⟨w.heap.size + 1 + 1, 1, none⟩ = some (.int .u64 0)
  zB2 : w'.cell? ⟨w.heap.size + 1 + 1, 2, none⟩ = some (.int .u64 0)
  gA0 : w'.frozen? ⟨w.heap.size + 1, 0, none⟩ = false
  gA1 : w'.frozen? ⟨w.heap.size + 1, 1, none⟩ = false
  gA2 : w'.frozen? ⟨w.heap.size + 1, 2, none⟩ = false
  gB0 : w'.frozen? ⟨w.heap.size + 1 + 1, 0, none⟩ = false
  gB1 : w'.frozen? ⟨w.heap.size + 1 + 1, 1, none⟩ = false
  gB2 : w'.frozen? ⟨w.heap.size + 1 + 1, 2, none⟩ = false

theorem span1_start (w : World) (a b c d : Value) (t t' : TypeId) : Span1 w a b c d (((w.alloc (.cells #[a, b, c, d] t)).alloc (.cells #[.bool false, .int .u64 0, .int .u64 0] t')).alloc (.cells #[.bool false, .int .u64 0, .int .u64 0] t')) := by
  have hb : Below w.heap.size w (((w.alloc (.cells #[a, b, c, d] t)).alloc (.cells #[.bool false, .int .u64 0, .int .u64 0] t')).alloc (.cells #[.bool false, .int .u64 0, .int .u64 0] t')) := (((Below.refl _ _).alloc (Nat.le_refl _) _).alloc (by simp) _).alloc (by simp; omega) _
  have e0 : ∀ j u, (#[a, b, c, d] : Array Value)[j]? = some u → (((w.alloc (.cells #[a, b, c, d] t)).alloc (.cells #[.bool false, .int .u64 0, .int .u64 0] t')).alloc (.cells #[.bool false, .int .u64 0, .int .u64 0] t')).cell? ⟨w.heap.size, j, none⟩ = some u := by
    intro j u hj
    rw [World.cell?_alloc_past _ _ _ (by simp; omega), World.cell?_alloc_past _ _ _ (by simp), World.cell?_alloc_at _ _ _ _ rfl]
    exact hj
  have e1 : ∀ j u, (#[.bool false, .int .u64 0, .int .u64 0] : Array Value)[j]? = some u → (((w.alloc (.cells #[a, b, c, d] t)).alloc (.cells #[.bool false, .int .u64 0, .int .u64 0] t')).alloc (.cells #[.bool false, .int .u64 0, .int .u64 0] t')).cell? ⟨w.heap.size + 1, j, none⟩ = some u := by
    intro j u hj
    rw [World.cell?_alloc_past _ _ _ (by simp), World.cell?_alloc_at _ _ _ _ (by simp)]
    exact hj
  have e2 : ∀ j u, (#[.bool false, .int .u64 0, .int .u64 0] : Array Value)[j]? = some u → (((w.alloc (.cells #[a, b, c, d] t)).alloc (.cells #[.bool false, .int .u64 0, .int .u64 0] t')).alloc (.cells #[.bool false, .int .u64 0, .int .u64 0] t')).cell? ⟨w.heap.size + 1 + 1, j, none⟩ = some u := by
    intro j u hj
    rw [World.cell?_alloc_at _ _ _ _ (by simp)]
    exact hj
  have h1 : (((w.alloc (.cells #[a, b, c, d] t)).alloc (.cells #[.bool false, .int .u64 0, .int .u64 0] t')).alloc (.cells #[.bool false, .int .u64 0, .int .u64 0] t')).heap[w.heap.size + 1]? = some (.cells #[.bool false, .int .u64 0, .int .u64 0] t') := by
    rw [Below.heap_alloc _ _ _ (by simp)]
    have := heap_alloc_new (w.alloc (.cells #[a, b, c, d] t)) (.cells #[.bool false, .int .u64 0, .int .u64 0] t')
    simpa using this
  have h2 : (((w.alloc (.cells #[a, b, c, d] t)).alloc (.cells #[.bool false, .int .u64 0, .int .u64 0] t')).alloc (.cells #[.bool false, .int .u64 0, .int .u64 0] t')).heap[w.heap.size + 1 + 1]? = some (.cells #[.bool false, .int .u64 0, .int .u64 0] t') := by
    have := heap_alloc_new ((w.alloc (.cells #[a, b, c, d] t)).alloc (.cells #[.bool false, .int .u64 0, .int .u64 0] t')) (.cells #[.bool false, .int .u64 0, .int .u64 0] t')
    simpa using this
  have f1 : ∀ j, (((w.alloc (.cells #[a, b, c, d] t)).alloc (.cells #[.bool false, .int .u64 0, .int .u64 0] t')).alloc (.cells #[.bool false, .int .u64 0, .int .u64 0] t')).frozen? ⟨w.heap.size + 1, j, none⟩ = false := by
    intro j
    unfold World.frozen?
    simp only [h1]
    simp
  have f2 : ∀ j, (((w.alloc (.cells #[a, b, c, d] t)).alloc (.cells #[.bool false, .int .u64 0, .int .u64 0] t')).alloc (.cells #[.bool false, .int .u64 0, .int .u64 0] t')).frozen? ⟨w.heap.size + 1 + 1, j, none⟩ = false := by
    intro j
    unfold World.frozen?
    simp only [h2]
    simp
  exact ⟨hb, by simp, e0 0 a rfl, e0 1 b rfl, e0 2 c rfl, e0 3 d rfl, e1 0 _ rfl, e1 1 _ rfl, e1 2 _ rfl, e2 0 _ rfl, e2 1 _ rfl, e2 2 _ rfl, f1 0, f1 1, f1 2, f2 0, f2 1, f2 2⟩

theorem Span1.drew {w w1 : World} {a b c d : Value} (h : Span1 w a b c d w1) : Span1 w a b c d w1.drew := ⟨h.below.drew, h.size, h.c0, h.c1, h.c2, h.c3, h.zA0, h.zA1, h.zA2, h.zB0, h.zB1, h.zB2, h.gA0, h.gA1, h.gA2, h.gB0, h.gB1, h.gB2⟩

theorem Span1.step {w w1 w2 : World} {a b c d : Value} (h : Span1 w a b c d w1) (hb : Below w1.heap.size w1 w2) : Span1 w a b c d w2 := by
  have hs := h.size
  have f : ∀ b j, b ≤ w.heap.size + 1 + 1 → w1.frozen? ⟨b, j, none⟩ = false → w2.frozen? ⟨b, j, none⟩ = false := fun b j hb' hf => (hb.frozen (p := ⟨b, j, none⟩) (by show b < _; omega)).trans hf
  exact ⟨below_step h.below hb, size_step h.size hb, cell_step hb h.c0, cell_step hb h.c1, cell_step hb h.c2, cell_step hb h.c3, cell_step hb h.zA0, cell_step hb h.zA1, cell_step hb h.zA2, cell_step hb h.zB0, cell_step hb h.zB1, cell_step hb h.zB2,
    f _ 0 (by omega) h.gA0, f _ 1 (by omega) h.gA1, f _ 2 (by omega) h.gA2, f _ 0 (by omega) h.gB0, f _ 1 (by omega) h.gB1, f _ 2 (by omega) h.gB2⟩


theorem box33 {w w2 : World} {a b c d e f : Value} {t t' : TypeId} (hb : Below ((w.alloc (.cells #[a, b, c] t)).alloc (.cells #[d, e, f] t')).heap.size ((w.alloc (.cells #[a, b, c] t)).alloc (.cells #[d, e, f] t')) w2) :
    Below w.heap.size w w2 ∧ (w2.cell? ⟨w.heap.size, 0, none⟩ = some a ∧ w2.cell? ⟨w.heap.size, 1, none⟩ = some b ∧ w2.cell? ⟨w.heap.size, 2, none⟩ = some c) ∧
      (w2.cell? ⟨w.heap.size + 1, 0, none⟩ = some d ∧ w2.cell? ⟨w.heap.size + 1, 1, none⟩ = some e ∧ w2.cell? ⟨w.heap.size + 1, 2, none⟩ = some f) ∧ w.heap.size + 1 < w2.heap.size := by
  have e0 : ∀ j u, (#[a, b, c] : Array Value)[j]? = some u → ((w.alloc (.cells #[a, b, c] t)).alloc (.cells #[d, e, f] t')).cell? ⟨w.heap.size, j, none⟩ = some u := by
    intro j u hj
    rw [World.cell?_alloc_past _ _ _ (by simp), World.cell?_alloc_at _ _ _ _ rfl]
    exact hj
  have e1 : ∀ j u, (#[d, e, f] : Array Value)[j]? = some u → ((w.alloc (.cells #[a, b, c] t)).alloc (.cells #[d, e, f] t')).cell? ⟨w.heap.size + 1, j, none⟩ = some u := by
    intro j u hj
    rw [World.cell?_alloc_at _ _ _ _ (by simp)]
    exact hj
  have hs := hb.size
  simp at hs
  exact ⟨below_step (((Below.refl _ _).alloc (Nat.le_refl _) _).alloc (by simp) _) hb, ⟨cell_step hb (e0 0 a rfl), cell_step hb (e0 1 b rfl), cell_step hb (e0 2 c rfl)⟩, ⟨cell_step hb (e1 0 d rfl), cell_step hb (e1 1 e rfl), cell_step hb (e1 2 f rfl)⟩, by omega⟩

end Go.Proofs.Ytonelibgaceflaa

namespace Go.Proofs.Ytonelibgaceflaa
open Go.ChangeShapes Go.WideShapes Go.ChangeAt Go.RowKit

theorem Span1.stepB {w w1 w2 : World} {a b c d : Value} {B : Nat} (h : Span1 w a b c d w1) (hb : Below B w1 w2) (hB : w.heap.size + 1 + 1 < B) : Span1 w a b c d w2 := by
  have f : ∀ b j, b ≤ w.heap.size + 1 + 1 → w1.frozen? ⟨b, j, none⟩ = false → w2.frozen? ⟨b, j, none⟩ = false := fun b j hb' hf => (hb.frozen (p := ⟨b, j, none⟩) (by show b < _; omega)).trans hf
  have g : ∀ b j v, b ≤ w.heap.size + 1 + 1 → w1.cell? ⟨b, j, none⟩ = some v → w2.cell? ⟨b, j, none⟩ = some v := fun b j v hb' hf => (hb.cell (p := ⟨b, j, none⟩) (by show b < _; omega)).trans hf
  have hs := hb.size
  have h1 := h.size
  exact ⟨h.below.trans (hb.mono (by omega)), by omega, g _ _ _ (by omega) h.c0, g _ _ _ (by omega) h.c1, g _ _ _ (by omega) h.c2, g _ _ _ (by omega) h.c3, g _ _ _ (by omega) h.zA0, g _ _ _ (by omega) h.zA1, g _ _ _ (by omega) h.zA2, g _ _ _ (by omega) h.zB0, g _ _ _ (by omega) h.zB1, g _ _ _ (by omega) h.zB2,
    f _ 0 (by omega) h.gA0, f _ 1 (by omega) h.gA1, f _ 2 (by omega) h.gA2, f _ 0 (by omega) h.gB0, f _ 1 (by omega) h.gB1, f _ 2 (by omega) h.gB2⟩

set_option maxRecDepth 100000 in
set_option maxHeartbeats 1600000 in
theorem refSpan_bad (six : Bool) (hi lo n : Int) (w : World) (h1 : 0 ≤ hi ∧ hi < 18446744073709551616) (h2 : 0 ≤ lo ∧ lo < 18446744073709551616) (hz : ¬ chk six hi lo n = 0) :
    Calls Try.prog 85 #[.agg #[.bool six, .int .u64 hi, .int .u64 lo, .int .i64 n]] w fun e w' => e = .returned (.tuple #[.agg #[.bool false, .int .u64 0, .int .u64 0], .agg #[.bool false, .int .u64 0, .int .u64 0], .int .i64 (chk six hi lo n)]) ∧ Below w.heap.size w w' := by
  have c := fun w => preFault_any six hi lo n w h1 h2
  generalize chk six hi lo n = k at *
  have CC := Lib.hid c
  have hb1 : (k == 0) = false := by simpa using hz
  have hb2 : (k != 0) = true := by simpa using hz
  clear c
  go_enter Try.func85, Try.ntmps85
  go_wp2_with fail
  refine (CC.out _).mono ?_
  rintro e w1 ⟨rfl, hb⟩
  have HS := Lib.hid (Span1.step (span1_start w _ _ _ _ _ _) hb)
  clear hb
  have xc0 := HS.out.c0
  have xc1 := HS.out.c1
  have xc2 := HS.out.c2
  have xc3 := HS.out.c3
  have xzA0 := HS.out.zA0
  have xzA1 := HS.out.zA1
  have xzA2 := HS.out.zA2
  have xzB0 := HS.out.zB0
  have xzB1 := HS.out.zB1
  have xzB2 := HS.out.zB2
  have xgA0 := HS.out.gA0
  have xgA1 := HS.out.gA1
  have xgA2 := HS.out.gA2
  have xgB0 := HS.out.gB0
  have xgB1 := HS.out.gB1
  have xgB2 := HS.out.gB2
  go_wp2
  refine bodyPost_ret (v := .tuple #[.agg #[.bool false, .int .u64 0, .int .u64 0], .agg #[.bool false, .int .u64 0, .int .u64 0], .int .i64 k]) ?_ rfl ⟨rfl, ?_⟩
  · simp [results, Try.results85, go_sem, xzA0, xzA1, xzA2, xzB0, xzB1, xzB2]
  · exact (((((HS.out.below.setCell (by simp) _).setCell (by simp) _).setCell (by simp) _).setCell (by simp; omega) _).setCell (by simp; omega) _).setCell (by simp; omega) _

theorem own_lt {w : World} {base g n cap : Nat} {e : TypeId} {size : Nat} {xs : List Value} (h : w.ownsRow base e size (.slice (some ⟨g, 0, none⟩) n cap) n xs) (hpos : 0 < n) : g < w.heap.size := by
  obtain ⟨g', c', e1, _, e2⟩ := h.form hpos
  simp at e1
  obtain ⟨rfl, _⟩ := e1
  exact e2

def lastTo (six : Bool) (hi lo : Int) (m n k : Nat) : List Int := (List.range m).map fun (j : Nat) => if j < n then bitI six hi lo j else if j < n + k then 1 else bitI six hi lo j
theorem lastTo_zero {six : Bool} {hi lo : Int} {m n : Nat} (hm : wideI six = m) : lastTo six hi lo m n 0 = bitsL six hi lo := by
  unfold lastTo bitsL
  rw [hm]
  apply List.map_congr_left
  intro j _
  split
  · rfl
  · rw [if_neg (by omega)]
theorem lastTo_end {six : Bool} {hi lo : Int} {m n k : Nat} (hm : wideI six = m) (hk : n + k = m) : lastTo six hi lo m n k = lastL six hi lo n := by
  unfold lastTo lastL
  rw [hm]
  apply List.map_congr_left
  intro j hj
  have : j < m := by simpa using hj
  by_cases h : j < n
  · rw [if_pos h, if_pos (by omega)]
  · rw [if_neg h, if_pos (show j < n + k by omega), if_neg (by omega)]
theorem lastTo_set {six : Bool} {hi lo : Int} {m n k : Nat} (hk : n + k < m) : (lastTo six hi lo m n k).set (n + k) 1 = lastTo six hi lo m n (k + 1) := by
  apply List.ext_getElem?
  intro j
  unfold lastTo
  rw [List.getElem?_set]
  by_cases h : n + k = j
  · subst h
    rw [if_pos rfl, if_pos (by simpa using hk), List.getElem?_map, List.getElem?_range hk]
    simp only [Option.map_some, Option.some.injEq]
    rw [if_neg (by omega), if_pos (by omega)]
  · rw [if_neg h, List.getElem?_map, List.getElem?_map]
    rcases Nat.lt_or_ge j m with hj | hj
    · rw [List.getElem?_range hj]
      simp only [Option.map_some, Option.some.injEq]
      by_cases h1 : j < n
      · rw [if_pos h1, if_pos h1]
      · rw [if_neg h1, if_neg h1]
        by_cases h2 : j < n + k
        · rw [if_pos h2, if_pos (by omega)]
        · rw [if_neg h2, if_neg (by omega)]
    · rw [List.getElem?_eq_none (by simpa using hj)]
      rfl

set_option maxRecDepth 100000 in
set_option maxHeartbeats 1600000 in
theorem refSpan_ok (six : Bool) (hi lo : Int) (n : Nat) (w : World) (h1 : 0 ≤ hi ∧ hi < 18446744073709551616) (h2 : 0 ≤ lo ∧ lo < 18446744073709551616) (hp : chk six hi lo n = 0) :
    Calls Try.prog 85 #[.agg #[.bool six, .int .u64 hi, .int .u64 lo, .int .i64 n]] w fun e w' => e = .returned (.tuple #[.agg #[.bool six, .int .u64 hi, .int .u64 lo], .agg #[.bool six, .int .u64 (lastHi six hi lo n), .int .u64 (lastLo six hi lo n)], .int .i64 0]) ∧ Below w.heap.size w w' := by
  have c := fun w => preFault_any six hi lo n w h1 h2
  have hpf := chk_zero h1 h2 hp
  rw [hp] at c
  have CC := Lib.hid c
  obtain ⟨m, hn, hpos, hle⟩ := wideN six
  have hnm : n ≤ m := by have := hpf.len.2; omega
  have HN := Lib.hid hn
  clear c hp hpf hn
  go_enter Try.func85, Try.ntmps85
  go_wp2_with fail
  refine (CC.out _).mono ?_
  rintro e w1 ⟨rfl, hb⟩
  have HS := Lib.hid (Span1.step (span1_start w _ _ _ _ _ _) hb)
  clear hb
  have s1 := HS.out.size
  have xc0 := HS.out.c0
  have xc1 := HS.out.c1
  have xc2 := HS.out.c2
  go_wp2_with fail
  refine (bitsOf_any six hi lo _ h1 h2).mono ?_
  rintro e w2 ⟨v, rfl, hown, hb2, hs2⟩
  have HS2 := Lib.hid (HS.out.step hb2)
  clear xc0 xc1 xc2
  rw [HN.out] at hown
  simp only [Int.toNat_natCast] at hown
  obtain ⟨g, cap, rfl, hg, hlt⟩ := hown.form hpos
  have HO := Lib.hid hown
  clear hown hb2
  have yc3 := HS2.out.c3
  have hm1 : (m : Int) ≤ 128 := by omega
  go_wp2
  go_loopw [7] (fun i wr => ∃ k : Nat, n + k ≤ m ∧ i = .int .i64 ((n : Int) + k) ∧ wr.ownsRow (w1.heap.size + 1) 3 1 (.slice (some ⟨g, 0, none⟩) m cap) m ((lastTo six hi lo m n k).map (Value.int .i64)) ∧ Below (w1.heap.size + 1) w2 wr) (fun i _ => m - (intOf i).toNat)
  case atStart => exact ⟨0, by omega, by simp, by rw [lastTo_zero HN.out]; exact HO.out, Below.refl _ _⟩
  case round =>
    obtain ⟨k, hk, rfl, hown, hbr⟩ := hrel
    by_cases hlt' : n + k < m
    · have hkm : ((n : Int) + k) < m := by omega
      have hfz : wr.frozen? ⟨g, n + k, none⟩ = false := hown.frozenAt _
      have hce : ∃ u, wr.cell? ⟨g, n + k, none⟩ = some u := by
        have := hown.cellAt (n + k) (by omega)
        rw [List.getElem?_eq_getElem (by simp [lastTo]; omega)] at this
        exact ⟨_, this⟩
      obtain ⟨u, hcu⟩ := hce
      have hst := (hown.stored (n + k) (.int .i64 1)).1
      rw [← List.map_set, lastTo_set hlt'] at hst
      have HB := Lib.hid (hbr.setCell (p := ⟨g, n + k, none⟩) hg (.int .i64 1))
      have HST := Lib.hid hst
      clear hown hst
      go_wp2
      go_roundw
      case rel => exact ⟨k + 1, by omega, by go_num, HST.out, HB.out⟩
      case measure => simp [intOf]; omega
    · have hkm : n + k = m := by omega
      have hkm2 : ((n : Int) + k) = m := by omega
      rw [lastTo_end HN.out hkm] at hown
      have HS3 := Lib.hid (HS2.out.stepB hbr (by omega))
      have hwr := hbr.size
      have HO3 := Lib.hid hown
      clear hown hlt' yc3
      have hkm3 : ¬ ((n : Int) + k) < m := by omega
      have xc0 := HS3.out.c0
      have xc1 := HS3.out.c1
      have xc2 := HS3.out.c2
      have xc3 := HS3.out.c3
      have xzA0 := HS3.out.zA0
      have xzA1 := HS3.out.zA1
      have xzA2 := HS3.out.zA2
      have xzB0 := HS3.out.zB0
      have xzB1 := HS3.out.zB1
      have xzB2 := HS3.out.zB2
      have xgA0 := HS3.out.gA0
      have xgA1 := HS3.out.gA1
      have xgA2 := HS3.out.gA2
      have xgB0 := HS3.out.gB0
      have xgB1 := HS3.out.gB1
      have xgB2 := HS3.out.gB2
      have e2 : g < wr.drew.heap.size := own_lt HO3.out hpos
      have HA := Lib.hid (addrOf_any six (lastL six hi lo n) m g cap wr.drew (lastL_bits six hi lo n) (by have := lastL_length six hi lo n; rw [HN.out] at this; omega) HN.out (fun i b hib => own_int (n := m) HO3.out hib) e2)
      clear hkm hkm2 e2
      go_wp2_with fail
      go_region_with (go_at_call 160; ((with_reducible refine HA.out.mono ?_); rintro e w' ⟨rfl, hb⟩; have HS4 := Lib.hid (HS3.out.drew.step hb); have yc0 := HS4.out.c0; have yc1 := HS4.out.c1; have yc2 := HS4.out.c2; have yc3 := HS4.out.c3; have yzA0 := HS4.out.zA0; have yzA1 := HS4.out.zA1; have yzA2 := HS4.out.zA2; have yzB0 := HS4.out.zB0; have yzB1 := HS4.out.zB1; have yzB2 := HS4.out.zB2; have ygA0 := HS4.out.gA0; have ygA1 := HS4.out.gA1; have ygA2 := HS4.out.gA2; have ygB0 := HS4.out.gB0; have ygB1 := HS4.out.gB1; have ygB2 := HS4.out.gB2))
      all_goals go_wp2
      all_goals refine bodyPost_ret (v := .tuple #[.agg #[.bool six, .int .u64 hi, .int .u64 lo], .agg #[.bool six, .int .u64 (lastHi six hi lo n), .int .u64 (lastLo six hi lo n)], .int .i64 0]) ?_ rfl ⟨rfl, ?_⟩
      all_goals first
        | exact (((((HS4.out.below.setCell (by simp) _).setCell (by simp) _).setCell (by simp) _).setCell (by simp; omega) _).setCell (by simp; omega) _).setCell (by simp; omega) _
        | (simp [results, Try.results85, go_sem, yzA0, yzA1, yzA2, yzB0, yzB1, yzB2, lastHi, lastLo]; done)
        | trace_state

end Go.Proofs.Ytonelibgaceflaa

namespace Go.Proofs.Ytonelibgaceflaa
set_option linter.unusedVariables false

/-- Does a prefix cover another one of its family? -/
def overB (six : Bool) (hi lo n : Int) (six' : Bool) (hi' lo' n' : Int) : Bool := decide (n ≤ n') && inB six hi lo n six' hi' lo'

theorem over_iff {six : Bool} {hi lo hi' lo' : Int} {n n' : Nat} (hp : Pfx six hi lo n) (hq : Pfx six hi' lo' n') :
    overB six hi lo n six hi' lo' n' = (inB six hi lo n six hi' lo' && inB six hi lo n six (lastHi six hi' lo' n') (lastLo six hi' lo' n')) := by
  have hr := last_range six hi' lo' n'
  have h1 := inB_iff hp hq.rhi hq.rlo hq.may
  have h2 := inB_iff hp hr.1 hr.2.1 hr.2.2
  have hc := (clean_iff six hi' lo' n' hq.rhi hq.rlo hq.may hq.len.2).1 hq.clean
  have hlp := hp.len.2
  rw [Bool.eq_iff_iff]
  unfold overB
  rw [Bool.and_eq_true, Bool.and_eq_true, decide_eq_true_eq, h1, h2]
  constructor
  · rintro ⟨ha, hb⟩
    refine ⟨hb, fun i hi0 => ?_⟩
    rw [last_bit six hi' lo' n' i (by omega), if_pos (by omega)]
    exact hb i hi0
  · rintro ⟨ha, hb⟩
    refine ⟨?_, ha⟩
    rcases Nat.lt_or_ge n' n with h | h
    · have x1 := ha n' h
      have x2 := hb n' h
      rw [last_bit six hi' lo' n' n' (by omega), if_neg (by omega)] at x2
      have x3 := hc n' (Nat.le_refl _) (by omega)
      omega
    · omega

end Go.Proofs.Ytonelibgaceflaa

namespace Go.Proofs.Ytonelibgaceflaa
open Go.ChangeShapes Go.WideShapes Go.ChangeAt Go.RowKit

set_option maxHeartbeats 1600000 in
theorem over_any (six : Bool) (hi lo n : Int) (six' : Bool) (hi' lo' n' : Int) (w : World) (h3 : 0 ≤ hi' ∧ hi' < 18446744073709551616) (h4 : 0 ≤ lo' ∧ lo' < 18446744073709551616) (h5 : six' = false → lo' < 4294967296) (h6 : -500 ≤ n) (h7 : n ≤ 500) :
    Calls Try.prog 137 #[.agg #[.bool six, .int .u64 hi, .int .u64 lo, .int .i64 n], .agg #[.bool six', .int .u64 hi', .int .u64 lo', .int .i64 n']] w fun e w' => e = .returned (.bool (overB six hi lo n six' hi' lo' n')) ∧ Below w.heap.size w w' := by
  have HQ := Lib.hid h5
  clear h5
  by_cases hn : n ≤ n'
  · have hE : overB six hi lo n six' hi' lo' n' = inB six hi lo n six' hi' lo' := by unfold overB; simp [hn]
    rw [hE]
    clear hE
    go_enter Try.func137, Try.ntmps137
    go_wp2_with fail
    refine (in_any six hi lo n six' hi' lo' _ h3 h4 HQ.out h6 h7).mono ?_
    rintro e w1 ⟨rfl, hb⟩
    obtain ⟨b0, b1, c0, c1, c2, c3, d0, d1, d2, d3⟩ := Box44.step (box44_start w _ _ _ _ _ _ _ _ _) hb
    clear hb
    go_wp2
    go_ret
    exact ⟨rfl, b0⟩
  · have hE : overB six hi lo n six' hi' lo' n' = false := by unfold overB; simp [hn]
    rw [hE]
    clear hE
    go_enter Try.func137, Try.ntmps137
    go_wp2
    go_ret
    exact ⟨rfl, ((Below.refl _ _).alloc (Nat.le_refl _) _).alloc (by simp) _⟩

def covB (six : Bool) (hi lo n : Int) (six' : Bool) (hi' lo' n' : Int) : Bool :=
  if ¬ bothE six hi lo n six' hi' lo' n' = 0 then false else overB six hi lo n six' hi' lo' n'

theorem both_zero {six : Bool} {hi lo n : Int} {six' : Bool} {hi' lo' n' : Int} (h1 : 0 ≤ hi ∧ hi < 18446744073709551616) (h2 : 0 ≤ lo ∧ lo < 18446744073709551616) (h3 : 0 ≤ hi' ∧ hi' < 18446744073709551616) (h4 : 0 ≤ lo' ∧ lo' < 18446744073709551616)
    (h : bothE six hi lo n six' hi' lo' n' = 0) : Pfx six hi lo n ∧ Pfx six' hi' lo' n' ∧ six = six' ∧ chk six' hi' lo' n' = 0 := by
  unfold bothE at h
  by_cases hz : chk six hi lo n = 0
  · rw [if_neg (fun x => x hz)] at h
    by_cases hz2 : chk six' hi' lo' n' = 0
    · rw [if_neg (fun x => x hz2)] at h
      by_cases hs : six = six'
      · exact ⟨chk_zero h1 h2 hz, chk_zero h3 h4 hz2, hs, hz2⟩
      · rw [if_pos hs] at h; omega
    · rw [if_pos hz2] at h; omega
  · rw [if_pos hz] at h; omega

end Go.Proofs.Ytonelibgaceflaa

namespace Go.Proofs.Ytonelibgaceflaa
open Go.ChangeShapes Go.WideShapes Go.ChangeAt Go.RowKit

/-- Behind a call that changes nothing that existed all old cells read as before. -/
theorem bcell {W w1 : World} (hb : Below W.heap.size W w1) : (∀ b o, b < W.heap.size → w1.cell? ⟨b, o, none⟩ = W.cell? ⟨b, o, none⟩) ∧ (∀ b o, b < W.heap.size → w1.frozen? ⟨b, o, none⟩ = W.frozen? ⟨b, o, none⟩) :=
  ⟨fun b o h => hb.cell (p := ⟨b, o, none⟩) h, fun b o h => hb.frozen (p := ⟨b, o, none⟩) h⟩

theorem bsize1 {w w1 : World} {o : Obj} (hb : Below (w.alloc o).heap.size (w.alloc o) w1) : w.heap.size < w1.heap.size := by
  have := hb.size
  simp at this
  omega
theorem bsize2 {w w1 : World} {o o' : Obj} (hb : Below ((w.alloc o).alloc o').heap.size ((w.alloc o).alloc o') w1) : w.heap.size < w1.heap.size ∧ w.heap.size + 1 < w1.heap.size := by
  have := hb.size
  simp at this
  omega
theorem bsize3 {w w1 : World} {o o' o'' : Obj} (hb : Below (((w.alloc o).alloc o').alloc o'').heap.size (((w.alloc o).alloc o').alloc o'') w1) :
    w.heap.size < w1.heap.size ∧ w.heap.size + 1 < w1.heap.size ∧ w.heap.size + 1 + 1 < w1.heap.size := by
  have := hb.size
  simp at this
  omega
theorem balloc1 {w w1 : World} {o : Obj} (hb : Below (w.alloc o).heap.size (w.alloc o) w1) : Below w.heap.size w w1 := below_step ((Below.refl _ _).alloc (Nat.le_refl _) _) hb
theorem balloc2 {w w1 : World} {o o' : Obj} (hb : Below ((w.alloc o).alloc o').heap.size ((w.alloc o).alloc o') w1) : Below w.heap.size w w1 :=
  below_step (((Below.refl _ _).alloc (Nat.le_refl _) _).alloc (by simp) _) hb
theorem balloc3 {w w1 : World} {o o' o'' : Obj} (hb : Below (((w.alloc o).alloc o').alloc o'').heap.size (((w.alloc o).alloc o').alloc o'') w1) : Below w.heap.size w w1 :=
  below_step ((((Below.refl _ _).alloc (Nat.le_refl _) _).alloc (by simp) _).alloc (by simp; omega) _) hb

/-- The same behind a world that differs from a named one by draws alone. -/
theorem bcellN {w1 X w2 : World} (hb : Below X.heap.size X w2) (hX : X.heap = w1.heap) :
    (∀ b o, b < w1.heap.size → w2.cell? ⟨b, o, none⟩ = w1.cell? ⟨b, o, none⟩) ∧ (∀ b o, b < w1.heap.size → w2.frozen? ⟨b, o, none⟩ = w1.frozen? ⟨b, o, none⟩) ∧ w1.heap.size ≤ w2.heap.size := by
  have hs : X.heap.size = w1.heap.size := by rw [hX]
  refine ⟨fun b o h => ?_, fun b o h => ?_, by have := hb.size; omega⟩
  · exact (hb.cell (p := ⟨b, o, none⟩) (by show b < _; omega)).trans (World.cell?_of_block (w := w1) (by rw [hX]))
  · exact (hb.frozen (p := ⟨b, o, none⟩) (by show b < _; omega)).trans (World.frozen?_of_block (w := w1) (by rw [hX]))

/-! What a region keeps: all cells of a world w1. -/
theorem keep0 (w1 : World) : (∀ b o, b < w1.heap.size → w1.drew.cell? ⟨b, o, none⟩ = w1.cell? ⟨b, o, none⟩) ∧ w1.heap.size ≤ w1.drew.heap.size ∧ Hid (Below w1.heap.size w1 w1.drew) :=
  ⟨fun _ _ _ => rfl, Nat.le_refl _, (Below.refl _ _).drew⟩
theorem keepD {w1 X : World} (h : (∀ b o, b < w1.heap.size → X.cell? ⟨b, o, none⟩ = w1.cell? ⟨b, o, none⟩) ∧ w1.heap.size ≤ X.heap.size ∧ Hid (Below w1.heap.size w1 X)) :
    (∀ b o, b < w1.heap.size → X.drew.cell? ⟨b, o, none⟩ = w1.cell? ⟨b, o, none⟩) ∧ w1.heap.size ≤ X.drew.heap.size ∧ Hid (Below w1.heap.size w1 X.drew) :=
  ⟨h.1, h.2.1, h.2.2.out.drew⟩
theorem keep1 {w1 X w2 : World} (h : (∀ b o, b < w1.heap.size → X.cell? ⟨b, o, none⟩ = w1.cell? ⟨b, o, none⟩) ∧ w1.heap.size ≤ X.heap.size ∧ Hid (Below w1.heap.size w1 X)) (hb : Below X.heap.size X w2) :
    (∀ b o, b < w1.heap.size → w2.cell? ⟨b, o, none⟩ = w1.cell? ⟨b, o, none⟩) ∧ w1.heap.size ≤ w2.heap.size ∧ Hid (Below w1.heap.size w1 w2) :=
  ⟨fun b o hb' => (hb.cell (p := ⟨b, o, none⟩) (by show b < _; have := h.2.1; omega)).trans (h.1 b o hb'), Nat.le_trans h.2.1 hb.size, below_step h.2.2.out hb⟩

theorem own_block_lt {w : World} {base : Nat} {e : TypeId} {size n : Nat} {v : Value} {xs : List Value} (h : w.ownsRow base e size v n xs) {k : Nat} (hk : w.heap.size ≤ k) : v.ownBlock ≠ some k := by
  rcases h.2 with ⟨rfl, _⟩ | ⟨g, cap, cur, rfl, _, hh, _⟩
  · simp [Value.ownBlock]
  · intro he
    have : g = k := by simpa [Value.ownBlock] using he
    subst this
    rw [Array.getElem?_eq_none hk] at hh
    cases hh

/-- As wpList_append_one, where the number of the new block is spelled otherwise; it tells of all blocks but the row's own. -/
theorem wpList_append_oneN {P : Program} {ops : Array Oper} {rest : List Oper} {o : Oper} {a : Act} {Q : Exit → Act → World → Prop} {w0 : World} {us : List Value} {fr : Nat × Nat} {e : TypeId} {g : Nat} (hgd : o.guard = none) (s x : Operand) (t : TypeId)
    (ho : o.op = .call { callee := .builtin .append, args := #[s, x], argTypes := #[t, t] })
    (base : Nat) (z : Value) (size bytes : Nat) (ht : P.underlying t = some (.slice e)) (hi : (P.info? e).map (fun i => (i.zero, i.size, i.bytes)) = some (some z, size, bytes))
    (hzs : z.cells.size = size) (hsz : 0 < size) (v : Value) (n : Nat) (xs : List Value) (hs : a.eval s = v)
    (hx : a.eval x = .slice (some ⟨g, 0, none⟩) 1 1) (hg : g = w0.heap.size) (hown : w0.ownsRow base e size v n xs) (hbase : base ≤ w0.heap.size)
    (hl : us.length = size) (h1 : ∀ u ∈ us, u.oneCell' = true) (h63 : n + 1 ≤ maxLen) (hbytes : (n + 1) * bytes ≤ 140737488355328)
    (h : ∀ v' w', w'.ownsRow base e size v' (n + 1) (xs ++ us) → Below base w0 w' → w0.heap.size < w'.heap.size → (∀ k, k < w0.heap.size → v.ownBlock ≠ some k → w'.heap[k]? = w0.heap[k]?) → wpList P ops Q rest (a.put o.dst v') w') :
    wpList P ops Q (o :: rest) a (w0.alloc (.cells us.toArray e fr)) := by
  subst hg
  obtain ⟨i0, hi, hz0, hz1, hz2⟩ := info_parts hi
  refine wpList_append_own _ hgd s x t ho base e i0 z size bytes ht hi hz0 hz1 hz2 hzs hsz v n xs hs (hown.alloc _) ⟨w0.heap.size, 0, none⟩ 1 1 us hx (by omega) ?_ h1 h63 hbytes (by simp; omega) ?_
  · intro j u hj
    have e1 : (⟨w0.heap.size, 0, none⟩ : Addr).add j = ⟨w0.heap.size, j, none⟩ := by unfold Addr.add; split <;> simp_all
    rw [e1]
    have : (w0.alloc (.cells us.toArray e fr)).heap[w0.heap.size]? = some (.cells us.toArray e fr) := heap_alloc_new w0 _
    unfold World.cell?
    simp only [this]
    simpa using hj
  · intro v' w' hown' hg _
    have hb : Below base w0 (w0.alloc (.cells us.toArray e fr)) := (Below.refl _ _).alloc hbase _
    refine h v' w' hown' (hb.grown hg (by simp; omega) ?_) ?_ ?_
    · intro k hk
      rcases hown.2 with ⟨rfl, _⟩ | ⟨g, cap, cur, rfl, hgb, _⟩
      · simp [Value.ownBlock] at hk
      · simp only [Value.ownBlock, Option.some.injEq] at hk
        omega
    · have := hg.size
      simp at this
      omega
    · intro k hk hne
      rw [hg.block k (by simp; omega) (fun he => hne he.symm)]
      exact Below.heap_alloc _ _ _ hk

theorem keepB {w1 X w2 : World} (h : (∀ b o, b < w1.heap.size → X.cell? ⟨b, o, none⟩ = w1.cell? ⟨b, o, none⟩) ∧ w1.heap.size ≤ X.heap.size ∧ Hid (Below w1.heap.size w1 X)) (hb : Below w1.heap.size X w2) :
    (∀ b o, b < w1.heap.size → w2.cell? ⟨b, o, none⟩ = w1.cell? ⟨b, o, none⟩) ∧ w1.heap.size ≤ w2.heap.size ∧ Hid (Below w1.heap.size w1 w2) :=
  ⟨fun b o hb' => (hb.cell (p := ⟨b, o, none⟩) hb').trans (h.1 b o hb'), Nat.le_trans h.2.1 hb.size, h.2.2.out.trans hb⟩
theorem keepBelow {w1 X : World} (h : (∀ b o, b < w1.heap.size → X.cell? ⟨b, o, none⟩ = w1.cell? ⟨b, o, none⟩) ∧ w1.heap.size ≤ X.heap.size ∧ Hid (Below w1.heap.size w1 X)) : Below w1.heap.size w1 X := h.2.2.out
theorem keepSize {w1 X : World} (h : (∀ b o, b < w1.heap.size → X.cell? ⟨b, o, none⟩ = w1.cell? ⟨b, o, none⟩) ∧ w1.heap.size ≤ X.heap.size ∧ Hid (Below w1.heap.size w1 X)) : w1.heap.size ≤ X.heap.size := h.2.1
theorem keepA {w1 X : World} (h : (∀ b o, b < w1.heap.size → X.cell? ⟨b, o, none⟩ = w1.cell? ⟨b, o, none⟩) ∧ w1.heap.size ≤ X.heap.size ∧ Hid (Below w1.heap.size w1 X)) (o : Obj) :
    (∀ b o', b < w1.heap.size → (X.alloc o).cell? ⟨b, o', none⟩ = w1.cell? ⟨b, o', none⟩) ∧ w1.heap.size ≤ (X.alloc o).heap.size ∧ Hid (Below w1.heap.size w1 (X.alloc o)) :=
  keepB h ((Below.refl _ _).alloc h.2.1 o)

/-- A builtin append in a region that draws its order: a row of the call's own, and whatever is appended. -/
theorem step_append_below {P : Program} {ops : Array Oper} {o : Oper} {a : Act} {w : World} {K : Act → World → Prop} {Q : Exit → Act → World → Prop} {E : Prop} (hgd : o.guard = none) (s x : Operand) (t : TypeId)
    (ho : o.op = .call { callee := .builtin .append, args := #[s, x], argTypes := #[t, t] })
    (base : Nat) (e : TypeId) (z : Value) (size bytes : Nat) (ht : P.underlying t = some (.slice e)) (hi : (P.info? e).map (fun i => (i.zero, i.size, i.bytes)) = some (some z, size, bytes))
    (hzs : z.cells.size = size) (hsz : 0 < size)
    (v : Value) (n : Nat) (xs : List Value) (hs : a.eval s = v) (hown : w.ownsRow base e size v n xs)
    (B : Nat) (A : Option Addr) (m c : Nat) (news : List Value) (hx : a.eval x = .slice A m c) (hr : Reads w B size A m news) (h1 : ∀ u ∈ news, u.oneCell' = true)
    (h63 : n + m ≤ maxLen) (hbytes : (n + m) * bytes ≤ 140737488355328) (hbase : base ≤ w.heap.size)
    (h : ∀ v' w', w'.ownsRow base e size v' (n + m) (xs ++ news) → Below base w w' → K (a.put o.dst v') w') :
    if Region.wanted o (yielded ops a.tmps) = true then Oper.wp P o a w K Q else E := by
  obtain ⟨i0, hi, hz0, hz1, hz2⟩ := info_parts hi
  refine step_append_any w hgd s x t ho base e i0 z size bytes ht hi hz0 hz1 hz2 hzs hsz v n xs hs hown B A m c news hx hr h1 h63 hbytes hbase fun v' w' h2 h3 _ => h v' w' h2 ((Below.refl _ _).grown h3 hbase ?_)
  intro k hk
  rcases hown.2 with ⟨rfl, _⟩ | ⟨g, cap, cur, rfl, hgb, _⟩
  · simp [Value.ownBlock] at hk
  · simp only [Value.ownBlock, Option.some.injEq] at hk
    omega

/-- A builtin append onto nil in a region that draws its order: a new block; nothing that existed is changed. -/
theorem step_append_nil {P : Program} {ops : Array Oper} {o : Oper} {a : Act} {w : World} {K : Act → World → Prop} {Q : Exit → Act → World → Prop} {E : Prop} (hgd : o.guard = none) (s x : Operand) (t : TypeId)
    (ho : o.op = .call { callee := .builtin .append, args := #[s, x], argTypes := #[t, t] })
    (base : Nat) (e : TypeId) (z : Value) (size bytes : Nat) (ht : P.underlying t = some (.slice e)) (hi : (P.info? e).map (fun i => (i.zero, i.size, i.bytes)) = some (some z, size, bytes))
    (hzs : z.cells.size = size) (hsz : 0 < size) (hs : a.eval s = .slice none 0 0)
    (B : Nat) (A : Option Addr) (m c : Nat) (news : List Value) (hx : a.eval x = .slice A m c) (hr : Reads w B size A m news) (h1 : ∀ u ∈ news, u.oneCell' = true)
    (h63 : m ≤ maxLen) (hbytes : m * bytes ≤ 140737488355328) (hbase : base ≤ w.heap.size)
    (h : ∀ v' w', w'.ownsRow base e size v' m news → Below w.heap.size w w' → K (a.put o.dst v') w') :
    if Region.wanted o (yielded ops a.tmps) = true then Oper.wp P o a w K Q else E := by
  obtain ⟨i0, hi, hz0, hz1, hz2⟩ := info_parts hi
  refine step_append_any w hgd s x t ho base e i0 z size bytes ht hi hz0 hz1 hz2 hzs hsz (.slice none 0 0) 0 [] hs (World.ownsRow_nil _ _ _ _) B A m c news hx hr h1 (by omega) (by rw [Nat.zero_add]; exact hbytes) hbase fun v' w' h2 h3 _ => h v' w' (by rw [Nat.zero_add, List.nil_append] at h2; exact h2) ((Below.refl _ _).grown h3 (Nat.le_refl _) ?_)
  intro k hk
  simp [Value.ownBlock] at hk

theorem reads_one {w : World} {g : Nat} {u : Value} (h : w.cell? ⟨g, 0, none⟩ = some u) (hg : g < w.heap.size) : Reads w w.heap.size 1 (some ⟨g, 0, none⟩) 1 [u] := by
  refine ⟨rfl, fun _ => ⟨_, rfl, hg, fun j v hj => ?_⟩⟩
  have : j = 0 := by
    rcases Nat.eq_zero_or_pos j with h0 | h0
    · exact h0
    · rw [List.getElem?_eq_none (by simp; omega)] at hj; cases hj
  subst this
  simp at hj
  subst hj
  exact h

end Go.Proofs.Ytonelibgaceflaa

namespace Go.Proofs.Ytonelibgaceflaa

/-- The first place of a list where a test holds; -1: there is none. -/
def firstAt {α : Type} (f : α → Bool) : List α → Int
  | [] => -1
  | x :: l => if f x = true then 0 else if firstAt f l < 0 then -1 else firstAt f l + 1
def NoneYet {α : Type} (f : α → Bool) (l : List α) (k : Nat) : Prop := ∀ x ∈ l.take k, f x = false

theorem noneYet_zero {α : Type} (f : α → Bool) (l : List α) : NoneYet f l 0 := fun x hx => by simp at hx
theorem noneYet_succ {α : Type} {f : α → Bool} {l : List α} {k : Nat} {x : α} (h : NoneYet f l k) (hk : l.take (k + 1) = l.take k ++ [x]) (hf : f x = false) : NoneYet f l (k + 1) := by
  intro y hy
  rw [hk, List.mem_append] at hy
  rcases hy with hy | hy
  · exact h y hy
  · rw [List.mem_singleton.1 hy]; exact hf
theorem firstAt_at {α : Type} {f : α → Bool} : ∀ {l : List α} {k : Nat} {x : α}, NoneYet f l k → l[k]? = some x → f x = true → firstAt f l = k
  | [], k, x, _, h, _ => by simp at h
  | y :: l, 0, x, _, h, hf => by
    simp at h
    subst h
    unfold firstAt
    rw [if_pos hf]
    rfl
  | y :: l, k + 1, x, hn, h, hf => by
    have hy : f y = false := hn y (by simp)
    have ih : firstAt f l = k := firstAt_at (fun z hz => hn z (by simp [hz])) (by simpa using h) hf
    unfold firstAt
    rw [if_neg (by rw [hy]; simp), ih, if_neg (by omega)]
    omega
theorem firstAt_none {α : Type} {f : α → Bool} : ∀ {l : List α}, (∀ x ∈ l, f x = false) → firstAt f l = -1
  | [], _ => rfl
  | y :: l, h => by
    unfold firstAt
    rw [if_neg (by rw [h y (by simp)]; simp), firstAt_none (l := l) (fun x hx => h x (by simp [hx]))]
    rfl
theorem firstAt_end {α : Type} {f : α → Bool} {l : List α} {k : Nat} (h : NoneYet f l k) (hl : l.length = k) : firstAt f l = -1 := by
  unfold NoneYet at h
  rw [← hl, List.take_length] at h
  exact firstAt_none h
/-- Either there is none, or it is a place, and the test holds there. -/
theorem firstAt_cases {α : Type} (f : α → Bool) : ∀ (l : List α), (firstAt f l = -1 ∧ ∀ x ∈ l, f x = false) ∨ ∃ (k : Nat) (x : α), firstAt f l = k ∧ l[k]? = some x ∧ f x = true
  | [] => .inl ⟨rfl, by simp⟩
  | y :: l => by
    by_cases hy : f y = true
    · exact .inr ⟨0, y, by unfold firstAt; rw [if_pos hy]; rfl, rfl, hy⟩
    · rcases firstAt_cases f l with ⟨h1, h2⟩ | ⟨k, x, h1, h2, h3⟩
      · refine .inl ⟨by unfold firstAt; rw [if_neg hy, h1]; rfl, fun x hx => ?_⟩
        rcases List.mem_cons.1 hx with rfl | hx
        · simpa using hy
        · exact h2 x hx
      · exact .inr ⟨k + 1, x, by unfold firstAt; rw [if_neg hy, h1, if_neg (by omega)]; omega, by simpa using h2, h3⟩

end Go.Proofs.Ytonelibgaceflaa

namespace Go.Proofs.Ytonelibgaceflaa
open Go.ChangeShapes Go.WideShapes Go.ChangeAt Go.RowKit

/-- Does a rule fit a prefix? -/
def RuleV.fits (r : RuleV) (six : Bool) (hi lo n : Int) : Bool := decide (r.least ≤ n) && (decide (n ≤ r.most) && overB r.six r.hi r.lo r.n six hi lo n)
/-- A rule whose prefix is short enough for the code's arithmetic. -/
def RuleV.Mid (r : RuleV) : Prop := -500 ≤ r.n ∧ r.n ≤ 500

set_option maxRecDepth 100000 in
set_option maxHeartbeats 1600000 in
theorem fits_any (r : RuleV) (six' : Bool) (hi' lo' n' : Int) (w : World) (h3 : 0 ≤ hi' ∧ hi' < 18446744073709551616) (h4 : 0 ≤ lo' ∧ lo' < 18446744073709551616) (h5 : six' = false → lo' < 4294967296) (hm : r.Mid) :
    Calls Try.prog 168 #[.agg r.cells.toArray, .agg #[.bool six', .int .u64 hi', .int .u64 lo', .int .i64 n']] w fun e w' => e = .returned (.bool (r.fits six' hi' lo' n')) ∧ Below w.heap.size w w' := by
  obtain ⟨yes, six, hi, lo, m, least, most⟩ := r
  have HO := Lib.hid (fun w => over_any six hi lo m six' hi' lo' n' w h3 h4 h5 hm.1 hm.2)
  have HF : Hid (RuleV.fits ⟨yes, six, hi, lo, m, least, most⟩ six' hi' lo' n' = (decide (least ≤ n') && (decide (n' ≤ most) && overB six hi lo m six' hi' lo' n'))) := rfl
  show Calls _ _ #[.agg #[.bool yes, .bool six, .int .u64 hi, .int .u64 lo, .int .i64 m, .int .i64 least, .int .i64 most], .agg #[.bool six', .int .u64 hi', .int .u64 lo', .int .i64 n']] _ _
  clear h5 hm
  rw [HF.out]
  clear HF
  generalize overB six hi lo m six' hi' lo' n' = ov at *
  by_cases hl : least ≤ n'
  · by_cases hm : n' ≤ most
    · rw [decide_eq_true hl, decide_eq_true hm, Bool.true_and, Bool.true_and]
      go_enter Try.func168, Try.ntmps168
      go_wp2_with fail
      refine (HO.out _).mono ?_
      rintro e w1 ⟨rfl, hb⟩
      have HB := Lib.hid (balloc2 hb)
      clear hb
      go_wp2
      go_ret
      exact ⟨rfl, HB.out⟩
    · rw [decide_eq_true hl, decide_eq_false hm]
      go_enter Try.func168, Try.ntmps168
      go_wp2
      go_ret
      exact ⟨rfl, ((Below.refl _ _).alloc (Nat.le_refl _) _).alloc (by simp) _⟩
  · rw [decide_eq_false hl]
    go_enter Try.func168, Try.ntmps168
    go_wp2
    go_ret
    exact ⟨rfl, ((Below.refl _ _).alloc (Nat.le_refl _) _).alloc (by simp) _⟩

set_option maxRecDepth 100000 in
set_option maxHeartbeats 1600000 in
theorem passClosure_any (r : RuleV) (six' : Bool) (hi' lo' n' : Int) (b : Nat) (w : World) (h3 : 0 ≤ hi' ∧ hi' < 18446744073709551616) (h4 : 0 ≤ lo' ∧ lo' < 18446744073709551616) (h5 : six' = false → lo' < 4294967296) (hm : r.Mid)
    (c0 : w.cell? ⟨b, 0, none⟩ = some (.bool six')) (c1 : w.cell? ⟨b, 1, none⟩ = some (.int .u64 hi')) (c2 : w.cell? ⟨b, 2, none⟩ = some (.int .u64 lo')) (c3 : w.cell? ⟨b, 3, none⟩ = some (.int .i64 n')) (hb : b < w.heap.size) :
    Calls Try.prog 167 #[.agg r.cells.toArray, .pointer (some ⟨b, 0, none⟩)] w fun e w' => e = .returned (.bool (r.fits six' hi' lo' n')) ∧ Below w.heap.size w w' := by
  have HO := Lib.hid (fun w => fits_any r six' hi' lo' n' w h3 h4 h5 hm)
  obtain ⟨yes, six, hi, lo, m, least, most⟩ := r
  clear h5 hm
  show Calls _ _ #[.agg #[.bool yes, .bool six, .int .u64 hi, .int .u64 lo, .int .i64 m, .int .i64 least, .int .i64 most], .pointer (some ⟨b, 0, none⟩)] _ _
  generalize RuleV.fits ⟨yes, six, hi, lo, m, least, most⟩ six' hi' lo' n' = ov at *
  go_enter Try.func167, Try.ntmps167
  go_wp2_with fail
  refine (HO.out _).mono ?_
  rintro e w1 ⟨rfl, hb⟩
  have HB := Lib.hid (balloc1 hb)
  clear hb
  go_wp2
  go_ret
  exact ⟨rfl, HB.out⟩

/-- A test on a rule, as a function value: its contract in every later world. -/
def RuleTest (w : World) (fid : FuncId) (caps : List Value) (f : RuleV → Bool) (l : List RuleV) : Prop :=
  ∀ r ∈ l, ∀ w', Below w.heap.size w w' → Calls Try.prog fid (#[.agg r.cells.toArray] ++ caps.toArray) w' fun e w'' => e = .returned (.bool (f r)) ∧ Below w'.heap.size w' w''

set_option maxRecDepth 100000 in
set_option maxHeartbeats 1600000 in
theorem idxRule_any (A : Option Addr) (n c : Nat) (l : List RuleV) (f : RuleV → Bool) (b : Nat) (w : World) (hz : l.length = n) (hm : n ≤ maxLen) (hr : Reads w w.heap.size 7 A n (l.flatMap RuleV.cells))
    (ht : RuleTest w 167 [.pointer (some ⟨b, 0, none⟩)] f l) :
    Calls Try.prog 166 #[.slice A n c, .func (.func 167) #[] #[.pointer (some ⟨b, 0, none⟩)]] w fun e w' => e = .returned (.int .i64 (firstAt f l)) ∧ Below w.heap.size w w' := by
  have HZ := Lib.hid hz
  have HR := Lib.hid hr
  have HT := Lib.hid ht
  unfold maxLen at hm
  obtain ⟨r, hr0⟩ : ∃ r, r = firstAt f l := ⟨_, rfl⟩
  rw [← hr0]
  have H0 := Lib.hid hr0
  clear hz hr ht hr0
  go_enter Try.func166, Try.ntmps166
  go_wp2
  go_loopw [8, 5] (fun i _ wr => ∃ k : Nat, k ≤ n ∧ i = .int .i64 k ∧ NoneYet f l k ∧ Below w.heap.size w wr) (fun i _ _ => n - (intOf i).toNat)
  case atStart => exact ⟨0, by omega, rfl, noneYet_zero f l, Below.refl _ _⟩
  case round =>
    obtain ⟨k, hk, rfl, hto, hb⟩ := hrel
    have HN := Lib.hid hto
    clear hto
    by_cases hlt : k < n
    · obtain ⟨ad, ⟨yes, six, hi, lo, m, least, most⟩, rfl, hlk, htk, hmem, hbk, hc0, hcj⟩ := HR.out.atS RuleV.cells_length HZ.out hlt
      have q0 := (hb.cell (p := ad.add (k * 7)) (by rw [block_of_add]; exact hbk)).trans (hc0 _ rfl)
      have q1 := (hb.cell (p := ⟨(ad.add (k * 7)).block, (ad.add (k * 7)).off + 1, none⟩) (by rw [block_of_add]; exact hbk)).trans (hcj 1 _ rfl)
      have q2 := (hb.cell (p := ⟨(ad.add (k * 7)).block, (ad.add (k * 7)).off + 2, none⟩) (by rw [block_of_add]; exact hbk)).trans (hcj 2 _ rfl)
      have q3 := (hb.cell (p := ⟨(ad.add (k * 7)).block, (ad.add (k * 7)).off + 3, none⟩) (by rw [block_of_add]; exact hbk)).trans (hcj 3 _ rfl)
      have q4 := (hb.cell (p := ⟨(ad.add (k * 7)).block, (ad.add (k * 7)).off + 4, none⟩) (by rw [block_of_add]; exact hbk)).trans (hcj 4 _ rfl)
      have q5 := (hb.cell (p := ⟨(ad.add (k * 7)).block, (ad.add (k * 7)).off + 5, none⟩) (by rw [block_of_add]; exact hbk)).trans (hcj 5 _ rfl)
      have q6 := (hb.cell (p := ⟨(ad.add (k * 7)).block, (ad.add (k * 7)).off + 6, none⟩) (by rw [block_of_add]; exact hbk)).trans (hcj 6 _ rfl)
      have HC : Hid (Calls Try.prog 167 #[.agg #[.bool yes, .bool six, .int .u64 hi, .int .u64 lo, .int .i64 m, .int .i64 least, .int .i64 most], .pointer (some ⟨b, 0, none⟩)] wr fun e w'' => e = .returned (.bool (f ⟨yes, six, hi, lo, m, least, most⟩)) ∧ Below wr.heap.size wr w'') := HT.out _ hmem wr hb
      have HL := Lib.hid hlk
      have HK := Lib.hid htk
      clear hlk htk hmem hbk hc0 hcj
      generalize hfv : f ⟨yes, six, hi, lo, m, least, most⟩ = fv at *
      have HV := Lib.hid hfv
      clear hfv
      cases fv
      · have HN2 := Lib.hid (noneYet_succ HN.out HK.out HV.out)
        go_wp2_with fail
        refine HC.out.mono ?_
        rintro e w1 ⟨rfl, hb1⟩
        have HB := Lib.hid (below_step hb hb1)
        clear hb1
        go_wp2
        go_roundw
        case rel => exact ⟨k + 1, by omega, by go_num, HN2.out, HB.out⟩
        case measure => simp [intOf]; omega
      · have HN2 := Lib.hid (firstAt_at HN.out HL.out HV.out)
        go_wp2_with fail
        refine HC.out.mono ?_
        rintro e w1 ⟨rfl, hb1⟩
        have HB := Lib.hid (below_step hb hb1)
        clear hb1
        go_wp2
        go_ret
        exact ⟨ret_int (HN2.out.symm.trans H0.out.symm), HB.out⟩
    · obtain rfl : k = n := by omega
      have HN2 := Lib.hid (firstAt_end HN.out HZ.out)
      go_wp2
      go_ret
      exact ⟨ret_int (HN2.out.symm.trans H0.out.symm), hb⟩

end Go.Proofs.Ytonelibgaceflaa

namespace Go.Proofs.Ytonelibgaceflaa
open Go.ChangeShapes Go.WideShapes Go.ChangeAt Go.RowKit

set_option maxHeartbeats 1600000 in
theorem refOver_any (six : Bool) (hi lo : Int) (n : Nat) (six' : Bool) (hi' lo' n' : Int) (w : World) (hp : Pfx six hi lo n) (h3 : 0 ≤ hi' ∧ hi' < 18446744073709551616) (h4 : 0 ≤ lo' ∧ lo' < 18446744073709551616) (h5 : mayB six' hi' lo' = true) :
    Calls Try.prog 138 #[.agg #[.bool six, .int .u64 hi, .int .u64 lo, .int .i64 n], .agg #[.bool six', .int .u64 hi', .int .u64 lo', .int .i64 n']] w fun e w' => e = .returned (.bool (overB six hi lo n six' hi' lo' n')) ∧ Below w.heap.size w w' := by
  have HI := Lib.hid (fun w => preIn_any six hi lo n six' hi' lo' w hp h3 h4 h5)
  clear hp h5
  by_cases hn : (n : Int) ≤ n'
  · have hE : overB six hi lo n six' hi' lo' n' = inB six hi lo n six' hi' lo' := by unfold overB; simp [hn]
    rw [hE]
    clear hE
    go_enter Try.func138, Try.ntmps138
    go_wp2_with fail
    refine (HI.out _).mono ?_
    rintro e w1 ⟨rfl, hb⟩
    have HB := Lib.hid (balloc2 hb)
    clear hb
    go_wp2
    go_ret
    exact ⟨rfl, HB.out⟩
  · have hE : overB six hi lo n six' hi' lo' n' = false := by unfold overB; simp [hn]
    rw [hE]
    clear hE
    go_enter Try.func138, Try.ntmps138
    go_wp2
    go_ret
    exact ⟨rfl, ((Below.refl _ _).alloc (Nat.le_refl _) _).alloc (by simp) _⟩

end Go.Proofs.Ytonelibgaceflaa

namespace Go.Proofs.Ytonelibgaceflaa
open Go.ChangeShapes Go.WideShapes Go.ChangeAt Go.RowKit

theorem rulesE_all : ∀ {l : List RuleV}, rulesE l = 0 → ∀ r ∈ l, r.fault = 0
  | [], _, r, hr => by simp at hr
  | x :: l, h, r, hr => by
    unfold rulesE at h
    by_cases hx : x.fault = 0
    · rw [if_pos hx] at h
      rcases List.mem_cons.1 hr with rfl | hr
      · exact hx
      · exact rulesE_all h r hr
    · rw [if_neg hx] at h; exact absurd h hx
theorem rulesF_all {l : List RuleV} (h : rulesF l = 0) : ∀ r ∈ l, r.fault = 0 := by
  unfold rulesF at h
  by_cases hn : 30 < l.length
  · rw [if_pos hn] at h; omega
  · rw [if_neg hn] at h; exact rulesE_all h
theorem fault_chk {r : RuleV} (h : r.fault = 0) : chk r.six r.hi r.lo r.n = 0 := by
  unfold RuleV.fault at h
  by_cases hc : chk r.six r.hi r.lo r.n = 0
  · exact hc
  · rw [if_pos hc] at h; exact absurd h hc
theorem fault_pfx {r : RuleV} (ho : r.Ok) (h : r.fault = 0) : Pfx r.six r.hi r.lo r.n := chk_zero ho.1 ho.2 (fault_chk h)
theorem fault_mid {r : RuleV} (ho : r.Ok) (h : r.fault = 0) : r.Mid := by
  have := (fault_pfx ho h).len
  have hw := wideI_le r.six
  unfold RuleV.Mid
  omega

/-- What the first rule that fits says. -/
def firstYes (f : RuleV → Bool) : List RuleV → Bool
  | [] => false
  | r :: l => if f r = true then r.yes else firstYes f l
theorem firstYes_none {f : RuleV → Bool} : ∀ {l : List RuleV}, (∀ x ∈ l, f x = false) → firstYes f l = false
  | [], _ => rfl
  | y :: l, h => by
    unfold firstYes
    rw [if_neg (by rw [h y (by simp)]; simp)]
    exact firstYes_none (fun x hx => h x (by simp [hx]))
theorem firstYes_at {f : RuleV → Bool} : ∀ {l : List RuleV} {k : Nat} {x : RuleV}, firstAt f l = k → l[k]? = some x → firstYes f l = x.yes
  | [], k, x, _, h => by simp at h
  | y :: l, k, x, hn, h => by
    unfold firstAt at hn
    unfold firstYes
    by_cases hy : f y = true
    · rw [if_pos hy] at hn ⊢
      obtain rfl : k = 0 := by omega
      simp at h
      rw [h]
    · rw [if_neg hy] at hn ⊢
      by_cases hneg : firstAt f l < 0
      · rw [if_pos hneg] at hn; omega
      · rw [if_neg hneg] at hn
        obtain ⟨j, rfl⟩ : ∃ j, k = j + 1 := ⟨k - 1, by omega⟩
        exact firstYes_at (k := j) (by omega) (by simpa using h)

theorem ret_bii {a a' : Bool} {b b' c : Int} (h1 : a = a') (h2 : b = b') : Ending.returned (.tuple #[.bool a, .int .i64 b, .int .i64 c]) = Ending.returned (.tuple #[.bool a', .int .i64 b', .int .i64 c]) := by rw [h1, h2]

theorem passTest (l : List RuleV) (six' : Bool) (hi' lo' n' : Int) (t : TypeId) (w : World) (h3 : 0 ≤ hi' ∧ hi' < 18446744073709551616) (h4 : 0 ≤ lo' ∧ lo' < 18446744073709551616) (h5 : six' = false → lo' < 4294967296) (hm : ∀ r ∈ l, r.Mid) :
    RuleTest (w.alloc (.cells #[.bool six', .int .u64 hi', .int .u64 lo', .int .i64 n'] t)) 167 [.pointer (some ⟨w.heap.size, 0, none⟩)] (fun r => RuleV.fits r six' hi' lo' n') l := by
  intro r hr w' hb
  obtain ⟨B1, S1, q0, q1, q2, q3⟩ := box4 hb
  exact passClosure_any r six' hi' lo' n' w.heap.size w' h3 h4 h5 (hm r hr) q0 q1 q2 q3 S1

set_option maxRecDepth 100000 in
set_option maxHeartbeats 1600000 in
theorem pass_any (A : Option Addr) (n c : Nat) (l : List RuleV) (six' : Bool) (hi' lo' n' : Int) (w : World) (h3 : 0 ≤ hi' ∧ hi' < 18446744073709551616) (h4 : 0 ≤ lo' ∧ lo' < 18446744073709551616) (h5 : six' = false → lo' < 4294967296) (h : IsRules w A n l) (hm : ∀ r ∈ l, r.Mid) :
    Calls Try.prog 97 #[.slice A n c, .agg #[.bool six', .int .u64 hi', .int .u64 lo', .int .i64 n']] w fun e w' => e = .returned (.tuple #[.bool (firstYes (fun r => RuleV.fits r six' hi' lo' n') l), .int .i64 (firstAt (fun r => RuleV.fits r six' hi' lo' n') l)]) ∧ Below w.heap.size w w' := by
  have hb0 : Below w.heap.size w (w.alloc (.cells #[.bool six', .int .u64 hi', .int .u64 lo', .int .i64 n'] 35)) := (Below.refl _ _).alloc (Nat.le_refl _) _
  have HI := Lib.hid (idxRule_any A n c l (fun r => RuleV.fits r six' hi' lo' n') w.heap.size (w.alloc (.cells #[.bool six', .int .u64 hi', .int .u64 lo', .int .i64 n'] 35)) h.1 h.2.1 (h.below hb0).2.2.2 (passTest l six' hi' lo' n' _ w h3 h4 h5 hm))
  have hn := h.2.1
  unfold maxLen at hn
  rcases firstAt_cases (fun r => RuleV.fits r six' hi' lo' n') l with ⟨h1, h2⟩ | ⟨k, r, h1, h2, _⟩
  · rw [firstYes_none h2]
    rw [h1] at HI ⊢
    clear h h1 h2 hb0 hm h5
    go_enter Try.func97, Try.ntmps97
    go_wp2_with fail
    refine HI.out.mono ?_
    rintro e w1 ⟨rfl, hb⟩
    have HB := Lib.hid (balloc1 hb)
    clear hb
    go_wp2
    go_ret2
    exact ⟨rfl, HB.out⟩
  · rw [firstYes_at h1 h2]
    rw [h1] at HI ⊢
    have hk : k < n := by
      have := (List.getElem?_eq_some_iff.1 h2).1
      have := h.1
      omega
    obtain ⟨ad, r', rfl, hlk, _, _, hbk, hc0, _⟩ := h.2.2.2.atS RuleV.cells_length h.1 hk
    rw [h2] at hlk
    injection hlk with hlk
    subst hlk
    have hc := hc0 (.bool r.yes) rfl
    have hkI : (k : Int) < (n : Int) := by omega
    clear h h1 h2 hb0 hm h5 hc0
    generalize r.yes = yy at *
    go_enter Try.func97, Try.ntmps97
    go_wp2_with fail
    refine HI.out.mono ?_
    rintro e w1 ⟨rfl, hb⟩
    have HB := Lib.hid (balloc1 hb)
    have hc2 : w1.cell? (ad.add (k * 7)) = some (.bool yy) := ((balloc1 hb).cell (p := ad.add (k * 7)) (by rw [block_of_add]; exact hbk)).trans hc
    clear hb
    go_wp2
    go_ret2
    exact ⟨rfl, HB.out⟩

set_option maxRecDepth 100000 in
set_option maxHeartbeats 800000 in
theorem rpass_bad1 (A : Option Addr) (n c : Nat) (l : List RuleV) (six' : Bool) (hi' lo' n' : Int) (w : World) (h : IsRules w A n l) (hz : ¬ rulesF l = 0) :
    Calls Try.prog 98 #[.slice A n c, .agg #[.bool six', .int .u64 hi', .int .u64 lo', .int .i64 n']] w fun e w' => e = .returned (.tuple #[.bool false, .int .i64 0, .int .i64 (rulesF l)]) ∧ Below w.heap.size w w' := by
  have HC := Lib.hid (fun (w' : World) (hb : Below w.heap.size w w') => rulesFault_is (h.below hb) c)
  clear h
  generalize rulesF l = z at *
  have hb1 : (z == 0) = false := by simpa using hz
  have hb2 : (z != 0) = true := by simpa using hz
  go_enter Try.func98, Try.ntmps98
  go_wp2_with fail
  refine (HC.out _ ((Below.refl _ _).alloc (Nat.le_refl _) _)).mono ?_
  rintro e w1 ⟨rfl, hb⟩
  have HB := Lib.hid (balloc1 hb)
  clear hb
  go_wp2
  go_ret3
  exact ⟨rfl, HB.out⟩

set_option maxRecDepth 100000 in
set_option maxHeartbeats 800000 in
theorem rpass_bad2 (A : Option Addr) (n c : Nat) (l : List RuleV) (six' : Bool) (hi' lo' n' : Int) (w : World) (h3 : 0 ≤ hi' ∧ hi' < 18446744073709551616) (h4 : 0 ≤ lo' ∧ lo' < 18446744073709551616) (h : IsRules w A n l) (hz : rulesF l = 0) (hk : ¬ chk six' hi' lo' n' = 0) :
    Calls Try.prog 98 #[.slice A n c, .agg #[.bool six', .int .u64 hi', .int .u64 lo', .int .i64 n']] w fun e w' => e = .returned (.tuple #[.bool false, .int .i64 0, .int .i64 (chk six' hi' lo' n')]) ∧ Below w.heap.size w w' := by
  have HC := (fun (w' : World) (hb : Below w.heap.size w w') => rulesFault_is (h.below hb) c)
  rw [hz] at HC
  have HCC := Lib.hid HC
  have HK := Lib.hid (fun w => preFault_any six' hi' lo' n' w h3 h4)
  clear h HC hz
  generalize chk six' hi' lo' n' = z at *
  have hb1 : (z == 0) = false := by simpa using hk
  have hb2 : (z != 0) = true := by simpa using hk
  go_enter Try.func98, Try.ntmps98
  go_wp2_with fail
  refine (HCC.out _ ((Below.refl _ _).alloc (Nat.le_refl _) _)).mono ?_
  rintro e w1 ⟨rfl, hb⟩
  have HB := Lib.hid (balloc1 hb)
  obtain ⟨fc, ff⟩ := bcell hb
  clear hb
  go_wp2_with fail
  refine (HK.out _).mono ?_
  rintro e w2 ⟨rfl, hb⟩
  have HB2 := Lib.hid (below_step HB.out hb)
  clear hb
  go_wp2
  go_ret3
  exact ⟨rfl, HB2.out⟩

set_option maxRecDepth 100000 in
set_option maxHeartbeats 1600000 in
theorem refFits_any (r : RuleV) (six' : Bool) (hi' lo' n' : Int) (w : World) (h3 : 0 ≤ hi' ∧ hi' < 18446744073709551616) (h4 : 0 ≤ lo' ∧ lo' < 18446744073709551616) (hm : mayB six' hi' lo' = true) (hp : Pfx r.six r.hi r.lo r.n) :
    Calls Try.prog 169 #[.agg r.cells.toArray, .agg #[.bool six', .int .u64 hi', .int .u64 lo', .int .i64 n']] w fun e w' => e = .returned (.bool (r.fits six' hi' lo' n')) ∧ Below w.heap.size w w' := by
  obtain ⟨yes, six, hi, lo, m, least, most⟩ := r
  obtain ⟨k, rfl⟩ : ∃ k : Nat, m = k := Int.eq_ofNat_of_zero_le hp.len.1
  have HO := Lib.hid (fun w => refOver_any six hi lo k six' hi' lo' n' w hp h3 h4 hm)
  have HF : Hid (RuleV.fits ⟨yes, six, hi, lo, k, least, most⟩ six' hi' lo' n' = (decide (least ≤ n') && (decide (n' ≤ most) && overB six hi lo k six' hi' lo' n'))) := rfl
  show Calls _ _ #[.agg #[.bool yes, .bool six, .int .u64 hi, .int .u64 lo, .int .i64 (k : Int), .int .i64 least, .int .i64 most], .agg #[.bool six', .int .u64 hi', .int .u64 lo', .int .i64 n']] _ _
  clear hm hp
  rw [HF.out]
  clear HF
  generalize overB six hi lo k six' hi' lo' n' = ov at *
  cases ov
  · rw [show (decide (least ≤ n') && (decide (n' ≤ most) && false)) = false from by simp]
    go_enter Try.func169, Try.ntmps169
    go_wp2_with fail
    refine (HO.out _).mono ?_
    rintro e w1 ⟨rfl, hb⟩
    have HB := Lib.hid (balloc2 hb)
    obtain ⟨s1, s2⟩ := bsize2 hb
    obtain ⟨fc, ff⟩ := bcell hb
    clear hb
    go_wp2
    go_ret
    exact ⟨rfl, HB.out⟩
  · by_cases hl : least ≤ n'
    · by_cases hq : n' ≤ most
      · rw [show (decide (least ≤ n') && (decide (n' ≤ most) && true)) = true from by simp [hl, hq]]
        have hd : decide (least ≤ n') = true := decide_eq_true hl
        have hd2 : decide (n' ≤ most) = true := decide_eq_true hq
        go_enter Try.func169, Try.ntmps169
        go_wp2_with fail
        refine (HO.out _).mono ?_
        rintro e w1 ⟨rfl, hb⟩
        have HB := Lib.hid (balloc2 hb)
        obtain ⟨s1, s2⟩ := bsize2 hb
        obtain ⟨fc, ff⟩ := bcell hb
        clear hb
        go_wp2
        go_ret
        exact ⟨rfl, HB.out⟩
      · rw [show (decide (least ≤ n') && (decide (n' ≤ most) && true)) = false from by simp [hl, hq]]
        have hd : decide (least ≤ n') = true := decide_eq_true hl
        have hd2 : decide (n' ≤ most) = false := decide_eq_false hq
        go_enter Try.func169, Try.ntmps169
        go_wp2_with fail
        refine (HO.out _).mono ?_
        rintro e w1 ⟨rfl, hb⟩
        have HB := Lib.hid (balloc2 hb)
        obtain ⟨s1, s2⟩ := bsize2 hb
        obtain ⟨fc, ff⟩ := bcell hb
        clear hb
        go_wp2
        go_ret
        exact ⟨rfl, HB.out⟩
    · rw [show (decide (least ≤ n') && (decide (n' ≤ most) && true)) = false from by simp [hl]]
      have hd : decide (least ≤ n') = false := decide_eq_false hl
      go_enter Try.func169, Try.ntmps169
      go_wp2_with fail
      refine (HO.out _).mono ?_
      rintro e w1 ⟨rfl, hb⟩
      have HB := Lib.hid (balloc2 hb)
      obtain ⟨s1, s2⟩ := bsize2 hb
      obtain ⟨fc, ff⟩ := bcell hb
      clear hb
      go_wp2
      go_ret
      exact ⟨rfl, HB.out⟩

set_option maxRecDepth 100000 in
set_option maxHeartbeats 1600000 in
theorem rpass_ok (A : Option Addr) (n c : Nat) (l : List RuleV) (six' : Bool) (hi' lo' n' : Int) (w : World) (h3 : 0 ≤ hi' ∧ hi' < 18446744073709551616) (h4 : 0 ≤ lo' ∧ lo' < 18446744073709551616) (h : IsRules w A n l) (hz : rulesF l = 0) (hk : chk six' hi' lo' n' = 0) :
    Calls Try.prog 98 #[.slice A n c, .agg #[.bool six', .int .u64 hi', .int .u64 lo', .int .i64 n']] w fun e w' => e = .returned (.tuple #[.bool (firstYes (fun r => RuleV.fits r six' hi' lo' n') l), .int .i64 (firstAt (fun r => RuleV.fits r six' hi' lo' n') l), .int .i64 0]) ∧ Below w.heap.size w w' := by
  have HC := (fun (w' : World) (hb : Below w.heap.size w w') => rulesFault_is (h.below hb) c)
  rw [hz] at HC
  have HCC := Lib.hid HC
  have HK' := (fun w => preFault_any six' hi' lo' n' w h3 h4)
  rw [hk] at HK'
  have HK := Lib.hid HK'
  have hp := chk_zero h3 h4 hk
  have HP := Lib.hid (fun (r : RuleV) (hr : r ∈ l) (w : World) => refFits_any r six' hi' lo' n' w h3 h4 hp.may (fault_pfx (h.2.2.1 r hr) (rulesF_all hz r hr)))
  have HR := Lib.hid h.2.2.2
  have HZ := Lib.hid h.1
  have hn := h.2.1
  unfold maxLen at hn
  obtain ⟨f, hf⟩ : ∃ f, f = (fun r => RuleV.fits r six' hi' lo' n') := ⟨_, rfl⟩
  have HP' : Hid (∀ r ∈ l, ∀ w, Calls Try.prog 169 #[.agg r.cells.toArray, .agg #[.bool six', .int .u64 hi', .int .u64 lo', .int .i64 n']] w fun e w' => e = .returned (.bool (f r)) ∧ Below w.heap.size w w') := by rw [hf]; exact HP.out
  rw [← hf]
  obtain ⟨ii, hii⟩ : ∃ ii, ii = firstAt f l := ⟨_, rfl⟩
  obtain ⟨yy, hyy⟩ : ∃ yy, yy = firstYes f l := ⟨_, rfl⟩
  rw [← hii, ← hyy]
  have HI := Lib.hid hii
  have HY := Lib.hid hyy
  clear h HC HK' hz hk hp HP hf hii hyy
  go_enter Try.func98, Try.ntmps98
  go_wp2_with fail
  refine (HCC.out _ ((Below.refl _ _).alloc (Nat.le_refl _) _)).mono ?_
  rintro e w1 ⟨rfl, hb⟩
  have HB := Lib.hid (balloc1 hb)
  have s1 := bsize1 hb
  obtain ⟨fc, ff⟩ := bcell hb
  clear hb
  go_wp2_with fail
  refine (HK.out _).mono ?_
  rintro e w2 ⟨rfl, hb⟩
  have HB2 := Lib.hid (below_step HB.out hb)
  obtain ⟨fc2, ff2⟩ := bcell hb
  have z2 := hb.size
  have s2 : w.heap.size < w2.heap.size := by omega
  clear hb
  go_wp2_with fail
  go_loopw [23, 9, 10] (fun i _ _ wr => ∃ k : Nat, k ≤ n ∧ i = .int .i64 k ∧ NoneYet f l k ∧ Below w2.heap.size w2 wr) (fun i _ _ _ => n - (intOf i).toNat)
  case atStart => exact ⟨0, by omega, rfl, noneYet_zero f l, Below.refl _ _⟩
  case round =>
    obtain ⟨k, hk, rfl, hto, hbr⟩ := hrel
    have HN := Lib.hid hto
    have HBR := Lib.hid hbr
    obtain ⟨fcr, ffr⟩ := bcell hbr
    have zr := hbr.size
    have s3 : w.heap.size < wr.heap.size := by omega
    have hb := below_step HB2.out hbr
    clear hto hbr
    by_cases hlt : k < n
    · obtain ⟨ad, ⟨yes, six, hi, lo, m, least, most⟩, rfl, hlk, htk, hmem, hbk, hc0, hcj⟩ := HR.out.atS RuleV.cells_length HZ.out hlt
      have q0 := (hb.cell (p := ad.add (k * 7)) (by rw [block_of_add]; exact hbk)).trans (hc0 _ rfl)
      have q1 := (hb.cell (p := ⟨(ad.add (k * 7)).block, (ad.add (k * 7)).off + 1, none⟩) (by rw [block_of_add]; exact hbk)).trans (hcj 1 _ rfl)
      have q2 := (hb.cell (p := ⟨(ad.add (k * 7)).block, (ad.add (k * 7)).off + 2, none⟩) (by rw [block_of_add]; exact hbk)).trans (hcj 2 _ rfl)
      have q3 := (hb.cell (p := ⟨(ad.add (k * 7)).block, (ad.add (k * 7)).off + 3, none⟩) (by rw [block_of_add]; exact hbk)).trans (hcj 3 _ rfl)
      have q4 := (hb.cell (p := ⟨(ad.add (k * 7)).block, (ad.add (k * 7)).off + 4, none⟩) (by rw [block_of_add]; exact hbk)).trans (hcj 4 _ rfl)
      have q5 := (hb.cell (p := ⟨(ad.add (k * 7)).block, (ad.add (k * 7)).off + 5, none⟩) (by rw [block_of_add]; exact hbk)).trans (hcj 5 _ rfl)
      have q6 := (hb.cell (p := ⟨(ad.add (k * 7)).block, (ad.add (k * 7)).off + 6, none⟩) (by rw [block_of_add]; exact hbk)).trans (hcj 6 _ rfl)

      have HF : Hid (∀ w, Calls Try.prog 169 #[.agg #[.bool yes, .bool six, .int .u64 hi, .int .u64 lo, .int .i64 m, .int .i64 least, .int .i64 most], .agg #[.bool six', .int .u64 hi', .int .u64 lo', .int .i64 n']] w fun e w' => e = .returned (.bool (f ⟨yes, six, hi, lo, m, least, most⟩)) ∧ Below w.heap.size w w') := HP'.out _ hmem
      have HL := Lib.hid hlk
      have HK2 := Lib.hid htk
      have HBW := Lib.hid hb
      clear hlk htk hmem hbk hc0 hcj hb
      generalize hfv : f ⟨yes, six, hi, lo, m, least, most⟩ = fv at *
      have HV := Lib.hid hfv
      clear hfv
      cases fv
      · have HN2 := Lib.hid (noneYet_succ HN.out HK2.out HV.out)
        go_wp2_with fail
        refine (HF.out _).mono ?_
        rintro e w3 ⟨rfl, hb3⟩
        have HB3 := Lib.hid (below_step HBR.out (balloc1 hb3))
        clear hb3
        go_wp2
        go_roundw
        case rel => exact ⟨k + 1, by omega, by go_num, HN2.out, HB3.out⟩
        case measure => simp [intOf]; omega
      · have HN2 := Lib.hid (firstAt_at HN.out HL.out HV.out)
        have HN3 := Lib.hid (firstYes_at HN2.out HL.out)
        go_wp2_with fail
        refine (HF.out _).mono ?_
        rintro e w3 ⟨rfl, hb3⟩
        have HB3 := Lib.hid (below_step HBW.out (balloc1 hb3))
        have s4 := bsize1 hb3
        obtain ⟨fc3, ff3⟩ := bcell hb3
        clear hb3
        go_wp2
        go_ret3
        exact ⟨ret_bii (HN3.out.symm.trans HY.out.symm) (HN2.out.symm.trans HI.out.symm), HB3.out⟩
    · obtain rfl : k = n := by omega
      have HN2 := Lib.hid (firstAt_end HN.out HZ.out)
      have HN3 : Hid (firstYes f l = false) := by
        show _ = _
        refine firstYes_none fun x hx => HN.out x ?_
        rw [List.take_of_length_le (by have := HZ.out; omega)]
        exact hx
      have HBW := Lib.hid hb
      clear hb
      go_wp2
      go_ret3
      exact ⟨ret_bii (HN3.out.symm.trans HY.out.symm) (HN2.out.symm.trans HI.out.symm), HBW.out⟩

end Go.Proofs.Ytonelibgaceflaa

namespace Go.Proofs.Ytonelibgaceflaa
set_option linter.unusedVariables false

/-- A word with bit k set. -/
def setN (x : Int) (k : Nat) : Nat := x.toNat ||| 2 ^ k
theorem setN_lt (x : Int) (k : Nat) (hx : 0 ≤ x ∧ x < 18446744073709551616) (hk : k < 64) : setN x k < 2 ^ 64 := by
  have e : (2 ^ 64 : Nat) = 18446744073709551616 := by decide
  exact Nat.or_lt_two_pow (by omega) (Nat.pow_lt_pow_right (by omega) hk)
theorem setN_lt4 (x : Int) (k : Nat) (hx : 0 ≤ x ∧ x < 4294967296) (hk : k < 32) : setN x k < 2 ^ 32 := by
  have e : (2 ^ 32 : Nat) = 4294967296 := by decide
  exact Nat.or_lt_two_pow (by omega) (Nat.pow_lt_pow_right (by omega) hk)
theorem setN_bit (x : Int) (k j : Nat) (hx : 0 ≤ x) : ((setN x k : Nat) : Int) / 2 ^ j % 2 = if j = k then 1 else x / 2 ^ j % 2 := by
  rw [int_bit]
  unfold setN
  rw [Nat.testBit_or, Nat.testBit_two_pow]
  have h := int_bit x.toNat j
  rw [Int.toNat_of_nonneg hx] at h
  rw [h]
  by_cases hj : j = k
  · subst hj
    simp
  · rw [if_neg hj, show decide (k = j) = false from by simp; omega]
    simp

def setHi (six : Bool) (hi : Int) (n : Nat) : Int := if six = true ∧ n < 64 then (setN hi (63 - n) : Int) else hi
def setLo (six : Bool) (lo : Int) (n : Nat) : Int := if six = true then (if n < 64 then lo else (setN lo (127 - n) : Int)) else (setN lo (31 - n) : Int)

theorem set_range (six : Bool) (hi lo : Int) (n : Nat) (h1 : 0 ≤ hi ∧ hi < 18446744073709551616) (h2 : 0 ≤ lo ∧ lo < 18446744073709551616) (hm : mayB six hi lo = true) (hn : (n : Int) < wideI six) :
    (0 ≤ setHi six hi n ∧ setHi six hi n < 18446744073709551616) ∧ (0 ≤ setLo six lo n ∧ setLo six lo n < 18446744073709551616) ∧ mayB six (setHi six hi n) (setLo six lo n) = true := by
  have e : (2 ^ 64 : Nat) = 18446744073709551616 := by decide
  have e' : (2 ^ 32 : Nat) = 4294967296 := by decide
  cases six
  · have hn' : (n : Int) < 32 := hn
    have hq := mayB_four hm
    have := setN_lt4 lo (31 - n) ⟨h2.1, hq.2⟩ (by omega)
    unfold setHi setLo
    simp only [Bool.false_eq_true, false_and, ↓reduceIte]
    refine ⟨h1, by omega, ?_⟩
    simp only [mayB, Bool.false_or, Bool.and_eq_true, beq_iff_eq, decide_eq_true_eq]
    exact ⟨hq.1, by omega⟩
  · have hn' : (n : Int) < 128 := hn
    unfold setHi setLo
    simp only [true_and, ↓reduceIte]
    by_cases h64 : n < 64
    · rw [if_pos h64, if_pos h64]
      have := setN_lt hi (63 - n) h1 (by omega)
      exact ⟨by omega, h2, by simp [mayB]⟩
    · rw [if_neg h64, if_neg h64]
      have := setN_lt lo (127 - n) h2 (by omega)
      exact ⟨h1, by omega, by simp [mayB]⟩

theorem set_bit (six : Bool) (hi lo : Int) (n i : Nat) (h1 : 0 ≤ hi ∧ hi < 18446744073709551616) (h2 : 0 ≤ lo ∧ lo < 18446744073709551616) (hn : (n : Int) < wideI six) (hi' : (i : Int) < wideI six) :
    bitI six (setHi six hi n) (setLo six lo n) i = if i = n then 1 else bitI six hi lo i := by
  cases six
  · have hn' : (n : Int) < 32 := hn
    have hi2 : (i : Int) < 32 := hi'
    unfold bitI setLo
    simp only [Bool.false_eq_true, ↓reduceIte]
    rw [setN_bit _ _ _ h2.1]
    by_cases hc : i = n
    · rw [if_pos (by omega), if_pos hc]
    · rw [if_neg (by omega), if_neg hc]
  · have hn' : (n : Int) < 128 := hn
    have hi2 : (i : Int) < 128 := hi'
    unfold bitI setHi setLo
    simp only [true_and, ↓reduceIte]
    by_cases h64 : n < 64
    · rw [if_pos h64, if_pos h64]
      by_cases hi64 : (i : Int) < 64
      · rw [if_pos hi64, if_pos hi64, setN_bit _ _ _ h1.1]
        by_cases hc : i = n
        · rw [if_pos (by omega), if_pos hc]
        · rw [if_neg (by omega), if_neg hc]
      · rw [if_neg hi64, if_neg hi64, if_neg (by omega)]
    · rw [if_neg h64, if_neg h64]
      by_cases hi64 : (i : Int) < 64
      · rw [if_pos hi64, if_pos hi64, if_neg (by omega)]
      · rw [if_neg hi64, if_neg hi64, setN_bit _ _ _ h2.1]
        by_cases hc : i = n
        · rw [if_pos (by omega), if_pos hc]
        · rw [if_neg (by omega), if_neg hc]

/-- The bits of an address, one of them set, make that address. -/
theorem set_bits (six : Bool) (hi lo : Int) (n : Nat) (h1 : 0 ≤ hi ∧ hi < 18446744073709551616) (h2 : 0 ≤ lo ∧ lo < 18446744073709551616) (hm : mayB six hi lo = true) (hn : (n : Int) < wideI six) :
    hiOf six ((bitsL six hi lo).set n 1) = setHi six hi n ∧ loOf six ((bitsL six hi lo).set n 1) = setLo six lo n := by
  have hr := set_range six hi lo n h1 h2 hm hn
  have hlen : (bitsL six hi lo).length = (wideI six).toNat := bitsL_length six hi lo
  have hw := wideI_le six
  refine of_unique six _ ?_ (by rw [List.length_set, hlen]; omega) _ _ hr.1 hr.2.1 hr.2.2 fun i hi' => ?_
  · intro b hb
    rcases List.mem_or_eq_of_mem_set hb with hb | rfl
    · obtain ⟨j, _, rfl⟩ := List.mem_map.1 hb
      exact bitI_01 six hi lo j
    · omega
  · rw [set_bit six hi lo n i h1 h2 hn hi', List.getElem?_set]
    by_cases hc : i = n
    · subst hc
      rw [if_pos rfl, if_pos rfl, if_pos (by omega)]
    · rw [if_neg (fun h => hc h.symm), if_neg hc]
      unfold bitsL
      rw [List.getElem?_map, List.getElem?_range (by omega)]
      rfl

end Go.Proofs.Ytonelibgaceflaa
