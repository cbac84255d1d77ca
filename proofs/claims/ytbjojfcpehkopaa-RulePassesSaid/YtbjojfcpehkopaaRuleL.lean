/-
  Proved here: rules.Check and the reference's RulesFault return the same, for every list of rules; the walk of the law RuleChecks.
-/
import Derived.Test.YtbjojfcpehkopaaRuleC
namespace Go.Proofs.Ytbjojfcpehkopaa
open Go.ChangeShapes Go.WideShapes Go.ChangeAt Go.RowKit

set_option maxHeartbeats 400000 in
theorem ruleCheck_big (A : Option Addr) (n c : Nat) (w : World) (hn : 30 < n) (hm : n ≤ maxLen) :
    Calls Try.prog 19 #[.slice A n c] w fun e w' => e = .returned (.int .i64 1) ∧ Below w.heap.size w w' := by
  unfold maxLen at hm
  go_enter Try.func19, Try.ntmps19
  go_wp2
  go_ret
  exact ⟨rfl, Below.refl _ _⟩

set_option maxHeartbeats 400000 in
theorem ruleFault_big (A : Option Addr) (n c : Nat) (w : World) (hn : 30 < n) (hm : n ≤ maxLen) :
    Calls Try.prog 20 #[.slice A n c] w fun e w' => e = .returned (.int .i64 1) ∧ Below w.heap.size w w' := by
  unfold maxLen at hm
  go_enter Try.func20, Try.ntmps20
  go_wp2
  go_ret
  exact ⟨rfl, Below.refl _ _⟩

/-- What is known of a slice of rules that came in. -/
def IsRules (w : World) (A : Option Addr) (n : Nat) (l : List RuleV) : Prop :=
  l.length = n ∧ n ≤ maxLen ∧ (∀ r ∈ l, r.Ok) ∧ Reads w w.heap.size 7 A n (l.flatMap RuleV.cells)

theorem IsRules.below {w w' : World} {A : Option Addr} {n : Nat} {l : List RuleV} (h : IsRules w A n l) (hb : Below w.heap.size w w') : IsRules w' A n l :=
  ⟨h.1, h.2.1, h.2.2.1, (h.2.2.2.below hb).more hb.size⟩

/-- What rules.Check returns. -/
def rulesF (l : List RuleV) : Int := if 30 < l.length then 1 else rulesE l

theorem rulesCheck_is {A : Option Addr} {n : Nat} {l : List RuleV} {w : World} (h : IsRules w A n l) (c : Nat) :
    Calls Try.prog 19 #[.slice A n c] w fun e w' => e = .returned (.int .i64 (rulesF l)) ∧ Below w.heap.size w w' := by
  unfold rulesF
  by_cases hn : 30 < l.length
  · rw [if_pos hn]
    exact ruleCheck_big A n c w (by have := h.1; omega) h.2.1
  · rw [if_neg hn]
    exact ruleCheck_any A n c l w (by have := h.1; omega) h.1 h.2.2.1 h.2.2.2

theorem rulesFault_is {A : Option Addr} {n : Nat} {l : List RuleV} {w : World} (h : IsRules w A n l) (c : Nat) :
    Calls Try.prog 20 #[.slice A n c] w fun e w' => e = .returned (.int .i64 (rulesF l)) ∧ Below w.heap.size w w' := by
  unfold rulesF
  by_cases hn : 30 < l.length
  · rw [if_pos hn]
    exact ruleFault_big A n c w (by have := h.1; omega) h.2.1
  · rw [if_neg hn]
    exact ruleFault_any A n c l w (by have := h.1; omega) h.1 h.2.2.1 h.2.2.2

set_option maxRecDepth 100000 in
theorem open_rules {H : Type} {enc : TypeId × Value → H} {W : World} {base : Nat} {sp : Nat → Bool} {held : Bool} {a0 : Option Addr} {len0 cap0 : Nat} {d : DataW H} {p : List MemPlace}
    (h : DataW.Trod enc Try.prog W base sp held 22 (.slice a0 len0 cap0) d p) : ∃ l : List RuleV, IsRules W a0 len0 l := by
  have hk : flat Try.prog 9 86 = some [none, none, some .u64, some .u64, some .i64, some .i64, some .i64] := by kernel_rfl
  obtain ⟨css, hcl, hfit, hr, hl, hm⟩ := open_flats Try.underlying22 hk (by kernel_rfl) (by simp) h
  obtain ⟨l, rfl, hz⟩ := choose_list (f := RuleV.cells) (Q := RuleV.Ok) css (fun cs hc => by
    have hf := hfit cs hc
    clear hr hcl hfit
    obtain ⟨yes, _, rfl, hf0⟩ := hf.bool_inv
    obtain ⟨six, _, rfl, hf1⟩ := hf0.bool_inv
    obtain ⟨hi, _, rfl, wy, hf2⟩ := hf1.int_inv
    obtain ⟨lo, _, rfl, wz, hf3⟩ := hf2.int_inv
    obtain ⟨m, _, rfl, _, hf4⟩ := hf3.int_inv
    obtain ⟨least, _, rfl, _, hf5⟩ := hf4.int_inv
    obtain ⟨most, _, rfl, _, hf6⟩ := hf5.int_inv
    obtain rfl := hf6.nil_inv
    exact ⟨⟨yes, six, hi, lo, m, least, most⟩, ⟨range_u64 wy, range_u64 wz⟩, rfl⟩)
  exact ⟨l, by simpa using hcl, by omega, hz, by rw [List.flatMap_def]; exact hr⟩

set_option maxRecDepth 100000 in
set_option maxHeartbeats 400000 in
theorem ruleChecks_walk {H : Type} {enc : TypeId × Value → H} (W : World) (vs : Array Value) (ds : List (DataW H)) (ps : List MemPlace) (h : ArgsOk Try.prog [22] H enc W vs.toList ds ps) :
    Calls Try.prog 3 vs W fun e W' => e = .returned (.bool true) ∧ Below W.heap.size W W' := by
  obtain ⟨hA, ⟨base, hval⟩, _, _⟩ := h
  obtain ⟨v0, d0, e0, _, h0⟩ := trodAll_one hA
  obtain ⟨a0, n, c, rfl⟩ := okWide_slice Try.underlying22 (hval 0 _ v0 rfl (by rw [e0]; rfl))
  obtain ⟨l, hr⟩ := open_rules h0
  obtain rfl : vs = #[.slice a0 n c] := by cases vs; simp_all
  have HR := Lib.hid hr
  generalize hg : rulesF l = r
  have C1 := Lib.hid (fun (w : World) (hb : Below W.heap.size W w) => rulesCheck_is (hr.below hb) c)
  have C2 := Lib.hid (fun (w : World) (hb : Below W.heap.size W w) => rulesFault_is (hr.below hb) c)
  rw [hg] at C1 C2
  clear hr h0 hA hval e0 hg
  go_enter Try.func3, Try.ntmps3
  go_wp2_with fail
  refine (C1.out _ (Below.refl _ _)).mono ?_
  rintro e w1 ⟨rfl, hb1⟩
  go_wp2_with fail
  refine (C2.out _ hb1).mono ?_
  rintro e w2 ⟨rfl, hb2⟩
  go_wp2
  go_ret
  exact ⟨by simp, below_step hb1 hb2⟩

end Go.Proofs.Ytbjojfcpehkopaa
