/-
  Proved here: class.Check and the reference's ClassFault return the same, for every list of matches; the walk of the law ClassChecks.
-/
import Derived.Test.YtbjojfcpehkopaaClassF
namespace Go.Proofs.Ytbjojfcpehkopaa
open Go.ChangeShapes Go.WideShapes Go.ChangeAt Go.RowKit

set_option maxHeartbeats 400000 in
theorem classCheck_big (A : Option Addr) (n c : Nat) (w : World) (hn : 30 < n) (hm : n ≤ maxLen) :
    Calls Try.prog 21 #[.slice A n c] w fun e w' => e = .returned (.int .i64 1) ∧ Below w.heap.size w w' := by
  unfold maxLen at hm
  go_enter Try.func21, Try.ntmps21
  go_wp2
  go_ret
  exact ⟨rfl, Below.refl _ _⟩

set_option maxHeartbeats 400000 in
theorem classFault_big (A : Option Addr) (n c : Nat) (w : World) (hn : 30 < n) (hm : n ≤ maxLen) :
    Calls Try.prog 22 #[.slice A n c] w fun e w' => e = .returned (.int .i64 1) ∧ Below w.heap.size w w' := by
  unfold maxLen at hm
  go_enter Try.func22, Try.ntmps22
  go_wp2
  go_ret
  exact ⟨rfl, Below.refl _ _⟩

/-- What is known of a slice of matches that came in. -/
def IsMatches (w : World) (A : Option Addr) (n : Nat) (l : List MatchV) : Prop :=
  l.length = n ∧ n ≤ maxLen ∧ (∀ r ∈ l, r.Ok) ∧ Reads w w.heap.size 9 A n (l.flatMap MatchV.cells)

theorem IsMatches.below {w w' : World} {A : Option Addr} {n : Nat} {l : List MatchV} (h : IsMatches w A n l) (hb : Below w.heap.size w w') : IsMatches w' A n l :=
  ⟨h.1, h.2.1, h.2.2.1, (h.2.2.2.below hb).more hb.size⟩

/-- What rules.Check returns. -/
def matchesF (l : List MatchV) : Int := if 30 < l.length then 1 else firstF MatchV.fault l

theorem classCheck_is {A : Option Addr} {n : Nat} {l : List MatchV} {w : World} (h : IsMatches w A n l) (c : Nat) :
    Calls Try.prog 21 #[.slice A n c] w fun e w' => e = .returned (.int .i64 (matchesF l)) ∧ Below w.heap.size w w' := by
  unfold matchesF
  by_cases hn : 30 < l.length
  · rw [if_pos hn]
    exact classCheck_big A n c w (by have := h.1; omega) h.2.1
  · rw [if_neg hn]
    exact classCheck_any A n c l w (by have := h.1; omega) h.1 h.2.2.1 h.2.2.2

theorem matchesFault_is {A : Option Addr} {n : Nat} {l : List MatchV} {w : World} (h : IsMatches w A n l) (c : Nat) :
    Calls Try.prog 22 #[.slice A n c] w fun e w' => e = .returned (.int .i64 (matchesF l)) ∧ Below w.heap.size w w' := by
  unfold matchesF
  by_cases hn : 30 < l.length
  · rw [if_pos hn]
    exact classFault_big A n c w (by have := h.1; omega) h.2.1
  · rw [if_neg hn]
    exact classFault_any A n c l w (by have := h.1; omega) h.1 h.2.2.1 h.2.2.2

set_option maxRecDepth 100000 in
theorem open_matches {H : Type} {enc : TypeId × Value → H} {W : World} {base : Nat} {sp : Nat → Bool} {held : Bool} {a0 : Option Addr} {len0 cap0 : Nat} {d : DataW H} {p : List MemPlace}
    (h : DataW.Trod enc Try.prog W base sp held 26 (.slice a0 len0 cap0) d p) : ∃ l : List MatchV, IsMatches W a0 len0 l := by
  have hk : flat Try.prog 9 90 = some [none, some .u64, some .u64, some .i64, none, some .u64, some .u64, some .i64, some .i64] := by kernel_rfl
  obtain ⟨css, hcl, hfit, hr, hl, hm⟩ := open_flats Try.underlying26 hk (by kernel_rfl) (by simp) h
  obtain ⟨l, rfl, hz⟩ := choose_list (f := MatchV.cells) (Q := MatchV.Ok) css (fun cs hc => by
    have hf := hfit cs hc
    clear hr hcl hfit
    obtain ⟨six, _, rfl, hf1⟩ := hf.bool_inv
    obtain ⟨hi, _, rfl, wy, hf2⟩ := hf1.int_inv
    obtain ⟨lo, _, rfl, wz, hf3⟩ := hf2.int_inv
    obtain ⟨m, _, rfl, _, hf4⟩ := hf3.int_inv
    obtain ⟨six2, _, rfl, hf5⟩ := hf4.bool_inv
    obtain ⟨hi2, _, rfl, wy2, hf6⟩ := hf5.int_inv
    obtain ⟨lo2, _, rfl, wz2, hf7⟩ := hf6.int_inv
    obtain ⟨m2, _, rfl, _, hf8⟩ := hf7.int_inv
    obtain ⟨cl, _, rfl, _, hf9⟩ := hf8.int_inv
    obtain rfl := hf9.nil_inv
    exact ⟨⟨six, hi, lo, m, six2, hi2, lo2, m2, cl⟩, ⟨range_u64 wy, range_u64 wz, range_u64 wy2, range_u64 wz2⟩, rfl⟩)
  exact ⟨l, by simpa using hcl, by omega, hz, by rw [List.flatMap_def]; exact hr⟩

set_option maxRecDepth 100000 in
set_option maxHeartbeats 400000 in
theorem classChecks_walk {H : Type} {enc : TypeId × Value → H} (W : World) (vs : Array Value) (ds : List (DataW H)) (ps : List MemPlace) (h : ArgsOk Try.prog [26] H enc W vs.toList ds ps) :
    Calls Try.prog 4 vs W fun e W' => e = .returned (.bool true) ∧ Below W.heap.size W W' := by
  obtain ⟨hA, ⟨base, hval⟩, _, _⟩ := h
  obtain ⟨v0, d0, e0, _, h0⟩ := trodAll_one hA
  obtain ⟨a0, n, c, rfl⟩ := okWide_slice Try.underlying26 (hval 0 _ v0 rfl (by rw [e0]; rfl))
  obtain ⟨l, hr⟩ := open_matches h0
  obtain rfl : vs = #[.slice a0 n c] := by cases vs; simp_all
  have HR := Lib.hid hr
  generalize hg : matchesF l = r
  have C1 := Lib.hid (fun (w : World) (hb : Below W.heap.size W w) => classCheck_is (hr.below hb) c)
  have C2 := Lib.hid (fun (w : World) (hb : Below W.heap.size W w) => matchesFault_is (hr.below hb) c)
  rw [hg] at C1 C2
  clear hr h0 hA hval e0 hg
  go_enter Try.func4, Try.ntmps4
  go_wp2_with fail
  refine (C1.out _ (Below.refl _ _)).mono ?_
  rintro e w1 ⟨rfl, hb1⟩
  go_wp2_with fail
  refine (C2.out _ hb1).mono ?_
  rintro e w2 ⟨rfl, hb2⟩
  go_wp2
  go_ret
  exact ⟨by simp, below_step hb1 hb2⟩

end Go.Proofs.Ytbjojfcpehkopaa
