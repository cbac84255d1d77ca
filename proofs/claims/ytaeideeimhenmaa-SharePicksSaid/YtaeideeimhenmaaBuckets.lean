/-
  Proved here: the contracts of shares.fault and of the reference's bucketsFault: what is refused of buckets.
-/
import Derived.Test.YtaeideeimhenmaaIntFuncs
import Derived.Test.YtaeideeimhenmaaFaults
namespace Go.Proofs.Ytaeideeimhenmaa
open Go.ChangeShapes Go.WideShapes Go.ChangeAt Go.RowKit

def oddHop (h : Int) : Bool := decide (h < 0) || decide (999 < h)
/-- What is refused of buckets. -/
def bucketsF (l : List Int) : Int := if l.length < 1 ∨ 64 < l.length then 2 else if l.any oddHop = true then 2 else 0

/-- What is known of a slice of ints. -/
def IsInts (w : World) (A : Option Addr) (n c : Nat) (l : List Int) : Prop :=
  l.length = n ∧ (n ≤ c ∧ c ≤ maxLen) ∧ Reads w w.heap.size 1 A n (l.map (Value.int .i64))
theorem IsInts.below {w w' : World} {A : Option Addr} {n c : Nat} {l : List Int} (h : IsInts w A n c l) (hb : Below w.heap.size w w') : IsInts w' A n c l :=
  ⟨h.1, h.2.1, (h.2.2.below hb).more hb.size⟩

set_option maxRecDepth 100000 in
theorem open_intsV {H : Type} {enc : TypeId × Value → H} {W : World} {base : Nat} {sp : Nat → Bool} {held : Bool} {a0 : Option Addr} {len0 cap0 : Nat} {d : DataW H} {p : List MemPlace}
    (h : DataW.Trod enc Try.prog W base sp held 24 (.slice a0 len0 cap0) d p) : ∃ l : List Int, IsInts W a0 len0 cap0 l ∧ ∀ x ∈ l, -9223372036854775808 ≤ x ∧ x ≤ 9223372036854775807 := by
  have hk : flat Try.prog 9 3 = some [some .i64] := by kernel_rfl
  obtain ⟨css, hcl, hfit, hr, hl, hm⟩ := open_flats Try.underlying24 hk (by kernel_rfl) (by simp) h
  obtain ⟨l, rfl, hz⟩ := choose_list (f := fun x : Int => [Value.int .i64 x]) (Q := fun x => -9223372036854775808 ≤ x ∧ x ≤ 9223372036854775807) css (fun cs hc => by
    have hf := hfit cs hc
    clear hr hcl hfit
    obtain ⟨x, _, rfl, wx, hf1⟩ := hf.int_inv
    obtain rfl := hf1.nil_inv
    exact ⟨x, bounds_i64 wx, rfl⟩)
  refine ⟨l, ⟨by simpa using hcl, ⟨hl, hm⟩, ?_⟩, hz⟩
  have e : (l.map fun x : Int => [Value.int .i64 x]).flatten = l.map (Value.int .i64) := by
    clear hr hcl hfit hz
    induction l with
    | nil => rfl
    | cons x l ih => simp [ih]
  rw [e] at hr
  exact hr

set_option maxHeartbeats 400000 in
theorem oddClosure_any (h : Int) (w : World) : Calls Try.prog 57 #[.int .i64 h] w fun e w' => e = .returned (.bool (oddHop h)) ∧ w = w' := by
  by_cases h1 : h < 0
  · rw [show oddHop h = true from by simp [oddHop, h1]]
    go_enter Try.func57, Try.ntmps57
    go_wp2
    go_ret
    exact ⟨rfl, rfl⟩
  · rw [show oddHop h = decide (999 < h) from by simp [oddHop, h1]]
    have hd : decide (h < 0) = false := by simpa using h1
    go_enter Try.func57, Try.ntmps57
    go_wp2
    go_ret
    exact ⟨rfl, rfl⟩
theorem oddEnters (args : Array Value) (w : World) : (callFunc 57 args).run Try.prog w = .ok (.enter 57 args) w := by kernel_rfl

set_option maxRecDepth 100000 in
set_option maxHeartbeats 800000 in
theorem buckets_any (A : Option Addr) (n c : Nat) (l : List Int) (w : World) (h : IsInts w A n c l) :
    Calls Try.prog 45 #[.slice A n c] w fun e w' => e = .returned (.int .i64 (bucketsF l)) ∧ Below w.heap.size w w' := by
  have hm := h.2.1
  unfold maxLen at hm
  have hz := h.1
  by_cases hn : n < 1 ∨ 64 < n
  · rw [show bucketsF l = 2 from by unfold bucketsF; rw [if_pos (by omega)]]
    clear h hz
    rcases hn with hn | hn
    · obtain rfl : n = 0 := by omega
      go_enter Try.func45, Try.ntmps45
      go_wp2
      go_ret
      exact ⟨rfl, Below.refl _ _⟩
    · have hd1 : decide ((n : Int) < 1) = false := by simp; omega
      have hd2 : decide (64 < (n : Int)) = true := by simp; omega
      go_enter Try.func45, Try.ntmps45
      go_wp2
      go_ret
      exact ⟨rfl, Below.refl _ _⟩
  · have HI := Lib.hid (hasInt_any A n c l oddHop 57 #[] w oddEnters hz (by unfold maxLen; omega) h.2.2 (fun r _ w' _ => (oddClosure_any r w').mono fun e w'' he => ⟨he.1, by rw [← he.2]; exact Below.refl _ _⟩))
    rw [show bucketsF l = if l.any oddHop = true then 2 else 0 from by unfold bucketsF; rw [if_neg (by omega)]]
    generalize l.any oddHop = v at *
    have hd1 : decide ((n : Int) < 1) = false := by simp; omega
    have hd2 : decide (64 < (n : Int)) = false := by simp; omega
    clear h hz
    cases v
    · go_enter Try.func45, Try.ntmps45
      go_wp2_with fail
      refine HI.out.mono ?_
      rintro e w1 ⟨rfl, hb⟩
      go_wp2
      go_ret
      exact ⟨rfl, hb⟩
    · go_enter Try.func45, Try.ntmps45
      go_wp2_with fail
      refine HI.out.mono ?_
      rintro e w1 ⟨rfl, hb⟩
      go_wp2
      go_ret
      exact ⟨rfl, hb⟩

set_option maxRecDepth 100000 in
set_option maxHeartbeats 800000 in
theorem refBuckets_any (A : Option Addr) (n c : Nat) (l : List Int) (w : World) (h : IsInts w A n c l) :
    Calls Try.prog 47 #[.slice A n c] w fun e w' => e = .returned (.int .i64 (bucketsF l)) ∧ w = w' := by
  have hm := h.2.1
  unfold maxLen at hm
  have hz := h.1
  by_cases hn : n < 1 ∨ 64 < n
  · rw [show bucketsF l = 2 from by unfold bucketsF; rw [if_pos (by omega)]]
    clear h hz
    rcases hn with hn | hn
    · obtain rfl : n = 0 := by omega
      go_enter Try.func47, Try.ntmps47
      go_wp2
      go_ret
      exact ⟨rfl, rfl⟩
    · have hd1 : ((n : Int) == 0) = false := by simp; omega
      have hd2 : decide (64 < (n : Int)) = true := by simp; omega
      go_enter Try.func47, Try.ntmps47
      go_wp2
      go_ret
      exact ⟨rfl, rfl⟩
  · rw [show bucketsF l = if l.any oddHop = true then 2 else 0 from by unfold bucketsF; rw [if_neg (by omega)]]
    have hd1 : ((n : Int) == 0) = false := by simp; omega
    have hd2 : decide (64 < (n : Int)) = false := by simp; omega
    have hN : n ≤ 64 := by omega
    have HR := Lib.hid h.2.2
    have HZ := Lib.hid hz
    obtain ⟨v, hv⟩ : ∃ v, v = (if l.any oddHop = true then (2 : Int) else 0) := ⟨_, rfl⟩
    rw [← hv]
    have HV := Lib.hid hv
    clear h hz hn hv
    go_enter Try.func47, Try.ntmps47
    go_wp2
    go_loop [15, 4] (fun i _ => ∃ k : Nat, k ≤ n ∧ i = .int .i64 k ∧ NoneYet oddHop l k) (fun i _ => n - (intOf i).toNat)
    case atStart => exact ⟨0, by omega, rfl, noneYet_zero _ _⟩
    case round =>
      obtain ⟨k, hk, rfl, hto⟩ := hrel
      have HN := Lib.hid hto
      clear hto
      by_cases hlt : k < n
      · obtain ⟨ad, x, rfl, hc0, htk, hlk, hmem⟩ := HR.out.at1 hlt
        have HT := Lib.hid htk
        have HM := Lib.hid hmem
        clear htk hlk hmem
        by_cases ho : oddHop x = true
        · have H2 : Hid (2 = v) := by show _ = _; rw [HV.out, if_pos (List.any_eq_true.2 ⟨x, HM.out, ho⟩)]
          have hx : x < 0 ∨ 999 < x := by simpa [oddHop] using ho
          clear ho
          rcases hx with hx | hx
          · go_wp2
            go_ret
            exact ⟨ret_int H2.out, rfl⟩
          · have hx0 : decide (x < 0) = false := by simp; omega
            go_wp2
            go_ret
            exact ⟨ret_int H2.out, rfl⟩
        · have ho' : oddHop x = false := by simpa using ho
          have HN2 := Lib.hid (noneYet_succ HN.out HT.out ho')
          have hx : ¬ x < 0 ∧ ¬ 999 < x := by simpa [oddHop] using ho'
          have hx0 : decide (x < 0) = false := decide_eq_false hx.1
          have hx1 : decide (999 < x) = false := decide_eq_false hx.2
          clear ho ho' hx
          go_wp2
          go_round
          case rel => exact ⟨k + 1, by omega, by go_num, HN2.out⟩
          case measure => simp [intOf]; omega
      · obtain rfl : k = n := by omega
        have H2 : Hid (0 = v) := by
          show _ = _
          rw [HV.out, if_neg]
          rw [List.any_eq_true]
          rintro ⟨x, hx, hox⟩
          have := HN.out x (by rw [List.take_of_length_le (by rw [HZ.out]; omega)]; exact hx)
          rw [this] at hox
          cases hox
        go_wp2
        go_ret
        exact ⟨ret_int H2.out, rfl⟩

end Go.Proofs.Ytaeideeimhenmaa
