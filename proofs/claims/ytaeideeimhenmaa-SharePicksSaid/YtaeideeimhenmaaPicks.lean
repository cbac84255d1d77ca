/-
  Proved here: the contracts of shares.hash, shares.Pick and of the reference's SharesPick; the walk of the law SharePicks.
-/
import Derived.Test.YtaeideeimhenmaaBuckets
import Derived.Test.YtaeideeimhenmaaMay
namespace Go.Proofs.Ytaeideeimhenmaa
open Go.ChangeShapes Go.WideShapes Go.ChangeAt Go.RowKit

def hashStep (n x : Int) : Int := (n * 31 + x % 65521) % 65521
def hashI (hi lo hi' lo' : Int) : Int := hashStep (hashStep (hashStep (hashStep 17 hi) lo) hi') lo'
theorem hashStep_range (n x : Int) : 0 ≤ hashStep n x ∧ hashStep n x < 65521 := by unfold hashStep; omega

/-- The hash behind the first k words. -/
def hashTo (hi lo hi' lo' : Int) : Nat → Int
  | 0 => 17
  | 1 => hashStep 17 hi
  | 2 => hashStep (hashStep 17 hi) lo
  | 3 => hashStep (hashStep (hashStep 17 hi) lo) hi'
  | _ => hashI hi lo hi' lo'
def wordAt (hi lo hi' lo' : Int) : Nat → Int
  | 0 => hi
  | 1 => lo
  | 2 => hi'
  | _ => lo'
theorem hashTo_range (hi lo hi' lo' : Int) (k : Nat) : 0 ≤ hashTo hi lo hi' lo' k ∧ hashTo hi lo hi' lo' k < 65521 := by
  unfold hashTo hashI
  split <;> first | exact hashStep_range _ _ | omega
theorem hashTo_succ (hi lo hi' lo' : Int) (k : Nat) (hk : k < 4) : hashTo hi lo hi' lo' (k + 1) = hashStep (hashTo hi lo hi' lo' k) (wordAt hi lo hi' lo' k) := by
  rcases (by omega : k = 0 ∨ k = 1 ∨ k = 2 ∨ k = 3) with rfl | rfl | rfl | rfl <;> rfl
theorem wordAt_range (hi lo hi' lo' : Int) (k : Nat) (h1 : 0 ≤ hi ∧ hi < 18446744073709551616) (h2 : 0 ≤ lo ∧ lo < 18446744073709551616) (h3 : 0 ≤ hi' ∧ hi' < 18446744073709551616) (h4 : 0 ≤ lo' ∧ lo' < 18446744073709551616) : 0 ≤ wordAt hi lo hi' lo' k ∧ wordAt hi lo hi' lo' k < 18446744073709551616 := by
  unfold wordAt
  split <;> assumption

set_option maxRecDepth 100000 in
set_option maxHeartbeats 800000 in
theorem hash_any (six : Bool) (hi lo : Int) (six' : Bool) (hi' lo' : Int) (w : World) (h1 : 0 ≤ hi ∧ hi < 18446744073709551616) (h2 : 0 ≤ lo ∧ lo < 18446744073709551616) (h3 : 0 ≤ hi' ∧ hi' < 18446744073709551616) (h4 : 0 ≤ lo' ∧ lo' < 18446744073709551616) :
    Calls Try.prog 46 #[.agg #[.bool six, .int .u64 hi, .int .u64 lo, .bool six', .int .u64 hi', .int .u64 lo']] w fun e w' => e = .returned (.int .i64 (hashI hi lo hi' lo')) ∧ Below w.heap.size w w' := by
  have HI : Hid (∀ (k : Nat), k < 4 → ∀ w, (Instr.index 91 (.agg #[.int .u64 hi, .int .u64 lo, .int .u64 hi', .int .u64 lo']) (.int .i64 (k : Int))).run Try.prog w = .ok (.int .u64 (wordAt hi lo hi' lo' k)) w) := by
    show ∀ k, _ → ∀ w, _
    intro k hk
    rcases (by omega : k = 0 ∨ k = 1 ∨ k = 2 ∨ k = 3) with rfl | rfl | rfl | rfl
    · exact fun _ => by kernel_rfl
    · exact fun _ => by kernel_rfl
    · exact fun _ => by kernel_rfl
    · exact fun _ => by kernel_rfl
  go_enter Try.func46, Try.ntmps46
  go_wp2
  go_loop [3, 5, 19] (fun n _ i => ∃ k : Nat, k ≤ 4 ∧ i = .int .i64 k ∧ n = .int .u64 (hashTo hi lo hi' lo' k)) (fun _ _ i => 4 - (intOf i).toNat)
  case atStart => exact ⟨0, by omega, rfl, rfl⟩
  case round =>
    obtain ⟨k, hk, rfl, rfl⟩ := hrel
    have r := hashTo_range hi lo hi' lo' k
    by_cases hlt : k < 4
    · have hix := HI.out k hlt
      have rx := wordAt_range hi lo hi' lo' k h1 h2 h3 h4
      have HS : Hid (hashTo hi lo hi' lo' (k + 1) = (hashTo hi lo hi' lo' k * 31 + wordAt hi lo hi' lo' k % 65521) % 65521) := hashTo_succ hi lo hi' lo' k hlt
      generalize hg : hashTo hi lo hi' lo' k = m at *
      generalize wordAt hi lo hi' lo' k = x at *
      clear hg
      go_wp2
      go_round
      case rel => exact ⟨k + 1, by omega, by go_num, by rw [HS.out]⟩
      case measure => simp [intOf]; omega
    · obtain rfl : k = 4 := by omega
      have HE : Hid (hashTo hi lo hi' lo' 4 = hashI hi lo hi' lo') := rfl
      generalize hashTo hi lo hi' lo' 4 = m at *
      go_wp2
      go_ret
      exact ⟨ret_int HE.out, (Below.refl _ _).alloc (Nat.le_refl _) _⟩


set_option maxRecDepth 100000 in
set_option maxHeartbeats 800000 in
theorem refPick_ok (A : Option Addr) (n c : Nat) (l : List Int) (six : Bool) (hi lo : Int) (hi' lo' x : Int) (w : World) (h1 : 0 ≤ hi ∧ hi < 18446744073709551616) (h2 : 0 ≤ lo ∧ lo < 18446744073709551616) (h3 : 0 ≤ hi' ∧ hi' < 18446744073709551616) (h4 : 0 ≤ lo' ∧ lo' < 18446744073709551616) (h : IsInts w A n c l) (hk : bucketsF l = 0) (hm : mayB six hi lo = true) (hm' : mayB six hi' lo' = true) (hx : l[(hashI hi lo hi' lo' % n).toNat]? = some x) :
    Calls Try.prog 28 #[.slice A n c, .agg #[.bool six, .int .u64 hi, .int .u64 lo, .bool six, .int .u64 hi', .int .u64 lo']] w fun e w' => e = .returned (.tuple #[.int .i64 x, .int .i64 0]) ∧ Below w.heap.size w w' := by
  have HB := (fun (w' : World) (hb : Below w.heap.size w w') => refBuckets_any A n c l w' (h.below hb))
  rw [hk] at HB
  have C0 := Lib.hid HB
  have M1 := (fun w => refMay_any six hi lo w h2.1)
  have M2 := (fun w => refMay_any six hi' lo' w h4.1)
  rw [hm] at M1
  rw [hm'] at M2
  have C1 := Lib.hid M1
  have C2 := Lib.hid M2
  have hz := h.1
  have hlt := (List.getElem?_eq_some_iff.1 hx).1
  have hr : 0 ≤ hashI hi lo hi' lo' ∧ hashI hi lo hi' lo' < 65521 := hashStep_range _ _
  have hmx := h.2.1
  unfold maxLen at hmx
  obtain ⟨ad, x', rfl, hc0, _, hlk, _⟩ := h.2.2.at1 (k := (hashI hi lo hi' lo' % n).toNat) (by omega)
  rw [hx] at hlk
  injection hlk with hlk
  subst hlk
  have hadb : ad.block < w.heap.size := by
    obtain ⟨ad', ha', hb', _⟩ := h.2.2.2 (by omega)
    injection ha' with ha'
    rw [ha']
    exact hb'
  have hnp : 0 < n := by omega
  have hE : hashTo hi lo hi' lo' 4 = hashI hi lo hi' lo' := rfl
  have HE := Lib.hid hE
  have HLT := Lib.hid hlt
  clear HB M1 M2 h hk hm hm' hE hlt hx
  go_enter Try.func28, Try.ntmps28
  go_wp2_with fail
  refine (C0.out _ ((Below.refl _ _).alloc (Nat.le_refl _) _)).mono ?_
  rintro e w' ⟨rfl, rfl⟩
  go_wp2_with fail
  refine (C1.out _).mono ?_
  rintro e w1 ⟨rfl, hb1⟩
  have HB1 := Lib.hid (balloc1 hb1)
  have s1 := bsize1 hb1
  obtain ⟨fc, ff⟩ := bcell hb1
  clear hb1
  go_wp2_with fail
  refine (C2.out _).mono ?_
  rintro e w2 ⟨rfl, hb2⟩
  have HB2 := Lib.hid (below_step HB1.out hb2)
  obtain ⟨fc2, ff2⟩ := bcell hb2
  have s2 : w.heap.size < w2.heap.size := by have := hb2.size; omega
  clear hb2
  have HW : Hid (∀ k : Nat, k < 4 → #[Value.int .u64 hi, .int .u64 lo, .int .u64 hi', .int .u64 lo'][k]? = some (.int .u64 (wordAt hi lo hi' lo' k))) := by
    show ∀ k : Nat, _ → _
    intro k hk
    rcases (by omega : k = 0 ∨ k = 1 ∨ k = 2 ∨ k = 3) with rfl | rfl | rfl | rfl <;> rfl
  go_wp2
  go_loop [7, 9, 46] (fun m _ i => ∃ k : Nat, k ≤ 4 ∧ i = .int .i64 k ∧ m = .int .i64 (hashTo hi lo hi' lo' k)) (fun _ _ i => 4 - (intOf i).toNat)
  case atStart => exact ⟨0, by omega, rfl, rfl⟩
  case round =>
    obtain ⟨k, hk, rfl, rfl⟩ := hrel
    have r := hashTo_range hi lo hi' lo' k
    by_cases hlt : k < 4
    · have rx := wordAt_range hi lo hi' lo' k h1 h2 h3 h4
      have HS : Hid (hashTo hi lo hi' lo' (k + 1) = (hashTo hi lo hi' lo' k * 31 + wordAt hi lo hi' lo' k % 65521) % 65521) := hashTo_succ hi lo hi' lo' k hlt
      have q : (w2.alloc (.cells #[Value.int .u64 hi, .int .u64 lo, .int .u64 hi', .int .u64 lo'] 26)).cell? ⟨w2.heap.size, k, none⟩ = some (.int .u64 (wordAt hi lo hi' lo' k)) := (World.cell?_alloc_at _ _ _ _ rfl).trans (HW.out k hlt)
      generalize hg : hashTo hi lo hi' lo' k = m at *
      generalize wordAt hi lo hi' lo' k = x at *
      clear hg
      go_wp2
      go_round
      case rel => exact ⟨k + 1, by omega, by go_num, by rw [HS.out]; congr 2; omega⟩
      case measure => simp [intOf]; omega
    · obtain rfl : k = 4 := by omega
      have hc1 : w2.cell? (ad.add (hashI hi lo hi' lo' % n).toNat) = some (.int .i64 x) := (HB2.out.cell (p := ad.add (hashI hi lo hi' lo' % n).toNat) (by rw [block_of_add]; exact hadb)).trans hc0
      have hc2 : (w2.alloc (.cells #[Value.int .u64 hi, .int .u64 lo, .int .u64 hi', .int .u64 lo'] 26)).cell? (ad.add (hashI hi lo hi' lo' % n).toNat) = some (.int .i64 x) := (World.cell?_alloc_lt _ _ _ (by rw [block_of_add]; have := HB2.out.size; omega)).trans hc1
      rw [HE.out]
      have hN0 : (0 : Int) ≤ hashI hi lo hi' lo' % n := Int.emod_nonneg _ (by omega)
      have hN1 : hashI hi lo hi' lo' % n < n := Int.emod_lt_of_pos _ (by omega)
      have HR : 0 ≤ hashI hi lo hi' lo' := hr.1
      clear hc0 hc1 r
      generalize hashI hi lo hi' lo' = hh at *
      go_wp2
      go_ret2
      exact ⟨rfl, HB2.out.alloc HB2.out.size _⟩

set_option maxRecDepth 100000 in
set_option maxHeartbeats 800000 in
theorem pick_bad1 (A : Option Addr) (n c : Nat) (l : List Int) (six : Bool) (hi lo : Int) (six' : Bool) (hi' lo' : Int) (w : World) (h1 : 0 ≤ hi ∧ hi < 18446744073709551616) (h2 : 0 ≤ lo ∧ lo < 18446744073709551616) (h3 : 0 ≤ hi' ∧ hi' < 18446744073709551616) (h4 : 0 ≤ lo' ∧ lo' < 18446744073709551616) (h : IsInts w A n c l) (hk : bucketsF l = 2) :
    Calls Try.prog 27 #[.slice A n c, .agg #[.bool six, .int .u64 hi, .int .u64 lo, .bool six', .int .u64 hi', .int .u64 lo']] w fun e w' => e = .returned (.tuple #[.int .i64 0, .int .i64 2]) ∧ Below w.heap.size w w' := by
  have HB := (fun (w' : World) (hb : Below w.heap.size w w') => buckets_any A n c l w' (h.below hb))
  rw [hk] at HB
  have C0 := Lib.hid HB
  clear HB h hk
  go_enter Try.func27, Try.ntmps27
  go_wp2_with fail
  refine (C0.out _ ((Below.refl _ _).alloc (Nat.le_refl _) _)).mono ?_
  rintro e w0 ⟨rfl, hb0⟩
  have HB0 := Lib.hid (balloc1 hb0)
  have s0 := bsize1 hb0
  obtain ⟨fc0, ff0⟩ := bcell hb0
  clear hb0
  go_wp2
  go_ret2
  exact ⟨rfl, HB0.out⟩

set_option maxRecDepth 100000 in
set_option maxHeartbeats 800000 in
theorem pick_bad2 (A : Option Addr) (n c : Nat) (l : List Int) (six : Bool) (hi lo : Int) (six' : Bool) (hi' lo' : Int) (w : World) (h1 : 0 ≤ hi ∧ hi < 18446744073709551616) (h2 : 0 ≤ lo ∧ lo < 18446744073709551616) (h3 : 0 ≤ hi' ∧ hi' < 18446744073709551616) (h4 : 0 ≤ lo' ∧ lo' < 18446744073709551616) (h : IsInts w A n c l) (hk : bucketsF l = 0) (hm : mayB six hi lo = false) :
    Calls Try.prog 27 #[.slice A n c, .agg #[.bool six, .int .u64 hi, .int .u64 lo, .bool six', .int .u64 hi', .int .u64 lo']] w fun e w' => e = .returned (.tuple #[.int .i64 0, .int .i64 4]) ∧ Below w.heap.size w w' := by
  have HB := (fun (w' : World) (hb : Below w.heap.size w w') => buckets_any A n c l w' (h.below hb))
  rw [hk] at HB
  have C0 := Lib.hid HB
  have M1 := (fun w => may_any six hi lo w h2.1)
  have M2 := (fun w => may_any six' hi' lo' w h4.1)
  rw [hm] at M1
  have C1 := Lib.hid M1
  clear HB M1 M2 h hk hm
  go_enter Try.func27, Try.ntmps27
  go_wp2_with fail
  refine (C0.out _ ((Below.refl _ _).alloc (Nat.le_refl _) _)).mono ?_
  rintro e w0 ⟨rfl, hb0⟩
  have HB0 := Lib.hid (balloc1 hb0)
  have s0 := bsize1 hb0
  obtain ⟨fc0, ff0⟩ := bcell hb0
  clear hb0
  go_wp2_with fail
  refine (C1.out _).mono ?_
  rintro e w1 ⟨rfl, hb1⟩
  have HB1 := Lib.hid (below_step HB0.out hb1)
  clear hb1
  go_wp2
  go_ret2
  exact ⟨rfl, HB1.out⟩

set_option maxRecDepth 100000 in
set_option maxHeartbeats 800000 in
theorem pick_bad3 (A : Option Addr) (n c : Nat) (l : List Int) (six : Bool) (hi lo : Int) (six' : Bool) (hi' lo' : Int) (w : World) (h1 : 0 ≤ hi ∧ hi < 18446744073709551616) (h2 : 0 ≤ lo ∧ lo < 18446744073709551616) (h3 : 0 ≤ hi' ∧ hi' < 18446744073709551616) (h4 : 0 ≤ lo' ∧ lo' < 18446744073709551616) (h : IsInts w A n c l) (hk : bucketsF l = 0) (hm : mayB six hi lo = true) (hm' : mayB six' hi' lo' = false) :
    Calls Try.prog 27 #[.slice A n c, .agg #[.bool six, .int .u64 hi, .int .u64 lo, .bool six', .int .u64 hi', .int .u64 lo']] w fun e w' => e = .returned (.tuple #[.int .i64 0, .int .i64 4]) ∧ Below w.heap.size w w' := by
  have HB := (fun (w' : World) (hb : Below w.heap.size w w') => buckets_any A n c l w' (h.below hb))
  rw [hk] at HB
  have C0 := Lib.hid HB
  have M1 := (fun w => may_any six hi lo w h2.1)
  have M2 := (fun w => may_any six' hi' lo' w h4.1)
  rw [hm] at M1
  rw [hm'] at M2
  have C1 := Lib.hid M1
  have C2 := Lib.hid M2
  clear HB M1 M2 h hk hm hm'
  go_enter Try.func27, Try.ntmps27
  go_wp2_with fail
  refine (C0.out _ ((Below.refl _ _).alloc (Nat.le_refl _) _)).mono ?_
  rintro e w0 ⟨rfl, hb0⟩
  have HB0 := Lib.hid (balloc1 hb0)
  have s0 := bsize1 hb0
  obtain ⟨fc0, ff0⟩ := bcell hb0
  clear hb0
  go_wp2_with fail
  refine (C1.out _).mono ?_
  rintro e w1 ⟨rfl, hb1⟩
  have HB1 := Lib.hid (below_step HB0.out hb1)
  obtain ⟨fc, ff⟩ := bcell hb1
  clear hb1
  go_wp2_with fail
  refine (C2.out _).mono ?_
  rintro e w2 ⟨rfl, hb2⟩
  have HB2 := Lib.hid (below_step HB1.out hb2)
  clear hb2
  go_wp2
  go_ret2
  exact ⟨rfl, HB2.out⟩

set_option maxRecDepth 100000 in
set_option maxHeartbeats 800000 in
theorem pick_bad4 (A : Option Addr) (n c : Nat) (l : List Int) (six : Bool) (hi lo : Int) (six' : Bool) (hi' lo' : Int) (w : World) (h1 : 0 ≤ hi ∧ hi < 18446744073709551616) (h2 : 0 ≤ lo ∧ lo < 18446744073709551616) (h3 : 0 ≤ hi' ∧ hi' < 18446744073709551616) (h4 : 0 ≤ lo' ∧ lo' < 18446744073709551616) (h : IsInts w A n c l) (hk : bucketsF l = 0) (hm : mayB six hi lo = true) (hm' : mayB six' hi' lo' = true) (hs : ¬ six = six') :
    Calls Try.prog 27 #[.slice A n c, .agg #[.bool six, .int .u64 hi, .int .u64 lo, .bool six', .int .u64 hi', .int .u64 lo']] w fun e w' => e = .returned (.tuple #[.int .i64 0, .int .i64 6]) ∧ Below w.heap.size w w' := by
  have HB := (fun (w' : World) (hb : Below w.heap.size w w') => buckets_any A n c l w' (h.below hb))
  rw [hk] at HB
  have C0 := Lib.hid HB
  have M1 := (fun w => may_any six hi lo w h2.1)
  have M2 := (fun w => may_any six' hi' lo' w h4.1)
  rw [hm] at M1
  rw [hm'] at M2
  have C1 := Lib.hid M1
  have C2 := Lib.hid M2
  clear HB M1 M2 h hk hm hm'
  have hne : (six != six') = true := by simpa using hs
  have hne3 : (!six == six') = true := by cases six <;> cases six' <;> simp_all
  go_enter Try.func27, Try.ntmps27
  go_wp2_with fail
  refine (C0.out _ ((Below.refl _ _).alloc (Nat.le_refl _) _)).mono ?_
  rintro e w0 ⟨rfl, hb0⟩
  have HB0 := Lib.hid (balloc1 hb0)
  have s0 := bsize1 hb0
  obtain ⟨fc0, ff0⟩ := bcell hb0
  clear hb0
  go_wp2_with fail
  refine (C1.out _).mono ?_
  rintro e w1 ⟨rfl, hb1⟩
  have HB1 := Lib.hid (below_step HB0.out hb1)
  obtain ⟨fc, ff⟩ := bcell hb1
  have s1 : w.heap.size < w1.heap.size := by have := hb1.size; omega
  clear hb1
  go_wp2_with fail
  refine (C2.out _).mono ?_
  rintro e w2 ⟨rfl, hb2⟩
  have HB2 := Lib.hid (below_step HB1.out hb2)
  obtain ⟨fc2, ff2⟩ := bcell hb2
  clear hb2
  go_wp2
  go_ret2
  exact ⟨rfl, HB2.out⟩

set_option maxRecDepth 100000 in
set_option maxHeartbeats 800000 in
theorem refPick_bad1 (A : Option Addr) (n c : Nat) (l : List Int) (six : Bool) (hi lo : Int) (six' : Bool) (hi' lo' : Int) (w : World) (h1 : 0 ≤ hi ∧ hi < 18446744073709551616) (h2 : 0 ≤ lo ∧ lo < 18446744073709551616) (h3 : 0 ≤ hi' ∧ hi' < 18446744073709551616) (h4 : 0 ≤ lo' ∧ lo' < 18446744073709551616) (h : IsInts w A n c l) (hk : bucketsF l = 2) :
    Calls Try.prog 28 #[.slice A n c, .agg #[.bool six, .int .u64 hi, .int .u64 lo, .bool six', .int .u64 hi', .int .u64 lo']] w fun e w' => e = .returned (.tuple #[.int .i64 0, .int .i64 2]) ∧ Below w.heap.size w w' := by
  have HB := (fun (w' : World) (hb : Below w.heap.size w w') => refBuckets_any A n c l w' (h.below hb))
  rw [hk] at HB
  have C0 := Lib.hid HB
  clear HB h hk
  go_enter Try.func28, Try.ntmps28
  go_wp2_with fail
  refine (C0.out _ ((Below.refl _ _).alloc (Nat.le_refl _) _)).mono ?_
  rintro e w' ⟨rfl, rfl⟩
  go_wp2
  go_ret2
  exact ⟨rfl, ((Below.refl _ _).alloc (Nat.le_refl _) _)⟩

set_option maxRecDepth 100000 in
set_option maxHeartbeats 800000 in
theorem refPick_bad2 (A : Option Addr) (n c : Nat) (l : List Int) (six : Bool) (hi lo : Int) (six' : Bool) (hi' lo' : Int) (w : World) (h1 : 0 ≤ hi ∧ hi < 18446744073709551616) (h2 : 0 ≤ lo ∧ lo < 18446744073709551616) (h3 : 0 ≤ hi' ∧ hi' < 18446744073709551616) (h4 : 0 ≤ lo' ∧ lo' < 18446744073709551616) (h : IsInts w A n c l) (hk : bucketsF l = 0) (hm : mayB six hi lo = false) :
    Calls Try.prog 28 #[.slice A n c, .agg #[.bool six, .int .u64 hi, .int .u64 lo, .bool six', .int .u64 hi', .int .u64 lo']] w fun e w' => e = .returned (.tuple #[.int .i64 0, .int .i64 4]) ∧ Below w.heap.size w w' := by
  have HB := (fun (w' : World) (hb : Below w.heap.size w w') => refBuckets_any A n c l w' (h.below hb))
  rw [hk] at HB
  have C0 := Lib.hid HB
  have M1 := (fun w => refMay_any six hi lo w h2.1)
  have M2 := (fun w => refMay_any six' hi' lo' w h4.1)
  rw [hm] at M1
  have C1 := Lib.hid M1
  clear HB M1 M2 h hk hm
  go_enter Try.func28, Try.ntmps28
  go_wp2_with fail
  refine (C0.out _ ((Below.refl _ _).alloc (Nat.le_refl _) _)).mono ?_
  rintro e w' ⟨rfl, rfl⟩
  go_wp2_with fail
  refine (C1.out _).mono ?_
  rintro e w1 ⟨rfl, hb1⟩
  have HB1 := Lib.hid (balloc1 hb1)
  clear hb1
  go_wp2
  go_ret2
  exact ⟨rfl, HB1.out⟩

set_option maxRecDepth 100000 in
set_option maxHeartbeats 800000 in
theorem refPick_bad3 (A : Option Addr) (n c : Nat) (l : List Int) (six : Bool) (hi lo : Int) (six' : Bool) (hi' lo' : Int) (w : World) (h1 : 0 ≤ hi ∧ hi < 18446744073709551616) (h2 : 0 ≤ lo ∧ lo < 18446744073709551616) (h3 : 0 ≤ hi' ∧ hi' < 18446744073709551616) (h4 : 0 ≤ lo' ∧ lo' < 18446744073709551616) (h : IsInts w A n c l) (hk : bucketsF l = 0) (hm : mayB six hi lo = true) (hm' : mayB six' hi' lo' = false) :
    Calls Try.prog 28 #[.slice A n c, .agg #[.bool six, .int .u64 hi, .int .u64 lo, .bool six', .int .u64 hi', .int .u64 lo']] w fun e w' => e = .returned (.tuple #[.int .i64 0, .int .i64 4]) ∧ Below w.heap.size w w' := by
  have HB := (fun (w' : World) (hb : Below w.heap.size w w') => refBuckets_any A n c l w' (h.below hb))
  rw [hk] at HB
  have C0 := Lib.hid HB
  have M1 := (fun w => refMay_any six hi lo w h2.1)
  have M2 := (fun w => refMay_any six' hi' lo' w h4.1)
  rw [hm] at M1
  rw [hm'] at M2
  have C1 := Lib.hid M1
  have C2 := Lib.hid M2
  clear HB M1 M2 h hk hm hm'
  go_enter Try.func28, Try.ntmps28
  go_wp2_with fail
  refine (C0.out _ ((Below.refl _ _).alloc (Nat.le_refl _) _)).mono ?_
  rintro e w' ⟨rfl, rfl⟩
  go_wp2_with fail
  refine (C1.out _).mono ?_
  rintro e w1 ⟨rfl, hb1⟩
  have HB1 := Lib.hid (balloc1 hb1)
  obtain ⟨fc, ff⟩ := bcell hb1
  clear hb1
  go_wp2_with fail
  refine (C2.out _).mono ?_
  rintro e w2 ⟨rfl, hb2⟩
  have HB2 := Lib.hid (below_step HB1.out hb2)
  clear hb2
  go_wp2
  go_ret2
  exact ⟨rfl, HB2.out⟩

set_option maxRecDepth 100000 in
set_option maxHeartbeats 800000 in
theorem refPick_bad4 (A : Option Addr) (n c : Nat) (l : List Int) (six : Bool) (hi lo : Int) (six' : Bool) (hi' lo' : Int) (w : World) (h1 : 0 ≤ hi ∧ hi < 18446744073709551616) (h2 : 0 ≤ lo ∧ lo < 18446744073709551616) (h3 : 0 ≤ hi' ∧ hi' < 18446744073709551616) (h4 : 0 ≤ lo' ∧ lo' < 18446744073709551616) (h : IsInts w A n c l) (hk : bucketsF l = 0) (hm : mayB six hi lo = true) (hm' : mayB six' hi' lo' = true) (hs : ¬ six = six') :
    Calls Try.prog 28 #[.slice A n c, .agg #[.bool six, .int .u64 hi, .int .u64 lo, .bool six', .int .u64 hi', .int .u64 lo']] w fun e w' => e = .returned (.tuple #[.int .i64 0, .int .i64 6]) ∧ Below w.heap.size w w' := by
  have HB := (fun (w' : World) (hb : Below w.heap.size w w') => refBuckets_any A n c l w' (h.below hb))
  rw [hk] at HB
  have C0 := Lib.hid HB
  have M1 := (fun w => refMay_any six hi lo w h2.1)
  have M2 := (fun w => refMay_any six' hi' lo' w h4.1)
  rw [hm] at M1
  rw [hm'] at M2
  have C1 := Lib.hid M1
  have C2 := Lib.hid M2
  clear HB M1 M2 h hk hm hm'
  have hne : (six != six') = true := by simpa using hs
  have hne3 : (!six == six') = true := by cases six <;> cases six' <;> simp_all
  go_enter Try.func28, Try.ntmps28
  go_wp2_with fail
  refine (C0.out _ ((Below.refl _ _).alloc (Nat.le_refl _) _)).mono ?_
  rintro e w' ⟨rfl, rfl⟩
  go_wp2_with fail
  refine (C1.out _).mono ?_
  rintro e w1 ⟨rfl, hb1⟩
  have HB1 := Lib.hid (balloc1 hb1)
  obtain ⟨fc, ff⟩ := bcell hb1
  have s1 := bsize1 hb1
  clear hb1
  go_wp2_with fail
  refine (C2.out _).mono ?_
  rintro e w2 ⟨rfl, hb2⟩
  have HB2 := Lib.hid (below_step HB1.out hb2)
  obtain ⟨fc2, ff2⟩ := bcell hb2
  clear hb2
  go_wp2
  go_ret2
  exact ⟨rfl, HB2.out⟩

set_option maxRecDepth 100000 in
set_option maxHeartbeats 800000 in
theorem pick_ok (A : Option Addr) (n c : Nat) (l : List Int) (six : Bool) (hi lo : Int) (hi' lo' x : Int) (w : World) (h1 : 0 ≤ hi ∧ hi < 18446744073709551616) (h2 : 0 ≤ lo ∧ lo < 18446744073709551616) (h3 : 0 ≤ hi' ∧ hi' < 18446744073709551616) (h4 : 0 ≤ lo' ∧ lo' < 18446744073709551616) (h : IsInts w A n c l) (hk : bucketsF l = 0) (hm : mayB six hi lo = true) (hm' : mayB six hi' lo' = true) (hx : l[(hashI hi lo hi' lo' % n).toNat]? = some x) :
    Calls Try.prog 27 #[.slice A n c, .agg #[.bool six, .int .u64 hi, .int .u64 lo, .bool six, .int .u64 hi', .int .u64 lo']] w fun e w' => e = .returned (.tuple #[.int .i64 x, .int .i64 0]) ∧ Below w.heap.size w w' := by
  have HB := (fun (w' : World) (hb : Below w.heap.size w w') => buckets_any A n c l w' (h.below hb))
  rw [hk] at HB
  have C0 := Lib.hid HB
  have M1 := (fun w => may_any six hi lo w h2.1)
  have M2 := (fun w => may_any six hi' lo' w h4.1)
  rw [hm] at M1
  rw [hm'] at M2
  have C1 := Lib.hid M1
  have C2 := Lib.hid M2
  have C3 := Lib.hid (fun w => hash_any six hi lo six hi' lo' w h1 h2 h3 h4)
  have hlt := (List.getElem?_eq_some_iff.1 hx).1
  have hz := h.1
  have hr : 0 ≤ hashI hi lo hi' lo' ∧ hashI hi lo hi' lo' < 65521 := hashStep_range _ _
  have hmx := h.2.1
  unfold maxLen at hmx
  obtain ⟨ad, x', rfl, hc0, _, hlk, _⟩ := h.2.2.at1 (k := (hashI hi lo hi' lo' % n).toNat) (by omega)
  rw [hx] at hlk
  injection hlk with hlk
  subst hlk
  have hadb : ad.block < w.heap.size := by
    obtain ⟨ad', ha', hb', _⟩ := h.2.2.2 (by omega)
    injection ha' with ha'
    rw [ha']
    exact hb'
  have hnp : 0 < n := by omega
  have HLT := Lib.hid hlt
  clear HB M1 M2 h hk hm hm' hlt hx
  generalize hashI hi lo hi' lo' = hh at *
  have hN0 : (0 : Int) ≤ hh % n := Int.emod_nonneg _ (by omega)
  have hN1 : hh % n < n := Int.emod_lt_of_pos _ (by omega)
  go_enter Try.func27, Try.ntmps27
  go_wp2_with fail
  refine (C0.out _ ((Below.refl _ _).alloc (Nat.le_refl _) _)).mono ?_
  rintro e w0 ⟨rfl, hb0⟩
  have HB0 := Lib.hid (balloc1 hb0)
  have s0 := bsize1 hb0
  obtain ⟨fc0, ff0⟩ := bcell hb0
  clear hb0
  go_wp2_with fail
  refine (C1.out _).mono ?_
  rintro e w1 ⟨rfl, hb1⟩
  have HB1 := Lib.hid (below_step HB0.out hb1)
  have s1 : w.heap.size < w1.heap.size := by have := hb1.size; omega
  obtain ⟨fc, ff⟩ := bcell hb1
  clear hb1
  go_wp2_with fail
  refine (C2.out _).mono ?_
  rintro e w2 ⟨rfl, hb2⟩
  have HB2 := Lib.hid (below_step HB1.out hb2)
  obtain ⟨fc2, ff2⟩ := bcell hb2
  have s2 : w.heap.size < w2.heap.size := by have := hb2.size; omega
  clear hb2
  go_wp2_with fail
  refine (C3.out _).mono ?_
  rintro e w3 ⟨rfl, hb3⟩
  have HB3 := Lib.hid (below_step HB2.out hb3)
  have hc1 : w3.cell? (ad.add (hh % n).toNat) = some (.int .i64 x) := (HB3.out.cell (p := ad.add (hh % n).toNat) (by rw [block_of_add]; exact hadb)).trans hc0
  clear hb3 hc0
  go_wp2
  go_ret2
  exact ⟨rfl, HB3.out⟩

theorem bucketsF_cases (l : List Int) : bucketsF l = 2 ∨ (bucketsF l = 0 ∧ 0 < l.length) := by
  unfold bucketsF
  by_cases h : l.length < 1 ∨ 64 < l.length
  · rw [if_pos h]; exact .inl rfl
  · rw [if_neg h]
    by_cases h2 : l.any oddHop = true
    · rw [if_pos h2]; exact .inl rfl
    · rw [if_neg h2]; exact .inr ⟨rfl, by omega⟩

theorem pick_both (A : Option Addr) (n c : Nat) (l : List Int) (six : Bool) (hi lo : Int) (six' : Bool) (hi' lo' : Int) (w : World) (h1 : 0 ≤ hi ∧ hi < 18446744073709551616) (h2 : 0 ≤ lo ∧ lo < 18446744073709551616) (h3 : 0 ≤ hi' ∧ hi' < 18446744073709551616) (h4 : 0 ≤ lo' ∧ lo' < 18446744073709551616) (h : IsInts w A n c l) :
    ∃ (x k : Int), ∀ w', Below w.heap.size w w' →
      (Calls Try.prog 27 #[.slice A n c, .agg #[.bool six, .int .u64 hi, .int .u64 lo, .bool six', .int .u64 hi', .int .u64 lo']] w' fun e w'' => e = .returned (.tuple #[.int .i64 x, .int .i64 k]) ∧ Below w'.heap.size w' w'') ∧
      (Calls Try.prog 28 #[.slice A n c, .agg #[.bool six, .int .u64 hi, .int .u64 lo, .bool six', .int .u64 hi', .int .u64 lo']] w' fun e w'' => e = .returned (.tuple #[.int .i64 x, .int .i64 k]) ∧ Below w'.heap.size w' w'') := by
  rcases bucketsF_cases l with hk | ⟨hk, hp⟩
  · exact ⟨_, _, fun w' hb => ⟨pick_bad1 A n c l six hi lo six' hi' lo' w' h1 h2 h3 h4 (h.below hb) hk, refPick_bad1 A n c l six hi lo six' hi' lo' w' h1 h2 h3 h4 (h.below hb) hk⟩⟩
  · cases hm : mayB six hi lo
    · exact ⟨_, _, fun w' hb => ⟨pick_bad2 A n c l six hi lo six' hi' lo' w' h1 h2 h3 h4 (h.below hb) hk hm, refPick_bad2 A n c l six hi lo six' hi' lo' w' h1 h2 h3 h4 (h.below hb) hk hm⟩⟩
    · cases hm' : mayB six' hi' lo'
      · exact ⟨_, _, fun w' hb => ⟨pick_bad3 A n c l six hi lo six' hi' lo' w' h1 h2 h3 h4 (h.below hb) hk hm hm', refPick_bad3 A n c l six hi lo six' hi' lo' w' h1 h2 h3 h4 (h.below hb) hk hm hm'⟩⟩
      · by_cases hs : six = six'
        · subst hs
          have hz := h.1
          have hN0 : (0 : Int) ≤ hashI hi lo hi' lo' % n := Int.emod_nonneg _ (by omega)
          have hN1 : hashI hi lo hi' lo' % n < n := Int.emod_lt_of_pos _ (by omega)
          obtain ⟨x, hx⟩ : ∃ x, l[(hashI hi lo hi' lo' % n).toNat]? = some x := ⟨_, List.getElem?_eq_getElem (by omega)⟩
          exact ⟨_, _, fun w' hb => ⟨pick_ok A n c l six hi lo hi' lo' x w' h1 h2 h3 h4 (h.below hb) hk hm hm' hx, refPick_ok A n c l six hi lo hi' lo' x w' h1 h2 h3 h4 (h.below hb) hk hm hm' hx⟩⟩
        · exact ⟨_, _, fun w' hb => ⟨pick_bad4 A n c l six hi lo six' hi' lo' w' h1 h2 h3 h4 (h.below hb) hk hm hm' hs, refPick_bad4 A n c l six hi lo six' hi' lo' w' h1 h2 h3 h4 (h.below hb) hk hm hm' hs⟩⟩

set_option maxRecDepth 100000 in
/-- A flow that came in. -/
theorem open_flow {H : Type} {enc : TypeId × Value → H} {W : World} {base : Nat} {sp : Nat → Bool} {held : Bool} {b0 : Nat} {v : Value} {d : DataW H} {p : List MemPlace}
    (hv : Value.okWide Try.prog W .any b0 47 v) (h : DataW.Trod enc Try.prog W base sp held 47 v d p) :
    ∃ six hi lo six' hi' lo', v = .agg #[.bool six, .int .u64 hi, .int .u64 lo, .bool six', .int .u64 hi', .int .u64 lo'] ∧ (0 ≤ hi ∧ hi < 18446744073709551616) ∧ (0 ≤ lo ∧ lo < 18446744073709551616) ∧ (0 ≤ hi' ∧ hi' < 18446744073709551616) ∧ (0 ≤ lo' ∧ lo' < 18446744073709551616) := by
  have hc : Try.prog.cellsOf 47 = 6 := by kernel_rfl
  have hk : flat Try.prog 9 47 = some [none, some .u64, some .u64, none, some .u64, some .u64] := by kernel_rfl
  obtain ⟨cs, rfl, hf⟩ := open_flat (fun fuel cs x hl hx => trod_flat 9 _ _ fuel cs x hk hl (by rw [hc]; rfl) hx) Try.underlying47 hv h
  obtain ⟨six, _, rfl, hf1⟩ := hf.bool_inv
  obtain ⟨hi, _, rfl, wy, hf2⟩ := hf1.int_inv
  obtain ⟨lo, _, rfl, wz, hf3⟩ := hf2.int_inv
  obtain ⟨six', _, rfl, hf4⟩ := hf3.bool_inv
  obtain ⟨hi', _, rfl, wy', hf5⟩ := hf4.int_inv
  obtain ⟨lo', _, rfl, wz', hf6⟩ := hf5.int_inv
  obtain rfl := hf6.nil_inv
  exact ⟨six, hi, lo, six', hi', lo', rfl, range_u64 wy, range_u64 wz, range_u64 wy', range_u64 wz'⟩

set_option maxRecDepth 100000 in
set_option maxHeartbeats 800000 in
theorem sharePicks_walk {H : Type} {enc : TypeId × Value → H} (W : World) (vs : Array Value) (ds : List (DataW H)) (ps : List MemPlace) (h : ArgsOk Try.prog [24, 47] H enc W vs.toList ds ps) :
    Calls Try.prog 10 vs W fun e W' => e = .returned (.bool true) ∧ Below W.heap.size W W' := by
  obtain ⟨hA, ⟨base, hval⟩, _, _⟩ := h
  obtain ⟨v0, v1, d0, d1, p0, p1, e0, _, _, h0, h1⟩ := trodAll_two hA
  obtain ⟨a0, n, c, rfl⟩ := okWide_slice Try.underlying24 (hval 0 _ v0 rfl (by rw [e0]; rfl))
  obtain ⟨six, hi, lo, six', hi', lo', rfl, b1, b2, b3, b4⟩ := open_flow (hval 1 _ v1 rfl (by rw [e0]; rfl)) h1
  obtain ⟨l, hr, _⟩ := open_intsV h0
  obtain rfl : vs = #[.slice a0 n c, .agg #[.bool six, .int .u64 hi, .int .u64 lo, .bool six', .int .u64 hi', .int .u64 lo']] := by cases vs; simp_all
  obtain ⟨x, k, hc⟩ := pick_both a0 n c l six hi lo six' hi' lo' W b1 b2 b3 b4 hr
  have HC := Lib.hid hc
  clear hr h0 h1 hA hval e0 hc
  go_enter Try.func10, Try.ntmps10
  go_wp2_with fail
  refine (HC.out _ ((Below.refl _ _).alloc (Nat.le_refl _) _)).1.mono ?_
  rintro e w1 ⟨rfl, hb1⟩
  have HB := Lib.hid (balloc1 hb1)
  obtain ⟨fc, ff⟩ := bcell hb1
  clear hb1
  go_wp2_with fail
  refine (HC.out _ HB.out).2.mono ?_
  rintro e w2 ⟨rfl, hb2⟩
  have HB2 := Lib.hid (below_step HB.out hb2)
  clear hb2
  go_wp2
  all_goals go_ret
  all_goals exact ⟨by simp, HB2.out⟩

end Go.Proofs.Ytaeideeimhenmaa
