/-
  Proved here: the walk of the law ImageSums.
-/
import Derived.Test.YtaeideeimhenmaaChecked
import Derived.Test.YtaeideeimhenmaaMem
import Derived.Test.YtaeideeimhenmaaSumPlain
import Derived.Test.YtaeideeimhenmaaBits
namespace Go.Proofs.Ytaeideeimhenmaa
open Go.ChangeShapes Go.WideShapes Go.ChangeAt Go.RowKit

def sumOf (l : List Int) : Int := sB l % 65521 * 65536 + sA l % 65521

set_option maxHeartbeats 400000 in
theorem sum_any (A : Option Addr) (n c : Nat) (zs : List Int) (w : World) (hn : n ≤ 3600) (hb : ∀ x ∈ zs, 0 ≤ x ∧ x ≤ 255) (hz : zs.length = n) (hr : Reads w w.heap.size 1 A n (zs.map (Value.int .u8))) :
    Calls Try.prog 37 #[.slice A n c] w fun e w' => e = .returned (.int .u32 (sumOf zs)) ∧ w' = w := by
  have HB := Lib.hid hb
  have HZ := Lib.hid hz
  have HR := Lib.hid hr
  clear hb hz hr
  go_enter Try.func37, Try.ntmps37
  go_wp2
  go_loop [3, 4, 9] (fun a b i => ∃ k : Nat, k ≤ n ∧ i = .int .i64 k ∧ a = .int .u32 (sA (zs.take k) % 65521) ∧ b = .int .u32 (sB (zs.take k) % 65521)) (fun _ _ i => n - (intOf i).toNat)
  case atStart => exact ⟨0, by omega, rfl, rfl, rfl⟩
  case round =>
    obtain ⟨k, hk, rfl, rfl, rfl⟩ := hrel
    by_cases hlt : k < n
    · obtain ⟨ad, x, rfl, hc, e1, _, hm⟩ := HR.out.at1 hlt
      have hx := HB.out x hm
      have ea : Hid (sA (zs.take (k + 1)) = sA (zs.take k) + x) := by show _ = _; rw [e1, sA_snoc]
      have eb : Hid (sB (zs.take (k + 1)) = sB (zs.take k) + (sA (zs.take k) + x)) := by show _ = _; rw [e1, sB_snoc]
      clear e1
      go_wp2
      go_round
      case rel => exact ⟨k + 1, by omega, by go_num, by rw [ea.out]; simp, by rw [eb.out]; simp⟩
      case measure => simp [intOf]; omega
    · obtain rfl : k = n := by omega
      go_wp2
      have e0 : zs.take k = zs := by rw [← HZ.out]; exact List.take_length
      go_ret
      refine ⟨ret_int ?_, rfl⟩
      rw [e0, or_u32 _ _ (by omega) (by omega) (by omega) (by omega)]
      rfl

set_option maxHeartbeats 400000 in
theorem imageSum_big (A : Option Addr) (n c : Nat) (w : World) (hn : 3600 < n) (hm : n ≤ maxLen) :
    Calls Try.prog 17 #[.slice A n c] w fun e w' => e = .returned (.tuple #[.int .i64 0, .int .i64 1]) ∧ w' = w := by
  unfold maxLen at hm
  go_enter Try.func17, Try.ntmps17
  go_wp2
  go_ret2
  exact ⟨rfl, rfl⟩

theorem sumOf_range (l : List Int) : 0 ≤ sumOf l ∧ sumOf l < 4294967296 := by unfold sumOf; omega

set_option maxHeartbeats 400000 in
theorem imageSum_any (A : Option Addr) (n c : Nat) (zs : List Int) (w : World) (hn : n ≤ 3600) (hb : ∀ x ∈ zs, 0 ≤ x ∧ x ≤ 255) (hz : zs.length = n) (hr : Reads w w.heap.size 1 A n (zs.map (Value.int .u8))) :
    Calls Try.prog 17 #[.slice A n c] w fun e w' => e = .returned (.tuple #[.int .i64 (sumOf zs), .int .i64 0]) ∧ w' = w := by
  have hc := sum_any A n c zs w hn hb hz hr
  have HB := Lib.hid hb
  have HZ := Lib.hid hz
  have HR := Lib.hid hr
  have HC := Lib.hid hc
  have hs := sumOf_range zs
  clear hb hz hr hc
  go_enter Try.func17, Try.ntmps17
  go_wp2_with (go_at_call 37; refine HC.out.mono ?_; rintro e w' ⟨rfl, rfl⟩)
  go_ret2
  exact ⟨rfl, rfl⟩

set_option maxHeartbeats 400000 in
theorem refSum_big (A : Option Addr) (n c : Nat) (w : World) (hn : 3600 < n) (hm : n ≤ maxLen) :
    Calls Try.prog 18 #[.slice A n c] w fun e w' => e = .returned (.tuple #[.int .i64 0, .int .i64 1]) ∧ w' = w := by
  unfold maxLen at hm
  go_enter Try.func18, Try.ntmps18
  go_wp2
  go_ret2
  exact ⟨rfl, rfl⟩

/-- What the reference has in its second sum behind the bytes of l, of n bytes in all. -/
def rB (n : Int) (l : List Int) : Int := sB l + (n - l.length) * sA l
theorem rB_nil (n : Int) : rB n [] = n := by simp [rB, sA_nil, sB_nil]
theorem rB_snoc (n : Int) (l : List Int) (x : Int) : rB n (l ++ [x]) = rB n l + (n - l.length) * x := by
  unfold rB
  rw [sA_snoc, sB_snoc]
  have h1 : ((l ++ [x]).length : Int) = (l.length : Int) + 1 := by simp
  rw [h1]
  generalize (l.length : Int) = m
  generalize sA l = a
  have e1 : (n - (m + 1)) * (a + x) = (n - m) * a + (n - m) * x - a - x := by
    rw [show n - (m + 1) = (n - m) - 1 from by omega, Int.sub_mul, Int.mul_add, Int.one_mul]
    omega
  omega
theorem rB_bound (n : Nat) (hn : n ≤ 3600) (l : List Int) (hl : l.length ≤ n) (h : ∀ x ∈ l, 0 ≤ x ∧ x ≤ 255) : 0 ≤ rB n l ∧ rB n l ≤ n + 918000 * (l.length : Int) := by
  induction hk : l.length generalizing l with
  | zero =>
    have : l = [] := List.eq_nil_of_length_eq_zero hk
    subst this
    rw [rB_nil]
    omega
  | succ m ih =>
    rcases List.eq_nil_or_concat l with rfl | ⟨l', x, rfl⟩
    · simp at hk
    · simp only [List.concat_eq_append, List.length_append, List.length_cons, List.length_nil] at hk hl h ⊢
      have h1 := h x (by simp)
      have h2 := ih l' (by omega) (fun y hy => h y (by simp [hy])) (by omega)
      rw [rB_snoc]
      have e : (0 : Int) ≤ ((n : Int) - l'.length) * x := Int.mul_nonneg (by omega) h1.1
      have e2 : ((n : Int) - l'.length) * x ≤ 3600 * 255 := Int.mul_le_mul (by omega) h1.2 h1.1 (by omega)
      omega

set_option maxHeartbeats 400000 in
theorem refSum_any (A : Option Addr) (n c : Nat) (zs : List Int) (w : World) (hn : n ≤ 3600) (hb : ∀ x ∈ zs, 0 ≤ x ∧ x ≤ 255) (hz : zs.length = n) (hr : Reads w w.heap.size 1 A n (zs.map (Value.int .u8))) :
    Calls Try.prog 18 #[.slice A n c] w fun e w' => e = .returned (.tuple #[.int .i64 (sumOf zs), .int .i64 0]) ∧ w' = w := by
  have HB := Lib.hid hb
  have HZ := Lib.hid hz
  have HR := Lib.hid hr
  clear hb hz hr
  go_enter Try.func18, Try.ntmps18
  go_wp2
  go_loop [4, 5, 15] (fun a b i => ∃ k : Nat, k ≤ n ∧ i = .int .i64 k ∧ a = .int .i64 (sA (zs.take k)) ∧ b = .int .i64 (rB n (zs.take k))) (fun _ _ i => n - (intOf i).toNat)
  case atStart => exact ⟨0, by omega, rfl, rfl, by simp [rB_nil]⟩
  case round =>
    obtain ⟨k, hk, rfl, rfl, rfl⟩ := hrel
    have hl : (zs.take k).length = k := by rw [List.length_take, HZ.out]; omega
    have ba := sA_bound (zs.take k) (fun x hx => HB.out x (List.mem_of_mem_take hx))
    have bb := rB_bound n hn (zs.take k) (by omega) (fun x hx => HB.out x (List.mem_of_mem_take hx))
    rw [hl] at ba bb
    have HL := Lib.hid hl
    clear hl
    by_cases hlt : k < n
    · obtain ⟨ad, x, rfl, hc, e1, _, hm⟩ := HR.out.at1 hlt
      have hx := HB.out x hm
      have ea : Hid (sA (zs.take (k + 1)) = sA (zs.take k) + x) := by show _ = _; rw [e1, sA_snoc]
      have eb : Hid (rB n (zs.take (k + 1)) = rB n (zs.take k) + ((n : Int) - k) * x) := by show _ = _; rw [e1, rB_snoc, HL.out]
      clear e1
      have p1 : 0 ≤ ((n : Int) - k) * x := Int.mul_nonneg (by omega) hx.1
      have p2 : ((n : Int) - k) * x ≤ 918000 := Int.le_trans (Int.mul_le_mul (by omega : (n : Int) - k ≤ 3600) hx.2 hx.1 (by omega)) (by omega)
      go_wp2
      go_round
      case rel => exact ⟨k + 1, by omega, by go_num, by rw [ea.out], by rw [eb.out]⟩
      case measure => simp [intOf]; omega
    · obtain rfl : k = n := by omega
      have e0 : zs.take k = zs := by rw [← HZ.out]; exact List.take_length
      have er : rB k zs = sB zs := by unfold rB; rw [HZ.out]; simp
      have E0 := Lib.hid e0
      have ER := Lib.hid er
      clear e0 er
      go_wp2
      go_ret2
      refine ⟨?_, rfl⟩
      rw [E0.out, ER.out]
      rfl

/-- Bytes that came in. -/
theorem open_bytes {H : Type} {enc : TypeId × Value → H} {W : World} {base : Nat} {sp : Nat → Bool} {held : Bool} {a0 : Option Addr} {len0 cap0 : Nat} {d : DataW H} {p : List MemPlace}
    (h : DataW.Trod enc Try.prog W base sp held 30 (.slice a0 len0 cap0) d p) :
    ∃ zs : List Int, Reads W W.heap.size 1 a0 len0 (zs.map (Value.int .u8)) ∧ zs.length = len0 ∧ (∀ x ∈ zs, 0 ≤ x ∧ x ≤ 255) ∧ len0 ≤ maxLen := by
  obtain ⟨css, hcl, hfit, hr, hl, hm⟩ := open_flats (ks := [some .u8]) Try.underlying30 (by kernel_rfl) (by kernel_rfl) (by simp) h
  obtain ⟨zs, rfl, hz⟩ := choose_list (f := fun z : Int => [Value.int .u8 z]) (Q := fun z => 0 ≤ z ∧ z ≤ 255) css (fun cs hc => by
    match cs, hfit cs hc with
    | [_], ⟨⟨z, rfl, wz⟩, _⟩ => exact ⟨z, bounds_u8 wz, rfl⟩)
  refine ⟨zs, ?_, by simpa using hcl, hz, by omega⟩
  have e : (zs.map (fun z : Int => [Value.int .u8 z])).flatten = zs.map (Value.int .u8) := by
    clear hr hfit hcl hz
    induction zs with
    | nil => rfl
    | cons z zs ih => simp only [List.map_cons, List.flatten_cons, ih]; rfl
  rwa [e] at hr

set_option maxHeartbeats 400000 in
theorem imageSums_any (A : Option Addr) (n c : Nat) (zs : List Int) (w : World) (hb : ∀ x ∈ zs, 0 ≤ x ∧ x ≤ 255) (hz : zs.length = n) (hr : Reads w w.heap.size 1 A n (zs.map (Value.int .u8))) (hm : n ≤ maxLen) :
    Calls Try.prog 5 #[.slice A n c] w fun e w' => e = .returned (.bool true) ∧ Below w.heap.size w w' := by
  by_cases hn : n ≤ 3600
  · have hc := imageSum_any A n c zs w hn hb hz hr
    have hd := refSum_any A n c zs w hn hb hz hr
    have HC := Lib.hid hc
    have HD := Lib.hid hd
    clear hb hz hr hc hd
    go_enter Try.func5, Try.ntmps5
    go_wp2_with (first | (go_at_call 17; refine HC.out.mono ?_; rintro e w' ⟨rfl, rfl⟩) | (go_at_call 18; refine HD.out.mono ?_; rintro e w' ⟨rfl, rfl⟩))
    go_ret
    exact ⟨by simp, Below.refl _ _⟩
  · have hc := imageSum_big A n c w (by omega) hm
    have hd := refSum_big A n c w (by omega) hm
    have HC := Lib.hid hc
    have HD := Lib.hid hd
    clear hb hz hr hc hd
    go_enter Try.func5, Try.ntmps5
    go_wp2_with (first | (go_at_call 17; refine HC.out.mono ?_; rintro e w' ⟨rfl, rfl⟩) | (go_at_call 18; refine HD.out.mono ?_; rintro e w' ⟨rfl, rfl⟩))
    go_ret
    exact ⟨by simp, Below.refl _ _⟩

theorem imageSums_walk {H : Type} {enc : TypeId × Value → H} (W : World) (vs : Array Value) (ds : List (DataW H)) (ps : List MemPlace) (h : ArgsOk Try.prog [30] H enc W vs.toList ds ps) :
    Calls Try.prog 5 vs W fun e W' => e = .returned (.bool true) ∧ Below W.heap.size W W' := by
  obtain ⟨hA, ⟨base, hval⟩, _, _⟩ := h
  obtain ⟨v0, d0, e0, _, h0⟩ := trodAll_one hA
  obtain ⟨a0, n, c, rfl⟩ := okWide_slice Try.underlying30 (hval 0 _ v0 rfl (by rw [e0]; rfl))
  obtain ⟨zs, hr, hz, hb, hm⟩ := open_bytes h0
  obtain rfl : vs = #[.slice a0 n c] := by cases vs; simp_all
  exact imageSums_any a0 n c zs W hb hz hr hm
end Go.Proofs.Ytaeideeimhenmaa
