/-
  
-/
import Derived.Test.YtonelibgaceflaaC10
import Derived.Test.YtonelibgaceflaaC2
import Derived.Test.YtonelibgaceflaaC1
namespace Go.Proofs.Ytonelibgaceflaa
open Go.ChangeShapes Go.WideShapes Go.ChangeAt Go.RowKit

/-- The class of the match at a place; 0: there is none. -/
def clAt (l : List MatchV) (i : Int) : Int := if i < 0 then 0 else match l[i.toNat]? with
  | some m => m.cl
  | none => 0
theorem ret3c {a b c a' b' c' : Int} (h : (a, b, c) = (a', b', c')) : Ending.returned (.tuple #[.int .i64 a, .int .i64 b, .int .i64 c]) = Ending.returned (.tuple #[.int .i64 a', .int .i64 b', .int .i64 c']) := by injection h with h1 h; injection h with h2 h3; rw [h1, h2, h3]
theorem clAt_cases (f : MatchV → Bool) (l : List MatchV) : (firstAt f l = -1 ∧ clAt l (firstAt f l) = 0) ∨ ∃ (k : Nat) (m : MatchV), firstAt f l = k ∧ l[k]? = some m ∧ clAt l (firstAt f l) = m.cl := by
  rcases firstAt_cases f l with ⟨h1, _⟩ | ⟨k, m, h1, h2, _⟩
  · left
    rw [h1]
    exact ⟨rfl, rfl⟩
  · right
    refine ⟨k, m, h1, h2, ?_⟩
    rw [h1]
    unfold clAt
    rw [if_neg (by omega), Int.toNat_natCast, h2]

set_option maxRecDepth 100000 in
set_option maxHeartbeats 800000 in
theorem cfind_bad1 (A : Option Addr) (n c : Nat) (l : List MatchV) (six : Bool) (hi lo : Int) (six' : Bool) (hi' lo' : Int) (w : World) (h1 : 0 ≤ hi ∧ hi < 18446744073709551616) (h2 : 0 ≤ lo ∧ lo < 18446744073709551616) (h3 : 0 ≤ hi' ∧ hi' < 18446744073709551616) (h4 : 0 ≤ lo' ∧ lo' < 18446744073709551616) (h : IsMatches w A n l) (hz : ¬ matchesF l = 0) :
    Calls Try.prog 39 #[.slice A n c, .agg #[.bool six, .int .u64 hi, .int .u64 lo, .bool six', .int .u64 hi', .int .u64 lo']] w fun e w' => e = .returned (.tuple #[.int .i64 0, .int .i64 0, .int .i64 (matchesF l)]) ∧ Below w.heap.size w w' := by
  have HB := (fun (w' : World) (hb : Below w.heap.size w w') => classCheck_is (h.below hb) c)
  obtain ⟨E, hE⟩ : ∃ E, matchesF l = E := ⟨_, rfl⟩
  rw [hE] at hz HB ⊢
  have hzb : (E != 0) = true := by simpa using hz
  have C0 := Lib.hid HB
  clear HB h hE hz
  go_enter Try.func39, Try.ntmps39
  go_wp2_with fail
  refine (C0.out _ ((Below.refl _ _).alloc (Nat.le_refl _) _)).mono ?_
  rintro e w0 ⟨rfl, hb0⟩
  have HB0 := Lib.hid (balloc1 hb0)
  have s0 := bsize1 hb0
  obtain ⟨fc0, ff0⟩ := bcell hb0
  clear hb0
  go_wp2
  go_ret3
  exact ⟨rfl, HB0.out⟩

set_option maxRecDepth 100000 in
set_option maxHeartbeats 800000 in
theorem cfind_bad2 (A : Option Addr) (n c : Nat) (l : List MatchV) (six : Bool) (hi lo : Int) (six' : Bool) (hi' lo' : Int) (w : World) (h1 : 0 ≤ hi ∧ hi < 18446744073709551616) (h2 : 0 ≤ lo ∧ lo < 18446744073709551616) (h3 : 0 ≤ hi' ∧ hi' < 18446744073709551616) (h4 : 0 ≤ lo' ∧ lo' < 18446744073709551616) (h : IsMatches w A n l) (hz : matchesF l = 0) (hm : mayB six hi lo = false) :
    Calls Try.prog 39 #[.slice A n c, .agg #[.bool six, .int .u64 hi, .int .u64 lo, .bool six', .int .u64 hi', .int .u64 lo']] w fun e w' => e = .returned (.tuple #[.int .i64 0, .int .i64 0, .int .i64 4]) ∧ Below w.heap.size w w' := by
  have HB := (fun (w' : World) (hb : Below w.heap.size w w') => classCheck_is (h.below hb) c)
  rw [hz] at HB
  have C0 := Lib.hid HB
  have M1 := (fun w => may_any six hi lo w h2.1)
  rw [hm] at M1
  have C1 := Lib.hid M1
  clear HB M1 h hz hm
  go_enter Try.func39, Try.ntmps39
  go_wp2_with fail
  refine (C0.out _ ((Below.refl _ _).alloc (Nat.le_refl _) _)).mono ?_
  rintro e w0 ⟨rfl, hb0⟩
  have HB0 := Lib.hid (balloc1 hb0)
  have s0 := bsize1 hb0
  obtain ⟨fc0, ff0⟩ := bcell hb0
  clear hb0
  go_wp2_with fail
  refine (C1.out _).mono ?_
  rintro e w1 ⟨rfl, hb1⟩
  have HB1 := Lib.hid (below_step HB0.out hb1)
  obtain ⟨fc1, ff1⟩ := bcell hb1
  have z1 := hb1.size
  have s1 : w.heap.size < w1.heap.size := by omega
  clear hb1
  go_wp2
  go_ret3
  exact ⟨rfl, HB1.out⟩

set_option maxRecDepth 100000 in
set_option maxHeartbeats 800000 in
theorem cfind_bad3 (A : Option Addr) (n c : Nat) (l : List MatchV) (six : Bool) (hi lo : Int) (six' : Bool) (hi' lo' : Int) (w : World) (h1 : 0 ≤ hi ∧ hi < 18446744073709551616) (h2 : 0 ≤ lo ∧ lo < 18446744073709551616) (h3 : 0 ≤ hi' ∧ hi' < 18446744073709551616) (h4 : 0 ≤ lo' ∧ lo' < 18446744073709551616) (h : IsMatches w A n l) (hz : matchesF l = 0) (hm : mayB six hi lo = true) (hm' : mayB six' hi' lo' = false) :
    Calls Try.prog 39 #[.slice A n c, .agg #[.bool six, .int .u64 hi, .int .u64 lo, .bool six', .int .u64 hi', .int .u64 lo']] w fun e w' => e = .returned (.tuple #[.int .i64 0, .int .i64 0, .int .i64 4]) ∧ Below w.heap.size w w' := by
  have HB := (fun (w' : World) (hb : Below w.heap.size w w') => classCheck_is (h.below hb) c)
  rw [hz] at HB
  have C0 := Lib.hid HB
  have M1 := (fun w => may_any six hi lo w h2.1)
  have M2 := (fun w => may_any six' hi' lo' w h4.1)
  rw [hm] at M1
  rw [hm'] at M2
  have C1 := Lib.hid M1
  have C2 := Lib.hid M2
  clear HB M1 M2 h hz hm hm'
  go_enter Try.func39, Try.ntmps39
  go_wp2_with fail
  refine (C0.out _ ((Below.refl _ _).alloc (Nat.le_refl _) _)).mono ?_
  rintro e w0 ⟨rfl, hb0⟩
  have HB0 := Lib.hid (balloc1 hb0)
  have s0 := bsize1 hb0
  obtain ⟨fc0, ff0⟩ := bcell hb0
  clear hb0
  go_wp2_with fail
  refine (C1.out _).mono ?_
  rintro e w1 ⟨rfl, hb1⟩
  have HB1 := Lib.hid (below_step HB0.out hb1)
  obtain ⟨fc1, ff1⟩ := bcell hb1
  have z1 := hb1.size
  have s1 : w.heap.size < w1.heap.size := by omega
  clear hb1
  go_wp2_with fail
  refine (C2.out _).mono ?_
  rintro e w2 ⟨rfl, hb2⟩
  have HB2 := Lib.hid (below_step HB1.out hb2)
  obtain ⟨fc2, ff2⟩ := bcell hb2
  have z2 := hb2.size
  have s2 : w.heap.size < w2.heap.size := by omega
  clear hb2
  go_wp2
  go_ret3
  exact ⟨rfl, HB2.out⟩

set_option maxRecDepth 100000 in
set_option maxHeartbeats 800000 in
theorem cfind_bad4 (A : Option Addr) (n c : Nat) (l : List MatchV) (six : Bool) (hi lo : Int) (six' : Bool) (hi' lo' : Int) (w : World) (h1 : 0 ≤ hi ∧ hi < 18446744073709551616) (h2 : 0 ≤ lo ∧ lo < 18446744073709551616) (h3 : 0 ≤ hi' ∧ hi' < 18446744073709551616) (h4 : 0 ≤ lo' ∧ lo' < 18446744073709551616) (h : IsMatches w A n l) (hz : matchesF l = 0) (hm : mayB six hi lo = true) (hm' : mayB six' hi' lo' = true) (h6 : ¬ six = six') :
    Calls Try.prog 39 #[.slice A n c, .agg #[.bool six, .int .u64 hi, .int .u64 lo, .bool six', .int .u64 hi', .int .u64 lo']] w fun e w' => e = .returned (.tuple #[.int .i64 0, .int .i64 0, .int .i64 6]) ∧ Below w.heap.size w w' := by
  have HB := (fun (w' : World) (hb : Below w.heap.size w w') => classCheck_is (h.below hb) c)
  rw [hz] at HB
  have C0 := Lib.hid HB
  have M1 := (fun w => may_any six hi lo w h2.1)
  have M2 := (fun w => may_any six' hi' lo' w h4.1)
  rw [hm] at M1
  rw [hm'] at M2
  have C1 := Lib.hid M1
  have C2 := Lib.hid M2
  have h6b : (six != six') = true := by simpa using h6
  have h6c : (six == six') = false := by simpa using h6
  clear HB M1 M2 h hz hm hm' h6
  go_enter Try.func39, Try.ntmps39
  go_wp2_with fail
  refine (C0.out _ ((Below.refl _ _).alloc (Nat.le_refl _) _)).mono ?_
  rintro e w0 ⟨rfl, hb0⟩
  have HB0 := Lib.hid (balloc1 hb0)
  have s0 := bsize1 hb0
  obtain ⟨fc0, ff0⟩ := bcell hb0
  clear hb0
  go_wp2_with fail
  refine (C1.out _).mono ?_
  rintro e w1 ⟨rfl, hb1⟩
  have HB1 := Lib.hid (below_step HB0.out hb1)
  obtain ⟨fc1, ff1⟩ := bcell hb1
  have z1 := hb1.size
  have s1 : w.heap.size < w1.heap.size := by omega
  clear hb1
  go_wp2_with fail
  refine (C2.out _).mono ?_
  rintro e w2 ⟨rfl, hb2⟩
  have HB2 := Lib.hid (below_step HB1.out hb2)
  obtain ⟨fc2, ff2⟩ := bcell hb2
  have z2 := hb2.size
  have s2 : w.heap.size < w2.heap.size := by omega
  clear hb2
  go_wp2
  go_ret3
  exact ⟨rfl, HB2.out⟩

set_option maxRecDepth 100000 in
set_option maxHeartbeats 800000 in
theorem cfind_ok (A : Option Addr) (n c : Nat) (l : List MatchV) (six : Bool) (hi lo : Int) (hi' lo' : Int) (w : World) (h1 : 0 ≤ hi ∧ hi < 18446744073709551616) (h2 : 0 ≤ lo ∧ lo < 18446744073709551616) (h3 : 0 ≤ hi' ∧ hi' < 18446744073709551616) (h4 : 0 ≤ lo' ∧ lo' < 18446744073709551616) (h : IsMatches w A n l) (hz : matchesF l = 0) (hm : mayB six hi lo = true) (hm' : mayB six hi' lo' = true) :
    Calls Try.prog 39 #[.slice A n c, .agg #[.bool six, .int .u64 hi, .int .u64 lo, .bool six, .int .u64 hi', .int .u64 lo']] w fun e w' => e = .returned (.tuple #[.int .i64 (clAt l (firstAt (fun m => m.fits ⟨six, hi, lo⟩ ⟨six, hi', lo'⟩) l)), .int .i64 (firstAt (fun m => m.fits ⟨six, hi, lo⟩ ⟨six, hi', lo'⟩) l), .int .i64 0]) ∧ Below w.heap.size w w' := by
  have HB := (fun (w' : World) (hb : Below w.heap.size w w') => classCheck_is (h.below hb) c)
  rw [hz] at HB
  have C0 := Lib.hid HB
  have M1 := (fun w => may_any six hi lo w h2.1)
  have M2 := (fun w => may_any six hi' lo' w h4.1)
  rw [hm] at M1
  rw [hm'] at M2
  have C1 := Lib.hid M1
  have C2 := Lib.hid M2
  have ha : AV.Ok ⟨six, hi, lo⟩ := ⟨h1, h2, hm⟩
  have hb : AV.Ok ⟨six, hi', lo'⟩ := ⟨h3, h4, hm'⟩
  obtain ⟨hlen, hgood⟩ := matchesF_good hz
  have HG := Lib.hid hgood
  have HO := Lib.hid h.2.2.1
  have HZ := Lib.hid h.1
  have HR := Lib.hid h.2.2.2
  have hn30 : n ≤ 30 := by rw [← h.1]; exact hlen
  have CPL := Lib.hid (fun (w' : World) (hb : Below w.heap.size w w') => plant_any (c := c) (h.below hb) hz six)
  have HFF := Lib.hid (fun H0 H1 h0 h1 => found_first (l := l) (a := ⟨six, hi, lo⟩) (b := ⟨six, hi', lo'⟩) (H0 := H0) (H1 := H1) hz h.2.2.1 ha hb rfl h0 h1)
  have HA := Lib.hid ha
  have HBB := Lib.hid hb
  have hca := clAt_cases (fun m => m.fits ⟨six, hi, lo⟩ ⟨six, hi', lo'⟩) l
  obtain ⟨i, hi0⟩ : ∃ i, firstAt (fun m => MatchV.fits m ⟨six, hi, lo⟩ ⟨six, hi', lo'⟩) l = i := ⟨_, rfl⟩
  rw [hi0] at HFF hca ⊢
  obtain ⟨cl, hcl0⟩ : ∃ cl, clAt l i = cl := ⟨_, rfl⟩
  rw [hcl0] at hca ⊢
  have HCA := Lib.hid hca
  clear h hz ha hb hi0 hcl0 hca
  clear HB M1 M2 hm hm' hlen hgood
  go_enter Try.func39, Try.ntmps39
  go_wp2_with fail
  refine (C0.out _ ((Below.refl _ _).alloc (Nat.le_refl _) _)).mono ?_
  rintro e w0 ⟨rfl, hb0⟩
  have HB0 := Lib.hid (balloc1 hb0)
  have s0 := bsize1 hb0
  obtain ⟨fc0, ff0⟩ := bcell hb0
  clear hb0
  go_wp2_with fail
  refine (C1.out _).mono ?_
  rintro e w1 ⟨rfl, hb1⟩
  have HB1 := Lib.hid (below_step HB0.out hb1)
  obtain ⟨fc1, ff1⟩ := bcell hb1
  have z1 := hb1.size
  have s1 : w.heap.size < w1.heap.size := by omega
  clear hb1
  go_wp2_with fail
  refine (C2.out _).mono ?_
  rintro e w2 ⟨rfl, hb2⟩
  have HB2 := Lib.hid (below_step HB1.out hb2)
  obtain ⟨fc2, ff2⟩ := bcell hb2
  have z2 := hb2.size
  have s2 : w.heap.size < w2.heap.size := by omega
  clear hb2
  go_wp2_with fail
  refine (CPL.out _ HB2.out).mono ?_
  rintro e w3 ⟨rfl, ⟨M, H, hP⟩, hb3⟩
  obtain ⟨fc3, ff3⟩ := bcell hb3
  have z3 := hb3.size
  have s3 : w.heap.size < w3.heap.size := by omega
  have HB3 := Lib.hid (below_step HB2.out hb3)
  have hff := HFF.out (H false) (H true) (by have := hP.from_; rw [← HZ.out] at this; exact this) (by have := hP.to_; rw [← HZ.out] at this; exact this)
  have lt0 := orTo_lt (saysTo_lt hP.from_ hn30) six hi lo (widN six)
  have lt1 := orTo_lt (saysTo_lt hP.to_ hn30) six hi' lo' (widN six)
  have D0 := Lib.hid (fun (w' : World) (hb : Below w3.heap.size w3 w') => nodeFind_any (hP.ok.below hb) false ⟨six, hi, lo⟩ HA.out (saysTo_lt hP.from_ hn30))
  have D1 := Lib.hid (fun (w' : World) (hb : Below w3.heap.size w3 w') => nodeFind_any (hP.ok.below hb) true ⟨six, hi', lo'⟩ HBB.out (saysTo_lt hP.to_ hn30))
  simp only [Bool.false_eq_true, if_false] at D0
  simp only [if_true] at D1
  generalize orTo (H false) six hi lo (widN six) = x at *
  generalize orTo (H true) six hi' lo' (widN six) = y at *
  have hxy : x &&& y < 2 ^ 30 := Nat.lt_of_le_of_lt Nat.and_le_left lt0
  have CF := Lib.hid (fun w => setFirst_any (x &&& y) w hxy)
  rw [hff] at CF
  have HAW := Lib.hid (and_words x y lt0 lt1)
  have hw3 := HAW.out
  have hlen3 : w2.heap.size < w3.heap.size ∨ True := .inr trivial
  clear hP hff lt0 lt1 hxy hb3 hlen3
  rcases HCA.out with ⟨rfl, rfl⟩ | ⟨k, m, rfl, hk, rfl⟩
  · go_wp2_with fail
    go_region_held3 (fun w' => (∀ b o, b < w3.heap.size → w'.cell? ⟨b, o, none⟩ = w3.cell? ⟨b, o, none⟩) ∧ w3.heap.size ≤ w'.heap.size ∧ Hid (Below w3.heap.size w3 w'))
      ((first | assumption | exact keep0 _ | exact keep1 (by assumption) (by assumption) | exact keepD (by assumption) | exact keepB (by assumption) (by assumption) | exact keepA (by assumption) _ | exact ⟨fun _ _ _ => rfl, Nat.le_refl _, Below.refl _ _⟩))
      (first | (go_at_call 93; (with_reducible refine (D0.out _ ?hb1).mono ?_); (case hb1 => exact keepBelow (by assumption)); rintro e w4 ⟨rfl, hb4⟩; obtain ⟨fc4, ff4⟩ := bcell hb4; have hz4 := hb4.size) | (go_at_call 93; (with_reducible refine (D1.out _ ?hb1).mono ?_); (case hb1 => exact keepBelow (by assumption)); rintro e w5 ⟨rfl, hb5⟩; obtain ⟨fc5, ff5⟩ := bcell hb5; have hz5 := hb5.size) | (go_at_call 94; (with_reducible refine (CF.out _).mono ?_); rintro e w6 ⟨rfl, rfl⟩))
    all_goals
      go_wp2
      go_ret3
      exact ⟨rfl, HB3.out.trans ((keepBelow (by assumption)).mono HB3.out.size)⟩
  · have hkn : k < n := by
      rcases Nat.lt_or_ge k n with h | h
      · exact h
      · rw [List.getElem?_eq_none (by rw [HZ.out]; exact h)] at hk; cases hk
    obtain ⟨ad, m', rfl, hlk, htk, hmem, hbk, hc0, hcj⟩ := HR.out.atS MatchV.cells_length HZ.out hkn
    rw [hk] at hlk
    injection hlk with hlk
    subst hlk
    have hq8 := hcj 8 _ rfl
    obtain ⟨mcl, hmc⟩ : ∃ mcl, m.cl = mcl := ⟨_, rfl⟩
    rw [hmc] at hq8
    have HMC := Lib.hid hmc
    clear hmc
    have q8 := (HB3.out.cell (p := ⟨(ad.add (k * 9)).block, (ad.add (k * 9)).off + 8, none⟩) (by rw [block_of_add]; exact hbk)).trans hq8
    have hbk3 : (ad.add (k * 9)).block < w3.heap.size := by rw [block_of_add]; have := HB3.out.size; omega
    clear hk htk hmem hc0 hcj hq8
    go_wp2_with fail
    go_region_held3 (fun w' => (∀ b o, b < w3.heap.size → w'.cell? ⟨b, o, none⟩ = w3.cell? ⟨b, o, none⟩) ∧ w3.heap.size ≤ w'.heap.size ∧ Hid (Below w3.heap.size w3 w'))
      ((first | assumption | exact keep0 _ | exact keep1 (by assumption) (by assumption) | exact keepD (by assumption) | exact keepB (by assumption) (by assumption) | exact keepA (by assumption) _ | exact ⟨fun _ _ _ => rfl, Nat.le_refl _, Below.refl _ _⟩))
      (first | (go_at_call 93; (with_reducible refine (D0.out _ ?hb1).mono ?_); (case hb1 => exact keepBelow (by assumption)); rintro e w4 ⟨rfl, hb4⟩; obtain ⟨fc4, ff4⟩ := bcell hb4; have hz4 := hb4.size) | (go_at_call 93; (with_reducible refine (D1.out _ ?hb1).mono ?_); (case hb1 => exact keepBelow (by assumption)); rintro e w5 ⟨rfl, hb5⟩; obtain ⟨fc5, ff5⟩ := bcell hb5; have hz5 := hb5.size) | (go_at_call 94; (with_reducible refine (CF.out _).mono ?_); rintro e w6 ⟨rfl, rfl⟩))
    all_goals
      go_wp2
      go_ret3
      exact ⟨ret3c (by rw [HMC.out]), HB3.out.trans ((keepBelow (by assumption)).mono HB3.out.size)⟩

set_option maxRecDepth 100000 in
set_option maxHeartbeats 800000 in
theorem rfind_bad1 (A : Option Addr) (n c : Nat) (l : List MatchV) (six : Bool) (hi lo : Int) (six' : Bool) (hi' lo' : Int) (w : World) (h1 : 0 ≤ hi ∧ hi < 18446744073709551616) (h2 : 0 ≤ lo ∧ lo < 18446744073709551616) (h3 : 0 ≤ hi' ∧ hi' < 18446744073709551616) (h4 : 0 ≤ lo' ∧ lo' < 18446744073709551616) (h : IsMatches w A n l) (hz : ¬ matchesF l = 0) :
    Calls Try.prog 40 #[.slice A n c, .agg #[.bool six, .int .u64 hi, .int .u64 lo, .bool six', .int .u64 hi', .int .u64 lo']] w fun e w' => e = .returned (.tuple #[.int .i64 0, .int .i64 0, .int .i64 (matchesF l)]) ∧ Below w.heap.size w w' := by
  have HB := (fun (w' : World) (hb : Below w.heap.size w w') => matchesFault_is (h.below hb) c)
  obtain ⟨E, hE⟩ : ∃ E, matchesF l = E := ⟨_, rfl⟩
  rw [hE] at hz HB ⊢
  have hzb : (E != 0) = true := by simpa using hz
  have C0 := Lib.hid HB
  clear HB h hE hz
  go_enter Try.func40, Try.ntmps40
  go_wp2_with fail
  refine (C0.out _ ((Below.refl _ _).alloc (Nat.le_refl _) _)).mono ?_
  rintro e w0 ⟨rfl, hb0⟩
  have HB0 := Lib.hid (balloc1 hb0)
  have s0 := bsize1 hb0
  obtain ⟨fc0, ff0⟩ := bcell hb0
  clear hb0
  go_wp2
  go_ret3
  exact ⟨rfl, HB0.out⟩

set_option maxRecDepth 100000 in
set_option maxHeartbeats 800000 in
theorem rfind_bad2 (A : Option Addr) (n c : Nat) (l : List MatchV) (six : Bool) (hi lo : Int) (six' : Bool) (hi' lo' : Int) (w : World) (h1 : 0 ≤ hi ∧ hi < 18446744073709551616) (h2 : 0 ≤ lo ∧ lo < 18446744073709551616) (h3 : 0 ≤ hi' ∧ hi' < 18446744073709551616) (h4 : 0 ≤ lo' ∧ lo' < 18446744073709551616) (h : IsMatches w A n l) (hz : matchesF l = 0) (hm : mayB six hi lo = false) :
    Calls Try.prog 40 #[.slice A n c, .agg #[.bool six, .int .u64 hi, .int .u64 lo, .bool six', .int .u64 hi', .int .u64 lo']] w fun e w' => e = .returned (.tuple #[.int .i64 0, .int .i64 0, .int .i64 4]) ∧ Below w.heap.size w w' := by
  have HB := (fun (w' : World) (hb : Below w.heap.size w w') => matchesFault_is (h.below hb) c)
  rw [hz] at HB
  have C0 := Lib.hid HB
  have M1 := (fun w => refMay_any six hi lo w h2.1)
  rw [hm] at M1
  have C1 := Lib.hid M1
  clear HB M1 h hz hm
  go_enter Try.func40, Try.ntmps40
  go_wp2_with fail
  refine (C0.out _ ((Below.refl _ _).alloc (Nat.le_refl _) _)).mono ?_
  rintro e w0 ⟨rfl, hb0⟩
  have HB0 := Lib.hid (balloc1 hb0)
  have s0 := bsize1 hb0
  obtain ⟨fc0, ff0⟩ := bcell hb0
  clear hb0
  go_wp2_with fail
  refine (C1.out _).mono ?_
  rintro e w1 ⟨rfl, hb1⟩
  have HB1 := Lib.hid (below_step HB0.out hb1)
  obtain ⟨fc1, ff1⟩ := bcell hb1
  have z1 := hb1.size
  have s1 : w.heap.size < w1.heap.size := by omega
  clear hb1
  go_wp2
  go_ret3
  exact ⟨rfl, HB1.out⟩

set_option maxRecDepth 100000 in
set_option maxHeartbeats 800000 in
theorem rfind_bad3 (A : Option Addr) (n c : Nat) (l : List MatchV) (six : Bool) (hi lo : Int) (six' : Bool) (hi' lo' : Int) (w : World) (h1 : 0 ≤ hi ∧ hi < 18446744073709551616) (h2 : 0 ≤ lo ∧ lo < 18446744073709551616) (h3 : 0 ≤ hi' ∧ hi' < 18446744073709551616) (h4 : 0 ≤ lo' ∧ lo' < 18446744073709551616) (h : IsMatches w A n l) (hz : matchesF l = 0) (hm : mayB six hi lo = true) (hm' : mayB six' hi' lo' = false) :
    Calls Try.prog 40 #[.slice A n c, .agg #[.bool six, .int .u64 hi, .int .u64 lo, .bool six', .int .u64 hi', .int .u64 lo']] w fun e w' => e = .returned (.tuple #[.int .i64 0, .int .i64 0, .int .i64 4]) ∧ Below w.heap.size w w' := by
  have HB := (fun (w' : World) (hb : Below w.heap.size w w') => matchesFault_is (h.below hb) c)
  rw [hz] at HB
  have C0 := Lib.hid HB
  have M1 := (fun w => refMay_any six hi lo w h2.1)
  have M2 := (fun w => refMay_any six' hi' lo' w h4.1)
  rw [hm] at M1
  rw [hm'] at M2
  have C1 := Lib.hid M1
  have C2 := Lib.hid M2
  clear HB M1 M2 h hz hm hm'
  go_enter Try.func40, Try.ntmps40
  go_wp2_with fail
  refine (C0.out _ ((Below.refl _ _).alloc (Nat.le_refl _) _)).mono ?_
  rintro e w0 ⟨rfl, hb0⟩
  have HB0 := Lib.hid (balloc1 hb0)
  have s0 := bsize1 hb0
  obtain ⟨fc0, ff0⟩ := bcell hb0
  clear hb0
  go_wp2_with fail
  refine (C1.out _).mono ?_
  rintro e w1 ⟨rfl, hb1⟩
  have HB1 := Lib.hid (below_step HB0.out hb1)
  obtain ⟨fc1, ff1⟩ := bcell hb1
  have z1 := hb1.size
  have s1 : w.heap.size < w1.heap.size := by omega
  clear hb1
  go_wp2_with fail
  refine (C2.out _).mono ?_
  rintro e w2 ⟨rfl, hb2⟩
  have HB2 := Lib.hid (below_step HB1.out hb2)
  obtain ⟨fc2, ff2⟩ := bcell hb2
  have z2 := hb2.size
  have s2 : w.heap.size < w2.heap.size := by omega
  clear hb2
  go_wp2
  go_ret3
  exact ⟨rfl, HB2.out⟩

set_option maxRecDepth 100000 in
set_option maxHeartbeats 800000 in
theorem rfind_bad4 (A : Option Addr) (n c : Nat) (l : List MatchV) (six : Bool) (hi lo : Int) (six' : Bool) (hi' lo' : Int) (w : World) (h1 : 0 ≤ hi ∧ hi < 18446744073709551616) (h2 : 0 ≤ lo ∧ lo < 18446744073709551616) (h3 : 0 ≤ hi' ∧ hi' < 18446744073709551616) (h4 : 0 ≤ lo' ∧ lo' < 18446744073709551616) (h : IsMatches w A n l) (hz : matchesF l = 0) (hm : mayB six hi lo = true) (hm' : mayB six' hi' lo' = true) (h6 : ¬ six = six') :
    Calls Try.prog 40 #[.slice A n c, .agg #[.bool six, .int .u64 hi, .int .u64 lo, .bool six', .int .u64 hi', .int .u64 lo']] w fun e w' => e = .returned (.tuple #[.int .i64 0, .int .i64 0, .int .i64 6]) ∧ Below w.heap.size w w' := by
  have HB := (fun (w' : World) (hb : Below w.heap.size w w') => matchesFault_is (h.below hb) c)
  rw [hz] at HB
  have C0 := Lib.hid HB
  have M1 := (fun w => refMay_any six hi lo w h2.1)
  have M2 := (fun w => refMay_any six' hi' lo' w h4.1)
  rw [hm] at M1
  rw [hm'] at M2
  have C1 := Lib.hid M1
  have C2 := Lib.hid M2
  have h6b : (six != six') = true := by simpa using h6
  have h6c : (six == six') = false := by simpa using h6
  clear HB M1 M2 h hz hm hm' h6
  go_enter Try.func40, Try.ntmps40
  go_wp2_with fail
  refine (C0.out _ ((Below.refl _ _).alloc (Nat.le_refl _) _)).mono ?_
  rintro e w0 ⟨rfl, hb0⟩
  have HB0 := Lib.hid (balloc1 hb0)
  have s0 := bsize1 hb0
  obtain ⟨fc0, ff0⟩ := bcell hb0
  clear hb0
  go_wp2_with fail
  refine (C1.out _).mono ?_
  rintro e w1 ⟨rfl, hb1⟩
  have HB1 := Lib.hid (below_step HB0.out hb1)
  obtain ⟨fc1, ff1⟩ := bcell hb1
  have z1 := hb1.size
  have s1 : w.heap.size < w1.heap.size := by omega
  clear hb1
  go_wp2_with fail
  refine (C2.out _).mono ?_
  rintro e w2 ⟨rfl, hb2⟩
  have HB2 := Lib.hid (below_step HB1.out hb2)
  obtain ⟨fc2, ff2⟩ := bcell hb2
  have z2 := hb2.size
  have s2 : w.heap.size < w2.heap.size := by omega
  clear hb2
  go_wp2
  go_ret3
  exact ⟨rfl, HB2.out⟩

set_option maxRecDepth 100000 in
set_option maxHeartbeats 800000 in
theorem rfind_ok (A : Option Addr) (n c : Nat) (l : List MatchV) (six : Bool) (hi lo : Int) (hi' lo' : Int) (w : World) (h1 : 0 ≤ hi ∧ hi < 18446744073709551616) (h2 : 0 ≤ lo ∧ lo < 18446744073709551616) (h3 : 0 ≤ hi' ∧ hi' < 18446744073709551616) (h4 : 0 ≤ lo' ∧ lo' < 18446744073709551616) (h : IsMatches w A n l) (hz : matchesF l = 0) (hm : mayB six hi lo = true) (hm' : mayB six hi' lo' = true) :
    Calls Try.prog 40 #[.slice A n c, .agg #[.bool six, .int .u64 hi, .int .u64 lo, .bool six, .int .u64 hi', .int .u64 lo']] w fun e w' => e = .returned (.tuple #[.int .i64 (clAt l (firstAt (fun m => m.fits ⟨six, hi, lo⟩ ⟨six, hi', lo'⟩) l)), .int .i64 (firstAt (fun m => m.fits ⟨six, hi, lo⟩ ⟨six, hi', lo'⟩) l), .int .i64 0]) ∧ Below w.heap.size w w' := by
  have HB := (fun (w' : World) (hb : Below w.heap.size w w') => matchesFault_is (h.below hb) c)
  rw [hz] at HB
  have C0 := Lib.hid HB
  have M1 := (fun w => refMay_any six hi lo w h2.1)
  have M2 := (fun w => refMay_any six hi' lo' w h4.1)
  rw [hm] at M1
  rw [hm'] at M2
  have C1 := Lib.hid M1
  have C2 := Lib.hid M2
  have ha : AV.Ok ⟨six, hi, lo⟩ := ⟨h1, h2, hm⟩
  have hb : AV.Ok ⟨six, hi', lo'⟩ := ⟨h3, h4, hm'⟩
  obtain ⟨hlen, hgood⟩ := matchesF_good hz
  have HG := Lib.hid hgood
  have HO := Lib.hid h.2.2.1
  have HZ := Lib.hid h.1
  have HR := Lib.hid h.2.2.2
  have hn30 : n ≤ 30 := by rw [← h.1]; exact hlen
  have CI := Lib.hid (fun six hi lo n six' hi' lo' w hp h3 h4 h5 => preIn_any six hi lo n six' hi' lo' w hp h3 h4 h5)
  obtain ⟨i, hi0⟩ : ∃ i, firstAt (fun m => MatchV.fits m ⟨six, hi, lo⟩ ⟨six, hi', lo'⟩) l = i := ⟨_, rfl⟩
  rw [hi0]
  obtain ⟨cl, hcl0⟩ : ∃ cl, clAt l i = cl := ⟨_, rfl⟩
  rw [hcl0]
  have HI0 := Lib.hid hi0
  have HCL := Lib.hid hcl0
  have HM1 := Lib.hid hm
  have HM2 := Lib.hid hm'
  clear h hz hi0 hcl0 ha hb
  clear HB M1 M2 hm hm' hlen hgood
  go_enter Try.func40, Try.ntmps40
  go_wp2_with fail
  refine (C0.out _ ((Below.refl _ _).alloc (Nat.le_refl _) _)).mono ?_
  rintro e w0 ⟨rfl, hb0⟩
  have HB0 := Lib.hid (balloc1 hb0)
  have s0 := bsize1 hb0
  obtain ⟨fc0, ff0⟩ := bcell hb0
  clear hb0
  go_wp2_with fail
  refine (C1.out _).mono ?_
  rintro e w1 ⟨rfl, hb1⟩
  have HB1 := Lib.hid (below_step HB0.out hb1)
  obtain ⟨fc1, ff1⟩ := bcell hb1
  have z1 := hb1.size
  have s1 : w.heap.size < w1.heap.size := by omega
  clear hb1
  go_wp2_with fail
  refine (C2.out _).mono ?_
  rintro e w2 ⟨rfl, hb2⟩
  have HB2 := Lib.hid (below_step HB1.out hb2)
  obtain ⟨fc2, ff2⟩ := bcell hb2
  have z2 := hb2.size
  have s2 : w.heap.size < w2.heap.size := by omega
  clear hb2
  go_wp2
  go_loopw [34, 8, 9] (fun i _ _ wr => ∃ k : Nat, k ≤ n ∧ i = .int .i64 k ∧ NoneYet (fun m => m.fits ⟨six, hi, lo⟩ ⟨six, hi', lo'⟩) l k ∧ Below w2.heap.size w2 wr) (fun i _ _ _ => n - (intOf i).toNat)
  case atStart => exact ⟨0, by omega, rfl, noneYet_zero _ _, Below.refl _ _⟩
  case round =>
    obtain ⟨k, hk, rfl, hto, hb⟩ := hrel
    have HN := Lib.hid hto
    have HBW := Lib.hid hb
    obtain ⟨fcr, ffr⟩ := bcell hb
    have hsz := hb.size
    have hb0 := HB2.out.trans (hb.mono HB2.out.size)
    clear hto
    by_cases hlt : k < n
    · obtain ⟨ad, ⟨msix, mhi, mlo, mn, msix2, mhi2, mlo2, mn2, mcl⟩, rfl, hlk, htk, hmem, hbk, hc0, hcj⟩ := HR.out.atS MatchV.cells_length HZ.out hlt
      have q0 := (hb0.cell (p := ad.add (k * 9)) (by rw [block_of_add]; exact hbk)).trans (hc0 _ rfl)
      have q1 := (hb0.cell (p := ⟨(ad.add (k * 9)).block, (ad.add (k * 9)).off + 1, none⟩) (by rw [block_of_add]; exact hbk)).trans (hcj 1 _ rfl)
      have q2 := (hb0.cell (p := ⟨(ad.add (k * 9)).block, (ad.add (k * 9)).off + 2, none⟩) (by rw [block_of_add]; exact hbk)).trans (hcj 2 _ rfl)
      have q3 := (hb0.cell (p := ⟨(ad.add (k * 9)).block, (ad.add (k * 9)).off + 3, none⟩) (by rw [block_of_add]; exact hbk)).trans (hcj 3 _ rfl)
      have q4 := (hb0.cell (p := ⟨(ad.add (k * 9)).block, (ad.add (k * 9)).off + 4, none⟩) (by rw [block_of_add]; exact hbk)).trans (hcj 4 _ rfl)
      have q5 := (hb0.cell (p := ⟨(ad.add (k * 9)).block, (ad.add (k * 9)).off + 5, none⟩) (by rw [block_of_add]; exact hbk)).trans (hcj 5 _ rfl)
      have q6 := (hb0.cell (p := ⟨(ad.add (k * 9)).block, (ad.add (k * 9)).off + 6, none⟩) (by rw [block_of_add]; exact hbk)).trans (hcj 6 _ rfl)
      have q7 := (hb0.cell (p := ⟨(ad.add (k * 9)).block, (ad.add (k * 9)).off + 7, none⟩) (by rw [block_of_add]; exact hbk)).trans (hcj 7 _ rfl)
      have q8 := (hb0.cell (p := ⟨(ad.add (k * 9)).block, (ad.add (k * 9)).off + 8, none⟩) (by rw [block_of_add]; exact hbk)).trans (hcj 8 _ rfl)
      obtain ⟨g1, g2, g3, _, _⟩ := HG.out _ hmem
      obtain ⟨o1, o2, o3, o4⟩ := HO.out _ hmem
      simp only at g1 g2 g3 o1 o2 o3 o4
      have p1 := chk_zero o1 o2 g1
      have p2 := chk_zero o3 o4 g2
      obtain ⟨m1, rfl⟩ : ∃ m : Nat, mn = m := ⟨mn.toNat, by have := p1.len; omega⟩
      obtain ⟨m2, rfl⟩ : ∃ m : Nat, mn2 = m := ⟨mn2.toNat, by have := p2.len; omega⟩
      have I1 := Lib.hid (fun w => CI.out msix mhi mlo m1 six hi lo w p1 h1 h2 HM1.out)
      have I2 := Lib.hid (fun w => CI.out msix2 mhi2 mlo2 m2 six hi' lo' w p2 h3 h4 HM2.out)
      have hfit : Hid (MatchV.fits ⟨msix, mhi, mlo, m1, msix2, mhi2, mlo2, m2, mcl⟩ ⟨six, hi, lo⟩ ⟨six, hi', lo'⟩ = (inB msix mhi mlo m1 six hi lo && inB msix2 mhi2 mlo2 m2 six hi' lo')) := rfl
      have HL := Lib.hid hlk
      have HK := Lib.hid htk
      have hbk2 : ad.block < wr.heap.size := by have := hb0.size; omega
      have hs0 : w.heap.size < wr.heap.size := by omega
      clear hlk htk hmem hbk hc0 hcj g1 g2 g3 o1 o2 o3 o4 p1 p2 hb hb0
      generalize inB msix mhi mlo m1 six hi lo = x at *
      generalize inB msix2 mhi2 mlo2 m2 six hi' lo' = y at *
      cases x with
      | false =>
        have HN2 := Lib.hid (noneYet_succ HN.out HK.out (by rw [hfit.out]; rfl))
        go_wp2_with fail
        refine (I1.out _).mono ?_
        rintro e w4 ⟨rfl, hb4⟩
        have HB4 := Lib.hid (HBW.out.trans ((balloc1 hb4).mono HBW.out.size))
        clear hb4
        go_wp2
        go_roundw
        case rel => exact ⟨k + 1, by omega, by go_num, HN2.out, HB4.out⟩
        case measure => simp [intOf]; omega
      | true =>
        cases y with
        | false =>
          have HN2 := Lib.hid (noneYet_succ HN.out HK.out (by rw [hfit.out]; rfl))
          go_wp2_with fail
          refine (I1.out _).mono ?_
          rintro e w4 ⟨rfl, hb4⟩
          obtain ⟨fc4, ff4⟩ := bcell hb4
          have s4 := bsize1 hb4
          have HB4 := Lib.hid (HBW.out.trans ((balloc1 hb4).mono HBW.out.size))
          clear hb4
          go_wp2_with fail
          refine (I2.out _).mono ?_
          rintro e w5 ⟨rfl, hb5⟩
          have HB5 := Lib.hid (below_step HB4.out hb5)
          clear hb5
          go_wp2
          go_roundw
          case rel => exact ⟨k + 1, by omega, by go_num, HN2.out, HB5.out⟩
          case measure => simp [intOf]; omega
        | true =>
          have HN2 := Lib.hid (firstAt_at HN.out HL.out (by rw [hfit.out]; rfl))
          have hcl2 : Hid (clAt l k = mcl) := by show _ = _; unfold clAt; rw [if_neg (by omega), Int.toNat_natCast, HL.out]
          go_wp2_with fail
          refine (I1.out _).mono ?_
          rintro e w4 ⟨rfl, hb4⟩
          obtain ⟨fc4, ff4⟩ := bcell hb4
          have s4 := bsize1 hb4
          have HB4 := Lib.hid (HBW.out.trans ((balloc1 hb4).mono HBW.out.size))
          clear hb4
          go_wp2_with fail
          refine (I2.out _).mono ?_
          rintro e w5 ⟨rfl, hb5⟩
          obtain ⟨fc5, ff5⟩ := bcell hb5
          have s5 := hb5.size
          have s6 : wr.heap.size < w5.heap.size := by omega
          have HB5 := Lib.hid (below_step HB4.out hb5)
          clear hb5
          go_wp2
          go_ret3
          exact ⟨ret3c (by rw [← HCL.out, ← HI0.out, HN2.out, hcl2.out]), HB2.out.trans (HB5.out.mono HB2.out.size)⟩
    · obtain rfl : k = n := by omega
      have HN2 := Lib.hid (firstAt_end HN.out HZ.out)
      have HBE := Lib.hid hb0
      go_wp2
      go_ret3
      exact ⟨ret3c (by rw [← HCL.out, ← HI0.out, HN2.out]; rfl), HBE.out⟩

/-- What both say: class, place, error. -/
def findR (l : List MatchV) (six : Bool) (hi lo : Int) (six' : Bool) (hi' lo' : Int) : Int × Int × Int :=
  if ¬ matchesF l = 0 then (0, 0, matchesF l) else if mayB six hi lo = false then (0, 0, 4) else if mayB six' hi' lo' = false then (0, 0, 4) else if ¬ six = six' then (0, 0, 6)
  else (clAt l (firstAt (fun m => m.fits ⟨six, hi, lo⟩ ⟨six, hi', lo'⟩) l), firstAt (fun m => m.fits ⟨six, hi, lo⟩ ⟨six, hi', lo'⟩) l, 0)

theorem cfind_is (A : Option Addr) (n c : Nat) (l : List MatchV) (six : Bool) (hi lo : Int) (six' : Bool) (hi' lo' : Int) (w : World) (h1 : 0 ≤ hi ∧ hi < 18446744073709551616) (h2 : 0 ≤ lo ∧ lo < 18446744073709551616) (h3 : 0 ≤ hi' ∧ hi' < 18446744073709551616) (h4 : 0 ≤ lo' ∧ lo' < 18446744073709551616) (h : IsMatches w A n l) :
    Calls Try.prog 39 #[.slice A n c, .agg #[.bool six, .int .u64 hi, .int .u64 lo, .bool six', .int .u64 hi', .int .u64 lo']] w fun e w' => e = .returned (.tuple #[.int .i64 (findR l six hi lo six' hi' lo').1, .int .i64 (findR l six hi lo six' hi' lo').2.1, .int .i64 (findR l six hi lo six' hi' lo').2.2]) ∧ Below w.heap.size w w' := by
  unfold findR
  by_cases hz : matchesF l = 0
  · rw [if_neg (by simp [hz])]
    cases hm : mayB six hi lo with
    | false => rw [if_pos rfl]; exact cfind_bad2 A n c l six hi lo six' hi' lo' w h1 h2 h3 h4 h hz hm
    | true =>
      rw [if_neg (by simp)]
      cases hm' : mayB six' hi' lo' with
      | false => rw [if_pos rfl]; exact cfind_bad3 A n c l six hi lo six' hi' lo' w h1 h2 h3 h4 h hz hm hm'
      | true =>
        rw [if_neg (by simp)]
        by_cases h6 : six = six'
        · subst h6
          rw [if_neg (by simp)]
          exact cfind_ok A n c l six hi lo hi' lo' w h1 h2 h3 h4 h hz hm hm'
        · rw [if_pos h6]; exact cfind_bad4 A n c l six hi lo six' hi' lo' w h1 h2 h3 h4 h hz hm hm' h6
  · rw [if_pos hz]; exact cfind_bad1 A n c l six hi lo six' hi' lo' w h1 h2 h3 h4 h hz

theorem rfind_is (A : Option Addr) (n c : Nat) (l : List MatchV) (six : Bool) (hi lo : Int) (six' : Bool) (hi' lo' : Int) (w : World) (h1 : 0 ≤ hi ∧ hi < 18446744073709551616) (h2 : 0 ≤ lo ∧ lo < 18446744073709551616) (h3 : 0 ≤ hi' ∧ hi' < 18446744073709551616) (h4 : 0 ≤ lo' ∧ lo' < 18446744073709551616) (h : IsMatches w A n l) :
    Calls Try.prog 40 #[.slice A n c, .agg #[.bool six, .int .u64 hi, .int .u64 lo, .bool six', .int .u64 hi', .int .u64 lo']] w fun e w' => e = .returned (.tuple #[.int .i64 (findR l six hi lo six' hi' lo').1, .int .i64 (findR l six hi lo six' hi' lo').2.1, .int .i64 (findR l six hi lo six' hi' lo').2.2]) ∧ Below w.heap.size w w' := by
  unfold findR
  by_cases hz : matchesF l = 0
  · rw [if_neg (by simp [hz])]
    cases hm : mayB six hi lo with
    | false => rw [if_pos rfl]; exact rfind_bad2 A n c l six hi lo six' hi' lo' w h1 h2 h3 h4 h hz hm
    | true =>
      rw [if_neg (by simp)]
      cases hm' : mayB six' hi' lo' with
      | false => rw [if_pos rfl]; exact rfind_bad3 A n c l six hi lo six' hi' lo' w h1 h2 h3 h4 h hz hm hm'
      | true =>
        rw [if_neg (by simp)]
        by_cases h6 : six = six'
        · subst h6
          rw [if_neg (by simp)]
          exact rfind_ok A n c l six hi lo hi' lo' w h1 h2 h3 h4 h hz hm hm'
        · rw [if_pos h6]; exact rfind_bad4 A n c l six hi lo six' hi' lo' w h1 h2 h3 h4 h hz hm hm' h6
  · rw [if_pos hz]; exact rfind_bad1 A n c l six hi lo six' hi' lo' w h1 h2 h3 h4 h hz

set_option maxRecDepth 100000 in
theorem open_flowC {H : Type} {enc : TypeId × Value → H} {W : World} {base : Nat} {sp : Nat → Bool} {held : Bool} {b0 : Nat} {v : Value} {d : DataW H} {p : List MemPlace}
    (hv : Value.okWide Try.prog W .any b0 64 v) (h : DataW.Trod enc Try.prog W base sp held 64 v d p) :
    ∃ six hi lo six' hi' lo', v = .agg #[.bool six, .int .u64 hi, .int .u64 lo, .bool six', .int .u64 hi', .int .u64 lo'] ∧ (0 ≤ hi ∧ hi < 18446744073709551616) ∧ (0 ≤ lo ∧ lo < 18446744073709551616) ∧ (0 ≤ hi' ∧ hi' < 18446744073709551616) ∧ (0 ≤ lo' ∧ lo' < 18446744073709551616) := by
  have hc : Try.prog.cellsOf 64 = 6 := by kernel_rfl
  have hk : flat Try.prog 9 64 = some [none, some .u64, some .u64, none, some .u64, some .u64] := by kernel_rfl
  obtain ⟨cs, rfl, hf⟩ := open_flat (fun fuel cs x hl hx => trod_flat 9 _ _ fuel cs x hk hl (by rw [hc]; rfl) hx) Try.underlying64 hv h
  obtain ⟨six, _, rfl, hf1⟩ := hf.bool_inv
  obtain ⟨hi, _, rfl, wy, hf2⟩ := hf1.int_inv
  obtain ⟨lo, _, rfl, wz, hf3⟩ := hf2.int_inv
  obtain ⟨six', _, rfl, hf4⟩ := hf3.bool_inv
  obtain ⟨hi', _, rfl, wy', hf5⟩ := hf4.int_inv
  obtain ⟨lo', _, rfl, wz', hf6⟩ := hf5.int_inv
  obtain rfl := hf6.nil_inv
  exact ⟨six, hi, lo, six', hi', lo', rfl, range_u64 wy, range_u64 wz, range_u64 wy', range_u64 wz'⟩

set_option maxRecDepth 100000 in
set_option maxHeartbeats 800000 in
theorem classFinds_walk {H : Type} {enc : TypeId × Value → H} (W : World) (vs : Array Value) (ds : List (DataW H)) (ps : List MemPlace) (h : ArgsOk Try.prog [60, 64] H enc W vs.toList ds ps) :
    Calls Try.prog 8 vs W fun e W' => e = .returned (.bool true) ∧ Below W.heap.size W W' := by
  obtain ⟨hA, ⟨base, hval⟩, _, _⟩ := h
  obtain ⟨v0, v1, d0, d1, p0, p1, e0, _, _, h0, h1⟩ := trodAll_two hA
  obtain ⟨a0, n, c, rfl⟩ := okWide_slice Try.underlying60 (hval 0 _ v0 rfl (by rw [e0]; rfl))
  obtain ⟨l, hr⟩ := open_matches h0
  obtain ⟨six, hi, lo, six', hi', lo', rfl, b1, b2, b3, b4⟩ := open_flowC (hval 1 _ v1 rfl (by rw [e0]; rfl)) h1
  obtain rfl : vs = #[.slice a0 n c, .agg #[.bool six, .int .u64 hi, .int .u64 lo, .bool six', .int .u64 hi', .int .u64 lo']] := by cases vs; simp_all
  have C1 := Lib.hid (fun (w : World) (hb : Below W.heap.size W w) => cfind_is a0 n c l six hi lo six' hi' lo' w b1 b2 b3 b4 (hr.below hb))
  have C2 := Lib.hid (fun (w : World) (hb : Below W.heap.size W w) => rfind_is a0 n c l six hi lo six' hi' lo' w b1 b2 b3 b4 (hr.below hb))
  generalize findR l six hi lo six' hi' lo' = r at *
  obtain ⟨x, y, z⟩ := r
  simp only at C1 C2
  clear hr h0 h1 hA hval e0
  go_enter Try.func8, Try.ntmps8
  go_wp2_with fail
  refine (C1.out _ ((Below.refl _ _).alloc (Nat.le_refl _) _)).mono ?_
  rintro e w1 ⟨rfl, hb1⟩
  obtain ⟨fc, ff⟩ := bcell hb1
  have s1 := bsize1 hb1
  have HB1 := Lib.hid (balloc1 hb1)
  clear hb1
  go_wp2_with fail
  refine (C2.out _ HB1.out).mono ?_
  rintro e w2 ⟨rfl, hb2⟩
  have HB2 := Lib.hid (below_step HB1.out hb2)
  clear hb2
  go_wp2
  all_goals first | (go_ret; exact ⟨by simp, HB2.out⟩) | (go_quiet (fail); go_wp2; go_ret; exact ⟨by simp, HB2.out.drewN _⟩)

end Go.Proofs.Ytonelibgaceflaa
