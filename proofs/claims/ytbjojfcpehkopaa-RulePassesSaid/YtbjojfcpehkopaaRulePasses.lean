/-
  Proved here: the contracts of rules.pass, rules.Pass and of the reference's ruleFits and RulesPass; the walk of the law RulePasses.
-/
import Derived.Test.YtbjojfcpehkopaaRuleP
import Derived.Test.YtbjojfcpehkopaaRefOver
namespace Go.Proofs.Ytbjojfcpehkopaa
open Go.ChangeShapes Go.WideShapes Go.ChangeAt Go.RowKit

theorem rulesE_all : ∀ {l : List RuleV}, rulesE l = 0 → ∀ r ∈ l, r.fault = 0
  | [], _, r, hr => by simp at hr
  | x :: l, h, r, hr => by
    unfold rulesE at h
    by_cases hx : x.fault = 0
    · rw [if_pos hx] at h
      rcases List.mem_cons.1 hr with rfl | hr
      · exact hx
      · exact rulesE_all h r hr
    · rw [if_neg hx] at h; exact absurd h hx
theorem rulesF_all {l : List RuleV} (h : rulesF l = 0) : ∀ r ∈ l, r.fault = 0 := by
  unfold rulesF at h
  by_cases hn : 30 < l.length
  · rw [if_pos hn] at h; omega
  · rw [if_neg hn] at h; exact rulesE_all h
theorem fault_chk {r : RuleV} (h : r.fault = 0) : chk r.six r.hi r.lo r.n = 0 := by
  unfold RuleV.fault at h
  by_cases hc : chk r.six r.hi r.lo r.n = 0
  · exact hc
  · rw [if_pos hc] at h; exact absurd h hc
theorem fault_pfx {r : RuleV} (ho : r.Ok) (h : r.fault = 0) : Pfx r.six r.hi r.lo r.n := chk_zero ho.1 ho.2 (fault_chk h)
theorem fault_mid {r : RuleV} (ho : r.Ok) (h : r.fault = 0) : r.Mid := by
  have := (fault_pfx ho h).len
  have hw := wideI_le r.six
  unfold RuleV.Mid
  omega

/-- What the first rule that fits says. -/
def firstYes (f : RuleV → Bool) : List RuleV → Bool
  | [] => false
  | r :: l => if f r = true then r.yes else firstYes f l
theorem firstYes_none {f : RuleV → Bool} : ∀ {l : List RuleV}, (∀ x ∈ l, f x = false) → firstYes f l = false
  | [], _ => rfl
  | y :: l, h => by
    unfold firstYes
    rw [if_neg (by rw [h y (by simp)]; simp)]
    exact firstYes_none (fun x hx => h x (by simp [hx]))
theorem firstYes_at {f : RuleV → Bool} : ∀ {l : List RuleV} {k : Nat} {x : RuleV}, firstAt f l = k → l[k]? = some x → firstYes f l = x.yes
  | [], k, x, _, h => by simp at h
  | y :: l, k, x, hn, h => by
    unfold firstAt at hn
    unfold firstYes
    by_cases hy : f y = true
    · rw [if_pos hy] at hn ⊢
      obtain rfl : k = 0 := by omega
      simp at h
      rw [h]
    · rw [if_neg hy] at hn ⊢
      by_cases hneg : firstAt f l < 0
      · rw [if_pos hneg] at hn; omega
      · rw [if_neg hneg] at hn
        obtain ⟨j, rfl⟩ : ∃ j, k = j + 1 := ⟨k - 1, by omega⟩
        exact firstYes_at (k := j) (by omega) (by simpa using h)

theorem ret_bii {a a' : Bool} {b b' c : Int} (h1 : a = a') (h2 : b = b') : Ending.returned (.tuple #[.bool a, .int .i64 b, .int .i64 c]) = Ending.returned (.tuple #[.bool a', .int .i64 b', .int .i64 c]) := by rw [h1, h2]

theorem passTest (l : List RuleV) (six' : Bool) (hi' lo' n' : Int) (t : TypeId) (w : World) (h3 : 0 ≤ hi' ∧ hi' < 18446744073709551616) (h4 : 0 ≤ lo' ∧ lo' < 18446744073709551616) (h5 : six' = false → lo' < 4294967296) (hm : ∀ r ∈ l, r.Mid) :
    RuleTest (w.alloc (.cells #[.bool six', .int .u64 hi', .int .u64 lo', .int .i64 n'] t)) 104 [.pointer (some ⟨w.heap.size, 0, none⟩)] (fun r => RuleV.fits r six' hi' lo' n') l := by
  intro r hr w' hb
  obtain ⟨B1, S1, q0, q1, q2, q3⟩ := box4 hb
  exact passClosure_any r six' hi' lo' n' w.heap.size w' h3 h4 h5 (hm r hr) q0 q1 q2 q3 S1

set_option maxRecDepth 100000 in
set_option maxHeartbeats 1600000 in
theorem pass_any (A : Option Addr) (n c : Nat) (l : List RuleV) (six' : Bool) (hi' lo' n' : Int) (w : World) (h3 : 0 ≤ hi' ∧ hi' < 18446744073709551616) (h4 : 0 ≤ lo' ∧ lo' < 18446744073709551616) (h5 : six' = false → lo' < 4294967296) (h : IsRules w A n l) (hm : ∀ r ∈ l, r.Mid) :
    Calls Try.prog 71 #[.slice A n c, .agg #[.bool six', .int .u64 hi', .int .u64 lo', .int .i64 n']] w fun e w' => e = .returned (.tuple #[.bool (firstYes (fun r => RuleV.fits r six' hi' lo' n') l), .int .i64 (firstAt (fun r => RuleV.fits r six' hi' lo' n') l)]) ∧ Below w.heap.size w w' := by
  have hb0 : Below w.heap.size w (w.alloc (.cells #[.bool six', .int .u64 hi', .int .u64 lo', .int .i64 n'] 33)) := (Below.refl _ _).alloc (Nat.le_refl _) _
  have HI := Lib.hid (idxRule_any A n c l (fun r => RuleV.fits r six' hi' lo' n') w.heap.size (w.alloc (.cells #[.bool six', .int .u64 hi', .int .u64 lo', .int .i64 n'] 33)) h.1 h.2.1 (h.below hb0).2.2.2 (passTest l six' hi' lo' n' _ w h3 h4 h5 hm))
  have hn := h.2.1
  unfold maxLen at hn
  rcases firstAt_cases (fun r => RuleV.fits r six' hi' lo' n') l with ⟨h1, h2⟩ | ⟨k, r, h1, h2, _⟩
  · rw [firstYes_none h2]
    rw [h1] at HI ⊢
    clear h h1 h2 hb0 hm h5
    go_enter Try.func71, Try.ntmps71
    go_wp2_with fail
    refine HI.out.mono ?_
    rintro e w1 ⟨rfl, hb⟩
    have HB := Lib.hid (balloc1 hb)
    clear hb
    go_wp2
    go_ret2
    exact ⟨rfl, HB.out⟩
  · rw [firstYes_at h1 h2]
    rw [h1] at HI ⊢
    have hk : k < n := by
      have := (List.getElem?_eq_some_iff.1 h2).1
      have := h.1
      omega
    obtain ⟨ad, r', rfl, hlk, _, _, hbk, hc0, _⟩ := h.2.2.2.atS RuleV.cells_length h.1 hk
    rw [h2] at hlk
    injection hlk with hlk
    subst hlk
    have hc := hc0 (.bool r.yes) rfl
    have hkI : (k : Int) < (n : Int) := by omega
    clear h h1 h2 hb0 hm h5 hc0
    generalize r.yes = yy at *
    go_enter Try.func71, Try.ntmps71
    go_wp2_with fail
    refine HI.out.mono ?_
    rintro e w1 ⟨rfl, hb⟩
    have HB := Lib.hid (balloc1 hb)
    have hc2 : w1.cell? (ad.add (k * 7)) = some (.bool yy) := ((balloc1 hb).cell (p := ad.add (k * 7)) (by rw [block_of_add]; exact hbk)).trans hc
    clear hb
    go_wp2
    go_ret2
    exact ⟨rfl, HB.out⟩

set_option maxRecDepth 100000 in
set_option maxHeartbeats 800000 in
theorem ppass_bad1 (A : Option Addr) (n c : Nat) (l : List RuleV) (six' : Bool) (hi' lo' n' : Int) (w : World) (h : IsRules w A n l) (hz : ¬ rulesF l = 0) :
    Calls Try.prog 29 #[.slice A n c, .agg #[.bool six', .int .u64 hi', .int .u64 lo', .int .i64 n']] w fun e w' => e = .returned (.tuple #[.bool false, .int .i64 0, .int .i64 (rulesF l)]) ∧ Below w.heap.size w w' := by
  have HC := Lib.hid (fun (w' : World) (hb : Below w.heap.size w w') => rulesCheck_is (h.below hb) c)
  clear h
  generalize rulesF l = z at *
  have hb1 : (z == 0) = false := by simpa using hz
  have hb2 : (z != 0) = true := by simpa using hz
  go_enter Try.func29, Try.ntmps29
  go_wp2_with fail
  refine (HC.out _ ((Below.refl _ _).alloc (Nat.le_refl _) _)).mono ?_
  rintro e w1 ⟨rfl, hb⟩
  have HB := Lib.hid (balloc1 hb)
  clear hb
  go_wp2
  go_ret3
  exact ⟨rfl, HB.out⟩

set_option maxRecDepth 100000 in
set_option maxHeartbeats 800000 in
theorem ppass_bad2 (A : Option Addr) (n c : Nat) (l : List RuleV) (six' : Bool) (hi' lo' n' : Int) (w : World) (h3 : 0 ≤ hi' ∧ hi' < 18446744073709551616) (h4 : 0 ≤ lo' ∧ lo' < 18446744073709551616) (h : IsRules w A n l) (hz : rulesF l = 0) (hk : ¬ chk six' hi' lo' n' = 0) :
    Calls Try.prog 29 #[.slice A n c, .agg #[.bool six', .int .u64 hi', .int .u64 lo', .int .i64 n']] w fun e w' => e = .returned (.tuple #[.bool false, .int .i64 0, .int .i64 (chk six' hi' lo' n')]) ∧ Below w.heap.size w w' := by
  have HC := (fun (w' : World) (hb : Below w.heap.size w w') => rulesCheck_is (h.below hb) c)
  rw [hz] at HC
  have HCC := Lib.hid HC
  have HK := Lib.hid (fun w => check_any six' hi' lo' n' w h3 h4)
  clear h HC hz
  generalize chk six' hi' lo' n' = z at *
  have hb1 : (z == 0) = false := by simpa using hk
  have hb2 : (z != 0) = true := by simpa using hk
  go_enter Try.func29, Try.ntmps29
  go_wp2_with fail
  refine (HCC.out _ ((Below.refl _ _).alloc (Nat.le_refl _) _)).mono ?_
  rintro e w1 ⟨rfl, hb⟩
  have HB := Lib.hid (balloc1 hb)
  obtain ⟨fc, ff⟩ := bcell hb
  clear hb
  go_wp2_with fail
  refine (HK.out _).mono ?_
  rintro e w2 ⟨rfl, hb⟩
  have HB2 := Lib.hid (below_step HB.out hb)
  clear hb
  go_wp2
  go_ret3
  exact ⟨rfl, HB2.out⟩


set_option maxRecDepth 100000 in
set_option maxHeartbeats 800000 in
theorem rpass_bad1 (A : Option Addr) (n c : Nat) (l : List RuleV) (six' : Bool) (hi' lo' n' : Int) (w : World) (h : IsRules w A n l) (hz : ¬ rulesF l = 0) :
    Calls Try.prog 30 #[.slice A n c, .agg #[.bool six', .int .u64 hi', .int .u64 lo', .int .i64 n']] w fun e w' => e = .returned (.tuple #[.bool false, .int .i64 0, .int .i64 (rulesF l)]) ∧ Below w.heap.size w w' := by
  have HC := Lib.hid (fun (w' : World) (hb : Below w.heap.size w w') => rulesFault_is (h.below hb) c)
  clear h
  generalize rulesF l = z at *
  have hb1 : (z == 0) = false := by simpa using hz
  have hb2 : (z != 0) = true := by simpa using hz
  go_enter Try.func30, Try.ntmps30
  go_wp2_with fail
  refine (HC.out _ ((Below.refl _ _).alloc (Nat.le_refl _) _)).mono ?_
  rintro e w1 ⟨rfl, hb⟩
  have HB := Lib.hid (balloc1 hb)
  clear hb
  go_wp2
  go_ret3
  exact ⟨rfl, HB.out⟩

set_option maxRecDepth 100000 in
set_option maxHeartbeats 800000 in
theorem rpass_bad2 (A : Option Addr) (n c : Nat) (l : List RuleV) (six' : Bool) (hi' lo' n' : Int) (w : World) (h3 : 0 ≤ hi' ∧ hi' < 18446744073709551616) (h4 : 0 ≤ lo' ∧ lo' < 18446744073709551616) (h : IsRules w A n l) (hz : rulesF l = 0) (hk : ¬ chk six' hi' lo' n' = 0) :
    Calls Try.prog 30 #[.slice A n c, .agg #[.bool six', .int .u64 hi', .int .u64 lo', .int .i64 n']] w fun e w' => e = .returned (.tuple #[.bool false, .int .i64 0, .int .i64 (chk six' hi' lo' n')]) ∧ Below w.heap.size w w' := by
  have HC := (fun (w' : World) (hb : Below w.heap.size w w') => rulesFault_is (h.below hb) c)
  rw [hz] at HC
  have HCC := Lib.hid HC
  have HK := Lib.hid (fun w => preFault_any six' hi' lo' n' w h3 h4)
  clear h HC hz
  generalize chk six' hi' lo' n' = z at *
  have hb1 : (z == 0) = false := by simpa using hk
  have hb2 : (z != 0) = true := by simpa using hk
  go_enter Try.func30, Try.ntmps30
  go_wp2_with fail
  refine (HCC.out _ ((Below.refl _ _).alloc (Nat.le_refl _) _)).mono ?_
  rintro e w1 ⟨rfl, hb⟩
  have HB := Lib.hid (balloc1 hb)
  obtain ⟨fc, ff⟩ := bcell hb
  clear hb
  go_wp2_with fail
  refine (HK.out _).mono ?_
  rintro e w2 ⟨rfl, hb⟩
  have HB2 := Lib.hid (below_step HB.out hb)
  clear hb
  go_wp2
  go_ret3
  exact ⟨rfl, HB2.out⟩

set_option maxRecDepth 100000 in
set_option maxHeartbeats 800000 in
theorem ppass_ok (A : Option Addr) (n c : Nat) (l : List RuleV) (six' : Bool) (hi' lo' n' : Int) (w : World) (h3 : 0 ≤ hi' ∧ hi' < 18446744073709551616) (h4 : 0 ≤ lo' ∧ lo' < 18446744073709551616) (h : IsRules w A n l) (hz : rulesF l = 0) (hk : chk six' hi' lo' n' = 0) :
    Calls Try.prog 29 #[.slice A n c, .agg #[.bool six', .int .u64 hi', .int .u64 lo', .int .i64 n']] w fun e w' => e = .returned (.tuple #[.bool (firstYes (fun r => RuleV.fits r six' hi' lo' n') l), .int .i64 (firstAt (fun r => RuleV.fits r six' hi' lo' n') l), .int .i64 0]) ∧ Below w.heap.size w w' := by
  have HC := (fun (w' : World) (hb : Below w.heap.size w w') => rulesCheck_is (h.below hb) c)
  rw [hz] at HC
  have HCC := Lib.hid HC
  have HK' := (fun w => check_any six' hi' lo' n' w h3 h4)
  rw [hk] at HK'
  have HK := Lib.hid HK'
  have hp := chk_zero h3 h4 hk
  have HP := Lib.hid (fun (w' : World) (hb : Below w.heap.size w w') => pass_any A n c l six' hi' lo' n' w' h3 h4 (fun h => by subst h; exact (mayB_four hp.may).2) (h.below hb) (fun r hr => fault_mid (h.2.2.1 r hr) (rulesF_all hz r hr)))
  generalize firstYes (fun r => RuleV.fits r six' hi' lo' n') l = yy at *
  generalize firstAt (fun r => RuleV.fits r six' hi' lo' n') l = ii at *
  clear h HC HK' hz hk hp
  go_enter Try.func29, Try.ntmps29
  go_wp2_with fail
  refine (HCC.out _ ((Below.refl _ _).alloc (Nat.le_refl _) _)).mono ?_
  rintro e w1 ⟨rfl, hb⟩
  have HB := Lib.hid (balloc1 hb)
  have s1 := bsize1 hb
  obtain ⟨fc, ff⟩ := bcell hb
  clear hb
  go_wp2_with fail
  refine (HK.out _).mono ?_
  rintro e w2 ⟨rfl, hb⟩
  have HB2 := Lib.hid (below_step HB.out hb)
  obtain ⟨fc2, ff2⟩ := bcell hb
  clear hb
  go_wp2_with fail
  refine (HP.out _ HB2.out).mono ?_
  rintro e w3 ⟨rfl, hb⟩
  have HB3 := Lib.hid (below_step HB2.out hb)
  clear hb
  go_wp2
  go_ret3
  exact ⟨rfl, HB3.out⟩

set_option maxRecDepth 100000 in
set_option maxHeartbeats 1600000 in
theorem refFits_any (r : RuleV) (six' : Bool) (hi' lo' n' : Int) (w : World) (h3 : 0 ≤ hi' ∧ hi' < 18446744073709551616) (h4 : 0 ≤ lo' ∧ lo' < 18446744073709551616) (hm : mayB six' hi' lo' = true) (hp : Pfx r.six r.hi r.lo r.n) :
    Calls Try.prog 72 #[.agg r.cells.toArray, .agg #[.bool six', .int .u64 hi', .int .u64 lo', .int .i64 n']] w fun e w' => e = .returned (.bool (r.fits six' hi' lo' n')) ∧ Below w.heap.size w w' := by
  obtain ⟨yes, six, hi, lo, m, least, most⟩ := r
  obtain ⟨k, rfl⟩ : ∃ k : Nat, m = k := Int.eq_ofNat_of_zero_le hp.len.1
  have HO := Lib.hid (fun w => refOver_any six hi lo k six' hi' lo' n' w hp h3 h4 hm)
  have HF : Hid (RuleV.fits ⟨yes, six, hi, lo, k, least, most⟩ six' hi' lo' n' = (decide (least ≤ n') && (decide (n' ≤ most) && overB six hi lo k six' hi' lo' n'))) := rfl
  show Calls _ _ #[.agg #[.bool yes, .bool six, .int .u64 hi, .int .u64 lo, .int .i64 (k : Int), .int .i64 least, .int .i64 most], .agg #[.bool six', .int .u64 hi', .int .u64 lo', .int .i64 n']] _ _
  clear hm hp
  rw [HF.out]
  clear HF
  generalize overB six hi lo k six' hi' lo' n' = ov at *
  cases ov
  · rw [show (decide (least ≤ n') && (decide (n' ≤ most) && false)) = false from by simp]
    go_enter Try.func72, Try.ntmps72
    go_wp2_with fail
    refine (HO.out _).mono ?_
    rintro e w1 ⟨rfl, hb⟩
    have HB := Lib.hid (balloc2 hb)
    obtain ⟨s1, s2⟩ := bsize2 hb
    obtain ⟨fc, ff⟩ := bcell hb
    clear hb
    go_wp2
    go_ret
    exact ⟨rfl, HB.out⟩
  · by_cases hl : least ≤ n'
    · by_cases hq : n' ≤ most
      · rw [show (decide (least ≤ n') && (decide (n' ≤ most) && true)) = true from by simp [hl, hq]]
        have hd : decide (least ≤ n') = true := decide_eq_true hl
        have hd2 : decide (n' ≤ most) = true := decide_eq_true hq
        go_enter Try.func72, Try.ntmps72
        go_wp2_with fail
        refine (HO.out _).mono ?_
        rintro e w1 ⟨rfl, hb⟩
        have HB := Lib.hid (balloc2 hb)
        obtain ⟨s1, s2⟩ := bsize2 hb
        obtain ⟨fc, ff⟩ := bcell hb
        clear hb
        go_wp2
        go_ret
        exact ⟨rfl, HB.out⟩
      · rw [show (decide (least ≤ n') && (decide (n' ≤ most) && true)) = false from by simp [hl, hq]]
        have hd : decide (least ≤ n') = true := decide_eq_true hl
        have hd2 : decide (n' ≤ most) = false := decide_eq_false hq
        go_enter Try.func72, Try.ntmps72
        go_wp2_with fail
        refine (HO.out _).mono ?_
        rintro e w1 ⟨rfl, hb⟩
        have HB := Lib.hid (balloc2 hb)
        obtain ⟨s1, s2⟩ := bsize2 hb
        obtain ⟨fc, ff⟩ := bcell hb
        clear hb
        go_wp2
        go_ret
        exact ⟨rfl, HB.out⟩
    · rw [show (decide (least ≤ n') && (decide (n' ≤ most) && true)) = false from by simp [hl]]
      have hd : decide (least ≤ n') = false := decide_eq_false hl
      go_enter Try.func72, Try.ntmps72
      go_wp2_with fail
      refine (HO.out _).mono ?_
      rintro e w1 ⟨rfl, hb⟩
      have HB := Lib.hid (balloc2 hb)
      obtain ⟨s1, s2⟩ := bsize2 hb
      obtain ⟨fc, ff⟩ := bcell hb
      clear hb
      go_wp2
      go_ret
      exact ⟨rfl, HB.out⟩

set_option maxRecDepth 100000 in
set_option maxHeartbeats 1600000 in
theorem rpass_ok (A : Option Addr) (n c : Nat) (l : List RuleV) (six' : Bool) (hi' lo' n' : Int) (w : World) (h3 : 0 ≤ hi' ∧ hi' < 18446744073709551616) (h4 : 0 ≤ lo' ∧ lo' < 18446744073709551616) (h : IsRules w A n l) (hz : rulesF l = 0) (hk : chk six' hi' lo' n' = 0) :
    Calls Try.prog 30 #[.slice A n c, .agg #[.bool six', .int .u64 hi', .int .u64 lo', .int .i64 n']] w fun e w' => e = .returned (.tuple #[.bool (firstYes (fun r => RuleV.fits r six' hi' lo' n') l), .int .i64 (firstAt (fun r => RuleV.fits r six' hi' lo' n') l), .int .i64 0]) ∧ Below w.heap.size w w' := by
  have HC := (fun (w' : World) (hb : Below w.heap.size w w') => rulesFault_is (h.below hb) c)
  rw [hz] at HC
  have HCC := Lib.hid HC
  have HK' := (fun w => preFault_any six' hi' lo' n' w h3 h4)
  rw [hk] at HK'
  have HK := Lib.hid HK'
  have hp := chk_zero h3 h4 hk
  have HP := Lib.hid (fun (r : RuleV) (hr : r ∈ l) (w : World) => refFits_any r six' hi' lo' n' w h3 h4 hp.may (fault_pfx (h.2.2.1 r hr) (rulesF_all hz r hr)))
  have HR := Lib.hid h.2.2.2
  have HZ := Lib.hid h.1
  have hn := h.2.1
  unfold maxLen at hn
  obtain ⟨f, hf⟩ : ∃ f, f = (fun r => RuleV.fits r six' hi' lo' n') := ⟨_, rfl⟩
  have HP' : Hid (∀ r ∈ l, ∀ w, Calls Try.prog 72 #[.agg r.cells.toArray, .agg #[.bool six', .int .u64 hi', .int .u64 lo', .int .i64 n']] w fun e w' => e = .returned (.bool (f r)) ∧ Below w.heap.size w w') := by rw [hf]; exact HP.out
  rw [← hf]
  obtain ⟨ii, hii⟩ : ∃ ii, ii = firstAt f l := ⟨_, rfl⟩
  obtain ⟨yy, hyy⟩ : ∃ yy, yy = firstYes f l := ⟨_, rfl⟩
  rw [← hii, ← hyy]
  have HI := Lib.hid hii
  have HY := Lib.hid hyy
  clear h HC HK' hz hk hp HP hf hii hyy
  go_enter Try.func30, Try.ntmps30
  go_wp2_with fail
  refine (HCC.out _ ((Below.refl _ _).alloc (Nat.le_refl _) _)).mono ?_
  rintro e w1 ⟨rfl, hb⟩
  have HB := Lib.hid (balloc1 hb)
  have s1 := bsize1 hb
  obtain ⟨fc, ff⟩ := bcell hb
  clear hb
  go_wp2_with fail
  refine (HK.out _).mono ?_
  rintro e w2 ⟨rfl, hb⟩
  have HB2 := Lib.hid (below_step HB.out hb)
  obtain ⟨fc2, ff2⟩ := bcell hb
  have z2 := hb.size
  have s2 : w.heap.size < w2.heap.size := by omega
  clear hb
  go_wp2_with fail
  go_loopw [23, 9, 10] (fun i _ _ wr => ∃ k : Nat, k ≤ n ∧ i = .int .i64 k ∧ NoneYet f l k ∧ Below w2.heap.size w2 wr) (fun i _ _ _ => n - (intOf i).toNat)
  case atStart => exact ⟨0, by omega, rfl, noneYet_zero f l, Below.refl _ _⟩
  case round =>
    obtain ⟨k, hk, rfl, hto, hbr⟩ := hrel
    have HN := Lib.hid hto
    have HBR := Lib.hid hbr
    obtain ⟨fcr, ffr⟩ := bcell hbr
    have zr := hbr.size
    have s3 : w.heap.size < wr.heap.size := by omega
    have hb := below_step HB2.out hbr
    clear hto hbr
    by_cases hlt : k < n
    · obtain ⟨ad, ⟨yes, six, hi, lo, m, least, most⟩, rfl, hlk, htk, hmem, hbk, hc0, hcj⟩ := HR.out.atS RuleV.cells_length HZ.out hlt
      have q0 := (hb.cell (p := ad.add (k * 7)) (by rw [block_of_add]; exact hbk)).trans (hc0 _ rfl)
      have q1 := (hb.cell (p := ⟨(ad.add (k * 7)).block, (ad.add (k * 7)).off + 1, none⟩) (by rw [block_of_add]; exact hbk)).trans (hcj 1 _ rfl)
      have q2 := (hb.cell (p := ⟨(ad.add (k * 7)).block, (ad.add (k * 7)).off + 2, none⟩) (by rw [block_of_add]; exact hbk)).trans (hcj 2 _ rfl)
      have q3 := (hb.cell (p := ⟨(ad.add (k * 7)).block, (ad.add (k * 7)).off + 3, none⟩) (by rw [block_of_add]; exact hbk)).trans (hcj 3 _ rfl)
      have q4 := (hb.cell (p := ⟨(ad.add (k * 7)).block, (ad.add (k * 7)).off + 4, none⟩) (by rw [block_of_add]; exact hbk)).trans (hcj 4 _ rfl)
      have q5 := (hb.cell (p := ⟨(ad.add (k * 7)).block, (ad.add (k * 7)).off + 5, none⟩) (by rw [block_of_add]; exact hbk)).trans (hcj 5 _ rfl)
      have q6 := (hb.cell (p := ⟨(ad.add (k * 7)).block, (ad.add (k * 7)).off + 6, none⟩) (by rw [block_of_add]; exact hbk)).trans (hcj 6 _ rfl)

      have HF : Hid (∀ w, Calls Try.prog 72 #[.agg #[.bool yes, .bool six, .int .u64 hi, .int .u64 lo, .int .i64 m, .int .i64 least, .int .i64 most], .agg #[.bool six', .int .u64 hi', .int .u64 lo', .int .i64 n']] w fun e w' => e = .returned (.bool (f ⟨yes, six, hi, lo, m, least, most⟩)) ∧ Below w.heap.size w w') := HP'.out _ hmem
      have HL := Lib.hid hlk
      have HK2 := Lib.hid htk
      have HBW := Lib.hid hb
      clear hlk htk hmem hbk hc0 hcj hb
      generalize hfv : f ⟨yes, six, hi, lo, m, least, most⟩ = fv at *
      have HV := Lib.hid hfv
      clear hfv
      cases fv
      · have HN2 := Lib.hid (noneYet_succ HN.out HK2.out HV.out)
        go_wp2_with fail
        refine (HF.out _).mono ?_
        rintro e w3 ⟨rfl, hb3⟩
        have HB3 := Lib.hid (below_step HBR.out (balloc1 hb3))
        clear hb3
        go_wp2
        go_roundw
        case rel => exact ⟨k + 1, by omega, by go_num, HN2.out, HB3.out⟩
        case measure => simp [intOf]; omega
      · have HN2 := Lib.hid (firstAt_at HN.out HL.out HV.out)
        have HN3 := Lib.hid (firstYes_at HN2.out HL.out)
        go_wp2_with fail
        refine (HF.out _).mono ?_
        rintro e w3 ⟨rfl, hb3⟩
        have HB3 := Lib.hid (below_step HBW.out (balloc1 hb3))
        have s4 := bsize1 hb3
        obtain ⟨fc3, ff3⟩ := bcell hb3
        clear hb3
        go_wp2
        go_ret3
        exact ⟨ret_bii (HN3.out.symm.trans HY.out.symm) (HN2.out.symm.trans HI.out.symm), HB3.out⟩
    · obtain rfl : k = n := by omega
      have HN2 := Lib.hid (firstAt_end HN.out HZ.out)
      have HN3 : Hid (firstYes f l = false) := by
        show _ = _
        refine firstYes_none fun x hx => HN.out x ?_
        rw [List.take_of_length_le (by have := HZ.out; omega)]
        exact hx
      have HBW := Lib.hid hb
      clear hb
      go_wp2
      go_ret3
      exact ⟨ret_bii (HN3.out.symm.trans HY.out.symm) (HN2.out.symm.trans HI.out.symm), HBW.out⟩

set_option maxRecDepth 100000 in
set_option maxHeartbeats 800000 in
theorem passes_both (A : Option Addr) (n c : Nat) (l : List RuleV) (six' : Bool) (hi' lo' n' : Int) (w : World) (h3 : 0 ≤ hi' ∧ hi' < 18446744073709551616) (h4 : 0 ≤ lo' ∧ lo' < 18446744073709551616) (h : IsRules w A n l) :
    ∃ (yy : Bool) (ii k : Int), ∀ w', Below w.heap.size w w' →
      (Calls Try.prog 29 #[.slice A n c, .agg #[.bool six', .int .u64 hi', .int .u64 lo', .int .i64 n']] w' fun e w'' => e = .returned (.tuple #[.bool yy, .int .i64 ii, .int .i64 k]) ∧ Below w'.heap.size w' w'') ∧
      (Calls Try.prog 30 #[.slice A n c, .agg #[.bool six', .int .u64 hi', .int .u64 lo', .int .i64 n']] w' fun e w'' => e = .returned (.tuple #[.bool yy, .int .i64 ii, .int .i64 k]) ∧ Below w'.heap.size w' w'') := by
  by_cases hz : rulesF l = 0
  · by_cases hk : chk six' hi' lo' n' = 0
    · exact ⟨_, _, _, fun w' hb => ⟨ppass_ok A n c l six' hi' lo' n' w' h3 h4 (h.below hb) hz hk, rpass_ok A n c l six' hi' lo' n' w' h3 h4 (h.below hb) hz hk⟩⟩
    · exact ⟨_, _, _, fun w' hb => ⟨ppass_bad2 A n c l six' hi' lo' n' w' h3 h4 (h.below hb) hz hk, rpass_bad2 A n c l six' hi' lo' n' w' h3 h4 (h.below hb) hz hk⟩⟩
  · exact ⟨_, _, _, fun w' hb => ⟨ppass_bad1 A n c l six' hi' lo' n' w' (h.below hb) hz, rpass_bad1 A n c l six' hi' lo' n' w' (h.below hb) hz⟩⟩

set_option maxRecDepth 100000 in
set_option maxHeartbeats 800000 in
theorem rulePasses_walk {H : Type} {enc : TypeId × Value → H} (W : World) (vs : Array Value) (ds : List (DataW H)) (ps : List MemPlace) (h : ArgsOk Try.prog [22, 33] H enc W vs.toList ds ps) :
    Calls Try.prog 8 vs W fun e W' => e = .returned (.bool true) ∧ Below W.heap.size W W' := by
  obtain ⟨hA, ⟨base, hval⟩, _, _⟩ := h
  obtain ⟨v0, v1, d0, d1, p0, p1, e0, _, _, h0, h1⟩ := trodAll_two hA
  obtain ⟨a0, n, c, rfl⟩ := okWide_slice Try.underlying22 (hval 0 _ v0 rfl (by rw [e0]; rfl))
  obtain ⟨six', hi', lo', n', rfl, b3, b4, _⟩ := open_prefix (hval 1 _ v1 rfl (by rw [e0]; rfl)) h1
  obtain ⟨l, hr⟩ := open_rules h0
  obtain rfl : vs = #[.slice a0 n c, .agg #[.bool six', .int .u64 hi', .int .u64 lo', .int .i64 n']] := by cases vs; simp_all
  obtain ⟨yy, ii, k, hc⟩ := passes_both a0 n c l six' hi' lo' n' W b3 b4 hr
  have HC := Lib.hid hc
  clear hr h0 h1 hA hval e0 hc
  go_enter Try.func8, Try.ntmps8
  go_wp2_with fail
  refine (HC.out _ ((Below.refl _ _).alloc (Nat.le_refl _) _)).1.mono ?_
  rintro e w1 ⟨rfl, hb1⟩
  have HB := Lib.hid (balloc1 hb1)
  obtain ⟨fc, ff⟩ := bcell hb1
  clear hb1
  go_wp2_with fail
  refine (HC.out _ HB.out).2.mono ?_
  rintro e w2 ⟨rfl, hb2⟩
  have HB2 := Lib.hid (below_step HB.out hb2)
  clear hb2
  go_wp2
  all_goals go_ret
  all_goals exact ⟨by simp, HB2.out⟩

end Go.Proofs.Ytbjojfcpehkopaa
