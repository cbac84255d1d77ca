/-
  
  
  
  
  
  
  
  
  
  
-/
import Derived.Test.YtonelibgaceflaaC4
import Derived.Test.YtonelibgaceflaaC2
import Derived.Test.YtonelibgaceflaaC1
import Derived.Shelf.Spec.BitsCarry
import Derived.Deep.RegionWith
import Derived.Test.YtonelibgaceflaaC3
import Derived.Deep.LoopGhost
import Derived.Deep.CutBlock
import Derived.Deep.AppendLies
namespace Go.Proofs.Ytonelibgaceflaa
open Go.ChangeShapes Go.WideShapes Go.ChangeAt Go.RowKit

set_option maxHeartbeats 1600000 in
theorem less_any (six : Bool) (hi lo : Int) (six' : Bool) (hi' lo' : Int) (w : World) :
    Calls Try.prog 73 #[.agg #[.bool six, .int .u64 hi, .int .u64 lo], .agg #[.bool six', .int .u64 hi', .int .u64 lo']] w fun e w' => e = .returned (.bool (lessB ⟨six, hi, lo⟩ ⟨six', hi', lo'⟩)) ∧ Below w.heap.size w w' := by
  have HB : ∀ w : World, Hid (Below w.heap.size w ((w.alloc (.cells #[.bool six, .int .u64 hi, .int .u64 lo] 24)).alloc (.cells #[.bool six', .int .u64 hi', .int .u64 lo'] 24))) := fun w => ((Below.refl _ _).alloc (Nat.le_refl _) _).alloc (by simp) _
  by_cases h6 : six = six'
  · subst h6
    by_cases h1 : hi < hi'
    · have hr : lessB ⟨six, hi, lo⟩ ⟨six, hi', lo'⟩ = true := by unfold lessB; simp [h1]
      rw [hr]
      have hd : decide (hi < hi') = true := by simpa using h1
      clear hr
      go_enter Try.func73, Try.ntmps73
      go_wp2
      go_ret
      exact ⟨rfl, (HB w).out⟩
    · have hd : decide (hi < hi') = false := by simpa using h1
      by_cases h2 : hi = hi'
      · subst h2
        have hr : lessB ⟨six, hi, lo⟩ ⟨six, hi, lo'⟩ = decide (lo < lo') := by unfold lessB; simp
        rw [hr]
        clear hr h1
        go_enter Try.func73, Try.ntmps73
        go_wp2
        go_ret
        exact ⟨by simp, (HB w).out⟩
      · have hr : lessB ⟨six, hi, lo⟩ ⟨six, hi', lo'⟩ = false := by unfold lessB; simp [h2]; omega
        rw [hr]
        have hd2 : (hi == hi') = false := by simpa using h2
        clear hr
        go_enter Try.func73, Try.ntmps73
        go_wp2
        go_ret
        exact ⟨rfl, (HB w).out⟩
  · have hr : lessB ⟨six, hi, lo⟩ ⟨six', hi', lo'⟩ = six' := by unfold lessB; rw [if_neg h6]
    rw [hr]
    have hn := ne_bool h6
    subst hn
    clear hr h6
    go_enter Try.func73, Try.ntmps73
    go_wp2
    go_ret
    exact ⟨rfl, (HB w).out⟩

end Go.Proofs.Ytonelibgaceflaa

namespace Go.Proofs.Ytonelibgaceflaa
open Go.ChangeShapes Go.WideShapes Go.ChangeAt Go.RowKit

theorem add64_run (x y c : Int) (w : World) (hx : 0 ≤ x) (hy : 0 ≤ y) (hc : 0 ≤ c ∧ c ≤ 1) :
    (callFunc 148 #[.int .u64 x, .int .u64 y, .int .u64 c]).run Try.prog w = .ok (.value (.tuple #[.int .u64 ((x + y + c) % 18446744073709551616), .int .u64 ((x + y + c) / 18446744073709551616)])) w := by
  rw [run_callFunc_extern Try.func148 (by kernel_rfl) (by kernel_rfl) (by kernel_rfl) (e := add64Entry) (by kernel_rfl), run_add64 x y c hx hy hc.1 hc.2]
  rfl
theorem sub64_run (x y c : Int) (w : World) (hx : 0 ≤ x ∧ x < 18446744073709551616) (hy : 0 ≤ y ∧ y < 18446744073709551616) (hc : 0 ≤ c ∧ c ≤ 1) :
    (callFunc 149 #[.int .u64 x, .int .u64 y, .int .u64 c]).run Try.prog w = .ok (.value (.tuple #[.int .u64 ((x - y - c) % 18446744073709551616), .int .u64 (-((x - y - c) / 18446744073709551616))])) w := by
  obtain ⟨a, rfl⟩ := Int.eq_ofNat_of_zero_le hx.1
  obtain ⟨b, rfl⟩ := Int.eq_ofNat_of_zero_le hy.1
  obtain ⟨d, rfl⟩ := Int.eq_ofNat_of_zero_le hc.1
  rw [run_callFunc_extern Try.func149 (by kernel_rfl) (by kernel_rfl) (by kernel_rfl) (e := sub64Entry) (by kernel_rfl), run_sub64 a b d (by omega)]
  have e1 : ((if a < b + d then 1 else 0 : Nat) : Int) = -(((a : Int) - b - d) / 18446744073709551616) := by split <;> omega
  have e2 : (((a + 18446744073709551616 - b - d) % 18446744073709551616 : Nat) : Int) = ((a : Int) - b - d) % 18446744073709551616 := by omega
  rw [e1, e2]
  rfl

set_option maxRecDepth 100000 in
set_option maxHeartbeats 1600000 in
theorem plus_up (six : Bool) (hi lo by' : Int) (w : World) (h1 : 0 ≤ hi ∧ hi < 18446744073709551616) (h2 : 0 ≤ lo ∧ lo < 18446744073709551616) (hb : 0 ≤ by') (hb2 : by' ≤ 1099511627776) :
    Calls Try.prog 72 #[.agg #[.bool six, .int .u64 hi, .int .u64 lo], .int .i64 by'] w fun e w' => e = .returned (.tuple #[.agg #[.bool six, .int .u64 (plusHi hi lo by'), .int .u64 (plusLo hi lo by')], .bool (plusOk six hi lo by')]) ∧ Below w.heap.size w w' := by
  have rp := plus_range hi lo by'
  obtain ⟨c1, hc1⟩ : ∃ c1, c1 = (lo + by' + 0) / 18446744073709551616 := ⟨_, rfl⟩
  obtain ⟨ov, hov⟩ : ∃ ov, ov = (hi + 0 + c1) / 18446744073709551616 := ⟨_, rfl⟩
  have hp : plusLo hi lo by' = (lo + by' + 0) % 18446744073709551616 := by unfold plusLo sumI; omega
  have hq : plusHi hi lo by' = (hi + 0 + c1) % 18446744073709551616 := by unfold plusHi sumI; omega
  have a1 := fun w => add64_run lo by' 0 w h2.1 hb (by omega)
  have a2 := fun w => add64_run hi 0 c1 w h1.1 (by omega) (by omega)
  rw [← hp, ← hc1] at a1
  rw [← hq, ← hov] at a2
  have hok1 : ov = 0 → plusOk six hi lo by' = mayB six (plusHi hi lo by') (plusLo hi lo by') := by
    intro h
    unfold plusOk
    rw [decide_eq_true (by unfold sumI; omega)]
    simp
  have hok2 : ¬ ov = 0 → plusOk six hi lo by' = false := by
    intro h
    unfold plusOk
    rw [decide_eq_false (by unfold sumI; omega)]
    simp
  generalize plusHi hi lo by' = ph at *
  generalize plusLo hi lo by' = pl at *
  have rc : 0 ≤ c1 ∧ c1 ≤ 1 := by omega
  clear hc1 hov
  have HM := Lib.hid (fun w => may_any six ph pl w rp.2.1)
  clear hp hq rp
  by_cases ho : ov = 0
  · have hb3 : (ov == 0) = true := by simpa using ho
    rw [hok1 ho]
    clear hok1 hok2
    subst ho
    go_enter Try.func72, Try.ntmps72
    go_wp2_with fail
    go_region_with ((go_at_call 71; ((with_reducible refine (HM.out _).mono ?_); rintro e w2 ⟨rfl, hb⟩; obtain ⟨fc, ff⟩ := bcell hb; have HB : Hid (Below w.heap.size w w2) := (by refine below_step ?_ hb; (repeat' first | with_reducible exact HM.out | with_reducible exact Below.refl _ _ | with_reducible refine Below.drew ?_ | with_reducible refine below_drewN ?_ _ | with_reducible refine Below.setCell ?_ ?_ _ | with_reducible refine Below.alloc ?_ ?_ _ | (simp; done) | (simp; omega) | omega)); clear hb)))
    all_goals go_wp2
    all_goals refine bodyPost_ret (v := .tuple #[.agg #[.bool six, .int .u64 ph, .int .u64 pl], .bool (mayB six ph pl)]) ?_ rfl ⟨rfl, ?_⟩
    all_goals first
      | (simp [results, Try.results72, go_sem, fc, Act.put]; done)
      | (repeat' first | with_reducible exact HB.out | with_reducible exact Below.refl _ _ | with_reducible refine Below.drew ?_ | with_reducible refine below_drewN ?_ _ | with_reducible refine Below.setCell ?_ ?_ _ | with_reducible refine Below.alloc ?_ ?_ _ | (simp; done) | (simp; omega) | omega)
  · have hb3 : (ov == 0) = false := by simpa using ho
    rw [hok2 ho]
    clear hok1 hok2
    go_enter Try.func72, Try.ntmps72
    go_wp2_with fail
    go_region
    all_goals go_wp2
    all_goals refine bodyPost_ret (v := .tuple #[.agg #[.bool six, .int .u64 ph, .int .u64 pl], .bool false]) ?_ rfl ⟨rfl, ?_⟩
    all_goals first
      | (simp [results, Try.results72, go_sem]; done)
      | (repeat' first | with_reducible exact HM.out | with_reducible exact Below.refl _ _ | with_reducible refine Below.drew ?_ | with_reducible refine below_drewN ?_ _ | with_reducible refine Below.setCell ?_ ?_ _ | with_reducible refine Below.alloc ?_ ?_ _ | (simp; done) | (simp; omega) | omega)

set_option maxRecDepth 100000 in
set_option maxHeartbeats 1600000 in
theorem plus_down (six : Bool) (hi lo by' : Int) (w : World) (h1 : 0 ≤ hi ∧ hi < 18446744073709551616) (h2 : 0 ≤ lo ∧ lo < 18446744073709551616) (hb : by' < 0) (hb2 : -1099511627776 ≤ by') :
    Calls Try.prog 72 #[.agg #[.bool six, .int .u64 hi, .int .u64 lo], .int .i64 by'] w fun e w' => e = .returned (.tuple #[.agg #[.bool six, .int .u64 (plusHi hi lo by'), .int .u64 (plusLo hi lo by')], .bool (plusOk six hi lo by')]) ∧ Below w.heap.size w w' := by
  have rp := plus_range hi lo by'
  obtain ⟨c1, hc1⟩ : ∃ c1, c1 = -((lo - -by' - 0) / 18446744073709551616) := ⟨_, rfl⟩
  obtain ⟨ov, hov⟩ : ∃ ov, ov = -((hi - 0 - c1) / 18446744073709551616) := ⟨_, rfl⟩
  have hp : plusLo hi lo by' = (lo - -by' - 0) % 18446744073709551616 := by unfold plusLo sumI; omega
  have hq : plusHi hi lo by' = (hi - 0 - c1) % 18446744073709551616 := by unfold plusHi sumI; omega
  have a1 := fun w => sub64_run lo (-by') 0 w h2 (by omega) (by omega)
  have a2 := fun w => sub64_run hi 0 c1 w h1 (by omega) (by omega)
  rw [← hp, ← hc1] at a1
  rw [← hq, ← hov] at a2
  have hok1 : ov = 0 → plusOk six hi lo by' = mayB six (plusHi hi lo by') (plusLo hi lo by') := by
    intro h
    unfold plusOk
    rw [decide_eq_true (by unfold sumI; omega)]
    simp
  have hok2 : ¬ ov = 0 → plusOk six hi lo by' = false := by
    intro h
    unfold plusOk
    rw [decide_eq_false (by unfold sumI; omega)]
    simp
  generalize plusHi hi lo by' = ph at *
  generalize plusLo hi lo by' = pl at *
  have rc : 0 ≤ c1 ∧ c1 ≤ 1 := by omega
  clear hc1 hov
  have HM := Lib.hid (fun w => may_any six ph pl w rp.2.1)
  clear hp hq rp
  by_cases ho : ov = 0
  · have hb3 : (ov == 0) = true := by simpa using ho
    rw [hok1 ho]
    clear hok1 hok2
    subst ho
    go_enter Try.func72, Try.ntmps72
    go_wp2_with fail
    go_region_with ((go_at_call 71; ((with_reducible refine (HM.out _).mono ?_); rintro e w2 ⟨rfl, hb⟩; obtain ⟨fc, ff⟩ := bcell hb; have HB : Hid (Below w.heap.size w w2) := (by refine below_step ?_ hb; (repeat' first | with_reducible exact HM.out | with_reducible exact Below.refl _ _ | with_reducible refine Below.drew ?_ | with_reducible refine below_drewN ?_ _ | with_reducible refine Below.setCell ?_ ?_ _ | with_reducible refine Below.alloc ?_ ?_ _ | (simp; done) | (simp; omega) | omega)); clear hb)))
    all_goals go_wp2
    all_goals refine bodyPost_ret (v := .tuple #[.agg #[.bool six, .int .u64 ph, .int .u64 pl], .bool (mayB six ph pl)]) ?_ rfl ⟨rfl, ?_⟩
    all_goals first
      | (simp [results, Try.results72, go_sem, fc, Act.put]; done)
      | (repeat' first | with_reducible exact HB.out | with_reducible exact Below.refl _ _ | with_reducible refine Below.drew ?_ | with_reducible refine below_drewN ?_ _ | with_reducible refine Below.setCell ?_ ?_ _ | with_reducible refine Below.alloc ?_ ?_ _ | (simp; done) | (simp; omega) | omega)
  · have hb3 : (ov == 0) = false := by simpa using ho
    rw [hok2 ho]
    clear hok1 hok2
    go_enter Try.func72, Try.ntmps72
    go_wp2_with fail
    go_region
    all_goals go_wp2
    all_goals refine bodyPost_ret (v := .tuple #[.agg #[.bool six, .int .u64 ph, .int .u64 pl], .bool false]) ?_ rfl ⟨rfl, ?_⟩
    all_goals first
      | (simp [results, Try.results72, go_sem]; done)
      | (repeat' first | with_reducible exact HM.out | with_reducible exact Below.refl _ _ | with_reducible refine Below.drew ?_ | with_reducible refine below_drewN ?_ _ | with_reducible refine Below.setCell ?_ ?_ _ | with_reducible refine Below.alloc ?_ ?_ _ | (simp; done) | (simp; omega) | omega)

theorem plus_any (six : Bool) (hi lo by' : Int) (w : World) (h1 : 0 ≤ hi ∧ hi < 18446744073709551616) (h2 : 0 ≤ lo ∧ lo < 18446744073709551616) (hb : -1099511627776 ≤ by' ∧ by' ≤ 1099511627776) :
    Calls Try.prog 72 #[.agg #[.bool six, .int .u64 hi, .int .u64 lo], .int .i64 by'] w fun e w' => e = .returned (.tuple #[.agg #[.bool six, .int .u64 (plusHi hi lo by'), .int .u64 (plusLo hi lo by')], .bool (plusOk six hi lo by')]) ∧ Below w.heap.size w w' := by
  by_cases h : 0 ≤ by'
  · exact plus_up six hi lo by' w h1 h2 h hb.2
  · exact plus_down six hi lo by' w h1 h2 (by omega) hb.1

end Go.Proofs.Ytonelibgaceflaa

namespace Go.Proofs.Ytonelibgaceflaa
set_option linter.unusedVariables false

/-- The prefixes of a set of numbers within a prefix. -/
noncomputable def canonP (S : Nat → Prop) (p : PV) : List PV := (canon S p.k p.v).map (ofBlk p.six)
/-- The prefixes of a range. -/
noncomputable def rangeL (six : Bool) (a b : Nat) : List PV := (canon (InI a b) (widN six) 0).map (ofBlk six)

theorem rangeL_none (six : Bool) {a b : Nat} (h : b < a) : rangeL six a b = [] := by
  unfold rangeL
  rw [canon_none fun x _ _ hx => by have := hx.1; have := hx.2; omega]
  rfl
theorem range_step {p : PV} {last : AV} (hp : p.Ok) (hl : last.Ok) (h6 : last.six = p.six) (hle : p.last.v ≤ last.v)
    (hmax : p.n = 0 ∨ ¬ (Go.Proofs.Ytonelibgaceflaa.chk p.six p.hi p.lo (p.n - 1) = 0 ∧ (PV.last ⟨p.six, p.hi, p.lo, p.n - 1⟩).v ≤ last.v)) : rangeL p.six p.v last.v = p :: rangeL p.six (p.v + 2 ^ p.k) last.v := by
  have hk := PV.k_le hp
  have hn := ok_n hp
  have hln := last_num hp
  have hpp := Nat.two_pow_pos p.k
  have hlv := AV.v_lt hl
  rw [h6] at hlv
  unfold rangeL
  rw [canon_step (widN p.six) (k := p.k) (Nat.dvd_zero _) (Nat.zero_le _) (by have := AV.v_lt hp.addr; rw [Nat.zero_add]; exact this) (by omega) hk.1 (PV.dvd hp) (by omega) ?_, List.map_cons, ofBlk_self hp]
  rcases hmax with h | h
  · left
    rw [h] at hk
    omega
  · by_cases h0 : p.n = 0
    · left; rw [h0] at hk; omega
    · right
      rintro ⟨hd, he⟩
      have hq := (chk_num (p := ⟨p.six, p.hi, p.lo, p.n - 1⟩) hp.addr ⟨by show 0 ≤ p.n - 1; omega, by show p.n - 1 ≤ wideI p.six; omega⟩)
      have hk2 : PV.k ⟨p.six, p.hi, p.lo, p.n - 1⟩ = p.k + 1 := by have hw := widN_eq p.six; unfold PV.k; simp only; omega
      rw [hk2] at hq
      have hc := hq.2 hd
      refine h ⟨hc, ?_⟩
      have hok : PV.Ok ⟨p.six, p.hi, p.lo, p.n - 1⟩ := chk_zero (Pfx.rhi hp) (Pfx.rlo hp) hc
      rw [last_num hok, hk2]
      show p.v + 2 ^ (p.k + 1) - 1 ≤ last.v
      omega

theorem canonP_none {S : Nat → Prop} {p : PV} (h : ∀ x, p.v ≤ x → x < p.v + 2 ^ p.k → ¬ S x) : canonP S p = [] := by
  unfold canonP; rw [canon_none h]; rfl
theorem canonP_full {S : Nat → Prop} {p : PV} (hp : p.Ok) (h : ∀ x, p.v ≤ x → x < p.v + 2 ^ p.k → S x) : canonP S p = [p] := by
  unfold canonP; rw [canon_full h, List.map_cons, ofBlk_self hp]; rfl
theorem canonP_split {S : Nat → Prop} {p : PV} (hp : p.Ok) (hn : p.n < wideI p.six) (h : ¬ ∀ x, p.v ≤ x → x < p.v + 2 ^ p.k → S x) : canonP S p = canonP S p.low ++ canonP S p.high := by
  obtain ⟨_, l2, l3⟩ := low_num hp hn
  obtain ⟨_, h2, h3⟩ := high_num hp hn
  have e : p.low.k = p.high.k := by omega
  unfold canonP
  rw [l3] at h ⊢
  rw [canon_split h, List.map_append, l2, h2, ← e]
  rfl
/-- A prefix of one address. -/
theorem one_addr {p : PV} (hp : p.Ok) (hn : p.n = wideI p.six) : p.k = 0 := by unfold PV.k; omega

theorem top_ok (six : Bool) : PV.Ok ⟨six, 0, 0, 0⟩ := by
  cases six
  · exact chk_zero ⟨Int.le_refl _, by decide⟩ ⟨Int.le_refl _, by decide⟩ (by decide)
  · exact chk_zero ⟨Int.le_refl _, by decide⟩ ⟨Int.le_refl _, by decide⟩ (by decide)
theorem top_num (six : Bool) : PV.v ⟨six, 0, 0, 0⟩ = 0 ∧ PV.k ⟨six, 0, 0, 0⟩ = widN six := by
  cases six
  · exact ⟨rfl, rfl⟩
  · exact ⟨rfl, rfl⟩
theorem canonP_top (six : Bool) (a b : Nat) : canonP (InI a b) ⟨six, 0, 0, 0⟩ = rangeL six a b := by
  unfold canonP rangeL
  rw [(top_num six).1, (top_num six).2]

end Go.Proofs.Ytonelibgaceflaa

namespace Go.Proofs.Ytonelibgaceflaa

/-- One end of the interval lies outside of the block: at most a block a level. -/
theorem canon_low : ∀ (K : Nat) {v a b : Nat}, a ≤ v → (canon (InI a b) K v).length ≤ K + 1
  | 0, v, a, b, _ => by unfold canon; split <;> simp
  | K + 1, v, a, b, h => by
    have hp := Nat.two_pow_pos K
    have he : 2 ^ (K + 1) = 2 ^ K + 2 ^ K := by rw [Nat.pow_succ]; omega
    by_cases hall : ∀ x, v ≤ x → x < v + 2 ^ (K + 1) → InI a b x
    · rw [canon_full hall]; simp
    · rw [canon_split hall, List.length_append]
      have h2 := canon_low K (v := v + 2 ^ K) (a := a) (b := b) (by omega)
      by_cases hlow : ∀ x, v ≤ x → x < v + 2 ^ K → InI a b x
      · rw [canon_full hlow]; simp; omega
      · have h1 := canon_low K (v := v) (a := a) (b := b) h
        rw [canon_none (S := InI a b) (k := K) (v := v + 2 ^ K) (fun x hx1 hx2 hx => hlow fun y hy1 hy2 => ⟨by omega, by have := hx.2; omega⟩)]
        simp; omega
theorem canon_high : ∀ (K : Nat) {v a b : Nat}, v + 2 ^ K ≤ b + 1 → (canon (InI a b) K v).length ≤ K + 1
  | 0, v, a, b, _ => by unfold canon; split <;> simp
  | K + 1, v, a, b, h => by
    have hp := Nat.two_pow_pos K
    have he : 2 ^ (K + 1) = 2 ^ K + 2 ^ K := by rw [Nat.pow_succ]; omega
    by_cases hall : ∀ x, v ≤ x → x < v + 2 ^ (K + 1) → InI a b x
    · rw [canon_full hall]; simp
    · rw [canon_split hall, List.length_append]
      have h1 := canon_high K (v := v) (a := a) (b := b) (by omega)
      by_cases hhigh : ∀ x, v + 2 ^ K ≤ x → x < v + 2 ^ K + 2 ^ K → InI a b x
      · rw [canon_full hhigh]; simp; omega
      · have h2 := canon_high K (v := v + 2 ^ K) (a := a) (b := b) (by omega)
        rw [canon_none (S := InI a b) (k := K) (v := v) (fun x hx1 hx2 hx => hhigh fun y hy1 hy2 => ⟨by have := hx.1; omega, by omega⟩)]
        simp; omega
theorem canon_len : ∀ (K : Nat) {v a b : Nat}, (canon (InI a b) K v).length ≤ 2 * K + 2
  | 0, v, a, b => by unfold canon; split <;> simp
  | K + 1, v, a, b => by
    have hp := Nat.two_pow_pos K
    by_cases hall : ∀ x, v ≤ x → x < v + 2 ^ (K + 1) → InI a b x
    · rw [canon_full hall]; simp
    · rw [canon_split hall, List.length_append]
      by_cases h1 : a ≤ v + 2 ^ K
      · have h2 := canon_low K (v := v + 2 ^ K) (a := a) (b := b) h1
        by_cases h3 : v + 2 ^ K ≤ b + 1
        · have h4 := canon_high K (v := v) (a := a) (b := b) h3
          omega
        · have h4 := canon_len K (v := v) (a := a) (b := b)
          rw [canon_none (S := InI a b) (k := K) (v := v + 2 ^ K) (fun x hx1 hx2 hx => by have := hx.2; omega)]
          simp; omega
      · have h4 := canon_len K (v := v + 2 ^ K) (a := a) (b := b)
        rw [canon_none (S := InI a b) (k := K) (v := v) (fun x hx1 hx2 hx => by have := hx.1; omega)]
        simp; omega
theorem rangeL_len (six : Bool) (a b : Nat) : (rangeL six a b).length ≤ 258 := by
  unfold rangeL
  rw [List.length_map]
  have := canon_len (widN six) (v := 0) (a := a) (b := b)
  have : widN six ≤ 128 := by cases six <;> decide
  omega

end Go.Proofs.Ytonelibgaceflaa

namespace Go.Proofs.Ytonelibgaceflaa
open Go.ChangeShapes Go.WideShapes Go.ChangeAt Go.RowKit

theorem infoPre : (Try.prog.info? 35).map (fun i => (i.zero, i.size, i.bytes)) = some (some (.agg #[.bool false, .int .u64 0, .int .u64 0, .int .i64 0]), 4, 32) := by kernel_rfl
theorem wide_B (six : Bool) (w : World) : Calls Try.prog 150 #[.bool six] w fun e w' => e = .returned (.int .i64 (wideI six)) ∧ Below w.heap.size w w' := (wide_any six w).mono fun e w' h => ⟨h.1, by rw [← h.2]; exact Below.refl _ _⟩
theorem plen {p : PV} (hp : p.Ok) : 0 ≤ p.n ∧ p.n ≤ 128 := by have := ok_n hp; have := wideI_le p.six; omega

/-- A new box of a prefix, above all that was. -/
def NewBox (Y : World) (p : PV) (v : Value) (wc : World) : Prop :=
  ∃ b, v = .pointer (some ⟨b, 0, none⟩) ∧ Y.heap.size ≤ b ∧ b < wc.heap.size ∧ Blk wc b 35 #[.bool p.six, .int .u64 p.hi, .int .u64 p.lo, .int .i64 p.n] ∧ Below Y.heap.size Y wc
theorem newBox_A {Y w3 : World} {six : Bool} {hi lo n : Int} (h : Below Y.heap.size Y w3) :
    NewBox Y ⟨six, hi, lo, n⟩ (.pointer (some ⟨w3.heap.size, 0, none⟩)) (w3.alloc (.cells #[.bool six, .int .u64 hi, .int .u64 lo, .int .i64 n] 35)) :=
  ⟨_, rfl, h.size, by simp, Blk.new _ _ _, h.alloc h.size _⟩
theorem newBox_B {Y Q w3 : World} {six : Bool} {hi lo n : Int} (hb : Below Q.heap.size Q w3) (hQ : Q.heap = (Y.alloc (.cells #[.bool false, .int .u64 0, .int .u64 0, .int .i64 0] 35)).heap) (h : Below Y.heap.size Y w3) :
    NewBox Y ⟨six, hi, lo, n⟩ (.pointer (some ⟨Y.heap.size, 0, none⟩)) ((((w3.setCell ⟨Y.heap.size, 0, none⟩ (.bool six)).setCell ⟨Y.heap.size, 1, none⟩ (.int .u64 hi)).setCell ⟨Y.heap.size, 2, none⟩ (.int .u64 lo)).setCell ⟨Y.heap.size, 3, none⟩ (.int .i64 n)) := by
  obtain ⟨b, he, h1, h2, h3⟩ := newPfx_B (six := six) (hi := hi) (lo := lo) (n := n) hb hQ h
  injection he with he
  injection he with he
  injection he with he
  subst he
  exact ⟨_, rfl, Nat.le_refl _, h1, h2, h3⟩

/-- Where the cutting stands. -/
def CutAt (w : World) (base : Nat) (n0 : Nat) (xs0 : List Value) (six : Bool) (sp : Array Value) (f : Nat) (l : AV) (k : Nat) (v p5 : Value) (wr : World) : Prop :=
  ∃ (b : Nat) (hi lo : Int) (done : List PV), p5 = .pointer (some ⟨b, 0, none⟩) ∧ Blk wr b 24 #[.bool six, .int .u64 hi, .int .u64 lo] ∧ AV.Ok ⟨six, hi, lo⟩ ∧ AV.v ⟨six, hi, lo⟩ ≤ l.v ∧ l.v - AV.v ⟨six, hi, lo⟩ ≤ k ∧ rangeL six f l.v = done ++ rangeL six (AV.v ⟨six, hi, lo⟩) l.v ∧
    wr.ownsRow base 35 4 v (n0 + done.length) (xs0 ++ done.flatMap PV.cells) ∧ Blk wr w.heap.size 117 sp ∧ Below base w wr ∧ w.heap.size < b ∧ b < wr.heap.size
/-- Where the lengthening stands. -/
def GrowAt (X : World) (G : Nat) (six : Bool) (hi lo : Int) (l : AV) (k : Nat) (wx : World) : Prop :=
  ∃ n : Int, PV.Ok ⟨six, hi, lo, n⟩ ∧ (PV.last ⟨six, hi, lo, n⟩).v ≤ l.v ∧ n.toNat ≤ k ∧ Blk wx G 35 #[.bool six, .int .u64 hi, .int .u64 lo, .int .i64 n] ∧ Below X.heap.size X wx
/-- A prefix that can't be lengthened. -/
def Longest (X : World) (G : Nat) (six : Bool) (hi lo : Int) (l : AV) (wx : World) : Prop :=
  ∃ n : Int, PV.Ok ⟨six, hi, lo, n⟩ ∧ (PV.last ⟨six, hi, lo, n⟩).v ≤ l.v ∧ (n = 0 ∨ ¬ (chk six hi lo (n - 1) = 0 ∧ (PV.last ⟨six, hi, lo, n - 1⟩).v ≤ l.v)) ∧ Blk wx G 35 #[.bool six, .int .u64 hi, .int .u64 lo, .int .i64 n] ∧ Below X.heap.size X wx

set_option maxRecDepth 100000 in
set_option maxHeartbeats 3200000 in
theorem spanCut_any (six : Bool) (fhi flo lhi llo : Int) (base : Nat) (v0 : Value) (n0 : Nat) (xs0 : List Value) (w : World) (hf : AV.Ok ⟨six, fhi, flo⟩) (hl : AV.Ok ⟨six, lhi, llo⟩) (hle : AV.v ⟨six, fhi, flo⟩ ≤ AV.v ⟨six, lhi, llo⟩)
    (hown : w.ownsRow base 35 4 v0 n0 xs0) (hbase : base ≤ w.heap.size) (hn0 : n0 ≤ 1000000) :
    Calls Try.prog 74 #[.agg #[.bool six, .int .u64 fhi, .int .u64 flo, .bool six, .int .u64 lhi, .int .u64 llo], v0] w fun e w' =>
      ∃ v, e = .returned v ∧ w'.ownsRow base 35 4 v (n0 + (rangeL six (AV.v ⟨six, fhi, flo⟩) (AV.v ⟨six, lhi, llo⟩)).length) (xs0 ++ (rangeL six (AV.v ⟨six, fhi, flo⟩) (AV.v ⟨six, lhi, llo⟩)).flatMap PV.cells) ∧ Below base w w' := by
  have HF := Lib.hid hf
  have HL := Lib.hid hl
  have HLE := Lib.hid hle
  have HOW := Lib.hid hown
  clear hf hl hle hown
  go_enter Try.func74, Try.ntmps74
  go_wp2_with fail
  go_loopg [1, 5, 6, 7, 8, 4] (AV.v ⟨six, lhi, llo⟩ - AV.v ⟨six, fhi, flo⟩) (fun k v p5 _ _ _ _ wr => CutAt w base n0 xs0 six #[.bool six, .int .u64 fhi, .int .u64 flo, .bool six, .int .u64 lhi, .int .u64 llo] (AV.v ⟨six, fhi, flo⟩) ⟨six, lhi, llo⟩ k v p5 wr)
  case atStart =>
    refine ⟨_, fhi, flo, [], rfl, ?_, HF.out, HLE.out, Nat.le_refl _, rfl, ?_, ?_, ?_, ?_, ?_⟩
    · have := Blk.new (w.alloc (.cells #[.bool six, .int .u64 fhi, .int .u64 flo, .bool six, .int .u64 lhi, .int .u64 llo] 117)) 24 #[.bool six, .int .u64 fhi, .int .u64 flo]
      simpa using this
    · simpa using (HOW.out.alloc _).alloc _
    · exact (Blk.new _ _ _).alloc _
    · exact ((Below.refl _ _).alloc hbase _).alloc (by simp; omega) _
    · omega
    · simp
  case round =>
    obtain ⟨b, hi, lo, done, rfl, hkb, hok, hlev, hk, hrange, hown, hks, hbb, hwb, hbw⟩ := hrel
    obtain ⟨X, rfl⟩ : ∃ X : World, X = wr := ⟨_, rfl⟩
    have a0 := hkb.cell 0
    have a1 := hkb.cell 1
    have a2 := hkb.cell 2
    simp at a0 a1 a2
    have HKB := Lib.hid hkb
    have HOK := Lib.hid hok
    have HLV := Lib.hid hlev
    have HRG := Lib.hid hrange
    have HOWN := Lib.hid hown
    have HKS := Lib.hid hks
    have HBB := Lib.hid hbb
    have hxs := hbb.size
    have CW := Lib.hid (fun w => wide_B six w)
    obtain ⟨wd, hwd⟩ : ∃ wd, wideI six = wd := ⟨_, rfl⟩
    rw [hwd] at CW
    have HWD := Lib.hid hwd
    clear hkb hok hlev hrange hown hks hbb hwd
    go_wp2_with fail
    go_cut [6] (fun v wx => NewBox X ⟨six, hi, lo, wd⟩ v wx)
    case first =>
      go_region_held3 (fun w' => (∀ b o, b < X.heap.size → w'.cell? ⟨b, o, none⟩ = X.cell? ⟨b, o, none⟩) ∧ X.heap.size ≤ w'.heap.size ∧ Hid (Below X.heap.size X w'))
        ((first | assumption | exact keep0 _ | (refine keepF ?_; (repeat' first | with_reducible exact HB3.out | with_reducible exact Below.refl _ _ | with_reducible refine Below.drew ?_ | with_reducible refine below_drewN ?_ _ | with_reducible refine Below.setCell ?_ ?_ _ | with_reducible refine Below.alloc ?_ ?_ _ | exact HB3.out.size | (simp; done) | (simp; have := HB3.out.size; omega) | (simp; omega)); done)))
        (first | (go_at_call 150; refine (CW.out _).mono ?_; rintro e w3 ⟨rfl, hb3⟩; obtain ⟨fc3, ff3⟩ := bcell hb3; have hz3 := hb3.size; have HB3 : Hid (Below X.heap.size X w3) := (keepBelow (by assumption)).trans (hb3.mono (keepSize (by assumption)))))
      all_goals
        go_wp2_with fail
        go_meet
        first
          | with_reducible exact newBox_A HB3.out
          | exact newBox_B hb3 rfl HB3.out
    case rest =>
      obtain ⟨G, rfl, hg0, hg, hkG, hbx⟩ := hcut
      have HKG := Lib.hid hkG
      have HBX := Lib.hid hbx
      clear hkG hbx
      go_upto_block 2 with fail
      go_cut [7] (fun _ wx => Longest X G six hi lo ⟨six, lhi, llo⟩ wx)
      case first =>
        go_wp2_with fail
        go_loopg [7] wd.toNat (fun k _ wx => GrowAt X G six hi lo ⟨six, lhi, llo⟩ k wx)
        case atStart =>
          refine ⟨wd, ?_, ?_, Nat.le_refl _, HKG.out, HBX.out⟩
          · have := addr_pfx HOK.out
            rw [show wideI (AV.mk six hi lo).six = wd from HWD.out] at this
            exact this
          · have hp := addr_pfx HOK.out
            rw [show wideI (AV.mk six hi lo).six = wd from HWD.out] at hp
            rw [last_num hp, one_addr hp HWD.out.symm]
            have := HLV.out
            show AV.v ⟨six, hi, lo⟩ + 2 ^ 0 - 1 ≤ _
            omega
        case round =>
          obtain ⟨n, hpn, hlast, hnk, hkg, hbx⟩ := hrel
          obtain ⟨Z, rfl⟩ : ∃ Z : World, Z = wr := ⟨_, rfl⟩
          have A0 := (hbx.cell (p := ⟨b, 0, none⟩) hbw).trans a0
          have A1 := (hbx.cell (p := ⟨b, 1, none⟩) hbw).trans a1
          have A2 := (hbx.cell (p := ⟨b, 2, none⟩) hbw).trans a2
          have hwX : w.heap.size < X.heap.size := by omega
          have s3 := (hbx.cell (p := ⟨w.heap.size, 3, none⟩) hwX).trans (HKS.out.cell 3)
          have s4 := (hbx.cell (p := ⟨w.heap.size, 4, none⟩) hwX).trans (HKS.out.cell 4)
          have s5 := (hbx.cell (p := ⟨w.heap.size, 5, none⟩) hwX).trans (HKS.out.cell 5)
          have p0 := hkg.cell 0
          have p1 := hkg.cell 1
          have p2 := hkg.cell 2
          have p3 := hkg.cell 3
          have fp0 := hkg.frozen 0
          have fp1 := hkg.frozen 1
          have fp2 := hkg.frozen 2
          have fp3 := hkg.frozen 3
          simp at s3 s4 s5 p0 p1 p2 p3
          have hZX := hbx.size
          have hGZ := hkg.lt
          have hbZ : b < Z.heap.size := by omega
          have hwZ : w.heap.size < Z.heap.size := by omega
          have hnn := plen hpn
          simp only at hnn
          have HPN := Lib.hid hpn
          have HLA := Lib.hid hlast
          have HKG2 := Lib.hid hkg
          have HBX2 := Lib.hid hbx
          clear hpn hlast hkg hbx
          by_cases hn0 : n = 0
          · subst hn0
            go_wp2_with fail
            go_meet
            exact ⟨0, HPN.out, HLA.out, .inl rfl, HKG2.out, HBX2.out⟩
          · have hn1 : 0 < n := by omega
            have CK := Lib.hid (fun w => check_any six hi lo (n - 1) w HOK.out.rhi HOK.out.rlo)
            have CL := Lib.hid (fun w => last_any six hi lo (n - 1) w HOK.out.rhi HOK.out.rlo (by omega) (by omega))
            have CS := Lib.hid (fun (lh ll : Int) (w : World) => less_any six lhi llo six lh ll w)
            obtain ⟨cv, hcv⟩ : ∃ cv, chk six hi lo (n - 1) = cv := ⟨_, rfl⟩
            rw [hcv] at CK
            have HCV := Lib.hid hcv
            obtain ⟨lh, hlh⟩ : ∃ lh, lastHi six hi lo (n - 1) = lh := ⟨_, rfl⟩
            obtain ⟨ll, hll⟩ : ∃ ll, lastLo six hi lo (n - 1) = ll := ⟨_, rfl⟩
            rw [hlh, hll] at CL
            have CS2 := Lib.hid (CS.out lh ll)
            clear CS
            have HLQ : Hid ((PV.last ⟨six, hi, lo, n - 1⟩) = ⟨six, lh, ll⟩) := by show _ = _; rw [← hlh, ← hll]; rfl
            obtain ⟨lb, hlb⟩ : ∃ lb, lessB ⟨six, lhi, llo⟩ ⟨six, lh, ll⟩ = lb := ⟨_, rfl⟩
            rw [hlb] at CS2
            have HLB : Hid (lb = true ↔ AV.v ⟨six, lhi, llo⟩ < (PV.last ⟨six, hi, lo, n - 1⟩).v) := by
              show _ ↔ _
              rw [HLQ.out, ← hlb]
              exact less_num HL.out (by rw [← HLQ.out]; exact PV.last_ok _) rfl
            clear hcv hlh hll hlb hn0
            by_cases hc0 : cv = 0
            · subst hc0
              cases lb with
              | true =>
              have HLT := Lib.hid (HLB.out.1 rfl)
              clear HLB
              go_wp2_with fail
              obtain ⟨Y, hY⟩ : ∃ Y, (Z.alloc (.cells #[.bool six, .int .u64 hi, .int .u64 lo, .int .i64 (n - 1)] 35)) = Y := ⟨_, rfl⟩
              have kq : Blk Y Z.heap.size 35 #[.bool six, .int .u64 hi, .int .u64 lo, .int .i64 (n - 1)] := by rw [← hY]; exact Blk.new _ _ _
              have hZY : Below Z.heap.size Z Y := by rw [← hY]; exact (Below.refl _ _).alloc (Nat.le_refl _) _
              rw [hY]
              have q0 := kq.cell 0
              have q1 := kq.cell 1
              have q2 := kq.cell 2
              have q3 := kq.cell 3
              simp at q0 q1 q2 q3
              have hzy := kq.lt
              have y3 := (hZY.cell (p := ⟨w.heap.size, 3, none⟩) hwZ).trans s3
              have y4 := (hZY.cell (p := ⟨w.heap.size, 4, none⟩) hwZ).trans s4
              have y5 := (hZY.cell (p := ⟨w.heap.size, 5, none⟩) hwZ).trans s5
              have hwY : w.heap.size < Y.heap.size := by omega
              have HZY := Lib.hid hZY
              have HKQ := Lib.hid kq
              clear hZY kq hY
              go_region_held3 (fun w' => (∀ b o, b < Y.heap.size → w'.cell? ⟨b, o, none⟩ = Y.cell? ⟨b, o, none⟩) ∧ Y.heap.size ≤ w'.heap.size ∧ Hid (Below Y.heap.size Y w'))
                ((first | assumption | exact keep0 _ | exact keep1 (by assumption) (by assumption) | exact keepD (by assumption) | exact keepB (by assumption) (by assumption) | exact keepA (by assumption) _ | exact ⟨fun _ _ _ => rfl, Nat.le_refl _, Below.refl _ _⟩))
                (first | (go_at_call 151; refine (CK.out _).mono ?_; rintro e w2 ⟨rfl, hb2⟩) | (go_at_call 113; refine (CL.out _).mono ?_; rintro e w2 ⟨rfl, hb2⟩) | (go_at_call 73; refine (CS2.out _).mono ?_; rintro e w2 ⟨rfl, hb2⟩))
              all_goals
                go_wp2_with fail
                go_meet
                exact ⟨n, HPN.out, HLA.out, .inr (fun h => by have := HLT.out; omega), HKG2.out.below (HZY.out.trans ((keepBelow (by assumption)).mono (by omega))) HKG2.out.lt, HBX2.out.trans ((HZY.out.trans ((keepBelow (by assumption)).mono (by omega))).mono (by omega))⟩
              | false =>
              have HGE : Hid (¬ AV.v ⟨six, lhi, llo⟩ < (PV.last ⟨six, hi, lo, n - 1⟩).v) := fun h => by have := HLB.out.2 h; cases this
              clear HLB
              go_wp2_with fail
              obtain ⟨Y, hY⟩ : ∃ Y, (Z.alloc (.cells #[.bool six, .int .u64 hi, .int .u64 lo, .int .i64 (n - 1)] 35)) = Y := ⟨_, rfl⟩
              have kq : Blk Y Z.heap.size 35 #[.bool six, .int .u64 hi, .int .u64 lo, .int .i64 (n - 1)] := by rw [← hY]; exact Blk.new _ _ _
              have hZY : Below Z.heap.size Z Y := by rw [← hY]; exact (Below.refl _ _).alloc (Nat.le_refl _) _
              rw [hY]
              have q0 := kq.cell 0
              have q1 := kq.cell 1
              have q2 := kq.cell 2
              have q3 := kq.cell 3
              simp at q0 q1 q2 q3
              have hzy := kq.lt
              have y3 := (hZY.cell (p := ⟨w.heap.size, 3, none⟩) hwZ).trans s3
              have y4 := (hZY.cell (p := ⟨w.heap.size, 4, none⟩) hwZ).trans s4
              have y5 := (hZY.cell (p := ⟨w.heap.size, 5, none⟩) hwZ).trans s5
              have hwY : w.heap.size < Y.heap.size := by omega
              have HZY := Lib.hid hZY
              have HKQ := Lib.hid kq
              clear hZY kq hY
              go_region_held3 (fun w' => (∀ b o, b < Y.heap.size → w'.cell? ⟨b, o, none⟩ = Y.cell? ⟨b, o, none⟩) ∧ Y.heap.size ≤ w'.heap.size ∧ Hid (Below Y.heap.size Y w'))
                ((first | assumption | exact keep0 _ | exact keep1 (by assumption) (by assumption) | exact keepD (by assumption) | exact keepB (by assumption) (by assumption) | exact keepA (by assumption) _ | exact ⟨fun _ _ _ => rfl, Nat.le_refl _, Below.refl _ _⟩))
                (first | (go_at_call 151; refine (CK.out _).mono ?_; rintro e w2 ⟨rfl, hb2⟩) | (go_at_call 113; refine (CL.out _).mono ?_; rintro e w2 ⟨rfl, hb2⟩) | (go_at_call 73; refine (CS2.out _).mono ?_; rintro e w2 ⟨rfl, hb2⟩))
              obtain ⟨fc2, z2, H2⟩ : (∀ b o, b < Y.heap.size → w2.cell? ⟨b, o, none⟩ = Y.cell? ⟨b, o, none⟩) ∧ Y.heap.size ≤ w2.heap.size ∧ Hid (Below Y.heap.size Y w2) := by assumption
              have kp2 : Blk w2 G 35 #[.bool six, .int .u64 hi, .int .u64 lo, .int .i64 n] := HKG2.out.below (HZY.out.trans (H2.out.mono (by omega))) HKG2.out.lt
              have r0 := kp2.cell 0
              have r1 := kp2.cell 1
              have r2 := kp2.cell 2
              have r3 := kp2.cell 3
              have fr0 := kp2.frozen 0
              have fr1 := kp2.frozen 1
              have fr2 := kp2.frozen 2
              have fr3 := kp2.frozen 3
              simp at r0 r1 r2 r3
              have HKP2 := Lib.hid kp2
              have HX2 := Lib.hid (HBX2.out.trans ((HZY.out.trans (H2.out.mono (by omega))).mono hZX))
              clear kp2 fp0 fp1 fp2 fp3
              go_wp2
              go_roundg (n - 1).toNat
              case measure => omega
              case rel =>
                refine ⟨n - 1, ?_, ?_, Nat.le_refl _, ?_, ?_⟩
                · exact chk_zero HOK.out.rhi HOK.out.rlo HCV.out
                · have := HGE.out; omega
                · simpa using ((((HKP2.out.set_ 0 (.bool six)).set_ 1 (.int .u64 hi)).set_ 2 (.int .u64 lo)).set_ 3 (.int .i64 (n - 1)))
                · exact (((HX2.out.setCell hg0 _).setCell hg0 _).setCell hg0 _).setCell hg0 _
            · have hcb : (cv != 0) = true := by simpa using hc0
              have HC0 := Lib.hid hc0
              clear hc0
              go_wp2_with fail
              obtain ⟨Y, hY⟩ : ∃ Y, (Z.alloc (.cells #[.bool six, .int .u64 hi, .int .u64 lo, .int .i64 (n - 1)] 35)) = Y := ⟨_, rfl⟩
              have kq : Blk Y Z.heap.size 35 #[.bool six, .int .u64 hi, .int .u64 lo, .int .i64 (n - 1)] := by rw [← hY]; exact Blk.new _ _ _
              have hZY : Below Z.heap.size Z Y := by rw [← hY]; exact (Below.refl _ _).alloc (Nat.le_refl _) _
              rw [hY]
              have q0 := kq.cell 0
              have q1 := kq.cell 1
              have q2 := kq.cell 2
              have q3 := kq.cell 3
              simp at q0 q1 q2 q3
              have hzy := kq.lt
              have y3 := (hZY.cell (p := ⟨w.heap.size, 3, none⟩) hwZ).trans s3
              have y4 := (hZY.cell (p := ⟨w.heap.size, 4, none⟩) hwZ).trans s4
              have y5 := (hZY.cell (p := ⟨w.heap.size, 5, none⟩) hwZ).trans s5
              have hwY : w.heap.size < Y.heap.size := by omega
              have HZY := Lib.hid hZY
              have HKQ := Lib.hid kq
              clear hZY kq hY
              first
                | go_region_with (first | (go_at_call 151; refine (CK.out _).mono ?_; rintro e w2 ⟨rfl, hb2⟩))
                | fail
              all_goals
                have HB2 : Hid (Below Z.heap.size Z w2) := HZY.out.trans (((Below.refl Y.heap.size Y).drew.trans (hb2.mono (by simp))).mono (by omega))
                clear hb2
                go_wp2_with fail
                go_meet
                exact ⟨n, HPN.out, HLA.out, .inr (fun h => HC0.out (HCV.out.symm.trans h.1)), HKG2.out.below HB2.out HKG2.out.lt, HBX2.out.trans (HB2.out.mono (by omega))⟩
      case rest =>
        obtain ⟨n, hpn, hlast, hmax, hkg, hbx⟩ := hcut
        have HPN := Lib.hid hpn
        have HLA := Lib.hid hlast
        have hnn := plen hpn
        simp only at hnn
        have p0 := hkg.cell 0
        have p1 := hkg.cell 1
        have p2 := hkg.cell 2
        have p3 := hkg.cell 3
        simp at p0 p1 p2 p3
        have HKG2 := Lib.hid hkg
        have HBX2 := Lib.hid hbx
        have HSTEP := Lib.hid (range_step hpn HL.out rfl hlast hmax)
        have HOWC := Lib.hid (own_below HOWN.out hbx)
        have hgl := hkg.lt
        have hXc := hbx.size
        have hdone : done.length ≤ 258 := by
          have := rangeL_len six (AV.v ⟨six, fhi, flo⟩) (AV.v ⟨six, lhi, llo⟩)
          rw [HRG.out, List.length_append] at this
          omega
        clear hpn hlast hmax hkg hbx
        go_wp2_with (at_builtin; go_loud (refine wpList_append_oneN rfl _ _ 30 rfl base (.agg #[.bool false, .int .u64 0, .int .u64 0, .int .i64 0]) 4 32 Try.underlying30 infoPre rfl (by decide) _ _ _ rfl rfl ?c0 HOWC.out ?c1 rfl ?c2 ?c3 ?c4 ?_))
        case c0 => (try simp); done
        case c1 => omega
        case c2 => first | (intro u hu; simp at hu; rcases hu with rfl | rfl | rfl | rfl <;> rfl) | exact ⟨rfl, rfl, rfl, rfl⟩
        case c3 => unfold maxLen; omega
        case c4 => omega
        intro v' w' hown' hb' hs' hk'
        have hOW1 : w'.ownsRow base 35 4 v' (n0 + (done ++ [(⟨six, hi, lo, n⟩ : PV)]).length) (xs0 ++ (done ++ [(⟨six, hi, lo, n⟩ : PV)]).flatMap PV.cells) := by
          rw [List.length_append, List.flatMap_append]
          exact hown'
        have HOW1 := Lib.hid hOW1
        have hbX : b < wc.heap.size := by omega
        have hwX : w.heap.size < wc.heap.size := by omega
        have nG := own_block_lt HOWN.out hg0
        have nB := own_blk_ne HOWN.out HKB.out (by decide)
        have nS := own_blk_ne HOWN.out HKS.out (by decide)
        have kG : Blk w' G 35 #[.bool six, .int .u64 hi, .int .u64 lo, .int .i64 n] := (hk' G hgl nG).trans HKG2.out
        have kB : Blk w' b 24 #[.bool six, .int .u64 hi, .int .u64 lo] := (hk' b hbX nB).trans (HKB.out.below HBX2.out hbw)
        have kS : Blk w' w.heap.size 117 #[.bool six, .int .u64 fhi, .int .u64 flo, .bool six, .int .u64 lhi, .int .u64 llo] := (hk' w.heap.size hwX nS).trans (HKS.out.below HBX2.out (by omega))
        have HW1 := Lib.hid ((HBB.out.trans (HBX2.out.mono (by omega))).trans hb')
        have HKB1 := Lib.hid kB
        have HKS1 := Lib.hid kS
        have g0 := kG.cell 0
        have g1 := kG.cell 1
        have g2 := kG.cell 2
        have g3 := kG.cell 3
        have s3 := kS.cell 3
        have s4 := kS.cell 4
        have s5 := kS.cell 5
        simp at g0 g1 g2 g3 s3 s4 s5
        have lG := kG.lt
        have lB := kB.lt
        have lS := kS.lt
        clear hown' hb' hk' hOW1 nG nB nS kG kB kS p0 p1 p2 p3
        have CL := Lib.hid (fun w => last_any six hi lo n w HOK.out.rhi HOK.out.rlo (by omega) (by omega))
        obtain ⟨lh, hlh⟩ : ∃ lh, lastHi six hi lo n = lh := ⟨_, rfl⟩
        obtain ⟨ll, hll⟩ : ∃ ll, lastLo six hi lo n = ll := ⟨_, rfl⟩
        rw [hlh, hll] at CL
        have HLQ : Hid ((PV.last ⟨six, hi, lo, n⟩) = ⟨six, lh, ll⟩) := by show _ = _; rw [← hlh, ← hll]; rfl
        have HLO : Hid (AV.Ok ⟨six, lh, ll⟩) := by show AV.Ok _; rw [← HLQ.out]; exact PV.last_ok _
        have HLN : Hid (AV.v ⟨six, lh, ll⟩ = AV.v ⟨six, hi, lo⟩ + 2 ^ PV.k ⟨six, hi, lo, n⟩ - 1) := by show _ = _; rw [← HLQ.out, last_num HPN.out]; rfl
        have HPP := Lib.hid (Nat.two_pow_pos (PV.k ⟨six, hi, lo, n⟩))
        clear hlh hll
        by_cases heq : lh = lhi ∧ ll = llo
        · obtain ⟨rfl, rfl⟩ := heq
          have HEQ : ∀ w, (Op.equalIn 10000 24 (.agg #[.bool six, .int .u64 lh, .int .u64 ll]) (.agg #[.bool six, .int .u64 lh, .int .u64 ll])).run Try.prog w = .ok true w := fun w => by rw [eqAV 9998]; simp
          have HFIN : Hid (rangeL six (AV.v ⟨six, fhi, flo⟩) (AV.v ⟨six, lh, ll⟩) = done ++ [(⟨six, hi, lo, n⟩ : PV)]) := by
            show _ = _
            rw [HRG.out]
            have h1 := HSTEP.out
            have h2 : rangeL six (PV.v ⟨six, hi, lo, n⟩ + 2 ^ PV.k ⟨six, hi, lo, n⟩) (AV.v ⟨six, lh, ll⟩) = [] := rangeL_none _ (by have := HLN.out; have := HPP.out; show _ < AV.v ⟨six, hi, lo⟩ + _; omega)
            rw [h2] at h1
            rw [show AV.v ⟨six, hi, lo⟩ = PV.v ⟨six, hi, lo, n⟩ from rfl, h1]
          go_wp2_with fail
          refine (CL.out _).mono ?_
          rintro e w2 ⟨rfl, hb2⟩
          obtain ⟨fc, ff⟩ := bcell hb2
          have hs2 := hb2.size
          have HB2 := Lib.hid (HW1.out.trans (hb2.mono (by have := HW1.out.size; omega)))
          have HOW2 := Lib.hid (own_below HOW1.out hb2)
          have l2 : w.heap.size < w2.heap.size := by omega
          clear hb2
          go_wp2
          go_ret
          refine ⟨_, rfl, ?_, HB2.out.alloc (by have := HB2.out.size; omega) _⟩
          rw [HFIN.out]
          exact HOW2.out.alloc _
        · have HEQ : ∀ w, (Op.equalIn 10000 24 (.agg #[.bool six, .int .u64 lh, .int .u64 ll]) (.agg #[.bool six, .int .u64 lhi, .int .u64 llo])).run Try.prog w = .ok false w := fun w => by
            rw [eqAV 9998]
            have : (lh == lhi && ll == llo) = false := by
              rw [Bool.and_eq_false_iff]
              by_cases h1 : lh = lhi
              · right; simpa using fun h2 => heq ⟨h1, h2⟩
              · left; simpa using h1
            rw [this, Bool.and_false]
          have hne : ¬ AV.v ⟨six, lh, ll⟩ = AV.v ⟨six, lhi, llo⟩ := fun h => by
            have := AV.v_inj HLO.out HL.out rfl h
            injection this with _ e1 e2
            exact heq ⟨e1, e2⟩
          have hle2 : AV.v ⟨six, lh, ll⟩ ≤ AV.v ⟨six, lhi, llo⟩ := by have := HLA.out; rw [HLQ.out] at this; exact this
          have hup := up_num HLO.out
          have hok1 : plusOk six lh ll 1 = true := hup.1.2 (by have := AV.v_lt HL.out; simp only at this ⊢; omega)
          have HUP := Lib.hid (hup.2 hok1)
          have HOK1 := Lib.hid hok1
          have CP := Lib.hid (fun w => plus_any six lh ll 1 w HLO.out.rhi HLO.out.rlo (by omega))
          rw [hok1] at CP
          obtain ⟨nh, hnh⟩ : ∃ nh, plusHi lh ll 1 = nh := ⟨_, rfl⟩
          obtain ⟨nl, hnl⟩ : ∃ nl, plusLo lh ll 1 = nl := ⟨_, rfl⟩
          rw [hnh, hnl] at CP
          have HNA : Hid (AV.Ok ⟨six, nh, nl⟩ ∧ AV.v ⟨six, nh, nl⟩ = AV.v ⟨six, lh, ll⟩ + 1) := by
            show _ ∧ _
            have := HUP.out
            unfold AV.plus at this
            simp only [hnh, hnl] at this
            exact this
          have HLT : Hid (AV.v ⟨six, nh, nl⟩ ≤ AV.v ⟨six, lhi, llo⟩) := by have := HNA.out.2; show _ ≤ _; omega
          have HGT : Hid (AV.v ⟨six, hi, lo⟩ < AV.v ⟨six, nh, nl⟩) := by have := HNA.out.2; have := HLN.out; have := HPP.out; show _ < _; omega
          have HNEW : Hid (rangeL six (AV.v ⟨six, fhi, flo⟩) (AV.v ⟨six, lhi, llo⟩) = (done ++ [(⟨six, hi, lo, n⟩ : PV)]) ++ rangeL six (AV.v ⟨six, nh, nl⟩) (AV.v ⟨six, lhi, llo⟩)) := by
            show _ = _
            rw [HRG.out]
            have h1 := HSTEP.out
            have h2 : PV.v ⟨six, hi, lo, n⟩ + 2 ^ PV.k ⟨six, hi, lo, n⟩ = AV.v ⟨six, nh, nl⟩ := by have := HNA.out.2; have := HLN.out; have := HPP.out; show AV.v ⟨six, hi, lo⟩ + _ = _; omega
            rw [h2] at h1
            rw [show AV.v ⟨six, hi, lo⟩ = PV.v ⟨six, hi, lo, n⟩ from rfl, h1, List.append_assoc]
            rfl
          clear hup hok1 hnh hnl hne hle2 heq
          have f0 := HKB1.out.frozen 0
          have f1 := HKB1.out.frozen 1
          have f2 := HKB1.out.frozen 2
          have b0 := HKB1.out.cell 0
          have b1 := HKB1.out.cell 1
          have b2 := HKB1.out.cell 2
          simp at b0 b1 b2
          go_wp2_with fail
          refine (CL.out _).mono ?_
          rintro e w2 ⟨rfl, hb2⟩
          obtain ⟨fc, ff⟩ := bcell hb2
          have hs2 := hb2.size
          have HB2 := Lib.hid (HW1.out.trans (hb2.mono (by have := HW1.out.size; omega)))
          have HOW2 := Lib.hid (own_below HOW1.out hb2)
          have HKS2 := Lib.hid (HKS1.out.below hb2 lS)
          have l2 : w.heap.size < w2.heap.size := by omega
          have l3 : b < w2.heap.size := by omega
          clear hb2
          go_wp2_with fail
          refine (CP.out _).mono ?_
          rintro e w3 ⟨rfl, hb3⟩
          obtain ⟨fc3, ff3⟩ := bcell hb3
          have hs3 := hb3.size
          simp at hs3
          have hB3 : Below w2.heap.size w2 w3 := balloc1 hb3
          have HB3 := Lib.hid (HB2.out.trans (hB3.mono (by have := HB2.out.size; omega)))
          have HOW3 := Lib.hid (own_below HOW2.out hB3)
          have HKS3 := Lib.hid (HKS2.out.below hB3 l2)
          have l4 : b < w3.heap.size := by omega
          have l5 : w.heap.size < w3.heap.size := by omega
          have l6 : ¬ w3.heap.size = b := by omega
          have l7 : ¬ b = w3.heap.size := by omega
          have l8 : ¬ b = w.heap.size := by omega
          have HOB : Hid (base ≤ b) := by show _ ≤ _; omega
          have B0 := (hB3.cell (p := ⟨b, 0, none⟩) l3).trans ((fc b 0 lB).trans b0)
          have B1 := (hB3.cell (p := ⟨b, 1, none⟩) l3).trans ((fc b 1 lB).trans b1)
          have B2 := (hB3.cell (p := ⟨b, 2, none⟩) l3).trans ((fc b 2 lB).trans b2)
          have F0 := (hB3.frozen (p := ⟨b, 0, none⟩) l3).trans ((ff b 0 lB).trans f0)
          have F1 := (hB3.frozen (p := ⟨b, 1, none⟩) l3).trans ((ff b 1 lB).trans f1)
          have F2 := (hB3.frozen (p := ⟨b, 2, none⟩) l3).trans ((ff b 2 lB).trans f2)
          clear hb3 hB3
          go_wp2
          go_roundg (AV.v ⟨six, lhi, llo⟩ - AV.v ⟨six, nh, nl⟩)
          case measure => have := HGT.out; have := HLT.out; have := HLV.out; omega
          case rel =>
            have nb : v'.ownBlock ≠ some b := own_blk_ne HOW1.out HKB1.out (by decide)
            refine ⟨_, nh, nl, done ++ [(⟨six, hi, lo, n⟩ : PV)], rfl, ?_, HNA.out.1, HLT.out, Nat.le_refl _, HNEW.out, ?_, ?_, ?_, l5, by simp⟩
            · have := Blk.new (((w3.setCell ⟨b, 0, none⟩ (.bool six)).setCell ⟨b, 1, none⟩ (.int .u64 nh)).setCell ⟨b, 2, none⟩ (.int .u64 nl)) 24 #[.bool six, .int .u64 nh, .int .u64 nl]
              simpa using this
            · refine World.ownsRow.alloc ?_ _
              exact ownsRow_setCell_other (ownsRow_setCell_other (ownsRow_setCell_other HOW3.out (a := ⟨b, 0, none⟩) nb _) (a := ⟨b, 1, none⟩) nb _) (a := ⟨b, 2, none⟩) nb _
            · exact (((HKS3.out.far (p := ⟨b, 0, none⟩) (fun h => l8 h.symm) _).far (p := ⟨b, 1, none⟩) (fun h => l8 h.symm) _).far (p := ⟨b, 2, none⟩) (fun h => l8 h.symm) _).alloc _
            · exact (((HB3.out.setCell (p := ⟨b, 0, none⟩) HOB.out _).setCell (p := ⟨b, 1, none⟩) HOB.out _).setCell (p := ⟨b, 2, none⟩) HOB.out _).alloc (by simp; have := HB3.out.size; omega) _

end Go.Proofs.Ytonelibgaceflaa

namespace Go.Proofs.Ytonelibgaceflaa
open Go.ChangeShapes Go.WideShapes Go.ChangeAt Go.RowKit

/-- What is refused of a range. -/
def rangeE (a b : AV) : Int := if mayB a.six a.hi a.lo = false ∨ mayB b.six b.hi b.lo = false then 4 else if a.six = b.six then (if lessB b a = true then 2 else 0) else 6
noncomputable def rangeO (a b : AV) : List PV := if rangeE a b = 0 then rangeL a.six a.v b.v else []
def Ranged (a b : AV) (w : World) (e : Ending) (w' : World) : Prop :=
  ∃ v, e = .returned (.tuple #[v, .int .i64 (rangeE a b)]) ∧ w'.ownsRow w.heap.size 35 4 v (rangeO a b).length ((rangeO a b).flatMap PV.cells) ∧ Below w.heap.size w w'
theorem rangeO_bad {a b : AV} (h : ¬ rangeE a b = 0) : rangeO a b = [] := by unfold rangeO; rw [if_neg h]

set_option maxRecDepth 100000 in
set_option maxHeartbeats 1600000 in
theorem cidrRange_any (six : Bool) (hi lo : Int) (six' : Bool) (hi' lo' : Int) (w : World) (h1 : 0 ≤ hi ∧ hi < 18446744073709551616) (h2 : 0 ≤ lo ∧ lo < 18446744073709551616) (h3 : 0 ≤ hi' ∧ hi' < 18446744073709551616) (h4 : 0 ≤ lo' ∧ lo' < 18446744073709551616) :
    Calls Try.prog 27 #[.agg #[.bool six, .int .u64 hi, .int .u64 lo], .agg #[.bool six', .int .u64 hi', .int .u64 lo']] w (Ranged ⟨six, hi, lo⟩ ⟨six', hi', lo'⟩ w) := by
  have CM1 := Lib.hid (fun w => may_any six hi lo w h2.1)
  have CM2 := Lib.hid (fun w => may_any six' hi' lo' w h4.1)
  unfold Ranged
  cases hm1 : mayB six hi lo with
  | false =>
    have hE : rangeE ⟨six, hi, lo⟩ ⟨six', hi', lo'⟩ = 4 := by unfold rangeE; simp [hm1]
    rw [rangeO_bad (by rw [hE]; decide), hE]
    rw [hm1] at CM1
    clear hE hm1 CM2
    go_enter Try.func27, Try.ntmps27
    go_wp2_with fail
    refine (CM1.out _).mono ?_
    rintro e w1 ⟨rfl, hb1⟩
    obtain ⟨fc, ff⟩ := bcell hb1
    obtain ⟨s1, s2⟩ := bsize2 hb1
    have HB1 := Lib.hid (balloc2 hb1)
    clear hb1
    go_wp2
    go_ret2
    exact ⟨_, rfl, World.ownsRow_nil _ _ _ _, HB1.out⟩
  | true =>
  rw [hm1] at CM1
  cases hm2 : mayB six' hi' lo' with
  | false =>
    have hE : rangeE ⟨six, hi, lo⟩ ⟨six', hi', lo'⟩ = 4 := by unfold rangeE; simp [hm2]
    rw [rangeO_bad (by rw [hE]; decide), hE]
    rw [hm2] at CM2
    clear hE hm1 hm2
    go_enter Try.func27, Try.ntmps27
    go_wp2_with fail
    refine (CM1.out _).mono ?_
    rintro e w1 ⟨rfl, hb1⟩
    obtain ⟨fc, ff⟩ := bcell hb1
    obtain ⟨s1, s2⟩ := bsize2 hb1
    have HB1 := Lib.hid (balloc2 hb1)
    clear hb1
    go_wp2_with fail
    refine (CM2.out _).mono ?_
    rintro e w2 ⟨rfl, hb2⟩
    obtain ⟨fc2, ff2⟩ := bcell hb2
    have z2 := hb2.size
    have HB2 := Lib.hid (below_step HB1.out hb2)
    have t2a : w.heap.size < w2.heap.size := by omega
    have t2b : w.heap.size + 1 < w2.heap.size := by omega
    clear hb2
    go_wp2
    go_ret2
    exact ⟨_, rfl, World.ownsRow_nil _ _ _ _, HB2.out⟩
  | true =>
  rw [hm2] at CM2
  by_cases h6 : six = six'
  · subst h6
    have ha : AV.Ok ⟨six, hi, lo⟩ := ⟨h1, h2, hm1⟩
    have hb : AV.Ok ⟨six, hi', lo'⟩ := ⟨h3, h4, hm2⟩
    have hln := less_num hb ha rfl
    have CL := Lib.hid (fun w => less_any six hi' lo' six hi lo w)
    cases hl : lessB ⟨six, hi', lo'⟩ ⟨six, hi, lo⟩ with
    | true =>
      have hE : rangeE ⟨six, hi, lo⟩ ⟨six, hi', lo'⟩ = 2 := by unfold rangeE; simp [hm1, hm2, hl]
      rw [rangeO_bad (by rw [hE]; decide), hE]
      rw [hl] at CL
      clear hE hm1 hm2 ha hb hln hl
      go_enter Try.func27, Try.ntmps27
      go_wp2_with fail
      refine (CM1.out _).mono ?_
      rintro e w1 ⟨rfl, hb1⟩
      obtain ⟨fc, ff⟩ := bcell hb1
      obtain ⟨s1, s2⟩ := bsize2 hb1
      have HB1 := Lib.hid (balloc2 hb1)
      clear hb1
      go_wp2_with fail
      refine (CM2.out _).mono ?_
      rintro e w2 ⟨rfl, hb2⟩
      obtain ⟨fc2, ff2⟩ := bcell hb2
      have z2 := hb2.size
      have HB2 := Lib.hid (below_step HB1.out hb2)
      have t2a : w.heap.size < w2.heap.size := by omega
      have t2b : w.heap.size + 1 < w2.heap.size := by omega
      clear hb2
      go_wp2_with fail
      refine (CL.out _).mono ?_
      rintro e w3 ⟨rfl, hb3⟩
      obtain ⟨fc3, ff3⟩ := bcell hb3
      have z3 := hb3.size
      have HB3 := Lib.hid (below_step HB2.out hb3)
      have t3a : w.heap.size < w3.heap.size := by omega
      have t3b : w.heap.size + 1 < w3.heap.size := by omega
      clear hb3
      go_wp2
      go_ret2
      exact ⟨_, rfl, World.ownsRow_nil _ _ _ _, HB3.out⟩
    | false =>
      have hE : rangeE ⟨six, hi, lo⟩ ⟨six, hi', lo'⟩ = 0 := by unfold rangeE; simp [hm1, hm2, hl]
      have hO : rangeO ⟨six, hi, lo⟩ ⟨six, hi', lo'⟩ = rangeL six (AV.v ⟨six, hi, lo⟩) (AV.v ⟨six, hi', lo'⟩) := by unfold rangeO; rw [if_pos hE]
      rw [hO, hE]
      rw [hl] at CL
      have hle : AV.v ⟨six, hi, lo⟩ ≤ AV.v ⟨six, hi', lo'⟩ := by
        rcases Nat.lt_or_ge (AV.v ⟨six, hi', lo'⟩) (AV.v ⟨six, hi, lo⟩) with h | h
        · have := hln.2 h; rw [hl] at this; cases this
        · exact h
      have CC := Lib.hid (fun (base : Nat) (w : World) (hw : base ≤ w.heap.size) => spanCut_any six hi lo hi' lo' base (.slice none 0 0) 0 [] w ha hb hle (World.ownsRow_nil _ _ _ _) hw (by omega))
      simp only [List.nil_append, Nat.zero_add] at CC
      generalize rangeL six (AV.v ⟨six, hi, lo⟩) (AV.v ⟨six, hi', lo'⟩) = R at *
      clear hE hO hm1 hm2 ha hb hln hl hle
      go_enter Try.func27, Try.ntmps27
      go_wp2_with fail
      refine (CM1.out _).mono ?_
      rintro e w1 ⟨rfl, hb1⟩
      obtain ⟨fc, ff⟩ := bcell hb1
      obtain ⟨s1, s2⟩ := bsize2 hb1
      have HB1 := Lib.hid (balloc2 hb1)
      clear hb1
      go_wp2_with fail
      refine (CM2.out _).mono ?_
      rintro e w2 ⟨rfl, hb2⟩
      obtain ⟨fc2, ff2⟩ := bcell hb2
      have z2 := hb2.size
      have HB2 := Lib.hid (below_step HB1.out hb2)
      have t2a : w.heap.size < w2.heap.size := by omega
      have t2b : w.heap.size + 1 < w2.heap.size := by omega
      clear hb2
      go_wp2_with fail
      refine (CL.out _).mono ?_
      rintro e w3 ⟨rfl, hb3⟩
      obtain ⟨fc3, ff3⟩ := bcell hb3
      have z3 := hb3.size
      have HB3 := Lib.hid (below_step HB2.out hb3)
      have t3a : w.heap.size < w3.heap.size := by omega
      have t3b : w.heap.size + 1 < w3.heap.size := by omega
      clear hb3
      go_wp2_with fail
      refine (CC.out w.heap.size _ (by first | omega | (simp; omega))).mono ?_
      rintro e w4 ⟨v, rfl, hown, hb4⟩
      have HO := Lib.hid hown
      have HB4 : Hid (Below w.heap.size w w4) := by
        show Below _ _ _
        refine Below.trans ?_ hb4
        (repeat' first | with_reducible exact HB3.out | with_reducible exact Below.refl _ _ | with_reducible refine Below.drew ?_ | with_reducible refine below_drewN ?_ _ | with_reducible refine Below.setCell ?_ ?_ _ | with_reducible refine Below.alloc ?_ ?_ _ | (simp; done) | (simp; omega) | omega)
      clear hown hb4
      go_wp2
      go_ret2
      exact ⟨_, rfl, HO.out, HB4.out⟩
  · have hE : rangeE ⟨six, hi, lo⟩ ⟨six', hi', lo'⟩ = 6 := by unfold rangeE; simp [hm1, hm2, h6]
    rw [rangeO_bad (by rw [hE]; decide), hE]
    have hne2 : (six == six') = false := by simpa using h6
    have hne3 : (six != six') = true := by simpa using h6
    clear hE hm1 hm2
    go_enter Try.func27, Try.ntmps27
    go_wp2_with fail
    refine (CM1.out _).mono ?_
    rintro e w1 ⟨rfl, hb1⟩
    obtain ⟨fc, ff⟩ := bcell hb1
    obtain ⟨s1, s2⟩ := bsize2 hb1
    have HB1 := Lib.hid (balloc2 hb1)
    clear hb1
    go_wp2_with fail
    refine (CM2.out _).mono ?_
    rintro e w2 ⟨rfl, hb2⟩
    obtain ⟨fc2, ff2⟩ := bcell hb2
    have z2 := hb2.size
    have HB2 := Lib.hid (below_step HB1.out hb2)
    have t2a : w.heap.size < w2.heap.size := by omega
    have t2b : w.heap.size + 1 < w2.heap.size := by omega
    clear hb2
    go_wp2
    go_ret2
    exact ⟨_, rfl, World.ownsRow_nil _ _ _ _, HB2.out⟩

end Go.Proofs.Ytonelibgaceflaa

namespace Go.Proofs.Ytonelibgaceflaa

theorem first_diff {a b : AV} (ha : a.Ok) (hb : b.Ok) (h6 : a.six = b.six) {i : Nat} (hi : i < widN a.six)
    (hs : ∀ j : Nat, j < i → bitI a.six a.hi a.lo j = bitI b.six b.hi b.lo j) (hne : ¬ bitI a.six a.hi a.lo i = bitI b.six b.hi b.lo i) : a.v < b.v ↔ bitI a.six a.hi a.lo i < bitI b.six b.hi b.lo i := by
  have ba := fun i (hi : i < widN a.six) => AV.bitN ha (i := i) hi
  have bb := fun i (hi : i < widN b.six) => AV.bitN hb (i := i) hi
  have la := AV.v_lt ha
  have lb := AV.v_lt hb
  rw [← h6] at bb lb
  rw [← h6] at hs hne ⊢
  obtain ⟨k, hk⟩ : ∃ k, widN a.six - 1 - i = k := ⟨_, rfl⟩
  have hup : a.v / 2 ^ (k + 1) = b.v / 2 ^ (k + 1) := by
    refine nat_div_ext la lb fun j h1 h2 => ?_
    have := hs (widN a.six - 1 - j) (by omega)
    rw [ba _ (by omega), bb _ (by omega), show widN a.six - 1 - (widN a.six - 1 - j) = j from by omega] at this
    omega
  rw [ba i hi, bb i hi, hk] at hne ⊢
  have e : ∀ x : Nat, x / 2 ^ k = 2 * (x / 2 ^ (k + 1)) + x / 2 ^ k % 2 := by
    intro x
    have : x / 2 ^ (k + 1) = x / 2 ^ k / 2 := by rw [Nat.pow_succ, Nat.div_div_eq_div_mul]
    rw [this]; omega
  have ea := e a.v
  have eb := e b.v
  rw [hup] at ea
  constructor
  · intro h
    have : a.v / 2 ^ k ≤ b.v / 2 ^ k := Nat.div_le_div_right (by omega)
    omega
  · intro h
    apply Classical.byContradiction
    intro hc
    have : b.v / 2 ^ k ≤ a.v / 2 ^ k := Nat.div_le_div_right (by omega)
    omega
theorem no_diff {a b : AV} (ha : a.Ok) (hb : b.Ok) (h6 : a.six = b.six) (hs : ∀ j : Nat, j < widN a.six → bitI a.six a.hi a.lo j = bitI b.six b.hi b.lo j) : a.v = b.v := by
  have h := addr_ext a.six a.hi a.lo b.hi b.lo ha.rhi ha.rlo hb.rhi hb.rlo ha.may (by rw [h6]; exact hb.may) (fun i hi => by rw [hs i (by have := widN_eq a.six; omega), h6])
  have : a = b := AV.ext' h6 h.1 h.2
  rw [this]

end Go.Proofs.Ytonelibgaceflaa

namespace Go.Proofs.Ytonelibgaceflaa
open Go.ChangeShapes Go.WideShapes Go.ChangeAt Go.RowKit

set_option maxHeartbeats 1600000 in
theorem refLess_any (six : Bool) (hi lo : Int) (six' : Bool) (hi' lo' : Int) (w : World) (ha : AV.Ok ⟨six, hi, lo⟩) (hb : AV.Ok ⟨six', hi', lo'⟩) :
    Calls Try.prog 83 #[.agg #[.bool six, .int .u64 hi, .int .u64 lo], .agg #[.bool six', .int .u64 hi', .int .u64 lo']] w fun e w' => e = .returned (.bool (lessB ⟨six, hi, lo⟩ ⟨six', hi', lo'⟩)) ∧ Below w.heap.size w w' := by
  by_cases h6 : six = six'
  · subst h6
    obtain ⟨r, hr0⟩ : ∃ r : Bool, r = lessB ⟨six, hi, lo⟩ ⟨six, hi', lo'⟩ := ⟨_, rfl⟩
    rw [← hr0]
    have hnum := less_num ha hb rfl
    rw [← hr0] at hnum
    obtain ⟨m, hn, hpos, hle⟩ := wideN six
    have hmw : widN six = m := by have := widN_eq six; omega
    have hall : SameTo six hi lo hi' lo' m → r = false := fun h => by
      have := no_diff ha hb rfl (fun j hj => h j (by simp only at hj; omega))
      rw [Bool.eq_false_iff]
      intro hx
      have := hnum.1 hx
      omega
    have hone : ∀ j : Nat, j < m → SameTo six hi lo hi' lo' j → ¬ bitI six hi lo j = bitI six hi' lo' j → r = decide (bitI six hi lo j < bitI six hi' lo' j) := fun j hj hs hne => by
      have := first_diff ha hb rfl (i := j) (by simp only; omega) hs hne
      rw [Bool.eq_iff_iff, decide_eq_true_iff, hnum, this]
    have HA := Lib.hid hall
    have HB := Lib.hid hone
    have h1 := ha.rhi
    have h2 := ha.rlo
    have h3 := hb.rhi
    have h4 := hb.rlo
    simp only at h1 h2 h3 h4
    have HN := Lib.hid hn
    clear hall hone hr0 hnum hn ha hb hmw
    have fB : Hid (Below w.heap.size w ((w.alloc (.cells #[.bool six, .int .u64 hi, .int .u64 lo] 24)).alloc (.cells #[.bool six, .int .u64 hi', .int .u64 lo'] 24))) := ((Below.refl _ _).alloc (Nat.le_refl _) _).alloc (by simp) _
    go_enter Try.func83, Try.ntmps83
    go_wp2_with fail
    refine (bitsOf_any six hi lo _ h1 h2).mono ?_
    rintro e w1 ⟨v1, rfl, own1, hb1, hs1⟩
    obtain ⟨fc, ff⟩ := bcell hb1
    obtain ⟨s1, s2⟩ := bsize2 hb1
    have B1 : Hid (Below w.heap.size w w1) := balloc2 hb1
    clear hb1
    go_wp2_with fail
    refine (bitsOf_any six hi' lo' _ h3 h4).mono ?_
    rintro e w2 ⟨v2, rfl, own2, hb2, hs2⟩
    have B2 : Hid (Below w.heap.size w w2) := below_step B1.out hb2
    rw [HN.out] at own1 own2
    simp only [Int.toNat_natCast] at own1 own2
    have own1' := own_below own1 hb2
    obtain ⟨g1, cap1, rfl, _, hlt1⟩ := own1.form hpos
    obtain ⟨g2, cap2, rfl, _, hlt2⟩ := own2.form hpos
    have H1 := Lib.hid own1'
    have H2 := Lib.hid own2
    clear own1 own2 own1' hb2 fc ff
    have hm1 : (m : Int) ≤ 128 := by omega
    go_wp2
    go_loopw [22, 7, 4] (fun i _ _ wr => ∃ j : Nat, j ≤ m ∧ i = .int .i64 j ∧ SameTo six hi lo hi' lo' j ∧ Below w2.heap.size w2 wr) (fun i _ _ _ => m - (intOf i).toNat)
    case atStart => exact ⟨0, by omega, rfl, fun _ h => by omega, Below.refl _ _⟩
    case round =>
      obtain ⟨j, hj, rfl, hsame, hbr⟩ := hrel
      by_cases hlt : j < m
      · have x1 := cell_step hbr (own_int H1.out (bitsL_at (hi := hi) (lo := lo) HN.out (show j < m by omega)))
        have x2 := cell_step hbr (own_int H2.out (bitsL_at (hi := hi') (lo := lo') HN.out (show j < m by omega)))
        have k1 : (0 : Int) ≤ (j : Int) := by omega
        have k2 : (j : Int) < (m : Int) := by omega
        have HBR := Lib.hid hbr
        by_cases hb : bitI six hi lo j = bitI six hi' lo' j
        · have HS := Lib.hid (hsame.succ hb)
          rw [← hb] at x2
          clear hsame hb hbr
          go_wp2
          go_quiet (fail)
          go_wp2
          go_roundw
          case rel => exact ⟨j + 1, by omega, by go_num, HS.out, below_drewN HBR.out _⟩
          case measure => simp [intOf]; omega
        · have HR := Lib.hid (HB.out j hlt hsame hb)
          have hb' : (bitI six hi lo j == bitI six hi' lo' j) = false := by simpa using hb
          have hb'' : (bitI six hi lo j != bitI six hi' lo' j) = true := by simpa using hb
          clear hsame hbr
          go_wp2
          go_quiet (fail)
          go_wp2
          go_quiet (fail)
          go_wp2
          go_ret
          exact ⟨ret_bool HR.out.symm, B2.out.trans ((below_drewN (below_drewN HBR.out _) _).mono B2.out.size)⟩
      · obtain rfl : j = m := by omega
        have HR := Lib.hid (HA.out hsame)
        clear hsame
        go_wp2
        go_ret
        exact ⟨ret_bool HR.out.symm, B2.out.trans (hbr.mono B2.out.size)⟩
  · have hr : lessB ⟨six, hi, lo⟩ ⟨six', hi', lo'⟩ = six' := by unfold lessB; rw [if_neg h6]
    rw [hr]
    have hn := ne_bool h6
    subst hn
    clear hr h6 ha hb
    have fB : Hid (Below w.heap.size w ((w.alloc (.cells #[.bool six, .int .u64 hi, .int .u64 lo] 24)).alloc (.cells #[.bool (!six), .int .u64 hi', .int .u64 lo'] 24))) := ((Below.refl _ _).alloc (Nat.le_refl _) _).alloc (by simp) _
    go_enter Try.func83, Try.ntmps83
    go_wp2
    go_ret
    exact ⟨rfl, fB.out⟩

end Go.Proofs.Ytonelibgaceflaa

namespace Go.Proofs.Ytonelibgaceflaa
open Go.ChangeShapes Go.WideShapes Go.ChangeAt Go.RowKit

set_option maxRecDepth 100000 in
set_option maxHeartbeats 800000 in
theorem refHalves_bad (six : Bool) (hi lo n : Int) (w : World) (h1 : 0 ≤ hi ∧ hi < 18446744073709551616) (h2 : 0 ≤ lo ∧ lo < 18446744073709551616) (hz : ¬ chk six hi lo n = 0) :
    Calls Try.prog 86 #[.agg #[.bool six, .int .u64 hi, .int .u64 lo, .int .i64 n]] w fun e w' => e = .returned (.tuple #[ZP, ZP, .int .i64 (chk six hi lo n)]) ∧ Below w.heap.size w w' := by
  have c := fun w => preFault_any six hi lo n w h1 h2
  generalize chk six hi lo n = k at *
  have CC := Lib.hid c
  have hb1 : (k == 0) = false := by simpa using hz
  have hb2 : (k != 0) = true := by simpa using hz
  clear c
  go_enter Try.func86, Try.ntmps86
  go_wp2_with fail
  refine (CC.out _).mono ?_
  rintro e w1 ⟨rfl, hb⟩
  obtain ⟨fc, ff⟩ := bcell hb
  obtain ⟨s1, s2, s3⟩ := bsize3 hb
  have HB := Lib.hid (balloc3 hb)
  clear hb
  go_wp2
  refine bodyPost_ret (v := .tuple #[ZP, ZP, .int .i64 k]) (by simp [results, Try.results86, go_sem, fc, ZP]) rfl ⟨rfl, ?_⟩
  (repeat' first | with_reducible exact HB.out | with_reducible exact Below.refl _ _ | with_reducible refine Below.drew ?_ | with_reducible refine below_drewN ?_ _ | with_reducible refine Below.setCell ?_ ?_ _ | with_reducible refine Below.alloc ?_ ?_ _ | (simp; done) | (simp; omega))

set_option maxRecDepth 100000 in
set_option maxHeartbeats 800000 in
theorem refHalves_none (six : Bool) (hi lo n : Int) (w : World) (h1 : 0 ≤ hi ∧ hi < 18446744073709551616) (h2 : 0 ≤ lo ∧ lo < 18446744073709551616) (hz : chk six hi lo n = 0) (hn : n = wideI six) :
    Calls Try.prog 86 #[.agg #[.bool six, .int .u64 hi, .int .u64 lo, .int .i64 n]] w fun e w' => e = .returned (.tuple #[ZP, ZP, .int .i64 7]) ∧ Below w.heap.size w w' := by
  have c := fun w => preFault_any six hi lo n w h1 h2
  rw [hz] at c
  have CC := Lib.hid c
  obtain ⟨m, hm, hpos, hle⟩ := wideN six
  obtain rfl : n = m := by omega
  have HN := Lib.hid hm
  clear c hz hn hm
  go_enter Try.func86, Try.ntmps86
  go_wp2_with fail
  refine (CC.out _).mono ?_
  rintro e w1 ⟨rfl, hb⟩
  obtain ⟨fc, ff⟩ := bcell hb
  obtain ⟨s1, s2, s3⟩ := bsize3 hb
  have HB := Lib.hid (balloc3 hb)
  clear hb
  go_wp2_with fail
  refine (bitsOf_any six hi lo _ h1 h2).mono ?_
  rintro e w2 ⟨v, rfl, hown, hb2, hs2⟩
  have HB2 := Lib.hid (below_step HB.out hb2)
  have HW := Lib.hid hb2
  obtain ⟨fc2, ff2⟩ := bcell hb2
  rw [HN.out] at hown
  simp only [Int.toNat_natCast] at hown
  obtain ⟨g, cap, rfl, hg, hlt⟩ := hown.form hpos
  have s4 : w.heap.size < w2.heap.size := by omega
  have s5 : w.heap.size + 1 < w2.heap.size := by omega
  have s6 : w.heap.size + 1 + 1 < w2.heap.size := by omega
  clear hown hb2
  go_wp2
  refine bodyPost_ret (v := .tuple #[ZP, ZP, .int .i64 7]) (by simp [results, Try.results86, go_sem, fc2, fc, s2, s3, ZP]) rfl ⟨rfl, ?_⟩
  (repeat' first | with_reducible exact HB2.out | with_reducible exact Below.refl _ _ | with_reducible refine Below.drew ?_ | with_reducible refine below_drewN ?_ _ | with_reducible refine Below.setCell ?_ ?_ _ | with_reducible refine Below.alloc ?_ ?_ _ | (simp; done) | (simp; omega))

set_option maxRecDepth 100000 in
set_option maxHeartbeats 1600000 in
theorem refHalves_ok (six : Bool) (hi lo : Int) (n : Nat) (w : World) (h1 : 0 ≤ hi ∧ hi < 18446744073709551616) (h2 : 0 ≤ lo ∧ lo < 18446744073709551616) (hz : chk six hi lo n = 0) (hn : (n : Int) < wideI six) :
    Calls Try.prog 86 #[.agg #[.bool six, .int .u64 hi, .int .u64 lo, .int .i64 n]] w fun e w' => e = .returned (.tuple #[.agg #[.bool six, .int .u64 hi, .int .u64 lo, .int .i64 (n + 1)], .agg #[.bool six, .int .u64 (setHi six hi n), .int .u64 (setLo six lo n), .int .i64 (n + 1)], .int .i64 0]) ∧ Below w.heap.size w w' := by
  have c := fun w => preFault_any six hi lo n w h1 h2
  have hm := (chk_zero h1 h2 hz).may
  rw [hz] at c
  have CC := Lib.hid c
  obtain ⟨m, hm', hpos, hle⟩ := wideN six
  have hnm : n < m := by omega
  have hnm2 : ((n : Int) == (m : Int)) = false := by simp; omega
  have hsb := set_bits six hi lo n h1 h2 hm hn
  have HN := Lib.hid hm'
  have HA : Hid (∀ (g cap : Nat) (w : World), (∀ (i : Nat) (b : Int), ((bitsL six hi lo).set n 1)[i]? = some b → w.cell? ⟨g, i, none⟩ = some (.int .i64 b)) → g < w.heap.size →
      Calls Try.prog 160 #[.slice (some ⟨g, 0, none⟩) m cap] w fun e w' => e = .returned (.agg #[.bool six, .int .u64 (setHi six hi n), .int .u64 (setLo six lo n)]) ∧ Below w.heap.size w w') := by
    show _
    intro g cap w ho hg
    have := addrOf_any six ((bitsL six hi lo).set n 1) m g cap w (by
      intro b hb
      rcases List.mem_or_eq_of_mem_set hb with hb | rfl
      · obtain ⟨j, _, rfl⟩ := List.mem_map.1 hb
        exact bitI_01 six hi lo j
      · omega) (by rw [List.length_set, bitsL_length, hm']; simp) hm' ho hg
    rw [hsb.1, hsb.2] at this
    exact this
  clear c hz hm hm' hn hsb
  generalize setHi six hi n = sh at *
  generalize setLo six lo n = sl at *
  go_enter Try.func86, Try.ntmps86
  go_wp2_with fail
  refine (CC.out _).mono ?_
  rintro e w1 ⟨rfl, hb⟩
  obtain ⟨fc, ff⟩ := bcell hb
  obtain ⟨s1, s2, s3⟩ := bsize3 hb
  have HB := Lib.hid (balloc3 hb)
  clear hb
  go_wp2_with fail
  refine (bitsOf_any six hi lo _ h1 h2).mono ?_
  rintro e w2 ⟨v, rfl, hown, hb2, hs2⟩
  have HB2 := Lib.hid (below_step HB.out hb2)
  have HW := Lib.hid hb2
  obtain ⟨fc2, ff2⟩ := bcell hb2
  rw [HN.out] at hown
  simp only [Int.toNat_natCast] at hown
  obtain ⟨g, cap, rfl, hg, hlt⟩ := hown.form hpos
  have s4 : w.heap.size < w2.heap.size := by omega
  have s5 : w.heap.size + 1 < w2.heap.size := by omega
  have s6 : w.heap.size + 1 + 1 < w2.heap.size := by omega
  have d0 : ¬ g = w.heap.size := by omega
  have d1 : ¬ g = w.heap.size + 1 := by omega
  have d2 : ¬ g = w.heap.size + 1 + 1 := by omega
  have d3 : ¬ g = w2.heap.size := by omega
  have hfz : w2.frozen? ⟨g, n, none⟩ = false := hown.frozenAt _
  obtain ⟨u, hcu⟩ : ∃ u, w2.cell? ⟨g, n, none⟩ = some u := by
    have := hown.cellAt n (by omega)
    rw [List.getElem?_eq_getElem (by simp [bitsL, HN.out]; omega)] at this
    exact ⟨_, this⟩
  have HC := Lib.hid (fun (i : Nat) (b : Int) (h : (bitsL six hi lo)[i]? = some b) => own_int (n := m) hown h)
  have hnm3 : (n : Int) < (m : Int) := by omega
  clear hown hb2
  go_wp2_with fail
  have HX : Hid (Below w1.heap.size w1 ((w2.setCell ⟨g, n, none⟩ (.int .i64 1)).alloc (.cells #[.bool six, .int .u64 hi, .int .u64 lo, .int .i64 (n + 1)] 35))) := by
    show Below _ _ _
    (repeat' first | with_reducible exact HW.out | with_reducible exact Below.refl _ _ | with_reducible refine Below.drew ?_ | with_reducible refine below_drewN ?_ _ | with_reducible refine Below.setCell ?_ ?_ _ | with_reducible refine Below.alloc ?_ ?_ _ | (simp; done) | (simp; omega))
    all_goals omega
  have HX2 := Lib.hid (below_step HB.out HX.out)
  have hc0 : ((w2.setCell ⟨g, n, none⟩ (.int .i64 1)).alloc (.cells #[.bool six, .int .u64 hi, .int .u64 lo, .int .i64 (n + 1)] 35)).cell? ⟨w2.heap.size, 0, none⟩ = some (.bool six) := by rw [World.cell?_alloc_at _ _ _ _ (by simp)]; rfl
  have hc1 : ((w2.setCell ⟨g, n, none⟩ (.int .i64 1)).alloc (.cells #[.bool six, .int .u64 hi, .int .u64 lo, .int .i64 (n + 1)] 35)).cell? ⟨w2.heap.size, 1, none⟩ = some (.int .u64 hi) := by rw [World.cell?_alloc_at _ _ _ _ (by simp)]; rfl
  have hc2 : ((w2.setCell ⟨g, n, none⟩ (.int .i64 1)).alloc (.cells #[.bool six, .int .u64 hi, .int .u64 lo, .int .i64 (n + 1)] 35)).cell? ⟨w2.heap.size, 2, none⟩ = some (.int .u64 lo) := by rw [World.cell?_alloc_at _ _ _ _ (by simp)]; rfl
  have hc3 : ((w2.setCell ⟨g, n, none⟩ (.int .i64 1)).alloc (.cells #[.bool six, .int .u64 hi, .int .u64 lo, .int .i64 (n + 1)] 35)).cell? ⟨w2.heap.size, 3, none⟩ = some (.int .i64 (n + 1)) := by rw [World.cell?_alloc_at _ _ _ _ (by simp)]; rfl
  have hsx : ((w2.setCell ⟨g, n, none⟩ (.int .i64 1)).alloc (.cells #[.bool six, .int .u64 hi, .int .u64 lo, .int .i64 (n + 1)] 35)).heap.size = w2.heap.size + 1 := by simp
  have HCX : Hid (∀ (i : Nat) (b : Int), ((bitsL six hi lo).set n 1)[i]? = some b → ((w2.setCell ⟨g, n, none⟩ (.int .i64 1)).alloc (.cells #[.bool six, .int .u64 hi, .int .u64 lo, .int .i64 (n + 1)] 35)).cell? ⟨g, i, none⟩ = some (.int .i64 b)) := by
    show ∀ (i : Nat) (b : Int), _ → _
    intro i b hib
    rw [World.cell?_alloc_past _ _ _ (by simpa using hlt)]
    rw [List.getElem?_set] at hib
    by_cases hin : n = i
    · subst hin
      rw [if_pos rfl] at hib
      split at hib
      · injection hib with hib
        subst hib
        exact World.cell?_setCell_same _ _ _ hcu
      · cases hib
    · rw [if_neg hin] at hib
      rw [World.cell?_setCell_other _ _ _ _ (by intro h; injection h with _ h; exact hin h)]
      exact HC.out i b hib
  generalize ((w2.setCell ⟨g, n, none⟩ (.int .i64 1)).alloc (.cells #[.bool six, .int .u64 hi, .int .u64 lo, .int .i64 (n + 1)] 35)) = X at *
  obtain ⟨fcX, ffX⟩ := bcell HX.out
  have s7 : w.heap.size < X.heap.size := by omega
  have s8 : w.heap.size + 1 < X.heap.size := by omega
  have s9 : w.heap.size + 1 + 1 < X.heap.size := by omega
  have s10 : w2.heap.size < X.heap.size := by omega
  have HA2 := Lib.hid (HA.out g cap X.drew (fun i b h => HCX.out i b h) (show g < X.heap.size by omega))
  clear fc2 ff2 hcu hfz hsx
  have hW1 : IntKind.i64.wrap ((n : Int) + 1) = (n : Int) + 1 := IntWalk.i64_in _ (by omega)
  go_region_with (go_at_call 160; ((with_reducible refine HA2.out.mono ?_); rintro e w3 ⟨rfl, hb3⟩; obtain ⟨fc3, ff3, z3⟩ := bcellN (w1 := X) hb3 rfl; have s11 : w.heap.size < w3.heap.size := (by omega); have s12 : w.heap.size + 1 < w3.heap.size := (by omega); have s13 : w.heap.size + 1 + 1 < w3.heap.size := (by omega); have HB3 : Hid (Below w.heap.size w w3) := (by refine below_step ?_ hb3; (repeat' first | with_reducible exact HX2.out | with_reducible exact Below.refl _ _ | with_reducible refine Below.drew ?_ | with_reducible refine below_drewN ?_ _ | with_reducible refine Below.setCell ?_ ?_ _ | with_reducible refine Below.alloc ?_ ?_ _ | (simp; done) | (simp; omega))); clear hb3))
  all_goals go_wp2
  all_goals refine bodyPost_ret (v := .tuple #[.agg #[.bool six, .int .u64 hi, .int .u64 lo, .int .i64 (n + 1)], .agg #[.bool six, .int .u64 sh, .int .u64 sl, .int .i64 (n + 1)], .int .i64 0]) ?_ rfl ⟨rfl, ?_⟩
  all_goals first
    | (simp [results, Try.results86, go_sem, fc3, fcX, fc, s2, s3, s8, s9, Act.put]; done)
    | (repeat' first | with_reducible exact HB3.out | with_reducible exact Below.refl _ _ | with_reducible refine Below.drew ?_ | with_reducible refine below_drewN ?_ _ | with_reducible refine Below.setCell ?_ ?_ _ | with_reducible refine Below.alloc ?_ ?_ _ | (simp; done) | (simp; omega))

end Go.Proofs.Ytonelibgaceflaa

namespace Go.Proofs.Ytonelibgaceflaa
open Go.ChangeShapes Go.WideShapes Go.ChangeAt Go.RowKit

/-- append of one element, and where the row then lies. -/
theorem wpList_append_oneL {P : Program} {ops : Array Oper} {rest : List Oper} {o : Oper} {a : Act} {Q : Exit → Act → World → Prop} {w0 : World} {us : List Value} {fr : Nat × Nat} {e : TypeId} {g : Nat} (hgd : o.guard = none) (s x : Operand) (t : TypeId)
    (ho : o.op = .call { callee := .builtin .append, args := #[s, x], argTypes := #[t, t] })
    (base : Nat) (z : Value) (size bytes : Nat) (ht : P.underlying t = some (.slice e)) (hi : (P.info? e).map (fun i => (i.zero, i.size, i.bytes)) = some (some z, size, bytes))
    (hzs : z.cells.size = size) (hsz : 0 < size) (v : Value) (n : Nat) (xs : List Value) (hs : a.eval s = v)
    (hx : a.eval x = .slice (some ⟨g, 0, none⟩) 1 1) (hg : g = w0.heap.size) (hown : w0.ownsRow base e size v n xs) (hbase : base ≤ w0.heap.size)
    (hl : us.length = size) (h1 : ∀ u ∈ us, u.oneCell' = true) (h63 : n + 1 ≤ maxLen) (hbytes : (n + 1) * bytes ≤ 140737488355328)
    (h : ∀ v' w', w'.ownsRow base e size v' (n + 1) (xs ++ us) → Kept v.ownBlock.toList w0 w' → (∀ k, v'.ownBlock = some k → v.ownBlock = some k ∨ w0.heap.size ≤ k) → wpList P ops Q rest (a.put o.dst v') w') :
    wpList P ops Q (o :: rest) a (w0.alloc (.cells us.toArray e fr)) := by
  subst hg
  obtain ⟨i0, hi, hz0, hz1, hz2⟩ := info_parts hi
  refine wpList_append_lies _ hgd s x t ho base e i0 z size bytes ht hi hz0 hz1 hz2 hzs hsz v n xs hs (hown.alloc _) ⟨w0.heap.size, 0, none⟩ 1 1 us hx (by omega) ?_ h1 (by omega) h63 hbytes (by simp; omega) _ rfl ?_
  · intro j u hj
    have e1 : (⟨w0.heap.size, 0, none⟩ : Addr).add j = ⟨w0.heap.size, j, none⟩ := by unfold Addr.add; split <;> simp_all
    rw [e1]
    have : (w0.alloc (.cells us.toArray e fr)).heap[w0.heap.size]? = some (.cells us.toArray e fr) := heap_alloc_new w0 _
    unfold World.cell?
    simp only [this]
    simpa using hj
  · intro g cap w' hown' hgr hat hlt
    refine h _ w' hown' ⟨hgr.os, hgr.tape, hgr.output, ?_, ?_⟩ ?_
    · have := hgr.size; simp at this; omega
    · intro k hk hn
      rw [hgr.block k (by simp; omega) (fun he => hn (by rw [← he]; simp))]
      exact Below.heap_alloc _ _ _ hk
    · intro k hk
      have hk : g = k := by simpa [Value.ownBlock] using hk
      subst hk
      rcases hat with h | h
      · exact .inl h
      · right; rw [h]; simp

def lookV (bF bL bO bK : Nat) : Value := .func (.func 84) #[] #[.pointer (some ⟨bF, 0, none⟩), .pointer (some ⟨bL, 0, none⟩), .pointer (some ⟨bO, 0, none⟩), .pointer (some ⟨bK, 0, none⟩)]
structure LookEnv (w : World) (base bF bL bO bK : Nat) (F L : AV) (v : Value) (n : Nat) (xs : List Value) : Prop where
  f : Blk w bF 24 #[.bool F.six, .int .u64 F.hi, .int .u64 F.lo]
  l : Blk w bL 24 #[.bool L.six, .int .u64 L.hi, .int .u64 L.lo]
  o : Blk w bO 30 #[v]
  k : Blk w bK 137 #[lookV bF bL bO bK]
  own : w.ownsRow base 35 4 v n xs
  bo : base ≤ bO
theorem LookEnv.below {w w' : World} {base bF bL bO bK : Nat} {F L : AV} {v : Value} {n : Nat} {xs : List Value} (h : LookEnv w base bF bL bO bK F L v n xs) (hb : Below w.heap.size w w') : LookEnv w' base bF bL bO bK F L v n xs :=
  ⟨h.f.below hb h.f.lt, h.l.below hb h.l.lt, h.o.below hb h.o.lt, h.k.below hb h.k.lt, own_below h.own hb, h.bo⟩
def RangeLook (w : World) (base bF bL bO bK : Nat) (F L : AV) (v : Value) (n : Nat) (xs : List Value) (ps : List PV) (e : Ending) (w' : World) : Prop :=
  e = .returned (.tuple #[]) ∧ ∃ v', LookEnv w' base bF bL bO bK F L v' (n + ps.length) (xs ++ ps.flatMap PV.cells) ∧ Kept (bO :: v.ownBlock.toList) w w' ∧ ∀ k, v'.ownBlock = some k → v.ownBlock = some k ∨ w.heap.size ≤ k
theorem RangeLook.none {w : World} {base bF bL bO bK : Nat} {F L : AV} {v : Value} {n : Nat} {xs : List Value} {w' : World} (h : LookEnv w base bF bL bO bK F L v n xs) (hb : Below w.heap.size w w') : RangeLook w base bF bL bO bK F L v n xs [] (.returned (.tuple #[])) w' :=
  ⟨rfl, v, by simpa using h.below hb, Kept.of_below hb, fun k hk => .inl hk⟩

theorem refSpan_pv (p : PV) (w : World) (hp : p.Ok) : Calls Try.prog 85 #[p.val] w fun e w' => e = .returned (.tuple #[.agg #[.bool p.six, .int .u64 p.hi, .int .u64 p.lo], .agg #[.bool p.six, .int .u64 p.last.hi, .int .u64 p.last.lo], .int .i64 0]) ∧ Below w.heap.size w w' := by
  have hc : Go.Proofs.Ytonelibgaceflaa.chk p.six p.hi p.lo p.n = 0 := (chk_num hp.addr (ok_n hp)).2 (PV.dvd hp)
  obtain ⟨six, hi, lo, n⟩ := p
  have hn0 : 0 ≤ n := (ok_n hp).1
  obtain ⟨m, rfl⟩ : ∃ m : Nat, n = m := ⟨n.toNat, by omega⟩
  exact refSpan_ok six hi lo m w (Pfx.rhi hp) (Pfx.rlo hp) hc
theorem refHalvesP (p : PV) (w : World) (hp : p.Ok) (hn : p.n < wideI p.six) : Calls Try.prog 86 #[p.val] w fun e w' => e = .returned (.tuple #[p.low.val, p.high.val, .int .i64 0]) ∧ Below w.heap.size w w' := by
  have hc : Go.Proofs.Ytonelibgaceflaa.chk p.six p.hi p.lo p.n = 0 := (chk_num hp.addr (ok_n hp)).2 (PV.dvd hp)
  obtain ⟨six, hi, lo, n⟩ := p
  have hn0 : 0 ≤ n := (ok_n hp).1
  obtain ⟨m, rfl⟩ : ∃ m : Nat, n = m := ⟨n.toNat, by omega⟩
  have := refHalves_ok six hi lo m w (Pfx.rhi hp) (Pfx.rlo hp) hc hn
  simpa [PV.val, PV.low, PV.high] using this

/-- What the recursion hands down. -/
def LookAt (F L : AV) (K : Nat) : Prop := ∀ (p : PV) (w : World) (base bF bL bO bK : Nat) (v : Value) (n : Nat) (xs : List Value), p.Ok → p.six = F.six → p.k = K → n + (canonP (InI F.v L.v) p).length ≤ 100000 → LookEnv w base bF bL bO bK F L v n xs →
  Calls Try.prog 84 #[p.val, .pointer (some ⟨bF, 0, none⟩), .pointer (some ⟨bL, 0, none⟩), .pointer (some ⟨bO, 0, none⟩), .pointer (some ⟨bK, 0, none⟩)] w (RangeLook w base bF bL bO bK F L v n xs (canonP (InI F.v L.v) p))

set_option maxRecDepth 100000 in
set_option maxHeartbeats 3200000 in
theorem look_step (F L : AV) (hF : F.Ok) (hL : L.Ok) (h6 : L.six = F.six) (hFL : F.v ≤ L.v) (K : Nat) (ih : ∀ j, K = j + 1 → LookAt F L j) : LookAt F L K := by
  intro p w base bF bL bO bK v n xs hp hs hk hlen he
  have ha := PV.Ok.addr hp
  have hln := last_num hp
  have hlo := PV.last_ok p
  have hpp := Nat.two_pow_pos p.k
  have l6 : p.last.six = F.six := hs
  have a6 : p.a.six = F.six := hs
  have q1 := less_num hlo hF l6
  have q2 := less_num hL ha (h6.trans a6.symm)
  have q3 := less_num ha hF a6
  have q4 := less_num hL hlo (h6.trans l6.symm)
  have hv : p.a.v = p.v := rfl
  rw [hv] at q2 q3
  rw [hln] at q1 q4
  have CP := Lib.hid (fun w => refSpan_pv p w hp)
  have CL1 := Lib.hid (fun w => refLess_any p.last.six p.last.hi p.last.lo F.six F.hi F.lo w hlo hF)
  have CL2 := Lib.hid (fun w => refLess_any L.six L.hi L.lo p.six p.hi p.lo w hL ha)
  have CL3 := Lib.hid (fun w => refLess_any p.six p.hi p.lo F.six F.hi F.lo w ha hF)
  have CL4 := Lib.hid (fun w => refLess_any L.six L.hi L.lo p.last.six p.last.hi p.last.lo w hL hlo)
  have hnw : ∀ (h : ¬ ((∀ x, p.v ≤ x → x < p.v + 2 ^ p.k → InI F.v L.v x) ∨ (∀ x, p.v ≤ x → x < p.v + 2 ^ p.k → ¬ InI F.v L.v x))), p.n < wideI p.six := by
    intro h
    have := (ok_n hp).2
    rcases Int.lt_or_le p.n (wideI p.six) with hx | hx
    · exact hx
    · exfalso
      apply h
      have hk0 := one_addr hp (by omega)
      rw [hk0]
      by_cases hv : InI F.v L.v p.v
      · left; intro x a b; obtain rfl : x = p.v := by simp at b; omega
        exact hv
      · right; intro x a b; obtain rfl : x = p.v := by simp at b; omega
        exact hv
  have IH := fun (hn : p.n < wideI p.six) => ih (p.k - 1) (by have := (low_num hp hn).2.2; omega)
  have hall := fun (h : ∀ x, p.v ≤ x → x < p.v + 2 ^ p.k → InI F.v L.v x) => canonP_full hp h
  have hno := fun (h : ∀ x, p.v ≤ x → x < p.v + 2 ^ p.k → ¬ InI F.v L.v x) => canonP_none (p := p) h
  have hsplit := fun (hn : p.n < wideI p.six) (h : ¬ ∀ x, p.v ≤ x → x < p.v + 2 ^ p.k → InI F.v L.v x) => canonP_split hp hn h
  have HE := Lib.hid he
  have hbo := he.bo
  have hown0 := he.own.lt
  have HOL := Lib.hid hown0
  have hwo := he.o.lt
  clear he ih hown0
  have e1 : (⟨F.six, F.hi, F.lo⟩ : AV) = F := rfl
  cases c1 : lessB p.last F with
  | true =>
    have hc := hno fun x a b hx => by have := q1.1 c1; have := hx.1; omega
    rw [hc]
    have c1' : lessB ⟨p.last.six, p.last.hi, p.last.lo⟩ ⟨F.six, F.hi, F.lo⟩ = true := c1
    rw [c1'] at CL1
    obtain ⟨six, hi, lo', pn⟩ := p
    obtain ⟨fs, fh, fl⟩ := F
    obtain ⟨ls, lh, ll'⟩ := L
    unfold PV.val at CP ⊢
    simp only at CP CL1 CL2 CL3 CL4 ⊢
    generalize (PV.last ⟨six, hi, lo', pn⟩) = la at *
    obtain ⟨las, lah, lal⟩ := la
    simp only at CP CL1 CL2 CL3 CL4
    obtain rfl : six = las := hs.trans l6.symm
    have HEX0 := Lib.hid HE.out
    clear hno hall hsplit IH hnw q1 q2 q3 q4 hln hlo hpp l6 a6 hv ha hp hF hL h6 hlen hs hk e1 hFL
    clear hc c1 c1' CL2 CL3 CL4
    go_enter Try.func84, Try.ntmps84
    go_wp2_with fail
    refine (CP.out _).mono ?_
    rintro e w1 ⟨rfl, hb1⟩
    have s1 := bsize1 hb1
    have HB1 := Lib.hid (balloc1 hb1)
    have kP1 := (Blk.new w 35 #[.bool six, .int .u64 hi, .int .u64 lo', .int .i64 pn]).below hb1 (by simp)
    have HP1 := Lib.hid kP1
    have eW := HE.out.below HB1.out
    have F0 := eW.f.cell 0
    have F1 := eW.f.cell 1
    have F2 := eW.f.cell 2
    simp at F0 F1 F2
    have LF := eW.f.lt
    clear hb1 kP1 eW
    go_wp2_with fail
    obtain ⟨X, hX⟩ : ∃ X, ((w1.alloc (.cells #[.bool six, .int .u64 hi, .int .u64 lo'] 24)).alloc (.cells #[.bool six, .int .u64 lah, .int .u64 lal] 24)) = X := ⟨_, rfl⟩
    have kA : Blk X w1.heap.size 24 #[.bool six, .int .u64 hi, .int .u64 lo'] := by rw [← hX]; exact (Blk.new _ _ _).alloc _
    have kB : Blk X (w1.heap.size + 1) 24 #[.bool six, .int .u64 lah, .int .u64 lal] := by
      rw [← hX]
      have := Blk.new (w1.alloc (.cells #[.bool six, .int .u64 hi, .int .u64 lo'] 24)) 24 #[.bool six, .int .u64 lah, .int .u64 lal]
      simpa using this
    have kP : Blk X w.heap.size 35 #[.bool six, .int .u64 hi, .int .u64 lo', .int .i64 pn] := by rw [← hX]; exact (HP1.out.alloc _).alloc _
    have hXb : Below w.heap.size w X := by rw [← hX]; exact (HB1.out.alloc (by omega) _).alloc (by simp; omega) _
    have hX1 : w1.heap.size + 2 ≤ X.heap.size := by rw [← hX]; simp
    rw [hX]
    have eX := HE.out.below hXb
    have a0 := kA.cell 0
    have a1 := kA.cell 1
    have a2 := kA.cell 2
    have b0 := kB.cell 0
    have b1 := kB.cell 1
    have b2 := kB.cell 2
    have p0 := kP.cell 0
    have p1 := kP.cell 1
    have p2 := kP.cell 2
    have p3 := kP.cell 3
    have f0 := eX.f.cell 0
    have f1 := eX.f.cell 1
    have f2 := eX.f.cell 2
    have g0 := eX.l.cell 0
    have g1 := eX.l.cell 1
    have g2 := eX.l.cell 2
    have o0 := eX.o.cell 0
    have k0 := eX.k.cell 0
    simp at a0 a1 a2 b0 b1 b2 p0 p1 p2 p3 f0 f1 f2 g0 g1 g2 o0 k0
    have la := kA.lt
    have lb := kB.lt
    have lp := kP.lt
    have lf := eX.f.lt
    have ll := eX.l.lt
    have lo := eX.o.lt
    have lk := eX.k.lt
    have HX1 : Hid (Below X.heap.size X X) := Below.refl _ _
    have HXB := Lib.hid hXb
    have HEX := Lib.hid eX
    have HKP := Lib.hid kP
    clear HE hXb hX eX kA kB kP F0 F1 F2 LF
    refine (CL1.out _).mono ?_
    rintro e w2 ⟨rfl, hb2⟩
    have HX2 := Lib.hid (below_step HX1.out hb2)
    obtain ⟨fc2, ff2⟩ := bcell HX2.out
    have z2 := HX2.out.size
    clear hb2
    go_wp2
    first | refine bodyPost_end (results_none rfl _ _ _) rfl ?_ | refine bodyPost_ret (results_none rfl _ _ _) rfl ?_
    exact RangeLook.none HEX0.out (HXB.out.trans (HX2.out.mono (by omega)))
  | false =>
  have c1' : lessB ⟨p.last.six, p.last.hi, p.last.lo⟩ ⟨F.six, F.hi, F.lo⟩ = false := c1
  rw [c1'] at CL1
  have n1 : F.v ≤ p.v + 2 ^ p.k - 1 := by
    rcases Nat.lt_or_ge (p.v + 2 ^ p.k - 1) F.v with h | h
    · have := q1.2 h; rw [c1] at this; cases this
    · exact h
  clear c1 c1'
  cases c2 : lessB L p.a with
  | true =>
    have hc := hno fun x a b hx => by have := q2.1 c2; have := hx.2; omega
    rw [hc]
    have c2' : lessB ⟨L.six, L.hi, L.lo⟩ ⟨p.six, p.hi, p.lo⟩ = true := c2
    rw [c2'] at CL2
    obtain ⟨six, hi, lo', pn⟩ := p
    obtain ⟨fs, fh, fl⟩ := F
    obtain ⟨ls, lh, ll'⟩ := L
    unfold PV.val at CP ⊢
    simp only at CP CL1 CL2 CL3 CL4 ⊢
    generalize (PV.last ⟨six, hi, lo', pn⟩) = la at *
    obtain ⟨las, lah, lal⟩ := la
    simp only at CP CL1 CL2 CL3 CL4
    obtain rfl : six = las := hs.trans l6.symm
    have HEX0 := Lib.hid HE.out
    clear hno hall hsplit IH hnw q1 q2 q3 q4 hln hlo hpp l6 a6 hv ha hp hF hL h6 hlen hs hk e1 hFL
    clear hc c2 c2' CL3 CL4 n1
    go_enter Try.func84, Try.ntmps84
    go_wp2_with fail
    refine (CP.out _).mono ?_
    rintro e w1 ⟨rfl, hb1⟩
    have s1 := bsize1 hb1
    have HB1 := Lib.hid (balloc1 hb1)
    have kP1 := (Blk.new w 35 #[.bool six, .int .u64 hi, .int .u64 lo', .int .i64 pn]).below hb1 (by simp)
    have HP1 := Lib.hid kP1
    have eW := HE.out.below HB1.out
    have F0 := eW.f.cell 0
    have F1 := eW.f.cell 1
    have F2 := eW.f.cell 2
    simp at F0 F1 F2
    have LF := eW.f.lt
    clear hb1 kP1 eW
    go_wp2_with fail
    obtain ⟨X, hX⟩ : ∃ X, ((w1.alloc (.cells #[.bool six, .int .u64 hi, .int .u64 lo'] 24)).alloc (.cells #[.bool six, .int .u64 lah, .int .u64 lal] 24)) = X := ⟨_, rfl⟩
    have kA : Blk X w1.heap.size 24 #[.bool six, .int .u64 hi, .int .u64 lo'] := by rw [← hX]; exact (Blk.new _ _ _).alloc _
    have kB : Blk X (w1.heap.size + 1) 24 #[.bool six, .int .u64 lah, .int .u64 lal] := by
      rw [← hX]
      have := Blk.new (w1.alloc (.cells #[.bool six, .int .u64 hi, .int .u64 lo'] 24)) 24 #[.bool six, .int .u64 lah, .int .u64 lal]
      simpa using this
    have kP : Blk X w.heap.size 35 #[.bool six, .int .u64 hi, .int .u64 lo', .int .i64 pn] := by rw [← hX]; exact (HP1.out.alloc _).alloc _
    have hXb : Below w.heap.size w X := by rw [← hX]; exact (HB1.out.alloc (by omega) _).alloc (by simp; omega) _
    have hX1 : w1.heap.size + 2 ≤ X.heap.size := by rw [← hX]; simp
    rw [hX]
    have eX := HE.out.below hXb
    have a0 := kA.cell 0
    have a1 := kA.cell 1
    have a2 := kA.cell 2
    have b0 := kB.cell 0
    have b1 := kB.cell 1
    have b2 := kB.cell 2
    have p0 := kP.cell 0
    have p1 := kP.cell 1
    have p2 := kP.cell 2
    have p3 := kP.cell 3
    have f0 := eX.f.cell 0
    have f1 := eX.f.cell 1
    have f2 := eX.f.cell 2
    have g0 := eX.l.cell 0
    have g1 := eX.l.cell 1
    have g2 := eX.l.cell 2
    have o0 := eX.o.cell 0
    have k0 := eX.k.cell 0
    simp at a0 a1 a2 b0 b1 b2 p0 p1 p2 p3 f0 f1 f2 g0 g1 g2 o0 k0
    have la := kA.lt
    have lb := kB.lt
    have lp := kP.lt
    have lf := eX.f.lt
    have ll := eX.l.lt
    have lo := eX.o.lt
    have lk := eX.k.lt
    have HX1 : Hid (Below X.heap.size X X) := Below.refl _ _
    have HXB := Lib.hid hXb
    have HEX := Lib.hid eX
    have HKP := Lib.hid kP
    clear HE hXb hX eX kA kB kP F0 F1 F2 LF
    refine (CL1.out _).mono ?_
    rintro e w2 ⟨rfl, hb2⟩
    have HX2 := Lib.hid (below_step HX1.out hb2)
    obtain ⟨fc2, ff2⟩ := bcell HX2.out
    have z2 := HX2.out.size
    clear hb2
    go_wp2_with fail
    refine (CL2.out _).mono ?_
    rintro e w3 ⟨rfl, hb3⟩
    have HX3 := Lib.hid (below_step HX2.out hb3)
    obtain ⟨fc3, ff3⟩ := bcell HX3.out
    have z3 := HX3.out.size
    clear hb3
    go_wp2
    first | refine bodyPost_end (results_none rfl _ _ _) rfl ?_ | refine bodyPost_ret (results_none rfl _ _ _) rfl ?_
    exact RangeLook.none HEX0.out (HXB.out.trans (HX3.out.mono (by omega)))
  | false =>
  have c2' : lessB ⟨L.six, L.hi, L.lo⟩ ⟨p.six, p.hi, p.lo⟩ = false := c2
  rw [c2'] at CL2
  have n2 : p.v ≤ L.v := by
    rcases Nat.lt_or_ge L.v p.v with h | h
    · have := q2.2 h; rw [c2] at this; cases this
    · exact h
  clear c2 c2'
  cases c3 : lessB p.a F with
  | true =>
    have n3 := q3.1 c3
    have hno3 : ¬ ∀ x, p.v ≤ x → x < p.v + 2 ^ p.k → InI F.v L.v x := fun h => by have := (h p.v (Nat.le_refl _) (by omega)).1; omega
    have c3' : lessB ⟨p.six, p.hi, p.lo⟩ ⟨F.six, F.hi, F.lo⟩ = true := c3
    rw [c3'] at CL3
    have hn := hnw (fun h => by
      rcases h with h | h
      · exact hno3 h
      · exact h F.v (by omega) (by omega) ⟨by omega, by omega⟩)
    rw [hsplit hn hno3] at hlen ⊢
    have I1 := IH hn p.low
    have I2 := IH hn p.high
    obtain ⟨l1, l2, l3⟩ := low_num hp hn
    obtain ⟨g1', g2', g3'⟩ := high_num hp hn
    have J1 := Lib.hid (fun (w : World) (base bF bL bO bK : Nat) (v : Value) (n : Nat) (xs : List Value) => I1 w base bF bL bO bK v n xs l1 hs (by omega))
    have J2 := Lib.hid (fun (w : World) (base bF bL bO bK : Nat) (v : Value) (n : Nat) (xs : List Value) => I2 w base bF bL bO bK v n xs g1' hs (by omega))
    have CH := Lib.hid (fun w => refHalvesP p w hp hn)
    clear I1 I2 l1 l2 l3 g1' g2' g3'
    generalize canonP (InI F.v L.v) p.low = U at *
    generalize canonP (InI F.v L.v) p.high = V at *
    rw [List.length_append] at hlen
    have hlenU : n + U.length ≤ 100000 := by omega
    have hlenV : n + U.length + V.length ≤ 100000 := by omega
    have hlow : p.low = ⟨p.six, p.hi, p.lo, p.n + 1⟩ := rfl
    obtain ⟨sh, hsh⟩ : ∃ sh, setHi p.six p.hi p.n.toNat = sh := ⟨_, rfl⟩
    obtain ⟨sl, hsl⟩ : ∃ sl, setLo p.six p.lo p.n.toNat = sl := ⟨_, rfl⟩
    have hhigh : p.high = ⟨p.six, sh, sl, p.n + 1⟩ := by rw [← hsh, ← hsl]; rfl
    rw [hlow, hhigh] at CH
    rw [hlow] at J1
    rw [hhigh] at J2
    unfold PV.val at CH J1 J2
    simp only at CH J1 J2
    clear hsh hsl hlow hhigh
    obtain ⟨six, hi, lo', pn⟩ := p
    obtain ⟨fs, fh, fl⟩ := F
    obtain ⟨ls, lh, ll'⟩ := L
    unfold PV.val at CP ⊢
    simp only at CP CL1 CL2 CL3 CL4 ⊢
    generalize (PV.last ⟨six, hi, lo', pn⟩) = la at *
    obtain ⟨las, lah, lal⟩ := la
    simp only at CP CL1 CL2 CL3 CL4
    obtain rfl : six = las := hs.trans l6.symm
    have HEX0 := Lib.hid HE.out
    clear hno hall hsplit IH hnw q1 q2 q3 q4 hln hlo hpp l6 a6 hv ha hp hF hL h6 hlen hs hk e1 hFL
    simp only at CH J1 J2
    have hent : ∀ (args : Array Value) (w : World), (callFunc 84 args).run Try.prog w = .ok (.enter 84 args) w := fun _ _ => by kernel_rfl
    clear c3 c3' CL4 n1 n2 n3 hno3 hn
    go_enter Try.func84, Try.ntmps84
    go_wp2_with fail
    refine (CP.out _).mono ?_
    rintro e w1 ⟨rfl, hb1⟩
    have s1 := bsize1 hb1
    have HB1 := Lib.hid (balloc1 hb1)
    have kP1 := (Blk.new w 35 #[.bool six, .int .u64 hi, .int .u64 lo', .int .i64 pn]).below hb1 (by simp)
    have HP1 := Lib.hid kP1
    have eW := HE.out.below HB1.out
    have F0 := eW.f.cell 0
    have F1 := eW.f.cell 1
    have F2 := eW.f.cell 2
    simp at F0 F1 F2
    have LF := eW.f.lt
    clear hb1 kP1 eW
    go_wp2_with fail
    obtain ⟨X, hX⟩ : ∃ X, ((w1.alloc (.cells #[.bool six, .int .u64 hi, .int .u64 lo'] 24)).alloc (.cells #[.bool six, .int .u64 lah, .int .u64 lal] 24)) = X := ⟨_, rfl⟩
    have kA : Blk X w1.heap.size 24 #[.bool six, .int .u64 hi, .int .u64 lo'] := by rw [← hX]; exact (Blk.new _ _ _).alloc _
    have kB : Blk X (w1.heap.size + 1) 24 #[.bool six, .int .u64 lah, .int .u64 lal] := by
      rw [← hX]
      have := Blk.new (w1.alloc (.cells #[.bool six, .int .u64 hi, .int .u64 lo'] 24)) 24 #[.bool six, .int .u64 lah, .int .u64 lal]
      simpa using this
    have kP : Blk X w.heap.size 35 #[.bool six, .int .u64 hi, .int .u64 lo', .int .i64 pn] := by rw [← hX]; exact (HP1.out.alloc _).alloc _
    have hXb : Below w.heap.size w X := by rw [← hX]; exact (HB1.out.alloc (by omega) _).alloc (by simp; omega) _
    have hX1 : w1.heap.size + 2 ≤ X.heap.size := by rw [← hX]; simp
    rw [hX]
    have eX := HE.out.below hXb
    have a0 := kA.cell 0
    have a1 := kA.cell 1
    have a2 := kA.cell 2
    have b0 := kB.cell 0
    have b1 := kB.cell 1
    have b2 := kB.cell 2
    have p0 := kP.cell 0
    have p1 := kP.cell 1
    have p2 := kP.cell 2
    have p3 := kP.cell 3
    have f0 := eX.f.cell 0
    have f1 := eX.f.cell 1
    have f2 := eX.f.cell 2
    have g0 := eX.l.cell 0
    have g1 := eX.l.cell 1
    have g2 := eX.l.cell 2
    have o0 := eX.o.cell 0
    have k0 := eX.k.cell 0
    simp at a0 a1 a2 b0 b1 b2 p0 p1 p2 p3 f0 f1 f2 g0 g1 g2 o0 k0
    have la := kA.lt
    have lb := kB.lt
    have lp := kP.lt
    have lf := eX.f.lt
    have ll := eX.l.lt
    have lo := eX.o.lt
    have lk := eX.k.lt
    have HX1 : Hid (Below X.heap.size X X) := Below.refl _ _
    have HXB := Lib.hid hXb
    have HEX := Lib.hid eX
    have HKP := Lib.hid kP
    clear HE hXb hX eX kA kB kP F0 F1 F2 LF
    refine (CL1.out _).mono ?_
    rintro e w2 ⟨rfl, hb2⟩
    have HX2 := Lib.hid (below_step HX1.out hb2)
    obtain ⟨fc2, ff2⟩ := bcell HX2.out
    have z2 := HX2.out.size
    clear hb2
    go_wp2_with fail
    refine (CL2.out _).mono ?_
    rintro e w3 ⟨rfl, hb3⟩
    have HX3 := Lib.hid (below_step HX2.out hb3)
    obtain ⟨fc3, ff3⟩ := bcell HX3.out
    have z3 := HX3.out.size
    clear hb3
    go_wp2_with fail
    refine (CL3.out _).mono ?_
    rintro e w4 ⟨rfl, hb4⟩
    have HX4 := Lib.hid (below_step HX3.out hb4)
    obtain ⟨fc4, ff4⟩ := bcell HX4.out
    have z4 := HX4.out.size
    clear hb4
    go_wp2_with fail
    refine (CH.out _).mono ?_
    rintro e wh ⟨rfl, hbh⟩
    have HXH := Lib.hid (below_step HX4.out hbh)
    have zh := HXH.out.size
    have eh := HEX.out.below HXH.out
    have kp := HKP.out.below HXH.out HKP.out.lt
    clear hbh
    have K0 := eh.k.cell 0
    simp [lookV] at K0
    have LK := eh.k.lt
    go_wp2_with fail
    obtain ⟨Z, hZ⟩ : ∃ Z, ((wh.alloc (.cells #[.bool six, .int .u64 hi, .int .u64 lo', .int .i64 (pn + 1)] 35)).alloc (.cells #[.bool six, .int .u64 sh, .int .u64 sl, .int .i64 (pn + 1)] 35)) = Z := ⟨_, rfl⟩
    have kh : Blk Z (wh.heap.size + 1) 35 #[.bool six, .int .u64 sh, .int .u64 sl, .int .i64 (pn + 1)] := by
      rw [← hZ]
      have := Blk.new (wh.alloc (.cells #[.bool six, .int .u64 hi, .int .u64 lo', .int .i64 (pn + 1)] 35)) 35 #[.bool six, .int .u64 sh, .int .u64 sl, .int .i64 (pn + 1)]
      simpa using this
    have hZb : Below wh.heap.size wh Z := by rw [← hZ]; exact ((Below.refl _ _).alloc (Nat.le_refl _) _).alloc (by simp) _
    have hwZ : Below w.heap.size w Z := (HXB.out.trans (HXH.out.mono (by omega))).trans (hZb.mono (by omega))
    rw [hZ]
    refine (J1.out Z base bF bL bO bK v n xs hlenU (eh.below hZb)).mono ?_
    rintro e wu ⟨rfl, v1, eu, kpu, stu⟩
    have khu := kh.keep1 kpu (by
      intro hx
      rcases List.mem_cons.1 hx with hx | hx
      · omega
      · have := HOL.out (wh.heap.size + 1) (by simpa using hx); omega)
    have u0 := khu.cell 0
    have u1 := khu.cell 1
    have u2 := khu.cell 2
    have u3 := khu.cell 3
    have uk := eu.k.cell 0
    simp [lookV] at u0 u1 u2 u3 uk
    have lu := khu.lt
    have luk := eu.k.lt
    have HEU := Lib.hid eu
    have HKU := Lib.hid kpu
    have HSU := Lib.hid stu
    have HWZ := Lib.hid hwZ
    clear eu kpu stu hwZ kh hZb khu hZ eh kp
    go_wp2_with fail
    refine (J2.out wu base bF bL bO bK v1 (n + U.length) (xs ++ U.flatMap PV.cells) hlenV HEU.out).mono ?_
    rintro e wv ⟨rfl, v2, ev, kpv, stv⟩
    have HEV := Lib.hid ev
    have HKV := Lib.hid kpv
    have HSV := Lib.hid stv
    clear ev kpv stv
    go_wp2
    first | refine bodyPost_end (results_none rfl _ _ _) rfl ?_ | refine bodyPost_ret (results_none rfl _ _ _) rfl ?_
    refine ⟨rfl, v2, ?_, ?_, ?_⟩
    · have := HEV.out
      rw [Nat.add_assoc, List.append_assoc, ← List.length_append, ← List.flatMap_append] at this
      exact this
    · have h1 : Kept (bO :: v.ownBlock.toList) w wu := (Kept.of_below HWZ.out).trans HKU.out
      refine ⟨HKV.out.os.trans h1.os, HKV.out.tape.trans h1.tape, HKV.out.output.trans h1.output, Nat.le_trans h1.size HKV.out.size, fun k hk hn => (HKV.out.block k (by have := h1.size; omega) ?_).trans (h1.block k hk hn)⟩
      intro hx
      rcases List.mem_cons.1 hx with hx | hx
      · exact hn (by simp [hx])
      · rcases HSU.out k (by simpa using hx) with h | h
        · exact hn (List.mem_cons_of_mem _ (by simpa using h))
        · have := HWZ.out.size; omega
    · intro k hk
      rcases HSV.out k hk with h | h
      · rcases HSU.out k h with h | h
        · exact .inl h
        · right; have := HWZ.out.size; omega
      · right; have := HWZ.out.size; have := HKU.out.size; omega
  | false =>
  have n3 : F.v ≤ p.v := by
    rcases Nat.lt_or_ge p.v F.v with h | h
    · have := q3.2 h; rw [c3] at this; cases this
    · exact h
  have c3' : lessB ⟨p.six, p.hi, p.lo⟩ ⟨F.six, F.hi, F.lo⟩ = false := c3
  rw [c3'] at CL3
  clear c3 c3'
  cases c4 : lessB L p.last with
  | true =>
    have n4 := q4.1 c4
    have hno3 : ¬ ∀ x, p.v ≤ x → x < p.v + 2 ^ p.k → InI F.v L.v x := fun h => by have := (h (p.v + 2 ^ p.k - 1) (by omega) (by omega)).2; omega
    have c4' : lessB ⟨L.six, L.hi, L.lo⟩ ⟨p.last.six, p.last.hi, p.last.lo⟩ = true := c4
    rw [c4'] at CL4
    have hn := hnw (fun h => by
      rcases h with h | h
      · exact hno3 h
      · exact h p.v (by omega) (by omega) ⟨by omega, by omega⟩)
    rw [hsplit hn hno3] at hlen ⊢
    have I1 := IH hn p.low
    have I2 := IH hn p.high
    obtain ⟨l1, l2, l3⟩ := low_num hp hn
    obtain ⟨g1', g2', g3'⟩ := high_num hp hn
    have J1 := Lib.hid (fun (w : World) (base bF bL bO bK : Nat) (v : Value) (n : Nat) (xs : List Value) => I1 w base bF bL bO bK v n xs l1 hs (by omega))
    have J2 := Lib.hid (fun (w : World) (base bF bL bO bK : Nat) (v : Value) (n : Nat) (xs : List Value) => I2 w base bF bL bO bK v n xs g1' hs (by omega))
    have CH := Lib.hid (fun w => refHalvesP p w hp hn)
    clear I1 I2 l1 l2 l3 g1' g2' g3'
    generalize canonP (InI F.v L.v) p.low = U at *
    generalize canonP (InI F.v L.v) p.high = V at *
    rw [List.length_append] at hlen
    have hlenU : n + U.length ≤ 100000 := by omega
    have hlenV : n + U.length + V.length ≤ 100000 := by omega
    have hlow : p.low = ⟨p.six, p.hi, p.lo, p.n + 1⟩ := rfl
    obtain ⟨sh, hsh⟩ : ∃ sh, setHi p.six p.hi p.n.toNat = sh := ⟨_, rfl⟩
    obtain ⟨sl, hsl⟩ : ∃ sl, setLo p.six p.lo p.n.toNat = sl := ⟨_, rfl⟩
    have hhigh : p.high = ⟨p.six, sh, sl, p.n + 1⟩ := by rw [← hsh, ← hsl]; rfl
    rw [hlow, hhigh] at CH
    rw [hlow] at J1
    rw [hhigh] at J2
    unfold PV.val at CH J1 J2
    simp only at CH J1 J2
    clear hsh hsl hlow hhigh
    obtain ⟨six, hi, lo', pn⟩ := p
    obtain ⟨fs, fh, fl⟩ := F
    obtain ⟨ls, lh, ll'⟩ := L
    unfold PV.val at CP ⊢
    simp only at CP CL1 CL2 CL3 CL4 ⊢
    generalize (PV.last ⟨six, hi, lo', pn⟩) = la at *
    obtain ⟨las, lah, lal⟩ := la
    simp only at CP CL1 CL2 CL3 CL4
    obtain rfl : six = las := hs.trans l6.symm
    have HEX0 := Lib.hid HE.out
    clear hno hall hsplit IH hnw q1 q2 q3 q4 hln hlo hpp l6 a6 hv ha hp hF hL h6 hlen hs hk e1 hFL
    simp only at CH J1 J2
    have hent : ∀ (args : Array Value) (w : World), (callFunc 84 args).run Try.prog w = .ok (.enter 84 args) w := fun _ _ => by kernel_rfl
    clear c4 c4' n1 n2 n3 n4 hno3 hn
    go_enter Try.func84, Try.ntmps84
    go_wp2_with fail
    refine (CP.out _).mono ?_
    rintro e w1 ⟨rfl, hb1⟩
    have s1 := bsize1 hb1
    have HB1 := Lib.hid (balloc1 hb1)
    have kP1 := (Blk.new w 35 #[.bool six, .int .u64 hi, .int .u64 lo', .int .i64 pn]).below hb1 (by simp)
    have HP1 := Lib.hid kP1
    have eW := HE.out.below HB1.out
    have F0 := eW.f.cell 0
    have F1 := eW.f.cell 1
    have F2 := eW.f.cell 2
    simp at F0 F1 F2
    have LF := eW.f.lt
    clear hb1 kP1 eW
    go_wp2_with fail
    obtain ⟨X, hX⟩ : ∃ X, ((w1.alloc (.cells #[.bool six, .int .u64 hi, .int .u64 lo'] 24)).alloc (.cells #[.bool six, .int .u64 lah, .int .u64 lal] 24)) = X := ⟨_, rfl⟩
    have kA : Blk X w1.heap.size 24 #[.bool six, .int .u64 hi, .int .u64 lo'] := by rw [← hX]; exact (Blk.new _ _ _).alloc _
    have kB : Blk X (w1.heap.size + 1) 24 #[.bool six, .int .u64 lah, .int .u64 lal] := by
      rw [← hX]
      have := Blk.new (w1.alloc (.cells #[.bool six, .int .u64 hi, .int .u64 lo'] 24)) 24 #[.bool six, .int .u64 lah, .int .u64 lal]
      simpa using this
    have kP : Blk X w.heap.size 35 #[.bool six, .int .u64 hi, .int .u64 lo', .int .i64 pn] := by rw [← hX]; exact (HP1.out.alloc _).alloc _
    have hXb : Below w.heap.size w X := by rw [← hX]; exact (HB1.out.alloc (by omega) _).alloc (by simp; omega) _
    have hX1 : w1.heap.size + 2 ≤ X.heap.size := by rw [← hX]; simp
    rw [hX]
    have eX := HE.out.below hXb
    have a0 := kA.cell 0
    have a1 := kA.cell 1
    have a2 := kA.cell 2
    have b0 := kB.cell 0
    have b1 := kB.cell 1
    have b2 := kB.cell 2
    have p0 := kP.cell 0
    have p1 := kP.cell 1
    have p2 := kP.cell 2
    have p3 := kP.cell 3
    have f0 := eX.f.cell 0
    have f1 := eX.f.cell 1
    have f2 := eX.f.cell 2
    have g0 := eX.l.cell 0
    have g1 := eX.l.cell 1
    have g2 := eX.l.cell 2
    have o0 := eX.o.cell 0
    have k0 := eX.k.cell 0
    simp at a0 a1 a2 b0 b1 b2 p0 p1 p2 p3 f0 f1 f2 g0 g1 g2 o0 k0
    have la := kA.lt
    have lb := kB.lt
    have lp := kP.lt
    have lf := eX.f.lt
    have ll := eX.l.lt
    have lo := eX.o.lt
    have lk := eX.k.lt
    have HX1 : Hid (Below X.heap.size X X) := Below.refl _ _
    have HXB := Lib.hid hXb
    have HEX := Lib.hid eX
    have HKP := Lib.hid kP
    clear HE hXb hX eX kA kB kP F0 F1 F2 LF
    refine (CL1.out _).mono ?_
    rintro e w2 ⟨rfl, hb2⟩
    have HX2 := Lib.hid (below_step HX1.out hb2)
    obtain ⟨fc2, ff2⟩ := bcell HX2.out
    have z2 := HX2.out.size
    clear hb2
    go_wp2_with fail
    refine (CL2.out _).mono ?_
    rintro e w3 ⟨rfl, hb3⟩
    have HX3 := Lib.hid (below_step HX2.out hb3)
    obtain ⟨fc3, ff3⟩ := bcell HX3.out
    have z3 := HX3.out.size
    clear hb3
    go_wp2_with fail
    refine (CL3.out _).mono ?_
    rintro e w4 ⟨rfl, hb4⟩
    have HX4 := Lib.hid (below_step HX3.out hb4)
    obtain ⟨fc4, ff4⟩ := bcell HX4.out
    have z4 := HX4.out.size
    clear hb4
    go_wp2_with fail
    refine (CL4.out _).mono ?_
    rintro e w5 ⟨rfl, hb5⟩
    have HX5 := Lib.hid (below_step HX4.out hb5)
    obtain ⟨fc5, ff5⟩ := bcell HX5.out
    have z5 := HX5.out.size
    clear hb5
    go_wp2_with fail
    refine (CH.out _).mono ?_
    rintro e wh ⟨rfl, hbh⟩
    have HXH := Lib.hid (below_step HX5.out hbh)
    have zh := HXH.out.size
    have eh := HEX.out.below HXH.out
    have kp := HKP.out.below HXH.out HKP.out.lt
    clear hbh
    have K0 := eh.k.cell 0
    simp [lookV] at K0
    have LK := eh.k.lt
    go_wp2_with fail
    obtain ⟨Z, hZ⟩ : ∃ Z, ((wh.alloc (.cells #[.bool six, .int .u64 hi, .int .u64 lo', .int .i64 (pn + 1)] 35)).alloc (.cells #[.bool six, .int .u64 sh, .int .u64 sl, .int .i64 (pn + 1)] 35)) = Z := ⟨_, rfl⟩
    have kh : Blk Z (wh.heap.size + 1) 35 #[.bool six, .int .u64 sh, .int .u64 sl, .int .i64 (pn + 1)] := by
      rw [← hZ]
      have := Blk.new (wh.alloc (.cells #[.bool six, .int .u64 hi, .int .u64 lo', .int .i64 (pn + 1)] 35)) 35 #[.bool six, .int .u64 sh, .int .u64 sl, .int .i64 (pn + 1)]
      simpa using this
    have hZb : Below wh.heap.size wh Z := by rw [← hZ]; exact ((Below.refl _ _).alloc (Nat.le_refl _) _).alloc (by simp) _
    have hwZ : Below w.heap.size w Z := (HXB.out.trans (HXH.out.mono (by omega))).trans (hZb.mono (by omega))
    rw [hZ]
    refine (J1.out Z base bF bL bO bK v n xs hlenU (eh.below hZb)).mono ?_
    rintro e wu ⟨rfl, v1, eu, kpu, stu⟩
    have khu := kh.keep1 kpu (by
      intro hx
      rcases List.mem_cons.1 hx with hx | hx
      · omega
      · have := HOL.out (wh.heap.size + 1) (by simpa using hx); omega)
    have u0 := khu.cell 0
    have u1 := khu.cell 1
    have u2 := khu.cell 2
    have u3 := khu.cell 3
    have uk := eu.k.cell 0
    simp [lookV] at u0 u1 u2 u3 uk
    have lu := khu.lt
    have luk := eu.k.lt
    have HEU := Lib.hid eu
    have HKU := Lib.hid kpu
    have HSU := Lib.hid stu
    have HWZ := Lib.hid hwZ
    clear eu kpu stu hwZ kh hZb khu hZ eh kp
    go_wp2_with fail
    refine (J2.out wu base bF bL bO bK v1 (n + U.length) (xs ++ U.flatMap PV.cells) hlenV HEU.out).mono ?_
    rintro e wv ⟨rfl, v2, ev, kpv, stv⟩
    have HEV := Lib.hid ev
    have HKV := Lib.hid kpv
    have HSV := Lib.hid stv
    clear ev kpv stv
    go_wp2
    first | refine bodyPost_end (results_none rfl _ _ _) rfl ?_ | refine bodyPost_ret (results_none rfl _ _ _) rfl ?_
    refine ⟨rfl, v2, ?_, ?_, ?_⟩
    · have := HEV.out
      rw [Nat.add_assoc, List.append_assoc, ← List.length_append, ← List.flatMap_append] at this
      exact this
    · have h1 : Kept (bO :: v.ownBlock.toList) w wu := (Kept.of_below HWZ.out).trans HKU.out
      refine ⟨HKV.out.os.trans h1.os, HKV.out.tape.trans h1.tape, HKV.out.output.trans h1.output, Nat.le_trans h1.size HKV.out.size, fun k hk hn => (HKV.out.block k (by have := h1.size; omega) ?_).trans (h1.block k hk hn)⟩
      intro hx
      rcases List.mem_cons.1 hx with hx | hx
      · exact hn (by simp [hx])
      · rcases HSU.out k (by simpa using hx) with h | h
        · exact hn (List.mem_cons_of_mem _ (by simpa using h))
        · have := HWZ.out.size; omega
    · intro k hk
      rcases HSV.out k hk with h | h
      · rcases HSU.out k h with h | h
        · exact .inl h
        · right; have := HWZ.out.size; omega
      · right; have := HWZ.out.size; have := HKU.out.size; omega
  | false =>
    have n4 : p.v + 2 ^ p.k - 1 ≤ L.v := by
      rcases Nat.lt_or_ge L.v (p.v + 2 ^ p.k - 1) with h | h
      · have := q4.2 h; rw [c4] at this; cases this
      · exact h
    have hc := hall fun x a b => ⟨by omega, by omega⟩
    rw [hc] at hlen ⊢
    have c4' : lessB ⟨L.six, L.hi, L.lo⟩ ⟨p.last.six, p.last.hi, p.last.lo⟩ = false := c4
    rw [c4'] at CL4
    simp at hlen
    have hlen2 : n + 1 ≤ 100000 := by omega
    obtain ⟨six, hi, lo', pn⟩ := p
    obtain ⟨fs, fh, fl⟩ := F
    obtain ⟨ls, lh, ll'⟩ := L
    unfold PV.val at CP ⊢
    simp only at CP CL1 CL2 CL3 CL4 ⊢
    generalize (PV.last ⟨six, hi, lo', pn⟩) = la at *
    obtain ⟨las, lah, lal⟩ := la
    simp only at CP CL1 CL2 CL3 CL4
    obtain rfl : six = las := hs.trans l6.symm
    have HEX0 := Lib.hid HE.out
    clear hno hall hsplit IH hnw q1 q2 q3 q4 hln hlo hpp l6 a6 hv ha hp hF hL h6 hlen hs hk e1 hFL
    clear c4 c4' n1 n2 n3 n4 hc
    go_enter Try.func84, Try.ntmps84
    go_wp2_with fail
    refine (CP.out _).mono ?_
    rintro e w1 ⟨rfl, hb1⟩
    have s1 := bsize1 hb1
    have HB1 := Lib.hid (balloc1 hb1)
    have kP1 := (Blk.new w 35 #[.bool six, .int .u64 hi, .int .u64 lo', .int .i64 pn]).below hb1 (by simp)
    have HP1 := Lib.hid kP1
    have eW := HE.out.below HB1.out
    have F0 := eW.f.cell 0
    have F1 := eW.f.cell 1
    have F2 := eW.f.cell 2
    simp at F0 F1 F2
    have LF := eW.f.lt
    clear hb1 kP1 eW
    go_wp2_with fail
    obtain ⟨X, hX⟩ : ∃ X, ((w1.alloc (.cells #[.bool six, .int .u64 hi, .int .u64 lo'] 24)).alloc (.cells #[.bool six, .int .u64 lah, .int .u64 lal] 24)) = X := ⟨_, rfl⟩
    have kA : Blk X w1.heap.size 24 #[.bool six, .int .u64 hi, .int .u64 lo'] := by rw [← hX]; exact (Blk.new _ _ _).alloc _
    have kB : Blk X (w1.heap.size + 1) 24 #[.bool six, .int .u64 lah, .int .u64 lal] := by
      rw [← hX]
      have := Blk.new (w1.alloc (.cells #[.bool six, .int .u64 hi, .int .u64 lo'] 24)) 24 #[.bool six, .int .u64 lah, .int .u64 lal]
      simpa using this
    have kP : Blk X w.heap.size 35 #[.bool six, .int .u64 hi, .int .u64 lo', .int .i64 pn] := by rw [← hX]; exact (HP1.out.alloc _).alloc _
    have hXb : Below w.heap.size w X := by rw [← hX]; exact (HB1.out.alloc (by omega) _).alloc (by simp; omega) _
    have hX1 : w1.heap.size + 2 ≤ X.heap.size := by rw [← hX]; simp
    rw [hX]
    have eX := HE.out.below hXb
    have a0 := kA.cell 0
    have a1 := kA.cell 1
    have a2 := kA.cell 2
    have b0 := kB.cell 0
    have b1 := kB.cell 1
    have b2 := kB.cell 2
    have p0 := kP.cell 0
    have p1 := kP.cell 1
    have p2 := kP.cell 2
    have p3 := kP.cell 3
    have f0 := eX.f.cell 0
    have f1 := eX.f.cell 1
    have f2 := eX.f.cell 2
    have g0 := eX.l.cell 0
    have g1 := eX.l.cell 1
    have g2 := eX.l.cell 2
    have o0 := eX.o.cell 0
    have k0 := eX.k.cell 0
    simp at a0 a1 a2 b0 b1 b2 p0 p1 p2 p3 f0 f1 f2 g0 g1 g2 o0 k0
    have la := kA.lt
    have lb := kB.lt
    have lp := kP.lt
    have lf := eX.f.lt
    have ll := eX.l.lt
    have lo := eX.o.lt
    have lk := eX.k.lt
    have HX1 : Hid (Below X.heap.size X X) := Below.refl _ _
    have HXB := Lib.hid hXb
    have HEX := Lib.hid eX
    have HKP := Lib.hid kP
    clear HE hXb hX eX kA kB kP F0 F1 F2 LF
    refine (CL1.out _).mono ?_
    rintro e w2 ⟨rfl, hb2⟩
    have HX2 := Lib.hid (below_step HX1.out hb2)
    obtain ⟨fc2, ff2⟩ := bcell HX2.out
    have z2 := HX2.out.size
    clear hb2
    go_wp2_with fail
    refine (CL2.out _).mono ?_
    rintro e w3 ⟨rfl, hb3⟩
    have HX3 := Lib.hid (below_step HX2.out hb3)
    obtain ⟨fc3, ff3⟩ := bcell HX3.out
    have z3 := HX3.out.size
    clear hb3
    go_wp2_with fail
    refine (CL3.out _).mono ?_
    rintro e w4 ⟨rfl, hb4⟩
    have HX4 := Lib.hid (below_step HX3.out hb4)
    obtain ⟨fc4, ff4⟩ := bcell HX4.out
    have z4 := HX4.out.size
    clear hb4
    go_wp2_with fail
    refine (CL4.out _).mono ?_
    rintro e w5 ⟨rfl, hb5⟩
    have HX5 := Lib.hid (below_step HX4.out hb5)
    obtain ⟨fc5, ff5⟩ := bcell HX5.out
    have z5 := HX5.out.size
    clear hb5
    have hw5 : Below w.heap.size w w5 := HXB.out.trans (HX5.out.mono (by omega))
    have HOW5 := Lib.hid (own_below HEX.out.own HX5.out)
    have HW5 := Lib.hid hw5
    have hb5 : base ≤ w5.heap.size := by omega
    have e5 := Lib.hid (HEX.out.below HX5.out)
    clear hw5
    go_wp2_with (at_builtin; go_loud (refine wpList_append_oneL rfl _ _ 30 rfl base (.agg #[.bool false, .int .u64 0, .int .u64 0, .int .i64 0]) 4 32 Try.underlying30 infoPre rfl (by decide) _ _ _ rfl rfl ?c0 HOW5.out ?c1 rfl ?c2 ?c3 ?c4 ?_))
    case c0 => (try simp); done
    case c1 => omega
    case c2 => first | (intro u hu; simp at hu; rcases hu with rfl | rfl | rfl | rfl <;> rfl) | exact ⟨rfl, rfl, rfl, rfl⟩
    case c3 => unfold maxLen; omega
    case c4 => omega
    intro v' w6 hown' hkp hst
    obtain ⟨g6, cap6, rfl, _, _⟩ := hown'.form (by omega)
    have k6o : Blk w6 bO 30 #[v] := e5.out.o.keep1 hkp (fun h => own_blk_ne e5.out.own e5.out.o (by decide) (by simpa using h))
    have k6f := e5.out.f.keep1 hkp (fun h => own_blk_ne e5.out.own e5.out.f (by decide) (by simpa using h))
    have k6l := e5.out.l.keep1 hkp (fun h => own_blk_ne e5.out.own e5.out.l (by decide) (by simpa using h))
    have k6k := e5.out.k.keep1 hkp (fun h => own_blk_ne e5.out.own e5.out.k (by decide) (by simpa using h))
    have o6 := k6o.cell 0
    have fo6 := k6o.frozen 0
    simp at o6
    have l6o := k6o.lt
    have nf : bF ≠ bO := k6f.ne_ k6o (by decide)
    have nl : bL ≠ bO := k6l.ne_ k6o (by decide)
    have nk : bK ≠ bO := k6k.ne_ k6o (by decide)
    have nv : (Value.slice (some ⟨g6, 0, none⟩) (n + 1) cap6).ownBlock ≠ some bO := own_blk_ne hown' k6o (by decide)
    have HK6 := Lib.hid hkp
    have HFIN : Hid (LookEnv (w6.setCell ⟨bO, 0, none⟩ (.slice (some ⟨g6, 0, none⟩) (n + 1) cap6)) base bF bL bO bK ⟨fs, fh, fl⟩ ⟨ls, lh, ll'⟩ (.slice (some ⟨g6, 0, none⟩) (n + 1) cap6) (n + 1) (xs ++ [(⟨six, hi, lo', pn⟩ : PV)].flatMap PV.cells)) :=
      ⟨k6f.far (p := ⟨bO, 0, none⟩) nf _, k6l.far (p := ⟨bO, 0, none⟩) nl _, by simpa using k6o.set_ 0 (.slice (some ⟨g6, 0, none⟩) (n + 1) cap6), k6k.far (p := ⟨bO, 0, none⟩) nk _, ownsRow_setCell_other hown' (a := ⟨bO, 0, none⟩) nv _, hbo⟩
    have HST := Lib.hid hst
    clear hown' hkp hst k6o k6f k6l k6k nf nl nk nv
    go_wp2
    first | refine bodyPost_end (results_none rfl _ _ _) rfl ?_ | refine bodyPost_ret (results_none rfl _ _ _) rfl ?_
    refine ⟨rfl, _, HFIN.out, ?_, ?_⟩
    · have h1 : Kept (bO :: v.ownBlock.toList) w w5 := Kept.of_below HW5.out
      have h2 : Kept (bO :: v.ownBlock.toList) w5 w6 := ⟨HK6.out.os, HK6.out.tape, HK6.out.output, HK6.out.size, fun k hk hn => HK6.out.block k hk (fun hx => hn (List.mem_cons_of_mem _ hx))⟩
      exact (h1.trans h2).setCell (.inl (by simp)) _
    · intro k hk
      rcases HST.out k hk with h | h
      · exact .inl h
      · right; omega

/-- The recursion. -/
theorem look_any (F L : AV) (hF : F.Ok) (hL : L.Ok) (h6 : L.six = F.six) (hFL : F.v ≤ L.v) (K : Nat) : LookAt F L K := by
  induction K with
  | zero => exact look_step F L hF hL h6 hFL 0 (fun j hj => by omega)
  | succ K ih => exact look_step F L hF hL h6 hFL (K + 1) (fun j hj => (show K = j from by omega) ▸ ih)

end Go.Proofs.Ytonelibgaceflaa
