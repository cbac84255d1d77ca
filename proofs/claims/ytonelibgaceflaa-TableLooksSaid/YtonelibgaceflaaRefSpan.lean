
/-
  Proved here: the contract of the reference's PreSpan.
-/
import Derived.Test.YtonelibgaceflaaSpanB
import Derived.Deep.RegionWith
namespace Go.Proofs.Ytonelibgaceflaa
open Go.ChangeShapes Go.WideShapes Go.ChangeAt Go.RowKit

theorem Span1.stepB {w w1 w2 : World} {a b c d : Value} {B : Nat} (h : Span1 w a b c d w1) (hb : Below B w1 w2) (hB : w.heap.size + 1 + 1 < B) : Span1 w a b c d w2 := by
  have f : ∀ b j, b ≤ w.heap.size + 1 + 1 → w1.frozen? ⟨b, j, none⟩ = false → w2.frozen? ⟨b, j, none⟩ = false := fun b j hb' hf => (hb.frozen (p := ⟨b, j, none⟩) (by show b < _; omega)).trans hf
  have g : ∀ b j v, b ≤ w.heap.size + 1 + 1 → w1.cell? ⟨b, j, none⟩ = some v → w2.cell? ⟨b, j, none⟩ = some v := fun b j v hb' hf => (hb.cell (p := ⟨b, j, none⟩) (by show b < _; omega)).trans hf
  have hs := hb.size
  have h1 := h.size
  exact ⟨h.below.trans (hb.mono (by omega)), by omega, g _ _ _ (by omega) h.c0, g _ _ _ (by omega) h.c1, g _ _ _ (by omega) h.c2, g _ _ _ (by omega) h.c3, g _ _ _ (by omega) h.zA0, g _ _ _ (by omega) h.zA1, g _ _ _ (by omega) h.zA2, g _ _ _ (by omega) h.zB0, g _ _ _ (by omega) h.zB1, g _ _ _ (by omega) h.zB2,
    f _ 0 (by omega) h.gA0, f _ 1 (by omega) h.gA1, f _ 2 (by omega) h.gA2, f _ 0 (by omega) h.gB0, f _ 1 (by omega) h.gB1, f _ 2 (by omega) h.gB2⟩

set_option maxRecDepth 100000 in
set_option maxHeartbeats 1600000 in
theorem refSpan_bad (six : Bool) (hi lo n : Int) (w : World) (h1 : 0 ≤ hi ∧ hi < 18446744073709551616) (h2 : 0 ≤ lo ∧ lo < 18446744073709551616) (hz : ¬ chk six hi lo n = 0) :
    Calls Try.prog 85 #[.agg #[.bool six, .int .u64 hi, .int .u64 lo, .int .i64 n]] w fun e w' => e = .returned (.tuple #[.agg #[.bool false, .int .u64 0, .int .u64 0], .agg #[.bool false, .int .u64 0, .int .u64 0], .int .i64 (chk six hi lo n)]) ∧ Below w.heap.size w w' := by
  have c := fun w => preFault_any six hi lo n w h1 h2
  generalize chk six hi lo n = k at *
  have CC := Lib.hid c
  have hb1 : (k == 0) = false := by simpa using hz
  have hb2 : (k != 0) = true := by simpa using hz
  clear c
  go_enter Try.func85, Try.ntmps85
  go_wp2_with fail
  refine (CC.out _).mono ?_
  rintro e w1 ⟨rfl, hb⟩
  have HS := Lib.hid (Span1.step (span1_start w _ _ _ _ _ _) hb)
  clear hb
  have xc0 := HS.out.c0
  have xc1 := HS.out.c1
  have xc2 := HS.out.c2
  have xc3 := HS.out.c3
  have xzA0 := HS.out.zA0
  have xzA1 := HS.out.zA1
  have xzA2 := HS.out.zA2
  have xzB0 := HS.out.zB0
  have xzB1 := HS.out.zB1
  have xzB2 := HS.out.zB2
  have xgA0 := HS.out.gA0
  have xgA1 := HS.out.gA1
  have xgA2 := HS.out.gA2
  have xgB0 := HS.out.gB0
  have xgB1 := HS.out.gB1
  have xgB2 := HS.out.gB2
  go_wp2
  refine bodyPost_ret (v := .tuple #[.agg #[.bool false, .int .u64 0, .int .u64 0], .agg #[.bool false, .int .u64 0, .int .u64 0], .int .i64 k]) ?_ rfl ⟨rfl, ?_⟩
  · simp [results, Try.results85, go_sem, xzA0, xzA1, xzA2, xzB0, xzB1, xzB2]
  · exact (((((HS.out.below.setCell (by simp) _).setCell (by simp) _).setCell (by simp) _).setCell (by simp; omega) _).setCell (by simp; omega) _).setCell (by simp; omega) _

theorem own_lt {w : World} {base g n cap : Nat} {e : TypeId} {size : Nat} {xs : List Value} (h : w.ownsRow base e size (.slice (some ⟨g, 0, none⟩) n cap) n xs) (hpos : 0 < n) : g < w.heap.size := by
  obtain ⟨g', c', e1, _, e2⟩ := h.form hpos
  simp at e1
  obtain ⟨rfl, _⟩ := e1
  exact e2

def lastTo (six : Bool) (hi lo : Int) (m n k : Nat) : List Int := (List.range m).map fun (j : Nat) => if j < n then bitI six hi lo j else if j < n + k then 1 else bitI six hi lo j
theorem lastTo_zero {six : Bool} {hi lo : Int} {m n : Nat} (hm : wideI six = m) : lastTo six hi lo m n 0 = bitsL six hi lo := by
  unfold lastTo bitsL
  rw [hm]
  apply List.map_congr_left
  intro j _
  split
  · rfl
  · rw [if_neg (by omega)]
theorem lastTo_end {six : Bool} {hi lo : Int} {m n k : Nat} (hm : wideI six = m) (hk : n + k = m) : lastTo six hi lo m n k = lastL six hi lo n := by
  unfold lastTo lastL
  rw [hm]
  apply List.map_congr_left
  intro j hj
  have : j < m := by simpa using hj
  by_cases h : j < n
  · rw [if_pos h, if_pos (by omega)]
  · rw [if_neg h, if_pos (show j < n + k by omega), if_neg (by omega)]
theorem lastTo_set {six : Bool} {hi lo : Int} {m n k : Nat} (hk : n + k < m) : (lastTo six hi lo m n k).set (n + k) 1 = lastTo six hi lo m n (k + 1) := by
  apply List.ext_getElem?
  intro j
  unfold lastTo
  rw [List.getElem?_set]
  by_cases h : n + k = j
  · subst h
    rw [if_pos rfl, if_pos (by simpa using hk), List.getElem?_map, List.getElem?_range hk]
    simp only [Option.map_some, Option.some.injEq]
    rw [if_neg (by omega), if_pos (by omega)]
  · rw [if_neg h, List.getElem?_map, List.getElem?_map]
    rcases Nat.lt_or_ge j m with hj | hj
    · rw [List.getElem?_range hj]
      simp only [Option.map_some, Option.some.injEq]
      by_cases h1 : j < n
      · rw [if_pos h1, if_pos h1]
      · rw [if_neg h1, if_neg h1]
        by_cases h2 : j < n + k
        · rw [if_pos h2, if_pos (by omega)]
        · rw [if_neg h2, if_neg (by omega)]
    · rw [List.getElem?_eq_none (by simpa using hj)]
      rfl

set_option maxRecDepth 100000 in
set_option maxHeartbeats 1600000 in
theorem refSpan_ok (six : Bool) (hi lo : Int) (n : Nat) (w : World) (h1 : 0 ≤ hi ∧ hi < 18446744073709551616) (h2 : 0 ≤ lo ∧ lo < 18446744073709551616) (hp : chk six hi lo n = 0) :
    Calls Try.prog 85 #[.agg #[.bool six, .int .u64 hi, .int .u64 lo, .int .i64 n]] w fun e w' => e = .returned (.tuple #[.agg #[.bool six, .int .u64 hi, .int .u64 lo], .agg #[.bool six, .int .u64 (lastHi six hi lo n), .int .u64 (lastLo six hi lo n)], .int .i64 0]) ∧ Below w.heap.size w w' := by
  have c := fun w => preFault_any six hi lo n w h1 h2
  have hpf := chk_zero h1 h2 hp
  rw [hp] at c
  have CC := Lib.hid c
  obtain ⟨m, hn, hpos, hle⟩ := wideN six
  have hnm : n ≤ m := by have := hpf.len.2; omega
  have HN := Lib.hid hn
  clear c hp hpf hn
  go_enter Try.func85, Try.ntmps85
  go_wp2_with fail
  refine (CC.out _).mono ?_
  rintro e w1 ⟨rfl, hb⟩
  have HS := Lib.hid (Span1.step (span1_start w _ _ _ _ _ _) hb)
  clear hb
  have s1 := HS.out.size
  have xc0 := HS.out.c0
  have xc1 := HS.out.c1
  have xc2 := HS.out.c2
  go_wp2_with fail
  refine (bitsOf_any six hi lo _ h1 h2).mono ?_
  rintro e w2 ⟨v, rfl, hown, hb2, hs2⟩
  have HS2 := Lib.hid (HS.out.step hb2)
  clear xc0 xc1 xc2
  rw [HN.out] at hown
  simp only [Int.toNat_natCast] at hown
  obtain ⟨g, cap, rfl, hg, hlt⟩ := hown.form hpos
  have HO := Lib.hid hown
  clear hown hb2
  have yc3 := HS2.out.c3
  have hm1 : (m : Int) ≤ 128 := by omega
  go_wp2
  go_loopw [7] (fun i wr => ∃ k : Nat, n + k ≤ m ∧ i = .int .i64 ((n : Int) + k) ∧ wr.ownsRow (w1.heap.size + 1) 3 1 (.slice (some ⟨g, 0, none⟩) m cap) m ((lastTo six hi lo m n k).map (Value.int .i64)) ∧ Below (w1.heap.size + 1) w2 wr) (fun i _ => m - (intOf i).toNat)
  case atStart => exact ⟨0, by omega, by simp, by rw [lastTo_zero HN.out]; exact HO.out, Below.refl _ _⟩
  case round =>
    obtain ⟨k, hk, rfl, hown, hbr⟩ := hrel
    by_cases hlt' : n + k < m
    · have hkm : ((n : Int) + k) < m := by omega
      have hfz : wr.frozen? ⟨g, n + k, none⟩ = false := hown.frozenAt _
      have hce : ∃ u, wr.cell? ⟨g, n + k, none⟩ = some u := by
        have := hown.cellAt (n + k) (by omega)
        rw [List.getElem?_eq_getElem (by simp [lastTo]; omega)] at this
        exact ⟨_, this⟩
      obtain ⟨u, hcu⟩ := hce
      have hst := (hown.stored (n + k) (.int .i64 1)).1
      rw [← List.map_set, lastTo_set hlt'] at hst
      have HB := Lib.hid (hbr.setCell (p := ⟨g, n + k, none⟩) hg (.int .i64 1))
      have HST := Lib.hid hst
      clear hown hst
      go_wp2
      go_roundw
      case rel => exact ⟨k + 1, by omega, by go_num, HST.out, HB.out⟩
      case measure => simp [intOf]; omega
    · have hkm : n + k = m := by omega
      have hkm2 : ((n : Int) + k) = m := by omega
      rw [lastTo_end HN.out hkm] at hown
      have HS3 := Lib.hid (HS2.out.stepB hbr (by omega))
      have hwr := hbr.size
      have HO3 := Lib.hid hown
      clear hown hlt' yc3
      have hkm3 : ¬ ((n : Int) + k) < m := by omega
      have xc0 := HS3.out.c0
      have xc1 := HS3.out.c1
      have xc2 := HS3.out.c2
      have xc3 := HS3.out.c3
      have xzA0 := HS3.out.zA0
      have xzA1 := HS3.out.zA1
      have xzA2 := HS3.out.zA2
      have xzB0 := HS3.out.zB0
      have xzB1 := HS3.out.zB1
      have xzB2 := HS3.out.zB2
      have xgA0 := HS3.out.gA0
      have xgA1 := HS3.out.gA1
      have xgA2 := HS3.out.gA2
      have xgB0 := HS3.out.gB0
      have xgB1 := HS3.out.gB1
      have xgB2 := HS3.out.gB2
      have e2 : g < wr.drew.heap.size := own_lt HO3.out hpos
      have HA := Lib.hid (addrOf_any six (lastL six hi lo n) m g cap wr.drew (lastL_bits six hi lo n) (by have := lastL_length six hi lo n; rw [HN.out] at this; omega) HN.out (fun i b hib => own_int (n := m) HO3.out hib) e2)
      clear hkm hkm2 e2
      go_wp2_with fail
      go_region_with (go_at_call 160; ((with_reducible refine HA.out.mono ?_); rintro e w' ⟨rfl, hb⟩; have HS4 := Lib.hid (HS3.out.drew.step hb); have yc0 := HS4.out.c0; have yc1 := HS4.out.c1; have yc2 := HS4.out.c2; have yc3 := HS4.out.c3; have yzA0 := HS4.out.zA0; have yzA1 := HS4.out.zA1; have yzA2 := HS4.out.zA2; have yzB0 := HS4.out.zB0; have yzB1 := HS4.out.zB1; have yzB2 := HS4.out.zB2; have ygA0 := HS4.out.gA0; have ygA1 := HS4.out.gA1; have ygA2 := HS4.out.gA2; have ygB0 := HS4.out.gB0; have ygB1 := HS4.out.gB1; have ygB2 := HS4.out.gB2))
      all_goals go_wp2
      all_goals refine bodyPost_ret (v := .tuple #[.agg #[.bool six, .int .u64 hi, .int .u64 lo], .agg #[.bool six, .int .u64 (lastHi six hi lo n), .int .u64 (lastLo six hi lo n)], .int .i64 0]) ?_ rfl ⟨rfl, ?_⟩
      all_goals first
        | exact (((((HS4.out.below.setCell (by simp) _).setCell (by simp) _).setCell (by simp) _).setCell (by simp; omega) _).setCell (by simp; omega) _).setCell (by simp; omega) _
        | (simp [results, Try.results85, go_sem, yzA0, yzA1, yzA2, yzB0, yzB1, yzB2, lastHi, lastLo]; done)
        | trace_state

end Go.Proofs.Ytonelibgaceflaa
