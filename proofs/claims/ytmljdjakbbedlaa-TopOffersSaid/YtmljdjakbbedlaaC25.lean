/-
  
  
  
  
-/
import Derived.Test.YtmljdjakbbedlaaC24
import Derived.Test.YtmljdjakbbedlaaC23
import Derived.BigQuiet
import Derived.Test.YtmljdjakbbedlaaC10
import Derived.Test.YtmljdjakbbedlaaC15
import Derived.Test.YtmljdjakbbedlaaC2
import Derived.Test.YtmljdjakbbedlaaC19
namespace Go.Proofs.Ytmljdjakbbedlaa
open Go.ChangeShapes Go.WideShapes Go.ChangeAt Go.RowKit

theorem infoRuleK : (Try.prog.info? 97).map (fun i => (i.zero, i.size, i.bytes)) = some (some (.agg #[.bool false, .bool false, .int .u64 0, .int .u64 0, .int .i64 0, .int .i64 0, .int .i64 0]), 7, 56) := by kernel_rfl
def ruleP (x : Int) : PV := if pickedI (x.tdiv 5000) 4 = 0 then ⟨false, 0, 0, 0⟩ else presV x
def ruleL (x : Int) : Int := (ruleP x).n + pickedI (x.tdiv 20000) (33 - (ruleP x).n)
/-- The rule of a number. -/
def ruleK (x : Int) : RuleV := ⟨decide (pickedI (x.tdiv 7) 2 = 0), (ruleP x).six, (ruleP x).hi, (ruleP x).lo, (ruleP x).n, ruleL x, ruleL x + pickedI (x.tdiv 70000) (33 - ruleL x)⟩
theorem presV_n (x : Int) : 24 ≤ (presV x).n ∧ (presV x).n ≤ 32 ∧ (presV x).six = false := by
  have h := picked_range x (n := 9) (by omega)
  unfold presV preK
  exact ⟨by simp only; omega, by simp only; omega, rfl⟩
theorem ruleP_n (x : Int) : 0 ≤ (ruleP x).n ∧ (ruleP x).n ≤ 32 ∧ (ruleP x).six = false := by
  have h := presV_n x
  unfold ruleP
  split
  · exact ⟨by decide, by decide, rfl⟩
  · exact ⟨by omega, h.2.1, h.2.2⟩
theorem ruleP_ok (x : Int) : (ruleP x).Ok := by
  unfold ruleP
  split
  · exact top_ok false
  · exact presV_ok x
theorem ruleL_n (x : Int) : (ruleP x).n ≤ ruleL x ∧ ruleL x ≤ 32 := by
  have h := ruleP_n x
  have h2 := picked_range (x.tdiv 20000) (n := 33 - (ruleP x).n) (by omega)
  unfold ruleL
  omega
theorem keepOfR {wp X : World} {ad : Addr} {k : Nat} {x : Int} (hb : (ad.add k).block < wp.heap.size) (hq : wp.cell? (ad.add k) = some (.int .i64 x)) (h : Below wp.heap.size wp X) :
    (∀ b o, b < wp.heap.size → X.cell? ⟨b, o, none⟩ = wp.cell? ⟨b, o, none⟩) ∧ wp.heap.size ≤ X.heap.size ∧ Hid (Below wp.heap.size wp X) ∧ X.cell? (ad.add k) = some (.int .i64 x) :=
  ⟨fun b o hb' => h.cell (p := ⟨b, o, none⟩) hb', h.size, h, (h.cell hb).trans hq⟩

set_option maxRecDepth 100000 in
set_option maxHeartbeats 3200000 in
theorem kRules_any {A : Option Addr} {n c : Nat} {l : List Int} {w : World} (hz : l.length = n) (hnm : n ≤ maxLen) (hok : ∀ x ∈ l, -9223372036854775808 ≤ x ∧ x ≤ 9223372036854775807) (hr : Reads w w.heap.size 1 A n (l.map (Value.int .i64))) (K : Nat) (hK : K ≤ 100) : Calls Try.prog 15 #[.slice A n c, .int .i64 K] w fun e w' => ∃ v, e = .returned v ∧ w'.ownsRow w.heap.size 97 7 v ((l.take K).map ruleK).length (((l.take K).map ruleK).flatMap RuleV.cells) ∧ Below w.heap.size w w' := by
  have HZ := Lib.hid hz
  have HOK := Lib.hid hok
  have HR := Lib.hid hr
  unfold maxLen at hnm
  clear hz hok hr
  have CQ := Lib.hid (fun a n w (h1 : 0 < n) (h2 : n ≤ 1000000) => picked_q a n w h1 h2)
  go_enter Try.func15, Try.ntmps15
  go_wp2
  go_loopw [6, 5, 7, 8, 9] (fun i ov _ _ _ wr => ∃ k : Nat, k ≤ n ∧ k ≤ K ∧ i = .int .i64 k ∧ Hid (wr.ownsRow w.heap.size 97 7 ov ((l.take k).map ruleK).length (((l.take k).map ruleK).flatMap RuleV.cells)) ∧ Hid (Below w.heap.size w wr)) (fun i _ _ _ _ _ => n - (intOf i).toNat)
  case atStart => exact ⟨0, by omega, by omega, rfl, World.ownsRow_nil _ _ _ _, Below.refl _ _⟩
  case round =>
    obtain ⟨k, hk, hkK, rfl, HROW, HB⟩ := hrel
    obtain ⟨wo, rfl⟩ : ∃ wo : World, wo = wr := ⟨_, rfl⟩
    have hszb := HB.out.size
    have hml : ((l.take k).map ruleK).length ≤ 100 := by rw [List.length_map, List.length_take]; omega
    obtain ⟨L, hL⟩ : ∃ L, (l.take k).map ruleK = L := ⟨_, rfl⟩
    rw [hL] at HROW hml
    have HL := Lib.hid hL
    clear hL
    by_cases hlt : k < n
    · by_cases hltK : k < K
      · have hrk := HR.out.at1 hlt
        have hbad : ∀ ad : Addr, A = some ad → (ad.add k).block < w.heap.size := fun ad e => by
          obtain ⟨ad', u, e', hb', _⟩ := HR.out.at_ hlt
          rw [e] at e'
          injection e' with e'
          subst e'
          rw [block_of_add]
          exact hb'
        obtain ⟨ad, x, rfl, hq, htk, hlk, hmem⟩ := hrk
        have hbk := hbad ad rfl
        have hx := HOK.out x hmem
        have q0 := (HB.out.cell hbk).trans hq
        have HTK := Lib.hid htk
        have hp0 := presV_n x
        have hpn := ruleP_n x
        have hln := ruleL_n x
        have CPR := Lib.hid (fun w b => pres_at x hx w b)
        have C5 := Lib.hid (fun w => CQ.out (x.tdiv 5000) 4 w (by omega) (by omega))
        have C20 := Lib.hid (fun w => CQ.out (x.tdiv 20000) (33 - (ruleP x).n) w (by omega) (by omega))
        have C7 := Lib.hid (fun w => CQ.out (x.tdiv 7) 2 w (by omega) (by omega))
        have C70 := Lib.hid (fun w => CQ.out (x.tdiv 70000) (33 - ruleL x) w (by omega) (by omega))
        have d5 := quo_in x 5000 hx (by omega)
        have d20 := quo_in x 20000 hx (by omega)
        have d7 := quo_in x 7 hx (by omega)
        have d70 := quo_in x 70000 hx (by omega)
        have g20 := picked_range (x.tdiv 20000) (n := 33 - (ruleP x).n) (by omega)
        have g70 := picked_range (x.tdiv 70000) (n := 33 - ruleL x) (by omega)
        have HRK : Hid (ruleK x = ⟨decide (pickedI (x.tdiv 7) 2 = 0), (ruleP x).six, (ruleP x).hi, (ruleP x).lo, (ruleP x).n, ruleL x, ruleL x + pickedI (x.tdiv 70000) (33 - ruleL x)⟩) := rfl
        have HRL : Hid (ruleL x = (ruleP x).n + pickedI (x.tdiv 20000) (33 - (ruleP x).n)) := rfl
        have HRP : Hid (ruleP x = if pickedI (x.tdiv 5000) 4 = 0 then ⟨false, 0, 0, 0⟩ else presV x) := rfl
        clear hbad hq htk hlk hmem hp0
        generalize hP : ruleP x = P at *
        generalize hLe : ruleL x = least at *
        clear hP hLe
        generalize pickedI (x.tdiv 5000) 4 = a5 at *
        generalize presV x = pv at *
        generalize pickedI (x.tdiv 20000) (33 - P.n) = a20 at *
        generalize pickedI (x.tdiv 7) 2 = b7 at *
        generalize pickedI (x.tdiv 70000) (33 - least) = b70 at *
        obtain ⟨six, hi, lo, pn⟩ := P
        obtain ⟨s', h', l', n'⟩ := pv
        simp only at CPR C20 hpn hln g20
        have e1 : IntKind.i64.wrap (33 - pn) = 33 - pn := IntWalk.i64_in _ (by omega)
        have e2 : IntKind.i64.wrap (pn + a20) = least := by have := HRL.out; simp only at this; rw [this]; exact IntWalk.i64_in _ (by omega)
        have e3 : IntKind.i64.wrap (33 - least) = 33 - least := IntWalk.i64_in _ (by omega)
        have e4 : IntKind.i64.wrap (least + b70) = least + b70 := IntWalk.i64_in _ (by omega)
        have hkc : (k : Int) < (n : Int) := by omega
        go_wp2_with fail
        refine (CPR.out _ _ ?_ ?_).mono ?_
        · go_simp
        · (simp; try omega)
        rintro e w8 ⟨g8, c8, rfl, y0, y1, y2, y3, hg8, hb8⟩
        have q8 : w8.cell? (ad.add k) = some (.int .i64 x) := (hb8.cell (by simp; omega)).trans ((World.cell?_alloc_lt _ _ _ (by omega)).trans q0)
        have HB8 : Hid (Below w.heap.size w w8) := below_step (HB.out.alloc hszb _) hb8
        have HROW8 : Hid (w8.ownsRow w.heap.size 97 7 u5 L.length (L.flatMap RuleV.cells)) := own_below (HROW.out.alloc _) hb8
        have hbk8 : (ad.add k).block < w8.heap.size := by have := HB8.out.size; omega
        clear hb8
        by_cases h5 : a5 = 0
        · have hp := HRP.out
          rw [if_pos h5] at hp
          injection hp with i1 i2 i3 i4
          subst i1 i2 i3 i4 h5
          have hl : least = a20 := by have := HRL.out; simpa using this
          subst hl
          have e20 : IntKind.i64.wrap least = least := IntWalk.i64_in _ (by omega)
          go_wp2_with fail
          refine (C5.out _).mono ?_
          rintro e w' ⟨rfl, rfl⟩
          go_wp2_with fail
          obtain ⟨wp, hwp⟩ : ∃ wn : World, w8.alloc (.cells #[.bool false, .int .u64 0, .int .u64 0, .int .i64 0] 42) = wn := ⟨_, rfl⟩
          have p0 : wp.cell? ⟨w8.heap.size, 0, none⟩ = some (.bool false) := by rw [← hwp]; exact alloc_cellN (j := 0) rfl
          have p1 : wp.cell? ⟨w8.heap.size, 1, none⟩ = some (.int .u64 0) := by rw [← hwp]; exact alloc_cellN (j := 1) rfl
          have p2 : wp.cell? ⟨w8.heap.size, 2, none⟩ = some (.int .u64 0) := by rw [← hwp]; exact alloc_cellN (j := 2) rfl
          have p3 : wp.cell? ⟨w8.heap.size, 3, none⟩ = some (.int .i64 0) := by rw [← hwp]; exact alloc_cellN (j := 3) rfl
          have qx : wp.cell? (ad.add k) = some (.int .i64 x) := by rw [← hwp]; exact (World.cell?_alloc_lt _ _ _ hbk8).trans q8
          have hbk0 : (ad.add k).block < wp.heap.size := by rw [← hwp]; simp; omega
          have hz8 : w8.heap.size < wp.heap.size := by rw [← hwp]; simp
          have HBP : Hid (Below w.heap.size w wp) := by rw [← hwp]; exact HB8.out.alloc HB8.out.size _
          have HROWP : Hid (wp.ownsRow w.heap.size 97 7 u5 L.length (L.flatMap RuleV.cells)) := by rw [← hwp]; exact HROW8.out.alloc _
          rw [hwp]
          clear hwp
          go_quiet ((go_at_call 43; exact Calls.quiet_of_same (C20.out _)))
          obtain ⟨wv, hwv⟩ : ∃ wn : World, wp.drewN nq = wn := ⟨_, rfl⟩
          have v0 : wv.cell? ⟨w8.heap.size, 0, none⟩ = some (.bool false) := by rw [← hwv]; exact p0
          have v1 : wv.cell? ⟨w8.heap.size, 1, none⟩ = some (.int .u64 0) := by rw [← hwv]; exact p1
          have v2 : wv.cell? ⟨w8.heap.size, 2, none⟩ = some (.int .u64 0) := by rw [← hwv]; exact p2
          have v3 : wv.cell? ⟨w8.heap.size, 3, none⟩ = some (.int .i64 0) := by rw [← hwv]; exact p3
          have vx : wv.cell? (ad.add k) = some (.int .i64 x) := by rw [← hwv]; exact qx
          have hbkv : (ad.add k).block < wv.heap.size := by rw [← hwv]; exact hbk0
          have hzv : w8.heap.size < wv.heap.size := by rw [← hwv]; exact hz8
          have HBV : Hid (Below w.heap.size w wv) := by rw [← hwv]; exact below_drewN HBP.out _
          have HROWV : Hid (wv.ownsRow w.heap.size 97 7 u5 L.length (L.flatMap RuleV.cells)) := by rw [← hwv]; exact own_below HROWP.out (below_drewN (Below.refl _ _) _)
          rw [hwv]
          clear hwv p0 p1 p2 p3 qx
          go_wp2_with fail
          refine wp_region_held_drew (S := (fun w' => (∀ b o, b < wv.heap.size → w'.cell? ⟨b, o, none⟩ = wv.cell? ⟨b, o, none⟩) ∧ wv.heap.size ≤ w'.heap.size ∧ Hid (Below wv.heap.size wv w') ∧ w'.cell? (ad.add k) = some (.int .i64 x))) (by kernel_rfl) ?_ (fun hHeld => ?_)
          · exact keepOfR hbkv vx (by (repeat' first | with_reducible exact Below.refl _ _ | with_reducible refine Below.drew ?_ | with_reducible refine below_drewN ?_ _ | with_reducible refine Below.setCell ?_ ?_ _ | with_reducible refine Below.alloc ?_ ?_ _ | (simp; done) | (simp; omega) | omega))
          refine wpAnyH_take (i := 0) (v := ?_) rfl (by kernel_rfl) (by kernel_rfl) (by kernel_rfl) (fun _ _ _ h => h) (Or.inl ⟨by rfl, ?_⟩) (by assumption) ?_
          rotate_left
          · (intro w hSw; (try dsimp only at hSw); go_simp <;> with_reducible rfl)
          (try simp only [Act.put, List.getElem_toArray, List.getElem_cons_zero, List.setIfInBounds_toArray, List.set_cons_zero, List.set_cons_succ])
          refine wpAnyH_take (i := 1) (v := ?_) rfl (by kernel_rfl) (by kernel_rfl) (by kernel_rfl) (fun _ _ _ h => h) (Or.inl ⟨by rfl, ?_⟩) (by assumption) ?_
          rotate_left
          · (intro w hSw; (try dsimp only at hSw); go_simp <;> with_reducible rfl)
          (try simp only [Act.put, List.getElem_toArray, List.getElem_cons_succ, List.getElem_cons_zero, List.setIfInBounds_toArray, List.set_cons_zero, List.set_cons_succ])
          refine wpAnyH_take (i := 2) (v := ?_) rfl (by kernel_rfl) (by kernel_rfl) (by kernel_rfl) (fun _ _ _ h => h) (Or.inl ⟨by rfl, ?_⟩) (by assumption) ?_
          rotate_left
          · (intro w hSw; (try dsimp only at hSw); go_simp <;> with_reducible rfl)
          (try simp only [Act.put, List.getElem_toArray, List.getElem_cons_succ, List.getElem_cons_zero, List.setIfInBounds_toArray, List.set_cons_zero, List.set_cons_succ])
          refine wpAnyH_take (i := 3) (v := ?_) rfl (by kernel_rfl) (by kernel_rfl) (by kernel_rfl) (fun _ _ _ h => h) (Or.inl ⟨by rfl, ?_⟩) (by assumption) ?_
          rotate_left
          · (intro w hSw; (try dsimp only at hSw); go_simp <;> with_reducible rfl)
          (try simp only [Act.put, List.getElem_toArray, List.getElem_cons_succ, List.getElem_cons_zero, List.setIfInBounds_toArray, List.set_cons_zero, List.set_cons_succ])
          refine wpAnyH_take (i := 4) (v := ?_) rfl (by kernel_rfl) (by kernel_rfl) (by kernel_rfl) (fun _ _ _ h => h) (Or.inl ⟨by rfl, ?_⟩) (by assumption) ?_
          rotate_left
          · (intro w hSw; (try dsimp only at hSw); go_simp <;> with_reducible rfl)
          (try simp only [Act.put, List.getElem_toArray, List.getElem_cons_succ, List.getElem_cons_zero, List.setIfInBounds_toArray, List.set_cons_zero, List.set_cons_succ])
          refine wpAnyH_call (i := 5) (v := .int .i64 b7) rfl (by kernel_rfl) (by kernel_rfl) (by kernel_rfl) (fun _ _ _ h => h) ⟨by rfl, fun W _ => ⟨43, #[.int .i64 (x.tdiv 7), .int .i64 2], ?_, C7.out W⟩⟩ (by assumption) ?_
          · first | rfl | kernel_rfl | (go_simp; done)
          (try simp only [Act.put, List.getElem_toArray, List.getElem_cons_succ, List.getElem_cons_zero, List.setIfInBounds_toArray, List.set_cons_zero, List.set_cons_succ])
          refine wpAnyH_take (i := 6) (v := ?_) rfl (by kernel_rfl) (by kernel_rfl) (by kernel_rfl) (fun _ _ _ h => h) (Or.inl ⟨by rfl, ?_⟩) (by assumption) ?_
          rotate_left
          · (intro w hSw; (try dsimp only at hSw); go_simp <;> with_reducible rfl)
          (try simp only [Act.put, List.getElem_toArray, List.getElem_cons_succ, List.getElem_cons_zero, List.setIfInBounds_toArray, List.set_cons_zero, List.set_cons_succ])
          refine wpAnyH_take (i := 7) (v := ?_) rfl (by kernel_rfl) (by kernel_rfl) (by kernel_rfl) (fun _ _ _ h => h) (Or.inl ⟨by rfl, ?_⟩) (by assumption) ?_
          rotate_left
          · (intro w hSw; (try dsimp only at hSw); go_simp <;> with_reducible rfl)
          (try simp only [Act.put, List.getElem_toArray, List.getElem_cons_succ, List.getElem_cons_zero, List.setIfInBounds_toArray, List.set_cons_zero, List.set_cons_succ])
          refine wpAnyH_take (i := 8) (v := ?_) rfl (by kernel_rfl) (by kernel_rfl) (by kernel_rfl) (fun _ _ _ h => h) (Or.inl ⟨by rfl, ?_⟩) (by assumption) ?_
          rotate_left
          · (intro w hSw; (try dsimp only at hSw); go_simp <;> with_reducible rfl)
          (try simp only [Act.put, List.getElem_toArray, List.getElem_cons_succ, List.getElem_cons_zero, List.setIfInBounds_toArray, List.set_cons_zero, List.set_cons_succ])
          refine wpAnyH_take (i := 9) (v := ?_) rfl (by kernel_rfl) (by kernel_rfl) (by kernel_rfl) (fun _ _ _ h => h) (Or.inl ⟨by rfl, ?_⟩) (by assumption) ?_
          rotate_left
          · (intro w hSw; (try dsimp only at hSw); go_simp <;> with_reducible rfl)
          (try simp only [Act.put, List.getElem_toArray, List.getElem_cons_succ, List.getElem_cons_zero, List.setIfInBounds_toArray, List.set_cons_zero, List.set_cons_succ])
          refine wpAnyH_take (i := 10) (v := ?_) rfl (by kernel_rfl) (by kernel_rfl) (by kernel_rfl) (fun _ _ _ h => h) (Or.inl ⟨by rfl, ?_⟩) (by assumption) ?_
          rotate_left
          · (intro w hSw; (try dsimp only at hSw); go_simp <;> with_reducible rfl)
          (try simp only [Act.put, List.getElem_toArray, List.getElem_cons_succ, List.getElem_cons_zero, List.setIfInBounds_toArray, List.set_cons_zero, List.set_cons_succ])
          refine wpAnyH_take (i := 11) (v := ?_) rfl (by kernel_rfl) (by kernel_rfl) (by kernel_rfl) (fun _ _ _ h => h) (Or.inl ⟨by rfl, ?_⟩) (by assumption) ?_
          rotate_left
          · (intro w hSw; (try dsimp only at hSw); go_simp <;> with_reducible rfl)
          (try simp only [Act.put, List.getElem_toArray, List.getElem_cons_succ, List.getElem_cons_zero, List.setIfInBounds_toArray, List.set_cons_zero, List.set_cons_succ])
          refine wpAnyH_take (i := 12) (v := ?_) rfl (by kernel_rfl) (by kernel_rfl) (by kernel_rfl) (fun _ _ _ h => h) (Or.inl ⟨by rfl, ?_⟩) (by assumption) ?_
          rotate_left
          · (intro w hSw; (try dsimp only at hSw); go_simp <;> with_reducible rfl)
          (try simp only [Act.put, List.getElem_toArray, List.getElem_cons_succ, List.getElem_cons_zero, List.setIfInBounds_toArray, List.set_cons_zero, List.set_cons_succ])
          refine wpAnyH_take (i := 13) (v := ?_) rfl (by kernel_rfl) (by kernel_rfl) (by kernel_rfl) (fun _ _ _ h => h) (Or.inl ⟨by rfl, ?_⟩) (by assumption) ?_
          rotate_left
          · (intro w hSw; (try dsimp only at hSw); go_simp <;> with_reducible rfl)
          (try simp only [Act.put, List.getElem_toArray, List.getElem_cons_succ, List.getElem_cons_zero, List.setIfInBounds_toArray, List.set_cons_zero, List.set_cons_succ])
          refine wpAnyH_take (i := 14) (v := ?_) rfl (by kernel_rfl) (by kernel_rfl) (by kernel_rfl) (fun _ _ _ h => h) (Or.inl ⟨by rfl, ?_⟩) (by assumption) ?_
          rotate_left
          · (intro w hSw; (try dsimp only at hSw); go_simp <;> with_reducible rfl)
          (try simp only [Act.put, List.getElem_toArray, List.getElem_cons_succ, List.getElem_cons_zero, List.setIfInBounds_toArray, List.set_cons_zero, List.set_cons_succ])
          refine wpAnyH_take (i := 15) (v := ?_) rfl (by kernel_rfl) (by kernel_rfl) (by kernel_rfl) (fun _ _ _ h => h) (Or.inl ⟨by rfl, ?_⟩) (by assumption) ?_
          rotate_left
          · (intro w hSw; (try dsimp only at hSw); go_simp <;> with_reducible rfl)
          (try simp only [Act.put, List.getElem_toArray, List.getElem_cons_succ, List.getElem_cons_zero, List.setIfInBounds_toArray, List.set_cons_zero, List.set_cons_succ])
          refine wpAnyH_take (i := 16) (v := ?_) rfl (by kernel_rfl) (by kernel_rfl) (by kernel_rfl) (fun _ _ _ h => h) (Or.inl ⟨by rfl, ?_⟩) (by assumption) ?_
          rotate_left
          · (intro w hSw; (try dsimp only at hSw); go_simp <;> with_reducible rfl)
          (try simp only [Act.put, List.getElem_toArray, List.getElem_cons_succ, List.getElem_cons_zero, List.setIfInBounds_toArray, List.set_cons_zero, List.set_cons_succ])
          refine wpAnyH_call (i := 17) (v := .int .i64 b70) rfl (by kernel_rfl) (by kernel_rfl) (by kernel_rfl) (fun _ _ _ h => h) ⟨by rfl, fun W _ => ⟨43, #[.int .i64 (x.tdiv 70000), .int .i64 (33 - least)], ?_, C70.out W⟩⟩ (by assumption) ?_
          · first | rfl | kernel_rfl | (go_simp; done)
          (try simp only [Act.put, List.getElem_toArray, List.getElem_cons_succ, List.getElem_cons_zero, List.setIfInBounds_toArray, List.set_cons_zero, List.set_cons_succ])
          refine wpAnyH_take (i := 18) (v := ?_) rfl (by kernel_rfl) (by kernel_rfl) (by kernel_rfl) (fun _ _ _ h => h) (Or.inl ⟨by rfl, ?_⟩) (by assumption) ?_
          rotate_left
          · (intro w hSw; (try dsimp only at hSw); go_simp <;> with_reducible rfl)
          (try simp only [Act.put, List.getElem_toArray, List.getElem_cons_succ, List.getElem_cons_zero, List.setIfInBounds_toArray, List.set_cons_zero, List.set_cons_succ])
          refine wpAnyH_take (i := 19) (v := ?_) rfl (by kernel_rfl) (by kernel_rfl) (by kernel_rfl) (fun _ _ _ h => h) (Or.inl ⟨by rfl, ?_⟩) (by assumption) ?_
          rotate_left
          · (intro w hSw; (try dsimp only at hSw); go_simp <;> with_reducible rfl)
          (try simp only [Act.put, List.getElem_toArray, List.getElem_cons_succ, List.getElem_cons_zero, List.setIfInBounds_toArray, List.set_cons_zero, List.set_cons_succ])
          refine wpAnyH_ready (rs := [20]) (by kernel_rfl) (by simp) ?_
          refine AllReadyH.cons rfl (fun K hK => ?_) AllReadyH.nil
          go_simp
          (try simp only [Act.put, List.getElem_toArray, List.getElem_cons_succ, List.getElem_cons_zero, List.setIfInBounds_toArray, List.set_cons_zero, List.set_cons_succ])
          first
            | refine hK.out _ _ ?_ (fun hHeld => ?_)
            | (go_wp2_with fail; refine hK.out _ _ ?_ (fun hHeld => ?_))
          · exact keepOfR hbkv vx (by (repeat' first | with_reducible exact Below.refl _ _ | with_reducible refine Below.drew ?_ | with_reducible refine below_drewN ?_ _ | with_reducible refine Below.setCell ?_ ?_ _ | with_reducible refine Below.alloc ?_ ?_ _ | (simp; done) | (simp; omega) | omega))
          clear hK K
          (try simp only [Act.put, List.getElem_toArray, List.getElem_cons_succ, List.getElem_cons_zero, List.setIfInBounds_toArray, List.set_cons_zero, List.set_cons_succ])
          refine wpAnyH_ready (rs := [21]) (by kernel_rfl) (by simp) ?_
          refine AllReadyH.cons rfl (fun K hK => ?_) AllReadyH.nil
          go_simp
          (try simp only [Act.put, List.getElem_toArray, List.getElem_cons_succ, List.getElem_cons_zero, List.setIfInBounds_toArray, List.set_cons_zero, List.set_cons_succ])
          first
            | refine hK.out _ _ ?_ (fun hHeld => ?_)
            | (go_wp2_with fail; refine hK.out _ _ ?_ (fun hHeld => ?_))
          · exact keepOfR hbkv vx (by (repeat' first | with_reducible exact Below.refl _ _ | with_reducible refine Below.drew ?_ | with_reducible refine below_drewN ?_ _ | with_reducible refine Below.setCell ?_ ?_ _ | with_reducible refine Below.alloc ?_ ?_ _ | (simp; done) | (simp; omega) | omega))
          clear hK K
          (try simp only [Act.put, List.getElem_toArray, List.getElem_cons_succ, List.getElem_cons_zero, List.setIfInBounds_toArray, List.set_cons_zero, List.set_cons_succ])
          refine wpAnyH_done (by kernel_rfl) ?_ _
          obtain ⟨wf, hS, hwf⟩ : ∃ wf : World, ((∀ b o, b < wv.heap.size → wf.cell? ⟨b, o, none⟩ = wv.cell? ⟨b, o, none⟩) ∧ wv.heap.size ≤ wf.heap.size ∧ Hid (Below wv.heap.size wv wf) ∧ wf.cell? (ad.add k) = some (.int .i64 x)) ∧ wf = _ := ⟨_, hHeld, rfl⟩
          have z0 : wf.cell? ⟨wv.heap.size, 0, none⟩ = some (.bool (b7 == 0)) := by rw [hwf]; go_simp
          have z1 : wf.cell? ⟨wv.heap.size, 1, none⟩ = some (.bool false) := by rw [hwf]; go_simp
          have z2 : wf.cell? ⟨wv.heap.size, 2, none⟩ = some (.int .u64 0) := by rw [hwf]; go_simp
          have z3 : wf.cell? ⟨wv.heap.size, 3, none⟩ = some (.int .u64 0) := by rw [hwf]; go_simp
          have z4 : wf.cell? ⟨wv.heap.size, 4, none⟩ = some (.int .i64 0) := by rw [hwf]; go_simp
          have z5 : wf.cell? ⟨wv.heap.size, 5, none⟩ = some (.int .i64 least) := by rw [hwf]; go_simp
          have z6 : wf.cell? ⟨wv.heap.size, 6, none⟩ = some (.int .i64 (least + b70)) := by rw [hwf]; go_simp
          rw [← hwf]
          clear hwf
          have HSB : Hid (Below wv.heap.size wv wf) := hS.2.2.1
          have HROWF : Hid (wf.ownsRow w.heap.size 97 7 u5 L.length (L.flatMap RuleV.cells)) := own_below HROWV.out HSB.out
          have HBF : Hid (Below w.heap.size w wf) := below_step HBV.out HSB.out
          have hsF : w.heap.size ≤ wf.heap.size := HBF.out.size
          have HSU : Hid ((l.take (k + 1)).map ruleK = L ++ [(⟨decide (b7 = 0), false, 0, 0, 0, least, least + b70⟩ : RuleV)]) := by
            show _ = _
            rw [HTK.out, List.map_append, List.map_cons, List.map_nil, HRK.out, HL.out]
          go_wp2_with (at_builtin; go_loud (refine wpList_append_oneN (us := [.bool (b7 == 0), .bool false, .int .u64 0, .int .u64 0, .int .i64 0, .int .i64 least, .int .i64 (least + b70)]) rfl _ _ 30 rfl w.heap.size _ 7 56 Try.underlying30 infoRuleK rfl (by decide) _ _ _ rfl rfl rfl HROWF.out hsF rfl (by intro u hu; simp at hu; rcases hu with rfl | rfl | rfl | rfl | rfl | rfl | rfl <;> rfl) (by unfold maxLen; omega) (by omega) ?_))
          intro v9 w9 hown9 hb9 hs9 hk9
          have HO9 : Hid (w9.ownsRow w.heap.size 97 7 v9 ((l.take (k + 1)).map ruleK).length (((l.take (k + 1)).map ruleK).flatMap RuleV.cells)) := by
            show World.ownsRow _ _ _ _ _ _ _
            rw [HSU.out, List.length_append, List.flatMap_append]
            exact hown9
          have HB9 : Hid (Below w.heap.size w w9) := HBF.out.trans (hb9.mono (by omega))
          clear hown9 hb9 hk9
          go_wp2
          go_roundw
          case rel => exact ⟨k + 1, by omega, by omega, by go_num, HO9, HB9⟩
          case measure => simp [intOf]; omega
        · have hp := HRP.out
          rw [if_neg h5] at hp
          injection hp with i1 i2 i3 i4
          subst i1 i2 i3 i4
          have d50 : (a5 == 0) = false := by simpa using h5
          obtain rfl : six = false := hpn.2.2
          go_wp2_with fail
          refine (C5.out _).mono ?_
          rintro e w' ⟨rfl, rfl⟩
          go_wp2_with fail
          obtain ⟨wp, hwp⟩ : ∃ wn : World, w8.alloc (.cells #[.bool false, .int .u64 hi, .int .u64 lo, .int .i64 pn] 42) = wn := ⟨_, rfl⟩
          have p0 : wp.cell? ⟨w8.heap.size, 0, none⟩ = some (.bool false) := by rw [← hwp]; exact alloc_cellN (j := 0) rfl
          have p1 : wp.cell? ⟨w8.heap.size, 1, none⟩ = some (.int .u64 hi) := by rw [← hwp]; exact alloc_cellN (j := 1) rfl
          have p2 : wp.cell? ⟨w8.heap.size, 2, none⟩ = some (.int .u64 lo) := by rw [← hwp]; exact alloc_cellN (j := 2) rfl
          have p3 : wp.cell? ⟨w8.heap.size, 3, none⟩ = some (.int .i64 pn) := by rw [← hwp]; exact alloc_cellN (j := 3) rfl
          have qx : wp.cell? (ad.add k) = some (.int .i64 x) := by rw [← hwp]; exact (World.cell?_alloc_lt _ _ _ hbk8).trans q8
          have hbk0 : (ad.add k).block < wp.heap.size := by rw [← hwp]; simp; omega
          have hz8 : w8.heap.size < wp.heap.size := by rw [← hwp]; simp
          have HBP : Hid (Below w.heap.size w wp) := by rw [← hwp]; exact HB8.out.alloc HB8.out.size _
          have HROWP : Hid (wp.ownsRow w.heap.size 97 7 u5 L.length (L.flatMap RuleV.cells)) := by rw [← hwp]; exact HROW8.out.alloc _
          rw [hwp]
          clear hwp
          go_quiet ((go_at_call 43; exact Calls.quiet_of_same (C20.out _)))
          obtain ⟨wv, hwv⟩ : ∃ wn : World, wp.drewN nq = wn := ⟨_, rfl⟩
          have v0 : wv.cell? ⟨w8.heap.size, 0, none⟩ = some (.bool false) := by rw [← hwv]; exact p0
          have v1 : wv.cell? ⟨w8.heap.size, 1, none⟩ = some (.int .u64 hi) := by rw [← hwv]; exact p1
          have v2 : wv.cell? ⟨w8.heap.size, 2, none⟩ = some (.int .u64 lo) := by rw [← hwv]; exact p2
          have v3 : wv.cell? ⟨w8.heap.size, 3, none⟩ = some (.int .i64 pn) := by rw [← hwv]; exact p3
          have vx : wv.cell? (ad.add k) = some (.int .i64 x) := by rw [← hwv]; exact qx
          have hbkv : (ad.add k).block < wv.heap.size := by rw [← hwv]; exact hbk0
          have hzv : w8.heap.size < wv.heap.size := by rw [← hwv]; exact hz8
          have HBV : Hid (Below w.heap.size w wv) := by rw [← hwv]; exact below_drewN HBP.out _
          have HROWV : Hid (wv.ownsRow w.heap.size 97 7 u5 L.length (L.flatMap RuleV.cells)) := by rw [← hwv]; exact own_below HROWP.out (below_drewN (Below.refl _ _) _)
          rw [hwv]
          clear hwv p0 p1 p2 p3 qx
          go_wp2_with fail
          refine wp_region_held_drew (S := (fun w' => (∀ b o, b < wv.heap.size → w'.cell? ⟨b, o, none⟩ = wv.cell? ⟨b, o, none⟩) ∧ wv.heap.size ≤ w'.heap.size ∧ Hid (Below wv.heap.size wv w') ∧ w'.cell? (ad.add k) = some (.int .i64 x))) (by kernel_rfl) ?_ (fun hHeld => ?_)
          · exact keepOfR hbkv vx (by (repeat' first | with_reducible exact Below.refl _ _ | with_reducible refine Below.drew ?_ | with_reducible refine below_drewN ?_ _ | with_reducible refine Below.setCell ?_ ?_ _ | with_reducible refine Below.alloc ?_ ?_ _ | (simp; done) | (simp; omega) | omega))
          refine wpAnyH_take (i := 0) (v := ?_) rfl (by kernel_rfl) (by kernel_rfl) (by kernel_rfl) (fun _ _ _ h => h) (Or.inl ⟨by rfl, ?_⟩) (by assumption) ?_
          rotate_left
          · (intro w hSw; (try dsimp only at hSw); go_simp <;> with_reducible rfl)
          (try simp only [Act.put, List.getElem_toArray, List.getElem_cons_zero, List.setIfInBounds_toArray, List.set_cons_zero, List.set_cons_succ])
          refine wpAnyH_take (i := 1) (v := ?_) rfl (by kernel_rfl) (by kernel_rfl) (by kernel_rfl) (fun _ _ _ h => h) (Or.inl ⟨by rfl, ?_⟩) (by assumption) ?_
          rotate_left
          · (intro w hSw; (try dsimp only at hSw); go_simp <;> with_reducible rfl)
          (try simp only [Act.put, List.getElem_toArray, List.getElem_cons_succ, List.getElem_cons_zero, List.setIfInBounds_toArray, List.set_cons_zero, List.set_cons_succ])
          refine wpAnyH_take (i := 2) (v := ?_) rfl (by kernel_rfl) (by kernel_rfl) (by kernel_rfl) (fun _ _ _ h => h) (Or.inl ⟨by rfl, ?_⟩) (by assumption) ?_
          rotate_left
          · (intro w hSw; (try dsimp only at hSw); go_simp <;> with_reducible rfl)
          (try simp only [Act.put, List.getElem_toArray, List.getElem_cons_succ, List.getElem_cons_zero, List.setIfInBounds_toArray, List.set_cons_zero, List.set_cons_succ])
          refine wpAnyH_take (i := 3) (v := ?_) rfl (by kernel_rfl) (by kernel_rfl) (by kernel_rfl) (fun _ _ _ h => h) (Or.inl ⟨by rfl, ?_⟩) (by assumption) ?_
          rotate_left
          · (intro w hSw; (try dsimp only at hSw); go_simp <;> with_reducible rfl)
          (try simp only [Act.put, List.getElem_toArray, List.getElem_cons_succ, List.getElem_cons_zero, List.setIfInBounds_toArray, List.set_cons_zero, List.set_cons_succ])
          refine wpAnyH_take (i := 4) (v := ?_) rfl (by kernel_rfl) (by kernel_rfl) (by kernel_rfl) (fun _ _ _ h => h) (Or.inl ⟨by rfl, ?_⟩) (by assumption) ?_
          rotate_left
          · (intro w hSw; (try dsimp only at hSw); go_simp <;> with_reducible rfl)
          (try simp only [Act.put, List.getElem_toArray, List.getElem_cons_succ, List.getElem_cons_zero, List.setIfInBounds_toArray, List.set_cons_zero, List.set_cons_succ])
          refine wpAnyH_call (i := 5) (v := .int .i64 b7) rfl (by kernel_rfl) (by kernel_rfl) (by kernel_rfl) (fun _ _ _ h => h) ⟨by rfl, fun W _ => ⟨43, #[.int .i64 (x.tdiv 7), .int .i64 2], ?_, C7.out W⟩⟩ (by assumption) ?_
          · first | rfl | kernel_rfl | (go_simp; done)
          (try simp only [Act.put, List.getElem_toArray, List.getElem_cons_succ, List.getElem_cons_zero, List.setIfInBounds_toArray, List.set_cons_zero, List.set_cons_succ])
          refine wpAnyH_take (i := 6) (v := ?_) rfl (by kernel_rfl) (by kernel_rfl) (by kernel_rfl) (fun _ _ _ h => h) (Or.inl ⟨by rfl, ?_⟩) (by assumption) ?_
          rotate_left
          · (intro w hSw; (try dsimp only at hSw); go_simp <;> with_reducible rfl)
          (try simp only [Act.put, List.getElem_toArray, List.getElem_cons_succ, List.getElem_cons_zero, List.setIfInBounds_toArray, List.set_cons_zero, List.set_cons_succ])
          refine wpAnyH_take (i := 7) (v := ?_) rfl (by kernel_rfl) (by kernel_rfl) (by kernel_rfl) (fun _ _ _ h => h) (Or.inl ⟨by rfl, ?_⟩) (by assumption) ?_
          rotate_left
          · (intro w hSw; (try dsimp only at hSw); go_simp <;> with_reducible rfl)
          (try simp only [Act.put, List.getElem_toArray, List.getElem_cons_succ, List.getElem_cons_zero, List.setIfInBounds_toArray, List.set_cons_zero, List.set_cons_succ])
          refine wpAnyH_take (i := 8) (v := ?_) rfl (by kernel_rfl) (by kernel_rfl) (by kernel_rfl) (fun _ _ _ h => h) (Or.inl ⟨by rfl, ?_⟩) (by assumption) ?_
          rotate_left
          · (intro w hSw; (try dsimp only at hSw); go_simp <;> with_reducible rfl)
          (try simp only [Act.put, List.getElem_toArray, List.getElem_cons_succ, List.getElem_cons_zero, List.setIfInBounds_toArray, List.set_cons_zero, List.set_cons_succ])
          refine wpAnyH_take (i := 9) (v := ?_) rfl (by kernel_rfl) (by kernel_rfl) (by kernel_rfl) (fun _ _ _ h => h) (Or.inl ⟨by rfl, ?_⟩) (by assumption) ?_
          rotate_left
          · (intro w hSw; (try dsimp only at hSw); go_simp <;> with_reducible rfl)
          (try simp only [Act.put, List.getElem_toArray, List.getElem_cons_succ, List.getElem_cons_zero, List.setIfInBounds_toArray, List.set_cons_zero, List.set_cons_succ])
          refine wpAnyH_take (i := 10) (v := ?_) rfl (by kernel_rfl) (by kernel_rfl) (by kernel_rfl) (fun _ _ _ h => h) (Or.inl ⟨by rfl, ?_⟩) (by assumption) ?_
          rotate_left
          · (intro w hSw; (try dsimp only at hSw); go_simp <;> with_reducible rfl)
          (try simp only [Act.put, List.getElem_toArray, List.getElem_cons_succ, List.getElem_cons_zero, List.setIfInBounds_toArray, List.set_cons_zero, List.set_cons_succ])
          refine wpAnyH_take (i := 11) (v := ?_) rfl (by kernel_rfl) (by kernel_rfl) (by kernel_rfl) (fun _ _ _ h => h) (Or.inl ⟨by rfl, ?_⟩) (by assumption) ?_
          rotate_left
          · (intro w hSw; (try dsimp only at hSw); go_simp <;> with_reducible rfl)
          (try simp only [Act.put, List.getElem_toArray, List.getElem_cons_succ, List.getElem_cons_zero, List.setIfInBounds_toArray, List.set_cons_zero, List.set_cons_succ])
          refine wpAnyH_take (i := 12) (v := ?_) rfl (by kernel_rfl) (by kernel_rfl) (by kernel_rfl) (fun _ _ _ h => h) (Or.inl ⟨by rfl, ?_⟩) (by assumption) ?_
          rotate_left
          · (intro w hSw; (try dsimp only at hSw); go_simp <;> with_reducible rfl)
          (try simp only [Act.put, List.getElem_toArray, List.getElem_cons_succ, List.getElem_cons_zero, List.setIfInBounds_toArray, List.set_cons_zero, List.set_cons_succ])
          refine wpAnyH_take (i := 13) (v := ?_) rfl (by kernel_rfl) (by kernel_rfl) (by kernel_rfl) (fun _ _ _ h => h) (Or.inl ⟨by rfl, ?_⟩) (by assumption) ?_
          rotate_left
          · (intro w hSw; (try dsimp only at hSw); go_simp <;> with_reducible rfl)
          (try simp only [Act.put, List.getElem_toArray, List.getElem_cons_succ, List.getElem_cons_zero, List.setIfInBounds_toArray, List.set_cons_zero, List.set_cons_succ])
          refine wpAnyH_take (i := 14) (v := ?_) rfl (by kernel_rfl) (by kernel_rfl) (by kernel_rfl) (fun _ _ _ h => h) (Or.inl ⟨by rfl, ?_⟩) (by assumption) ?_
          rotate_left
          · (intro w hSw; (try dsimp only at hSw); go_simp <;> with_reducible rfl)
          (try simp only [Act.put, List.getElem_toArray, List.getElem_cons_succ, List.getElem_cons_zero, List.setIfInBounds_toArray, List.set_cons_zero, List.set_cons_succ])
          refine wpAnyH_take (i := 15) (v := ?_) rfl (by kernel_rfl) (by kernel_rfl) (by kernel_rfl) (fun _ _ _ h => h) (Or.inl ⟨by rfl, ?_⟩) (by assumption) ?_
          rotate_left
          · (intro w hSw; (try dsimp only at hSw); go_simp <;> with_reducible rfl)
          (try simp only [Act.put, List.getElem_toArray, List.getElem_cons_succ, List.getElem_cons_zero, List.setIfInBounds_toArray, List.set_cons_zero, List.set_cons_succ])
          refine wpAnyH_take (i := 16) (v := ?_) rfl (by kernel_rfl) (by kernel_rfl) (by kernel_rfl) (fun _ _ _ h => h) (Or.inl ⟨by rfl, ?_⟩) (by assumption) ?_
          rotate_left
          · (intro w hSw; (try dsimp only at hSw); go_simp <;> with_reducible rfl)
          (try simp only [Act.put, List.getElem_toArray, List.getElem_cons_succ, List.getElem_cons_zero, List.setIfInBounds_toArray, List.set_cons_zero, List.set_cons_succ])
          refine wpAnyH_call (i := 17) (v := .int .i64 b70) rfl (by kernel_rfl) (by kernel_rfl) (by kernel_rfl) (fun _ _ _ h => h) ⟨by rfl, fun W _ => ⟨43, #[.int .i64 (x.tdiv 70000), .int .i64 (33 - least)], ?_, C70.out W⟩⟩ (by assumption) ?_
          · first | rfl | kernel_rfl | (go_simp; done)
          (try simp only [Act.put, List.getElem_toArray, List.getElem_cons_succ, List.getElem_cons_zero, List.setIfInBounds_toArray, List.set_cons_zero, List.set_cons_succ])
          refine wpAnyH_take (i := 18) (v := ?_) rfl (by kernel_rfl) (by kernel_rfl) (by kernel_rfl) (fun _ _ _ h => h) (Or.inl ⟨by rfl, ?_⟩) (by assumption) ?_
          rotate_left
          · (intro w hSw; (try dsimp only at hSw); go_simp <;> with_reducible rfl)
          (try simp only [Act.put, List.getElem_toArray, List.getElem_cons_succ, List.getElem_cons_zero, List.setIfInBounds_toArray, List.set_cons_zero, List.set_cons_succ])
          refine wpAnyH_take (i := 19) (v := ?_) rfl (by kernel_rfl) (by kernel_rfl) (by kernel_rfl) (fun _ _ _ h => h) (Or.inl ⟨by rfl, ?_⟩) (by assumption) ?_
          rotate_left
          · (intro w hSw; (try dsimp only at hSw); go_simp <;> with_reducible rfl)
          (try simp only [Act.put, List.getElem_toArray, List.getElem_cons_succ, List.getElem_cons_zero, List.setIfInBounds_toArray, List.set_cons_zero, List.set_cons_succ])
          refine wpAnyH_ready (rs := [20]) (by kernel_rfl) (by simp) ?_
          refine AllReadyH.cons rfl (fun K hK => ?_) AllReadyH.nil
          go_simp
          (try simp only [Act.put, List.getElem_toArray, List.getElem_cons_succ, List.getElem_cons_zero, List.setIfInBounds_toArray, List.set_cons_zero, List.set_cons_succ])
          first
            | refine hK.out _ _ ?_ (fun hHeld => ?_)
            | (go_wp2_with fail; refine hK.out _ _ ?_ (fun hHeld => ?_))
          · exact keepOfR hbkv vx (by (repeat' first | with_reducible exact Below.refl _ _ | with_reducible refine Below.drew ?_ | with_reducible refine below_drewN ?_ _ | with_reducible refine Below.setCell ?_ ?_ _ | with_reducible refine Below.alloc ?_ ?_ _ | (simp; done) | (simp; omega) | omega))
          clear hK K
          (try simp only [Act.put, List.getElem_toArray, List.getElem_cons_succ, List.getElem_cons_zero, List.setIfInBounds_toArray, List.set_cons_zero, List.set_cons_succ])
          refine wpAnyH_ready (rs := [21]) (by kernel_rfl) (by simp) ?_
          refine AllReadyH.cons rfl (fun K hK => ?_) AllReadyH.nil
          go_simp
          (try simp only [Act.put, List.getElem_toArray, List.getElem_cons_succ, List.getElem_cons_zero, List.setIfInBounds_toArray, List.set_cons_zero, List.set_cons_succ])
          first
            | refine hK.out _ _ ?_ (fun hHeld => ?_)
            | (go_wp2_with fail; refine hK.out _ _ ?_ (fun hHeld => ?_))
          · exact keepOfR hbkv vx (by (repeat' first | with_reducible exact Below.refl _ _ | with_reducible refine Below.drew ?_ | with_reducible refine below_drewN ?_ _ | with_reducible refine Below.setCell ?_ ?_ _ | with_reducible refine Below.alloc ?_ ?_ _ | (simp; done) | (simp; omega) | omega))
          clear hK K
          (try simp only [Act.put, List.getElem_toArray, List.getElem_cons_succ, List.getElem_cons_zero, List.setIfInBounds_toArray, List.set_cons_zero, List.set_cons_succ])
          refine wpAnyH_done (by kernel_rfl) ?_ _
          obtain ⟨wf, hS, hwf⟩ : ∃ wf : World, ((∀ b o, b < wv.heap.size → wf.cell? ⟨b, o, none⟩ = wv.cell? ⟨b, o, none⟩) ∧ wv.heap.size ≤ wf.heap.size ∧ Hid (Below wv.heap.size wv wf) ∧ wf.cell? (ad.add k) = some (.int .i64 x)) ∧ wf = _ := ⟨_, hHeld, rfl⟩
          have z0 : wf.cell? ⟨wv.heap.size, 0, none⟩ = some (.bool (b7 == 0)) := by rw [hwf]; go_simp
          have z1 : wf.cell? ⟨wv.heap.size, 1, none⟩ = some (.bool false) := by rw [hwf]; go_simp
          have z2 : wf.cell? ⟨wv.heap.size, 2, none⟩ = some (.int .u64 hi) := by rw [hwf]; go_simp
          have z3 : wf.cell? ⟨wv.heap.size, 3, none⟩ = some (.int .u64 lo) := by rw [hwf]; go_simp
          have z4 : wf.cell? ⟨wv.heap.size, 4, none⟩ = some (.int .i64 pn) := by rw [hwf]; go_simp
          have z5 : wf.cell? ⟨wv.heap.size, 5, none⟩ = some (.int .i64 least) := by rw [hwf]; go_simp
          have z6 : wf.cell? ⟨wv.heap.size, 6, none⟩ = some (.int .i64 (least + b70)) := by rw [hwf]; go_simp
          rw [← hwf]
          clear hwf
          have HSB : Hid (Below wv.heap.size wv wf) := hS.2.2.1
          have HROWF : Hid (wf.ownsRow w.heap.size 97 7 u5 L.length (L.flatMap RuleV.cells)) := own_below HROWV.out HSB.out
          have HBF : Hid (Below w.heap.size w wf) := below_step HBV.out HSB.out
          have hsF : w.heap.size ≤ wf.heap.size := HBF.out.size
          have HSU : Hid ((l.take (k + 1)).map ruleK = L ++ [(⟨decide (b7 = 0), false, hi, lo, pn, least, least + b70⟩ : RuleV)]) := by
            show _ = _
            rw [HTK.out, List.map_append, List.map_cons, List.map_nil, HRK.out, HL.out]
          go_wp2_with (at_builtin; go_loud (refine wpList_append_oneN (us := [.bool (b7 == 0), .bool false, .int .u64 hi, .int .u64 lo, .int .i64 pn, .int .i64 least, .int .i64 (least + b70)]) rfl _ _ 30 rfl w.heap.size _ 7 56 Try.underlying30 infoRuleK rfl (by decide) _ _ _ rfl rfl rfl HROWF.out hsF rfl (by intro u hu; simp at hu; rcases hu with rfl | rfl | rfl | rfl | rfl | rfl | rfl <;> rfl) (by unfold maxLen; omega) (by omega) ?_))
          intro v9 w9 hown9 hb9 hs9 hk9
          have HO9 : Hid (w9.ownsRow w.heap.size 97 7 v9 ((l.take (k + 1)).map ruleK).length (((l.take (k + 1)).map ruleK).flatMap RuleV.cells)) := by
            show World.ownsRow _ _ _ _ _ _ _
            rw [HSU.out, List.length_append, List.flatMap_append]
            exact hown9
          have HB9 : Hid (Below w.heap.size w w9) := HBF.out.trans (hb9.mono (by omega))
          clear hown9 hb9 hk9
          go_wp2
          go_roundw
          case rel => exact ⟨k + 1, by omega, by omega, by go_num, HO9, HB9⟩
          case measure => simp [intOf]; omega
      · have hkK2 : k = K := by omega
        have HE : Hid ((l.take K).map ruleK = L) := by show _ = _; rw [← HL.out, hkK2]
        clear hkK2
        go_wp2
        (try go_ret)
        exact ⟨_, rfl, by rw [HE.out]; exact HROW.out, HB.out⟩
    · have hkn : k = n := by omega
      have HE : Hid ((l.take K).map ruleK = L) := by
        show _ = _
        rw [← HL.out, List.take_of_length_le (by have := HZ.out; omega), List.take_of_length_le (by have := HZ.out; omega)]
      clear hkn
      go_wp2
      (try go_ret)
      exact ⟨_, rfl, by rw [HE.out]; exact HROW.out, HB.out⟩

end Go.Proofs.Ytmljdjakbbedlaa

namespace Go.Proofs.Ytmljdjakbbedlaa
open Go.ChangeShapes Go.WideShapes Go.ChangeAt Go.RowKit

theorem infoRoute : (Try.prog.info? 48).map (fun i => (i.zero, i.size, i.bytes)) = some (some (.agg #[.bool false, .int .u64 0, .int .u64 0, .int .i64 0, .int .i64 0]), 5, 40) := by kernel_rfl
theorem own_sliceF {w : World} {base : Nat} {e : TypeId} {size n : Nat} {v : Value} {xs : List Value} (h : w.ownsRow base e size v n xs) : ∃ A c, v = .slice A n c := by
  rcases h.2 with ⟨rfl, rfl⟩ | ⟨g, cap, cur, rfl, _⟩
  · exact ⟨none, 0, rfl⟩
  · exact ⟨_, cap, rfl⟩
/-- The routes that rules let through. -/
def passR (l : List RuleV) (t : List RouteV) : List RouteV := t.filter fun r => firstYes (fun q => q.fits r.p.six r.p.hi r.p.lo r.p.n) l
theorem passR_snoc (l : List RuleV) (t : List RouteV) (r : RouteV) : passR l (t ++ [r]) = passR l t ++ if firstYes (fun q => q.fits r.p.six r.p.hi r.p.lo r.p.n) l = true then [r] else [] := by
  unfold passR
  rw [List.filter_append]
  congr 1
  by_cases h : firstYes (fun q => q.fits r.p.six r.p.hi r.p.lo r.p.n) l = true
  · rw [if_pos h, List.filter_cons_of_pos (by simpa using h)]; rfl
  · rw [if_neg h, List.filter_cons_of_neg (by simpa using h)]; rfl
theorem passR_le (l : List RuleV) (t : List RouteV) : (passR l t).length ≤ t.length := List.length_filter_le _ _
def filterF (l : List RuleV) (t : List RouteV) : Int := if ¬ rulesF l = 0 then rulesF l else routesF t
def filterR (l : List RuleV) (t : List RouteV) : List RouteV := if filterF l t = 0 then passR l t else []
def RetRoutes (w : World) (l : List RouteV) (E : Int) (e : Ending) (w' : World) : Prop :=
  ∃ v, e = .returned (.tuple #[v, .int .i64 E]) ∧ w'.ownsRow w.heap.size 48 5 v l.length (l.flatMap RouteV.cells) ∧ Below w.heap.size w w'

set_option maxRecDepth 100000 in
set_option maxHeartbeats 3200000 in
theorem filter_ok (A : Option Addr) (n c : Nat) (l : List RuleV) (A2 : Option Addr) (n2 c2 : Nat) (t : List RouteV) (w : World) (h : IsRules w A n l) (ht : IsRoutes w A2 n2 c2 t) (hz : rulesF l = 0) (hz2 : routesF t = 0) :
    Calls Try.prog 16 #[.slice A n c, .slice A2 n2 c2] w (RetRoutes w (passR l t) 0) := by
  have C1 := Lib.hid (fun (w' : World) (hb : Below w.heap.size w w') => rulesCheck_is (h.below hb) c)
  have C2 := Lib.hid (fun (w' : World) (hb : Below w.heap.size w w') => tableCheck_is (ht.below hb))
  rw [hz] at C1
  rw [hz2] at C2
  have hv := valid_of ht.2.2.1 hz2
  have HV := Lib.hid hv.1
  have hn60 : n2 ≤ 60 := by rw [← ht.1]; exact hv.2
  have HZ := Lib.hid ht.1
  have HR := Lib.hid ht.2.2.2
  have HM : Hid (∀ r ∈ l, r.Mid) := fun r hr => fault_mid (h.2.2.1 r hr) (rulesF_all hz r hr)
  have HRU := Lib.hid h
  have HRZ := Lib.hid hz
  have HC : Hid (∀ (r : RouteV) (w' : World), r ∈ t → Below w.heap.size w w' → Calls Try.prog 49 #[.slice A n c, .agg #[.bool r.p.six, .int .u64 r.p.hi, .int .u64 r.p.lo, .int .i64 r.p.n]] w' fun e w'' => e = .returned (.tuple #[.bool (firstYes (fun q => RuleV.fits q r.p.six r.p.hi r.p.lo r.p.n) l), .int .i64 (firstAt (fun q => RuleV.fits q r.p.six r.p.hi r.p.lo r.p.n) l)]) ∧ Below w'.heap.size w' w'') := by
    intro r w' hr hb
    have hp := (HV.out.1 r hr).1
    exact pass_any A n c l r.p.six r.p.hi r.p.lo r.p.n w' (Pfx.rhi hp) (Pfx.rlo hp) (fun hs => by have := Pfx.may hp; rw [hs] at this; exact (mayB_four this).2) (HRU.out.below hb) HM.out
  have hcb := ht.2.1
  unfold maxLen at hcb
  clear h ht hz hz2 hv
  unfold RetRoutes
  go_enter Try.func16, Try.ntmps16
  go_wp2_with fail
  refine (C1.out _ (Below.refl _ _)).mono ?_
  rintro e w1 ⟨rfl, hb1⟩
  go_wp2_with fail
  refine (C2.out _ hb1).mono ?_
  rintro e w2 ⟨rfl, hb2⟩
  have HB0 := Lib.hid (below_step hb1 hb2)
  clear hb1 hb2
  go_wp2
  go_loopw [8, 25, 10, 11, 12] (fun v i _ _ _ wr => ∃ k : Nat, k ≤ n2 ∧ i = .int .i64 k ∧ wr.ownsRow w.heap.size 48 5 v (passR l (t.take k)).length ((passR l (t.take k)).flatMap RouteV.cells) ∧ Below w.heap.size w wr) (fun _ i _ _ _ _ => n2 - (intOf i).toNat)
  case atStart => exact ⟨0, by omega, rfl, World.ownsRow_nil _ _ _ _, HB0.out⟩
  case round =>
    obtain ⟨k, hk, rfl, hown, hb⟩ := hrel
    have HOW := Lib.hid hown
    clear hown
    by_cases hlt : k < n2
    · obtain ⟨ad, ⟨⟨rsix, rhi, rlo, pn⟩, hop⟩, rfl, hlk, htk, hmem, hbk, hc0, hcj⟩ := HR.out.atS RouteV.cells_length HZ.out hlt
      have q0 := (hb.cell (p := ad.add (k * 5)) (by rw [block_of_add]; exact hbk)).trans (hc0 _ rfl)
      have q1 := (hb.cell (p := ⟨(ad.add (k * 5)).block, (ad.add (k * 5)).off + 1, none⟩) (by rw [block_of_add]; exact hbk)).trans (hcj 1 _ rfl)
      have q2 := (hb.cell (p := ⟨(ad.add (k * 5)).block, (ad.add (k * 5)).off + 2, none⟩) (by rw [block_of_add]; exact hbk)).trans (hcj 2 _ rfl)
      have q3 := (hb.cell (p := ⟨(ad.add (k * 5)).block, (ad.add (k * 5)).off + 3, none⟩) (by rw [block_of_add]; exact hbk)).trans (hcj 3 _ rfl)
      have q4 := (hb.cell (p := ⟨(ad.add (k * 5)).block, (ad.add (k * 5)).off + 4, none⟩) (by rw [block_of_add]; exact hbk)).trans (hcj 4 _ rfl)
      have CP := Lib.hid (fun w' hb => HC.out _ w' hmem hb)
      have hle := passR_le l (t.take k)
      have hle2 : (t.take k).length ≤ k := by rw [List.length_take]; omega
      have HT : Hid (passR l (t.take (k + 1)) = passR l (t.take k) ++ if firstYes (fun q => q.fits rsix rhi rlo pn) l = true then [⟨⟨rsix, rhi, rlo, pn⟩, hop⟩] else []) := by show _ = _; rw [htk, passR_snoc]
      simp only at CP
      have HBO := Lib.hid hb
      have hszb := hb.size
      generalize firstYes (fun q => RuleV.fits q rsix rhi rlo pn) l = yv at *
      generalize firstAt (fun q => RuleV.fits q rsix rhi rlo pn) l = iv at *
      clear hlk htk hmem hbk hc0 hcj hb
      generalize passR l (t.take k) = done at *
      cases yv with
      | false =>
        have HT2 : Hid (passR l (t.take (k + 1)) = done) := by show _ = _; rw [HT.out, if_neg (by simp), List.append_nil]
        clear HT
        go_wp2_with fail
        refine (CP.out _ (HBO.out.alloc HBO.out.size _)).mono ?_
        rintro e w3 ⟨rfl, hb3⟩
        have HB3 : Hid (Below wr.heap.size wr w3) := balloc1 hb3
        clear hb3
        go_wp2
        go_roundw
        case rel => exact ⟨k + 1, by omega, by go_num, by rw [HT2.out]; exact own_below HOW.out HB3.out, below_step HBO.out HB3.out⟩
        case measure => simp [intOf]; omega
      | true =>
        have HT2 : Hid (passR l (t.take (k + 1)) = done ++ [⟨⟨rsix, rhi, rlo, pn⟩, hop⟩]) := by show _ = _; rw [HT.out, if_pos rfl]
        clear HT
        go_wp2_with fail
        refine (CP.out _ (HBO.out.alloc HBO.out.size _)).mono ?_
        rintro e w3 ⟨rfl, hb3⟩
        obtain ⟨fc, ff⟩ := bcell hb3
        have hs3 := hb3.size
        simp at hs3
        have HB3 : Hid (Below wr.heap.size wr w3) := balloc1 hb3
        have l3 : wr.heap.size < w3.heap.size := by omega
        have HOW3 := Lib.hid (own_below HOW.out HB3.out)
        have HB4 := Lib.hid (below_step HBO.out HB3.out)
        clear hb3
        go_wp2_with (at_builtin; go_loud (refine wpList_append_oneN rfl _ _ 26 rfl w.heap.size (.agg #[.bool false, .int .u64 0, .int .u64 0, .int .i64 0, .int .i64 0]) 5 40 Try.underlying26 infoRoute rfl (by decide) _ _ _ rfl rfl ?c0 HOW3.out ?c1 rfl ?c2 ?c3 ?c4 ?_))
        case c0 => (try simp); done
        case c1 => have := HB4.out.size; omega
        case c2 => intro u hu; simp at hu; rcases hu with rfl | rfl | rfl | rfl | rfl <;> rfl
        case c3 => unfold maxLen; omega
        case c4 => omega
        intro v' w' hown' hb' hs' _
        have HOW4 : Hid (w'.ownsRow w.heap.size 48 5 v' (passR l (t.take (k + 1))).length ((passR l (t.take (k + 1))).flatMap RouteV.cells)) := by
          show World.ownsRow _ _ _ _ _ _ _
          rw [HT2.out, List.length_append, List.flatMap_append]
          exact hown'
        have HB5 := Lib.hid (HB4.out.trans hb')
        clear hown' hb'
        go_wp2
        go_roundw
        case rel => exact ⟨k + 1, by omega, by go_num, HOW4.out, HB5.out⟩
        case measure => simp [intOf]; omega
    · obtain rfl : k = n2 := by omega
      have HOW2 := HOW.out
      rw [List.take_of_length_le (by rw [HZ.out]; omega)] at HOW2
      go_wp2
      go_ret2
      exact ⟨_, rfl, HOW2, hb⟩

set_option maxRecDepth 100000 in
set_option maxHeartbeats 800000 in
theorem filter_bad1 (A : Option Addr) (n c : Nat) (l : List RuleV) (A2 : Option Addr) (n2 c2 : Nat) (w : World) (h : IsRules w A n l) (hz : ¬ rulesF l = 0) :
    Calls Try.prog 16 #[.slice A n c, .slice A2 n2 c2] w (RetRoutes w [] (rulesF l)) := by
  have C1 := Lib.hid (rulesCheck_is h c)
  obtain ⟨E, hE⟩ : ∃ E, rulesF l = E := ⟨_, rfl⟩
  rw [hE] at hz C1 ⊢
  have hzb : (E != 0) = true := by simpa using hz
  clear h hz hE
  unfold RetRoutes
  go_enter Try.func16, Try.ntmps16
  go_wp2_with fail
  refine C1.out.mono ?_
  rintro e w1 ⟨rfl, hb1⟩
  go_wp2
  go_ret2
  exact ⟨_, rfl, World.ownsRow_nil _ _ _ _, hb1⟩

set_option maxRecDepth 100000 in
set_option maxHeartbeats 800000 in
theorem filter_bad2 (A : Option Addr) (n c : Nat) (l : List RuleV) (A2 : Option Addr) (n2 c2 : Nat) (t : List RouteV) (w : World) (h : IsRules w A n l) (ht : IsRoutes w A2 n2 c2 t) (hz : rulesF l = 0) (hz2 : ¬ routesF t = 0) :
    Calls Try.prog 16 #[.slice A n c, .slice A2 n2 c2] w (RetRoutes w [] (routesF t)) := by
  have C1 := Lib.hid (rulesCheck_is h c)
  have C2 := Lib.hid (fun (w' : World) (hb : Below w.heap.size w w') => tableCheck_is (ht.below hb))
  rw [hz] at C1
  obtain ⟨E, hE⟩ : ∃ E, routesF t = E := ⟨_, rfl⟩
  rw [hE] at hz2 C2 ⊢
  have hzb : (E != 0) = true := by simpa using hz2
  clear h ht hz hz2 hE
  unfold RetRoutes
  go_enter Try.func16, Try.ntmps16
  go_wp2_with fail
  refine C1.out.mono ?_
  rintro e w1 ⟨rfl, hb1⟩
  have HB1 := Lib.hid hb1
  clear hb1
  go_wp2_with fail
  refine (C2.out _ HB1.out).mono ?_
  rintro e w2 ⟨rfl, hb2⟩
  have HB2 := Lib.hid (below_step HB1.out hb2)
  clear hb2
  go_wp2
  go_ret2
  exact ⟨_, rfl, World.ownsRow_nil _ _ _ _, HB2.out⟩

theorem filter_is (A : Option Addr) (n c : Nat) (l : List RuleV) (A2 : Option Addr) (n2 c2 : Nat) (t : List RouteV) (w : World) (h : IsRules w A n l) (ht : IsRoutes w A2 n2 c2 t) :
    Calls Try.prog 16 #[.slice A n c, .slice A2 n2 c2] w (RetRoutes w (filterR l t) (filterF l t)) := by
  by_cases hz : rulesF l = 0
  · have hf : filterF l t = routesF t := by unfold filterF; rw [if_neg (by simp [hz])]
    by_cases hz2 : routesF t = 0
    · have hr : filterR l t = passR l t := by unfold filterR; rw [if_pos (by rw [hf, hz2])]
      rw [hr, hf, hz2]
      exact filter_ok A n c l A2 n2 c2 t w h ht hz hz2
    · have hr : filterR l t = [] := by unfold filterR; rw [if_neg (by rw [hf]; exact hz2)]
      rw [hr, hf]
      exact filter_bad2 A n c l A2 n2 c2 t w h ht hz hz2
  · have hf : filterF l t = rulesF l := by unfold filterF; rw [if_pos hz]
    have hr : filterR l t = [] := by unfold filterR; rw [if_neg (by rw [hf]; exact hz)]
    rw [hr, hf]
    exact filter_bad1 A n c l A2 n2 c2 w h hz

end Go.Proofs.Ytmljdjakbbedlaa

namespace Go.Proofs.Ytmljdjakbbedlaa
open Go.ChangeShapes Go.WideShapes Go.ChangeAt Go.RowKit

def hasPB (six : Bool) (hi lo n : Int) (six' : Bool) (hi' lo' : Int) : Bool :=
  if ¬ chk six hi lo n = 0 then false else if mayB six' hi' lo' = false then false else if ¬ six = six' then false else inB six hi lo n six' hi' lo'
def hasE (six : Bool) (hi lo n : Int) (six' : Bool) (hi' lo' : Int) : Int :=
  if ¬ chk six hi lo n = 0 then chk six hi lo n else if mayB six' hi' lo' = false then 4 else if ¬ six = six' then 6 else 0

set_option maxHeartbeats 1600000 in
theorem has_any (six : Bool) (hi lo n : Int) (six' : Bool) (hi' lo' : Int) (w : World) (h1 : 0 ≤ hi ∧ hi < 18446744073709551616) (h2 : 0 ≤ lo ∧ lo < 18446744073709551616) (h3 : 0 ≤ hi' ∧ hi' < 18446744073709551616) (h4 : 0 ≤ lo' ∧ lo' < 18446744073709551616) :
    Calls Try.prog 19 #[.agg #[.bool six, .int .u64 hi, .int .u64 lo, .int .i64 n], .agg #[.bool six', .int .u64 hi', .int .u64 lo']] w fun e w' => e = .returned (.tuple #[.bool (hasPB six hi lo n six' hi' lo'), .int .i64 (hasE six hi lo n six' hi' lo')]) ∧ Below w.heap.size w w' := by
  have c := fun w => check_any six hi lo n w h1 h2
  by_cases hz : chk six hi lo n = 0
  · have hp := chk_zero h1 h2 hz
    have c' := c
    rw [hz] at c'
    have CC := Lib.hid c'
    clear c c'
    by_cases hm : mayB six' hi' lo' = false
    · have eB : hasPB six hi lo n six' hi' lo' = false ∧ hasE six hi lo n six' hi' lo' = 4 := by simp [hasPB, hasE, hz, hm]
      rw [eB.1, eB.2]
      clear hp hz eB
      go_enter Try.func19, Try.ntmps19
      go_wp2_with fail
      refine (CC.out _).mono ?_
      rintro e w1 ⟨rfl, hb⟩
      obtain ⟨b0, b1, c0, c1, c2, c3, d0, d1, d2⟩ := Box43.step (box43_start w _ _ _ _ _ _ _ _ _) hb
      clear hb
      go_wp2_with fail
      refine (may_any _ hi' lo' _ h4.1).mono ?_
      rintro e w2 ⟨rfl, hb⟩
      have bx := Box43.step ⟨b0, b1, c0, c1, c2, c3, d0, d1, d2⟩ hb
      clear b0 b1 c0 c1 c2 c3 d0 d1 d2 hb
      obtain ⟨b0, b1, c0, c1, c2, c3, d0, d1, d2⟩ := bx
      go_wp2
      go_ret2
      exact ⟨rfl, b0⟩
    · have hm' : mayB six' hi' lo' = true := by simpa using hm
      clear hm
      by_cases hs : six = six'
      · subst hs
        have eB : hasPB six hi lo n six hi' lo' = inB six hi lo n six hi' lo' ∧ hasE six hi lo n six hi' lo' = 0 := by simp [hasPB, hasE, hz, hm']
        rw [eB.1, eB.2]
        clear hz eB
        obtain ⟨k, rfl⟩ := Int.eq_ofNat_of_zero_le hp.len.1
        have hkl := hp.len
        have hwl := wideI_le six
        have HP := Lib.hid hp
        have HM := Lib.hid hm'
        clear hp
        go_enter Try.func19, Try.ntmps19
        go_wp2_with fail
        refine (CC.out _).mono ?_
        rintro e w1 ⟨rfl, hb⟩
        obtain ⟨b0, b1, c0, c1, c2, c3, d0, d1, d2⟩ := Box43.step (box43_start w _ _ _ _ _ _ _ _ _) hb
        clear hb
        go_wp2_with fail
        refine (may_any _ hi' lo' _ h4.1).mono ?_
        rintro e w2 ⟨rfl, hb⟩
        have bx := Box43.step ⟨b0, b1, c0, c1, c2, c3, d0, d1, d2⟩ hb
        clear b0 b1 c0 c1 c2 c3 d0 d1 d2 hb
        obtain ⟨b0, b1, c0, c1, c2, c3, d0, d1, d2⟩ := bx
        go_wp2_with fail
        refine (in_any six hi lo k six hi' lo' _ h3 h4 (fun h => by subst h; exact (mayB_four HM.out).2) (by omega) (by omega)).mono ?_
        rintro e w3 ⟨rfl, hb⟩
        go_wp2
        go_ret2
        exact ⟨rfl, below_step b0 hb⟩
      · have eB : hasPB six hi lo n six' hi' lo' = false ∧ hasE six hi lo n six' hi' lo' = 6 := by simp [hasPB, hasE, hz, hm', hs]
        rw [eB.1, eB.2]
        clear hz eB
        obtain rfl := ne_bool hs
        clear hp hs
        cases six
        · replace hm' : mayB true hi' lo' = true := hm'
          go_enter Try.func19, Try.ntmps19
          go_wp2_with fail
          refine (CC.out _).mono ?_
          rintro e w1 ⟨rfl, hb⟩
          obtain ⟨b0, b1, c0, c1, c2, c3, d0, d1, d2⟩ := Box43.step (box43_start w _ _ _ _ _ _ _ _ _) hb
          clear hb
          go_wp2_with fail
          refine (may_any _ hi' lo' _ h4.1).mono ?_
          rintro e w2 ⟨rfl, hb⟩
          have bx := Box43.step ⟨b0, b1, c0, c1, c2, c3, d0, d1, d2⟩ hb
          clear b0 b1 c0 c1 c2 c3 d0 d1 d2 hb
          obtain ⟨b0, b1, c0, c1, c2, c3, d0, d1, d2⟩ := bx
          go_wp2
          go_ret2
          exact ⟨rfl, b0⟩
        · replace hm' : mayB false hi' lo' = true := hm'
          go_enter Try.func19, Try.ntmps19
          go_wp2_with fail
          refine (CC.out _).mono ?_
          rintro e w1 ⟨rfl, hb⟩
          obtain ⟨b0, b1, c0, c1, c2, c3, d0, d1, d2⟩ := Box43.step (box43_start w _ _ _ _ _ _ _ _ _) hb
          clear hb
          go_wp2_with fail
          refine (may_any _ hi' lo' _ h4.1).mono ?_
          rintro e w2 ⟨rfl, hb⟩
          have bx := Box43.step ⟨b0, b1, c0, c1, c2, c3, d0, d1, d2⟩ hb
          clear b0 b1 c0 c1 c2 c3 d0 d1 d2 hb
          obtain ⟨b0, b1, c0, c1, c2, c3, d0, d1, d2⟩ := bx
          go_wp2
          go_ret2
          exact ⟨rfl, b0⟩
  · have eB : hasPB six hi lo n six' hi' lo' = false ∧ hasE six hi lo n six' hi' lo' = chk six hi lo n := by simp [hasPB, hasE, hz]
    rw [eB.1, eB.2]
    clear eB
    generalize chk six hi lo n = k at *
    have CC := Lib.hid c
    have hb1 : (k == 0) = false := by simpa using hz
    have hb2 : (k != 0) = true := by simpa using hz
    clear c
    go_enter Try.func19, Try.ntmps19
    go_wp2_with fail
    refine (CC.out _).mono ?_
    rintro e w1 ⟨rfl, hb⟩
    obtain ⟨b0, b1, c0, c1, c2, c3, d0, d1, d2⟩ := Box43.step (box43_start w _ _ _ _ _ _ _ _ _) hb
    clear hb
    go_wp2
    go_ret2
    exact ⟨rfl, b0⟩

end Go.Proofs.Ytmljdjakbbedlaa

namespace Go.Proofs.Ytmljdjakbbedlaa

theorem firstF_all0 {α : Type} {f : α → Int} : ∀ {l : List α}, (∀ x ∈ l, f x = 0) → firstF f l = 0
  | [], _ => rfl
  | x :: l, h => by
    unfold firstF
    rw [if_pos (h x (by simp))]
    exact firstF_all0 fun y hy => h y (by simp [hy])
theorem valid_fine {l : List RouteV} (h : Valid l) (hl : l.length ≤ 60) : routesF l = 0 := by
  unfold routesF
  rw [if_neg (by omega)]
  unfold routesE
  refine firstF_all0 fun i hi => ?_
  have hi := List.mem_range.1 hi
  unfold routeAt
  rw [List.getElem?_eq_getElem hi]
  simp only
  obtain ⟨h1, h2, h3⟩ := h.1 _ (List.getElem_mem hi)
  unfold routeF
  rw [if_neg (by simpa [PV.chk] using chk_of h1), if_neg (by omega), if_neg]
  intro hc
  obtain ⟨r, hr, he⟩ := List.any_eq_true.1 hc
  have he : r.p = l[i].p := by simpa using he
  obtain ⟨j, hj, rfl⟩ := List.getElem_of_mem hr
  rw [List.length_take] at hj
  rw [List.getElem_take] at he
  have hj2 : (l.map RouteV.p)[j]'(by rw [List.length_map]; omega) = (l.map RouteV.p)[i]'(by rw [List.length_map]; omega) := by simpa using he
  have := (List.getElem_inj h.2).1 hj2
  omega
theorem good_E {o : OffV} (g : o.Good) : o.E = 0 := by
  obtain ⟨h, h1, h2, h3, h4⟩ := g
  unfold OffV.E offE
  rw [if_neg (by simpa using chk_of h), if_neg (by omega), if_neg (by omega)]
theorem goods_fine {l : List OffV} (hg : ∀ o ∈ l, o.Good) (hl : l.length ≤ 60) : offsF l = 0 := by
  unfold offsF
  rw [if_neg (by omega)]
  exact offsTo_zero.2 fun o ho => good_E (hg o ho)
theorem sub_len : ∀ {m l : List OffV}, m.Nodup → (∀ x ∈ m, x ∈ l) → m.length ≤ l.length
  | [], _, _, _ => Nat.zero_le _
  | x :: m, l, hn, hs => by
    have hx := hs x (by simp)
    rw [List.nodup_cons] at hn
    have := sub_len (l := l.erase x) hn.2 fun y hy => (List.mem_erase_of_ne (fun h => hn.1 (by rw [← h]; exact hy))).2 (hs y (by simp [hy]))
    rw [List.length_erase_of_mem hx] at this
    have := List.length_pos_of_mem hx
    simp only [List.length_cons]
    omega
theorem tab_valid {l : List OffV} {R : List RouteV} {f : Int} (hg : ∀ o ∈ l, o.Good) (hl : l.length ≤ 60) (h : TabIs l R f) : f = 0 ∧ Valid R ∧ R.length ≤ 60 := by
  obtain ⟨m, hm, h⟩ := h
  have h0 := goods_fine hg hl
  have hb := hm.1 h0
  have hmem : ∀ o ∈ m, o ∈ l := fun o ho => ((hb.2 o).1 ho).1.mem
  have hpd : (m.map OffV.p).Nodup := by
    unfold List.Nodup
    rw [List.pairwise_map]
    exact List.Pairwise.imp_of_mem (fun {x y} hx _ h => lt_ne (hg x (hmem x hx)).ok h) hb.1
  have hnd : m.Nodup := List.Pairwise.imp_of_mem (fun {x y} hx _ h e => lt_ne (hg x (hmem x hx)).ok h (by rw [e])) hb.1
  have hlen := sub_len hnd hmem
  have ht := tabTo_length m m.length
  rcases h with ⟨a, _⟩ | ⟨_, b, _⟩ | ⟨_, b, rfl, rfl⟩
  · exact absurd h0 a
  · omega
  · refine ⟨rfl, ⟨fun r hr => ?_, ?_⟩, b⟩
    · unfold tabTo at hr
      obtain ⟨o, ho, rfl⟩ := List.mem_map.1 hr
      have g := hg o (hmem o (List.mem_of_mem_take (List.mem_filter.1 ho).1))
      exact ⟨g.ok, g.hop⟩
    · unfold tabTo
      rw [List.map_map]
      exact (List.Sublist.map OffV.p (List.filter_sublist.trans (List.take_sublist _ _))).nodup hpd

theorem tab_six {l : List OffV} {R : List RouteV} {f : Int} (hs : ∀ o ∈ l, o.p.six = false) (h : TabIs l R f) : ∀ r ∈ R, r.p.six = false := by
  obtain ⟨m, hm, h⟩ := h
  rcases h with ⟨_, rfl, _⟩ | ⟨_, _, rfl, _⟩ | ⟨h0, _, rfl, rfl⟩
  · simp
  · simp
  · intro r hr
    unfold tabTo at hr
    obtain ⟨o, ho, rfl⟩ := List.mem_map.1 hr
    exact hs o (((hm.1 h0).2 o).1 (List.mem_of_mem_take (List.mem_filter.1 ho).1)).1.mem

def oneO : OffV := ⟨⟨false, 0, 0, 0⟩, 1, 0, 0, 3⟩
theorem oneO_good : oneO.Good := ⟨top_ok false, by decide, by decide, by decide, by decide⟩
theorem one_bests : Bests [oneO] [oneO] := by
  have hl : ∀ o, Live [oneO] o ↔ o = oneO := fun o => by
    have := live_snoc (l := []) (x := oneO) (o := o)
    simp only [List.nil_append] at this
    rw [this]
    constructor
    · rintro (⟨h, _⟩ | ⟨h, _⟩)
      · exact h
      · exact absurd h (live_nil o)
    · rintro rfl
      exact .inl ⟨rfl, by decide⟩
  refine ⟨by simp, fun o => ?_⟩
  unfold IsB
  rw [hl, List.mem_singleton]
  constructor
  · rintro rfl
    exact ⟨rfl, fun q hq _ => by rw [(hl q).1 hq]; exact Int.le_refl _⟩
  · exact fun h => h.1
theorem one_len {R : List RouteV} {f : Int} (h : TabIs [oneO] R f) : f = 0 ∧ R.length = 1 := by
  have hg : ∀ o ∈ [oneO], o.Good := fun o ho => by rw [List.mem_singleton.1 ho]; exact oneO_good
  obtain ⟨h0, _⟩ := tab_valid hg (by simp) h
  obtain ⟨m, hm, h⟩ := h
  have he := bests_unique hg (hm.1 (goods_fine hg (by simp))) one_bests
  subst he
  refine ⟨h0, ?_⟩
  rcases h with ⟨a, _⟩ | ⟨_, b, _⟩ | ⟨_, _, rfl, _⟩
  · exact absurd (goods_fine hg (by simp)) a
  · exact absurd b (by have := tabTo_length [oneO] [oneO].length; simp at this ⊢; omega)
  · rfl

theorem ruleK_fault (x : Int) : (ruleK x).fault = 0 := by
  have h1 := ruleP_n x
  have h2 := ruleL_n x
  have h3 := picked_range (x.tdiv 70000) (n := 33 - ruleL x) (by omega)
  have h4 := ruleP_ok x
  have hc : chk (ruleP x).six (ruleP x).hi (ruleP x).lo (ruleP x).n = 0 := chk_of h4
  have hw : wideI (ruleP x).six = 32 := by rw [h1.2.2]; rfl
  unfold ruleK RuleV.fault
  rw [if_neg (by simpa using hc), if_neg]
  simp only [hw]
  omega
theorem ruleK_ok (x : Int) : (ruleK x).Ok := by
  have h := ruleP_ok x
  exact ⟨Pfx.rhi h, Pfx.rlo h⟩
theorem rulesE_zero : ∀ {l : List RuleV}, (∀ r ∈ l, r.fault = 0) → rulesE l = 0
  | [], _ => rfl
  | r :: l, h => by
    unfold rulesE
    rw [if_pos (h r (by simp))]
    exact rulesE_zero fun x hx => h x (by simp [hx])
theorem rules_fine (l : List Int) : rulesF ((l.take 15).map ruleK) = 0 := by
  unfold rulesF
  rw [if_neg (by rw [List.length_map, List.length_take]; omega)]
  refine rulesE_zero fun r hr => ?_
  obtain ⟨x, _, rfl⟩ := List.mem_map.1 hr
  exact ruleK_fault x
theorem passR_valid {rs : List RuleV} {R : List RouteV} (hv : Valid R) : Valid (passR rs R) := by
  refine ⟨fun r hr => hv.1 r (List.mem_filter.1 hr).1, ?_⟩
  unfold passR
  exact (List.Sublist.map RouteV.p List.filter_sublist).nodup hv.2
theorem filter_fine {rs : List RuleV} {R : List RouteV} (hr : rulesF rs = 0) (hv : Valid R) (hl : R.length ≤ 60) : filterF rs R = 0 ∧ filterR rs R = passR rs R := by
  have h : filterF rs R = 0 := by unfold filterF; rw [if_neg (by simp [hr])]; exact valid_fine hv hl
  exact ⟨h, by unfold filterR; rw [if_pos h]⟩
theorem look_fine {R : List RouteV} (hv : Valid R) (hl : R.length ≤ 60) {six : Bool} {hi lo : Int} (hm : mayB six hi lo = true) : (lookR R six hi lo).2.2 = 0 ∧ (lookR R six hi lo).1 = (bestTo R six hi lo).1 := by
  unfold lookR goesR
  rw [if_neg (by simp [valid_fine hv hl]), if_neg (by simp [hm])]
  refine ⟨rfl, ?_⟩
  simp only
  split <;> rfl
theorem law_step (rs : List RuleV) (R : List RouteV) (r : RouteV) (six : Bool) (hi lo : Int) : bestTo (passR rs (R ++ [r])) six hi lo =
    if hasB r six hi lo = true ∧ firstYes (fun q => q.fits r.p.six r.p.hi r.p.lo r.p.n) rs = true ∧ (bestTo (passR rs R) six hi lo).2 < r.p.n then (r.hop, r.p.n) else bestTo (passR rs R) six hi lo := by
  rw [passR_snoc]
  by_cases h : firstYes (fun q => q.fits r.p.six r.p.hi r.p.lo r.p.n) rs = true
  · rw [if_pos h, bestTo_snoc]
    unfold bestStep
    simp [h]
  · rw [if_neg h, List.append_nil]
    simp [h]
end Go.Proofs.Ytmljdjakbbedlaa
