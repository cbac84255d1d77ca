
/-
  Proved here: the contract of the reference's TableFault; the walk of the law TableChecks.
-/
import Derived.Test.YtonelibgaceflaaTableNew
import Derived.Test.YtonelibgaceflaaFault
namespace Go.Proofs.Ytonelibgaceflaa
open Go.ChangeShapes Go.WideShapes Go.ChangeAt Go.RowKit

theorem reads_take {w : World} {B n k size : Nat} {A : Option Addr} {α : Type} {l : List α} {f : α → List Value} (hf : ∀ x, (f x).length = size) (hz : l.length = n) (hk : k ≤ n) (h : Reads w B size A n (l.flatMap f)) :
    Reads w B size A k ((l.take k).flatMap f) := by
  have hlen : ∀ (l : List α), (l.flatMap f).length = l.length * size := by
    intro l
    induction l with
    | nil => simp
    | cons x l ih => rw [List.flatMap_cons, List.length_append, hf, ih, List.length_cons, Nat.succ_mul]; omega
  refine ⟨by rw [hlen, List.length_take]; congr 1; omega, fun hk0 => ?_⟩
  obtain ⟨ad, rfl, hb, hc⟩ := h.2 (by omega)
  refine ⟨ad, rfl, hb, fun j u hj => hc j u ?_⟩
  have : l = l.take k ++ l.drop k := (List.take_append_drop k l).symm
  rw [this, List.flatMap_append, List.getElem?_append_left (by have := (List.getElem?_eq_some_iff.1 hj).1; exact this)]
  exact hj

set_option maxRecDepth 100000 in
set_option maxHeartbeats 3200000 in
theorem tableFault_any (A : Option Addr) (n c : Nat) (l : List RouteV) (w : World) (hn2 : n ≤ 60) (hnc : n ≤ c) (hcm : c ≤ maxLen) (hz : l.length = n) (ho : ∀ r ∈ l, r.Ok) (hr : Reads w w.heap.size 5 A n (l.flatMap RouteV.cells)) :
    Calls Try.prog 42 #[.slice A n c] w fun e w' => e = .returned (.int .i64 (routesE l)) ∧ Below w.heap.size w w' := by
  have HZ := Lib.hid hz
  have HR := Lib.hid hr
  have HOK := Lib.hid ho
  unfold maxLen at hcm
  obtain ⟨rr, hr0⟩ : ∃ r, r = firstF (routeAt l) (List.range n) := ⟨_, rfl⟩
  rw [show routesE l = firstF (routeAt l) (List.range n) from by unfold routesE; rw [hz], ← hr0]
  have H0 := Lib.hid hr0
  clear hz hr ho hr0
  go_enter Try.func42, Try.ntmps42
  go_wp2
  go_loopw [13, 2, 3, 4, 5, 7, 34, 35, 36] (fun i _ _ _ _ _ _ _ _ wr => ∃ k : Nat, k ≤ n ∧ i = .int .i64 k ∧ NoneTo (routeAt l) (List.range n) k ∧ Below w.heap.size w wr) (fun i _ _ _ _ _ _ _ _ _ => n - (intOf i).toNat)
  case atStart => exact ⟨0, by omega, rfl, rfl, Below.refl _ _⟩
  case round =>
    obtain ⟨k, hk, rfl, hto, hb⟩ := hrel
    have HT := Lib.hid hto
    have hszb := hb.size
    clear hto
    by_cases hlt : k < n
    · obtain ⟨ad, ⟨⟨six, hi, lo, pn⟩, hop⟩, rfl, hlk, htk, hmem, hbk, hc0, hcj⟩ := HR.out.atS RouteV.cells_length HZ.out hlt
      have q0 := (hb.cell (p := ad.add (k * 5)) (by rw [block_of_add]; exact hbk)).trans (hc0 _ rfl)
      have q1 := (hb.cell (p := ⟨(ad.add (k * 5)).block, (ad.add (k * 5)).off + 1, none⟩) (by rw [block_of_add]; exact hbk)).trans (hcj 1 _ rfl)
      have q2 := (hb.cell (p := ⟨(ad.add (k * 5)).block, (ad.add (k * 5)).off + 2, none⟩) (by rw [block_of_add]; exact hbk)).trans (hcj 2 _ rfl)
      have q3 := (hb.cell (p := ⟨(ad.add (k * 5)).block, (ad.add (k * 5)).off + 3, none⟩) (by rw [block_of_add]; exact hbk)).trans (hcj 3 _ rfl)
      have q4 := (hb.cell (p := ⟨(ad.add (k * 5)).block, (ad.add (k * 5)).off + 4, none⟩) (by rw [block_of_add]; exact hbk)).trans (hcj 4 _ rfl)
      obtain ⟨r1, r2, r3, r4⟩ := HOK.out _ hmem
      simp only at r1 r2 r3 r4
      have hfd : routeAt l k = routeF (l.take k) ⟨six, hi, lo, pn⟩ hop := by unfold routeAt; rw [hlk]
      have HF := Lib.hid hfd
      have HL := Lib.hid (range_at (n := n) hlt)
      have HK := Lib.hid (range_take (n := n) hlt)
      have CK := Lib.hid (fun w => preFault_any six hi lo pn w r1 r2)
      have HBO := Lib.hid hb
      have HRK := Lib.hid (reads_take RouteV.cells_length HZ.out hk HR.out)
      have HZK : Hid ((l.take k).length = k) := by show _ = _; rw [List.length_take, HZ.out]; omega
      obtain ⟨cv, hcv⟩ : ∃ cv, chk six hi lo pn = cv := ⟨_, rfl⟩
      have HCV : Hid (PV.chk ⟨six, hi, lo, pn⟩ = cv) := hcv
      rw [hcv] at CK
      have hkc : (k : Int) ≤ (c : Int) := by omega
      have hkc2 : (k : Int) ≤ 60 := by omega
      clear hlk htk hmem hbk hc0 hcj hfd hb hcv
      by_cases hck : cv = 0
      · subst hck
        by_cases c1 : hop < 1 ∨ 999 < hop
        · have HF2 : Hid (routeF (l.take k) ⟨six, hi, lo, pn⟩ hop = 2) := by show _ = _; unfold routeF; rw [if_neg (by rw [HCV.out]; simp), if_pos c1]
          have HFH := Lib.hid (fault_here HT.out HL.out HF.out H0.out HF2.out (by omega))
          go_wp2_with fail
          refine (CK.out _).mono ?_
          rintro e w1 ⟨rfl, hb1⟩
          obtain ⟨HB1, hs1, hx1⟩ := box1 (cs := [.bool six, .int .u64 hi, .int .u64 lo, .int .i64 pn, .int .i64 hop]) hb1
          have e4 := hx1 4 _ rfl
          have HB2 := Lib.hid (HBO.out.trans (HB1.mono hszb))
          clear hb1 HB1 hx1
          by_cases c2 : hop < 1
          · go_wp2
            go_ret
            exact ⟨ret_int HFH.out, HB2.out⟩
          · have c3 : 999 < hop := by omega
            go_wp2
            go_ret
            exact ⟨ret_int HFH.out, HB2.out⟩
        · have HF2 : Hid (routeF (l.take k) ⟨six, hi, lo, pn⟩ hop = if hasR (l.take k) ⟨six, hi, lo, pn⟩ = true then 8 else 0) := by show _ = _; unfold routeF; rw [if_neg (by rw [HCV.out]; simp), if_neg c1]
          have x1 : ¬ hop < 1 := by omega
          have x2 : ¬ 999 < hop := by omega
          clear c1
          generalize hlkk : l.take k = lk at *
          clear hlkk
          go_wp2_with fail
          refine (CK.out _).mono ?_
          rintro e w1 ⟨rfl, hb1⟩
          obtain ⟨HB1, hs1, hx1⟩ := box1 (cs := [.bool six, .int .u64 hi, .int .u64 lo, .int .i64 pn, .int .i64 hop]) hb1
          have e0 := hx1 0 _ rfl
          have e1 := hx1 1 _ rfl
          have e2 := hx1 2 _ rfl
          have e3 := hx1 3 _ rfl
          have e4 := hx1 4 _ rfl
          have HB2 := Lib.hid (HBO.out.trans (HB1.mono hszb))
          clear hb1 HB1 hx1 q0 q1 q2 q3 q4
          obtain ⟨wo, rfl⟩ : ∃ wo : World, wo = wr := ⟨_, rfl⟩
          go_wp2
          go_loopw [36, 2, 7] (fun i _ _ wy => ∃ j : Nat, j ≤ k ∧ i = .int .i64 j ∧ NoneYet (fun r : RouteV => decide (r.p = ⟨six, hi, lo, pn⟩)) lk j ∧ Below w1.heap.size w1 wy) (fun i _ _ _ => k - (intOf i).toNat)
          case atStart => exact ⟨0, by omega, rfl, noneYet_zero _ _, Below.refl _ _⟩
          case round =>
            obtain ⟨j, hj, rfl, hno, hbr⟩ := hrel
            have HN := Lib.hid hno
            have HBR := Lib.hid hbr
            have HB := Lib.hid (HB2.out.trans (hbr.mono HB2.out.size))
            have hb := HB.out
            obtain ⟨fc, ff⟩ := bcell hbr
            have s2 := hbr.size
            have g0 := (fc _ _ hs1).trans e0
            have g1 := (fc _ _ hs1).trans e1
            have g2 := (fc _ _ hs1).trans e2
            have g3 := (fc _ _ hs1).trans e3
            have g4 := (fc _ _ hs1).trans e4
            have s3 : wo.heap.size < wr.heap.size := by omega
            have s4 : ¬ wo.heap.size = wr.heap.size := by omega
            have s5 : ¬ wr.heap.size = wo.heap.size := by omega
            clear hno hbr
            by_cases hlt2 : j < k
            · obtain ⟨ad', ⟨⟨tsix, thi, tlo, tn⟩, thop⟩, hadd, hlk, htk, hmem, hbk, hc0, hcj⟩ := HRK.out.atS RouteV.cells_length HZK.out hlt2
              injection hadd with hadd
              subst hadd
              have q0 := (hb.cell (p := ad.add (j * 5)) (by rw [block_of_add]; exact hbk)).trans (hc0 _ rfl)
              have q1 := (hb.cell (p := ⟨(ad.add (j * 5)).block, (ad.add (j * 5)).off + 1, none⟩) (by rw [block_of_add]; exact hbk)).trans (hcj 1 _ rfl)
              have q2 := (hb.cell (p := ⟨(ad.add (j * 5)).block, (ad.add (j * 5)).off + 2, none⟩) (by rw [block_of_add]; exact hbk)).trans (hcj 2 _ rfl)
              have q3 := (hb.cell (p := ⟨(ad.add (j * 5)).block, (ad.add (j * 5)).off + 3, none⟩) (by rw [block_of_add]; exact hbk)).trans (hcj 3 _ rfl)
              have q4 := (hb.cell (p := ⟨(ad.add (j * 5)).block, (ad.add (j * 5)).off + 4, none⟩) (by rw [block_of_add]; exact hbk)).trans (hcj 4 _ rfl)
              have HLK2 := Lib.hid hlk
              have HTK2 := Lib.hid htk
              have HEQ := fun w => eqPV ⟨tsix, thi, tlo, tn⟩ ⟨six, hi, lo, pn⟩ w
              clear hlk htk hmem hbk hc0 hcj hb
              by_cases he : (⟨tsix, thi, tlo, tn⟩ : PV) = ⟨six, hi, lo, pn⟩
              · have HV : Hid (hasR lk ⟨six, hi, lo, pn⟩ = true) := by
                  show _ = _
                  unfold hasR
                  rw [List.any_eq_true]
                  exact ⟨_, List.mem_of_getElem? HLK2.out, by simpa using he⟩
                rw [decide_eq_true he] at HEQ
                unfold PV.val at HEQ
                simp only at HEQ
                clear he
                go_wp2
                go_ret
                exact ⟨ret_int (fault_here HT.out HL.out HF.out H0.out (HF2.out.trans (by rw [HV.out, if_pos rfl])) (by omega)), HB.out.alloc HB.out.size _⟩
              · have HN2 := Lib.hid (noneYet_succ HN.out HTK2.out (decide_eq_false he))
                rw [decide_eq_false he] at HEQ
                unfold PV.val at HEQ
                simp only at HEQ
                clear he
                go_wp2
                go_roundw
                case rel => exact ⟨j + 1, by omega, by go_num, HN2.out, HBR.out.alloc HBR.out.size _⟩
                case measure => simp [intOf]; omega
            · obtain rfl : j = k := by omega
              have HV : Hid (hasR lk ⟨six, hi, lo, pn⟩ = false) := by
                show _ = _
                unfold hasR
                rw [List.any_eq_false]
                intro x hx
                have := HN.out x (by rw [List.take_of_length_le (by rw [HZK.out]; omega)]; exact hx)
                simp only at this
                simp [this]
              clear hb
              go_wp2
              go_roundw
              case rel => exact ⟨j + 1, by omega, by go_num, noneTo_succ HT.out HK.out (HF.out.trans (HF2.out.trans (by rw [HV.out, if_neg (by simp)]))), HB.out⟩
              case measure => simp [intOf]; omega
      · have hck2 : (cv != 0) = true := by simpa using hck
        have HF2 : Hid (routeF (l.take k) ⟨six, hi, lo, pn⟩ hop = cv) := by show _ = _; unfold routeF; rw [HCV.out, if_pos hck]
        have HFH := Lib.hid (fault_here HT.out HL.out HF.out H0.out HF2.out hck)
        clear hck
        go_wp2_with fail
        refine (CK.out _).mono ?_
        rintro e w1 ⟨rfl, hb1⟩
        obtain ⟨HB1, hs1, _⟩ := box1 (cs := [.bool six, .int .u64 hi, .int .u64 lo, .int .i64 pn, .int .i64 hop]) hb1
        have HB2 := Lib.hid (HBO.out.trans (HB1.mono hszb))
        clear hb1 HB1
        go_wp2
        go_ret
        exact ⟨ret_int HFH.out, HB2.out⟩
    · obtain rfl : k = n := by omega
      have HR2 := Lib.hid (firstF_end HT.out (by simp))
      go_wp2
      go_ret
      exact ⟨ret_int (HR2.out.symm.trans H0.out.symm), hb⟩

set_option maxHeartbeats 400000 in
theorem tableFault_big (A : Option Addr) (n c : Nat) (w : World) (hn : 60 < n) (hm : n ≤ maxLen) :
    Calls Try.prog 42 #[.slice A n c] w fun e w' => e = .returned (.int .i64 1) ∧ Below w.heap.size w w' := by
  unfold maxLen at hm
  go_enter Try.func42, Try.ntmps42
  go_wp2
  go_ret
  exact ⟨rfl, Below.refl _ _⟩
theorem tableFault_is {A : Option Addr} {n c : Nat} {l : List RouteV} {w : World} (h : IsRoutes w A n c l) :
    Calls Try.prog 42 #[.slice A n c] w fun e w' => e = .returned (.int .i64 (routesF l)) ∧ Below w.heap.size w w' := by
  unfold routesF
  have h1 := h.1
  by_cases hn : 60 < l.length
  · rw [if_pos hn]
    exact tableFault_big A n c w (by omega) (by have := h.2.1; omega)
  · rw [if_neg hn]
    exact tableFault_any A n c l w (by omega) h.2.1.1 h.2.1.2 h1 h.2.2.1 h.2.2.2

set_option maxRecDepth 100000 in
set_option maxHeartbeats 400000 in
theorem tableChecks_walk {H : Type} {enc : TypeId × Value → H} (W : World) (vs : Array Value) (ds : List (DataW H)) (ps : List MemPlace) (h : ArgsOk Try.prog [33] H enc W vs.toList ds ps) :
    Calls Try.prog 9 vs W fun e W' => e = .returned (.bool true) ∧ Below W.heap.size W W' := by
  obtain ⟨hA, ⟨base, hval⟩, _, _⟩ := h
  obtain ⟨v0, d0, e0, _, h0⟩ := trodAll_one hA
  obtain ⟨a0, n, c, rfl⟩ := okWide_slice Try.underlying33 (hval 0 _ v0 rfl (by rw [e0]; rfl))
  obtain ⟨l, hr⟩ := open_routes h0
  obtain rfl : vs = #[.slice a0 n c] := by cases vs; simp_all
  generalize hg : routesF l = r
  have C1 := Lib.hid (fun (w : World) (hb : Below W.heap.size W w) => tableCheck_is (hr.below hb))
  have C2 := Lib.hid (fun (w : World) (hb : Below W.heap.size W w) => tableFault_is (hr.below hb))
  rw [hg] at C1 C2
  clear hr h0 hA hval e0 hg
  go_enter Try.func9, Try.ntmps9
  go_wp2_with fail
  refine (C1.out _ (Below.refl _ _)).mono ?_
  rintro e w1 ⟨rfl, hb1⟩
  go_wp2_with fail
  refine (C2.out _ hb1).mono ?_
  rintro e w2 ⟨rfl, hb2⟩
  go_wp2
  go_ret
  exact ⟨by simp, below_step hb1 hb2⟩

end Go.Proofs.Ytonelibgaceflaa
