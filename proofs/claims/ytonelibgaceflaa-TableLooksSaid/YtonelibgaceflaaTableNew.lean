
/-
  Proved here: the contract of table.New: the table holds the routes, or their first fault.
-/
import Derived.Test.YtonelibgaceflaaRouteV
import Derived.Test.YtonelibgaceflaaPut
import Derived.Test.YtonelibgaceflaaCheck
namespace Go.Proofs.Ytonelibgaceflaa
open Go.ChangeShapes Go.WideShapes Go.ChangeAt Go.RowKit

/-- What table.New returns, and what it leaves. -/
def NewPost (l : List RouteV) (E : Int) (w : World) (e : Ending) (w' : World) : Prop :=
  Below w.heap.size w w' ∧ ((¬ E = 0 ∧ e = .returned (.tuple #[.pointer none, .int .i64 E])) ∨ (E = 0 ∧ e = .returned (.tuple #[.pointer (some ⟨w.heap.size, 0, none⟩), .int .i64 0]) ∧ Holds w' w.heap.size w.heap.size l ∧ Valid l))

theorem ret_pi {m : Value} {a b : Int} (h : a = b) : Ending.returned (.tuple #[m, .int .i64 a]) = Ending.returned (.tuple #[m, .int .i64 b]) := by rw [h]

set_option maxRecDepth 100000 in
set_option maxHeartbeats 3200000 in
theorem new_any (A : Option Addr) (n c : Nat) (l : List RouteV) (w : World) (hn2 : n ≤ 60) (hnc : n ≤ c) (hcm : c ≤ maxLen) (hz : l.length = n) (ho : ∀ r ∈ l, r.Ok) (hr : Reads w w.heap.size 5 A n (l.flatMap RouteV.cells)) :
    Calls Try.prog 75 #[.slice A n c] w (NewPost l (routesE l) w) := by
  have HZ := Lib.hid hz
  have HR := Lib.hid hr
  have HOK := Lib.hid ho
  unfold maxLen at hcm
  have H0 : Hid (routesE l = firstF (routeAt l) (List.range n)) := by show _ = _; unfold routesE; rw [hz]
  clear hz hr ho
  go_enter Try.func75, Try.ntmps75
  go_wp2
  go_loopw [15, 2, 3, 6, 7] (fun i _ _ _ _ wr => ∃ k : Nat, k ≤ n ∧ i = .int .i64 k ∧ NoneTo (routeAt l) (List.range n) k ∧ Valid (l.take k) ∧ Holds wr w.heap.size w.heap.size (l.take k) ∧ Below w.heap.size w wr) (fun i _ _ _ _ _ => n - (intOf i).toNat)
  case atStart => exact ⟨0, by omega, rfl, rfl, ⟨by simp, by simp⟩, holds_new w, (Below.refl _ _).alloc (Nat.le_refl _) _⟩
  case round =>
    obtain ⟨k, hk, rfl, hto, hval, hhold, hb⟩ := hrel
    have HT := Lib.hid hto
    have HV := Lib.hid hval
    have HH := Lib.hid hhold
    have hszb := hb.size
    clear hto hval hhold
    by_cases hlt : k < n
    · obtain ⟨ad, ⟨⟨six, hi, lo, pn⟩, hop⟩, rfl, hlk, htk, hmem, hbk, hc0, hcj⟩ := HR.out.atS RouteV.cells_length HZ.out hlt
      have q0 := (hb.cell (p := ad.add (k * 5)) (by rw [block_of_add]; exact hbk)).trans (hc0 _ rfl)
      have q1 := (hb.cell (p := ⟨(ad.add (k * 5)).block, (ad.add (k * 5)).off + 1, none⟩) (by rw [block_of_add]; exact hbk)).trans (hcj 1 _ rfl)
      have q2 := (hb.cell (p := ⟨(ad.add (k * 5)).block, (ad.add (k * 5)).off + 2, none⟩) (by rw [block_of_add]; exact hbk)).trans (hcj 2 _ rfl)
      have q3 := (hb.cell (p := ⟨(ad.add (k * 5)).block, (ad.add (k * 5)).off + 3, none⟩) (by rw [block_of_add]; exact hbk)).trans (hcj 3 _ rfl)
      have q4 := (hb.cell (p := ⟨(ad.add (k * 5)).block, (ad.add (k * 5)).off + 4, none⟩) (by rw [block_of_add]; exact hbk)).trans (hcj 4 _ rfl)
      obtain ⟨r1, r2, r3, r4⟩ := HOK.out _ hmem
      simp only at r1 r2 r3 r4
      have hfd : routeAt l k = routeF (l.take k) ⟨six, hi, lo, pn⟩ hop := by unfold routeAt; rw [hlk]
      have HF := Lib.hid hfd
      have HL := Lib.hid (range_at (n := n) hlt)
      have HK := Lib.hid (range_take (n := n) hlt)
      have HTK := Lib.hid htk
      have CK := Lib.hid (fun w => check_any six hi lo pn w r1 r2)
      have HBO := Lib.hid hb
      obtain ⟨cv, hcv⟩ : ∃ cv, chk six hi lo pn = cv := ⟨_, rfl⟩
      have HCV : Hid (PV.chk ⟨six, hi, lo, pn⟩ = cv) := hcv
      rw [hcv] at CK
      have HCV2 := Lib.hid hcv
      clear hlk htk hmem hbk hc0 hcj hfd hb hcv
      by_cases hck : cv = 0
      · subst hck
        have hpok : Hid (PV.Ok ⟨six, hi, lo, pn⟩) := chk_zero r1 r2 HCV2.out
        by_cases c1 : hop < 1 ∨ 999 < hop
        · have HF2 : Hid (routeF (l.take k) ⟨six, hi, lo, pn⟩ hop = 2) := by show _ = _; unfold routeF; rw [if_neg (by rw [HCV.out]; simp), if_pos c1]
          have HFH := Lib.hid (fault_here HT.out HL.out HF.out H0.out HF2.out (by omega))
          go_wp2_with fail
          refine (CK.out _).mono ?_
          rintro e w1 ⟨rfl, hb1⟩
          obtain ⟨HB1, hs1, hx1⟩ := box1 (cs := [.bool six, .int .u64 hi, .int .u64 lo, .int .i64 pn, .int .i64 hop]) hb1
          have e4 := hx1 4 _ rfl
          have HB2 := Lib.hid (HBO.out.trans (HB1.mono hszb))
          clear hb1 HB1 hx1
          by_cases c2 : hop < 1
          · go_wp2
            go_ret2
            exact ⟨HB2.out, .inl ⟨by rw [← HFH.out]; omega, ret_pi HFH.out⟩⟩
          · have c3 : 999 < hop := by omega
            go_wp2
            go_ret2
            exact ⟨HB2.out, .inl ⟨by rw [← HFH.out]; omega, ret_pi HFH.out⟩⟩
        · have HF2 : Hid (routeF (l.take k) ⟨six, hi, lo, pn⟩ hop = if hasR (l.take k) ⟨six, hi, lo, pn⟩ = true then 8 else 0) := by show _ = _; unfold routeF; rw [if_neg (by rw [HCV.out]; simp), if_neg c1]
          have x1 : ¬ hop < 1 := by omega
          have x2 : ¬ 999 < hop := by omega
          clear c1
          go_wp2_with fail
          refine (CK.out _).mono ?_
          rintro e w1 ⟨rfl, hb1⟩
          obtain ⟨HB1, hs1, hx1⟩ := box1 (cs := [.bool six, .int .u64 hi, .int .u64 lo, .int .i64 pn, .int .i64 hop]) hb1
          have e0 := hx1 0 _ rfl
          have e1 := hx1 1 _ rfl
          have e2 := hx1 2 _ rfl
          have e3 := hx1 3 _ rfl
          have e4 := hx1 4 _ rfl
          have HB2 := Lib.hid (HBO.out.trans (HB1.mono hszb))
          obtain ⟨R, cc, hTab, hInv, hM, hcc⟩ := HH.out.below HB1
          have hccb : 0 ≤ cc ∧ cc ≤ 1000000 := by
            rw [hcc]
            have := List.length_take_le k l
            omega
          have CP := Lib.hid (put_any hTab ⟨six, hi, lo, pn⟩ hpok.out hInv hop hccb)
          have HTab := Lib.hid hTab
          have HInv := Lib.hid hInv
          have HM := Lib.hid hM
          have HCC := Lib.hid hcc
          have hg : hopAt (R six) ⟨six, hi, lo, pn⟩ = getR (l.take k) ⟨six, hi, lo, pn⟩ := hM ⟨six, hi, lo, pn⟩ hpok.out
          unfold PutPost at CP
          obtain ⟨gv, hgv⟩ : ∃ gv, hopAt (R six) ⟨six, hi, lo, pn⟩ = gv := ⟨_, rfl⟩
          simp only at CP
          rw [hgv] at CP
          have HGV := Lib.hid (hgv.symm.trans hg)
          have HGH := Lib.hid hgv
          have hs1w : w.heap.size ≤ w1.heap.size := by have := HB2.out.size; omega
          unfold PV.val at CP
          simp only at CP
          clear hb1 HB1 hx1 hTab hInv hM hcc hg hgv
          obtain ⟨hv, hhv⟩ : ∃ hv, hasR (l.take k) ⟨six, hi, lo, pn⟩ = hv := ⟨_, rfl⟩
          have HHV := Lib.hid hhv
          rw [hhv] at HF2
          clear hhv
          cases hv with
          | true =>
            have hne : ¬ gv = 0 := by rw [HGV.out]; exact getR_some (fun r hr => (HV.out.1 r hr).2.1) HHV.out
            have hne2 : (gv != 0) = true := by simpa using hne
            have HFH := Lib.hid (fault_here HT.out HL.out HF.out H0.out (HF2.out.trans (by rw [if_pos rfl])) (by omega))
            go_wp2_with fail
            refine CP.out.mono ?_
            rintro e w2 ⟨rfl, _, hk2⟩
            have HB3 := Lib.hid (HB2.out.trans (hk2.below (fun g hg => (HTab.out.lt g hg).1) hs1w))
            clear hk2
            go_wp2
            go_ret2
            exact ⟨HB3.out, .inl ⟨by rw [← HFH.out]; omega, ret_pi HFH.out⟩⟩
          | false =>
            have hg0 : gv = 0 := by rw [HGV.out]; exact getR_none HHV.out
            have HN2 := Lib.hid (noneTo_succ HT.out HK.out (HF.out.trans (HF2.out.trans (by rw [if_neg (by simp)]))))
            have HV2 : Hid (Valid (l.take (k + 1))) := by show Valid _; rw [HTK.out]; exact valid_snoc HV.out hpok.out (by omega) HHV.out
            have HH2 : Hid (∀ w2 G1 G2, Tab w2 w.heap.size w.heap.size (upd R six (putT ⟨six, hi, lo, pn⟩ hop G1 G2 (R six))) (if gv = 0 then cc + 1 else cc) → Holds w2 w.heap.size w.heap.size (l.take (k + 1))) := by
              intro w2 G1 G2 ht
              rw [HTK.out]
              rw [← HGH.out] at ht
              exact holds_put HInv.out HM.out HCC.out hpok.out (by omega) HHV.out ht
            subst hg0
            go_wp2_with fail
            refine CP.out.mono ?_
            rintro e w2 ⟨rfl, ⟨G1, G2, ht2⟩, hk2⟩
            have HB3 := Lib.hid (HB2.out.trans (hk2.below (fun g hg => (HTab.out.lt g hg).1) hs1w))
            have HH3 := Lib.hid (HH2.out _ _ _ ht2)
            clear hk2 ht2
            go_wp2
            go_roundw
            case rel => exact ⟨k + 1, by omega, by go_num, HN2.out, HV2.out, HH3.out, HB3.out⟩
            case measure => simp [intOf]; omega
      · have hck2 : (cv != 0) = true := by simpa using hck
        have HF2 : Hid (routeF (l.take k) ⟨six, hi, lo, pn⟩ hop = cv) := by show _ = _; unfold routeF; rw [HCV.out, if_pos hck]
        have HFH := Lib.hid (fault_here HT.out HL.out HF.out H0.out HF2.out hck)
        have HCK := Lib.hid hck
        clear hck
        go_wp2_with fail
        refine (CK.out _).mono ?_
        rintro e w1 ⟨rfl, hb1⟩
        obtain ⟨HB1, hs1, _⟩ := box1 (cs := [.bool six, .int .u64 hi, .int .u64 lo, .int .i64 pn, .int .i64 hop]) hb1
        have HB2 := Lib.hid (HBO.out.trans (HB1.mono hszb))
        clear hb1 HB1
        go_wp2
        go_ret2
        exact ⟨HB2.out, .inl ⟨by rw [← HFH.out]; exact HCK.out, ret_pi HFH.out⟩⟩
    · obtain rfl : k = n := by omega
      have HR2 := Lib.hid (firstF_end HT.out (by simp))
      rw [List.take_of_length_le (by rw [HZ.out]; omega)] at HH HV
      go_wp2
      go_ret2
      exact ⟨hb, .inr ⟨by rw [H0.out]; exact HR2.out, rfl, HH.out, HV.out⟩⟩

set_option maxHeartbeats 400000 in
theorem new_big (A : Option Addr) (n c : Nat) (w : World) (hn : 60 < n) (hm : n ≤ maxLen) :
    Calls Try.prog 75 #[.slice A n c] w fun e w' => e = .returned (.tuple #[.pointer none, .int .i64 1]) ∧ Below w.heap.size w w' := by
  unfold maxLen at hm
  go_enter Try.func75, Try.ntmps75
  go_wp2
  go_ret2
  exact ⟨rfl, Below.refl _ _⟩

theorem new_is {A : Option Addr} {n c : Nat} {l : List RouteV} {w : World} (h : IsRoutes w A n c l) : Calls Try.prog 75 #[.slice A n c] w (NewPost l (routesF l) w) := by
  have h1 := h.1
  by_cases hn : 60 < l.length
  · have hf : routesF l = 1 := by unfold routesF; rw [if_pos hn]
    refine (new_big A n c w (by omega) (by have := h.2.1; omega)).mono ?_
    rintro e w' ⟨rfl, hb⟩
    exact ⟨hb, .inl ⟨by omega, by rw [hf]⟩⟩
  · have hf : routesF l = routesE l := by unfold routesF; rw [if_neg hn]
    refine (new_any A n c l w (by omega) h.2.1.1 h.2.1.2 h1 h.2.2.1 h.2.2.2).mono ?_
    intro e w' he
    rw [hf]
    exact he

set_option maxRecDepth 100000 in
set_option maxHeartbeats 400000 in
theorem tableCheck_is {A : Option Addr} {n c : Nat} {l : List RouteV} {w : World} (h : IsRoutes w A n c l) :
    Calls Try.prog 41 #[.slice A n c] w fun e w' => e = .returned (.int .i64 (routesF l)) ∧ Below w.heap.size w w' := by
  have HK := Lib.hid (new_is h)
  clear h
  go_enter Try.func41, Try.ntmps41
  go_wp2_with fail
  refine HK.out.mono ?_
  rintro e w1 ⟨hb, ⟨_, rfl⟩ | ⟨h0, rfl, _⟩⟩
  · go_wp2
    go_ret
    exact ⟨rfl, hb⟩
  · have H0 := Lib.hid h0
    clear h0
    go_wp2
    go_ret
    exact ⟨ret_int H0.out.symm, hb⟩

end Go.Proofs.Ytonelibgaceflaa
