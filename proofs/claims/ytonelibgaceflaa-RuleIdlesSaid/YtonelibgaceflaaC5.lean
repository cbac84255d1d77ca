/-
  
  
  
  
  
-/
import Derived.Test.YtonelibgaceflaaC3
import Derived.Test.YtonelibgaceflaaC4
import Derived.Test.YtonelibgaceflaaC1
import Derived.Test.YtonelibgaceflaaC2
namespace Go.Proofs.Ytonelibgaceflaa
open Go.ChangeShapes Go.WideShapes Go.ChangeAt Go.RowKit

/-- What table.New returns, and what it leaves. -/
def NewPost (l : List RouteV) (E : Int) (w : World) (e : Ending) (w' : World) : Prop :=
  Below w.heap.size w w' ∧ ((¬ E = 0 ∧ e = .returned (.tuple #[.pointer none, .int .i64 E])) ∨ (E = 0 ∧ e = .returned (.tuple #[.pointer (some ⟨w.heap.size, 0, none⟩), .int .i64 0]) ∧ Holds w' w.heap.size w.heap.size l ∧ Valid l))

theorem ret_pi {m : Value} {a b : Int} (h : a = b) : Ending.returned (.tuple #[m, .int .i64 a]) = Ending.returned (.tuple #[m, .int .i64 b]) := by rw [h]

set_option maxRecDepth 100000 in
set_option maxHeartbeats 3200000 in
theorem new_any (A : Option Addr) (n c : Nat) (l : List RouteV) (w : World) (hn2 : n ≤ 60) (hnc : n ≤ c) (hcm : c ≤ maxLen) (hz : l.length = n) (ho : ∀ r ∈ l, r.Ok) (hr : Reads w w.heap.size 5 A n (l.flatMap RouteV.cells)) :
    Calls Try.prog 75 #[.slice A n c] w (NewPost l (routesE l) w) := by
  have HZ := Lib.hid hz
  have HR := Lib.hid hr
  have HOK := Lib.hid ho
  unfold maxLen at hcm
  have H0 : Hid (routesE l = firstF (routeAt l) (List.range n)) := by show _ = _; unfold routesE; rw [hz]
  clear hz hr ho
  go_enter Try.func75, Try.ntmps75
  go_wp2
  go_loopw [15, 2, 3, 6, 7] (fun i _ _ _ _ wr => ∃ k : Nat, k ≤ n ∧ i = .int .i64 k ∧ NoneTo (routeAt l) (List.range n) k ∧ Valid (l.take k) ∧ Holds wr w.heap.size w.heap.size (l.take k) ∧ Below w.heap.size w wr) (fun i _ _ _ _ _ => n - (intOf i).toNat)
  case atStart => exact ⟨0, by omega, rfl, rfl, ⟨by simp, by simp⟩, holds_new w, (Below.refl _ _).alloc (Nat.le_refl _) _⟩
  case round =>
    obtain ⟨k, hk, rfl, hto, hval, hhold, hb⟩ := hrel
    have HT := Lib.hid hto
    have HV := Lib.hid hval
    have HH := Lib.hid hhold
    have hszb := hb.size
    clear hto hval hhold
    by_cases hlt : k < n
    · obtain ⟨ad, ⟨⟨six, hi, lo, pn⟩, hop⟩, rfl, hlk, htk, hmem, hbk, hc0, hcj⟩ := HR.out.atS RouteV.cells_length HZ.out hlt
      have q0 := (hb.cell (p := ad.add (k * 5)) (by rw [block_of_add]; exact hbk)).trans (hc0 _ rfl)
      have q1 := (hb.cell (p := ⟨(ad.add (k * 5)).block, (ad.add (k * 5)).off + 1, none⟩) (by rw [block_of_add]; exact hbk)).trans (hcj 1 _ rfl)
      have q2 := (hb.cell (p := ⟨(ad.add (k * 5)).block, (ad.add (k * 5)).off + 2, none⟩) (by rw [block_of_add]; exact hbk)).trans (hcj 2 _ rfl)
      have q3 := (hb.cell (p := ⟨(ad.add (k * 5)).block, (ad.add (k * 5)).off + 3, none⟩) (by rw [block_of_add]; exact hbk)).trans (hcj 3 _ rfl)
      have q4 := (hb.cell (p := ⟨(ad.add (k * 5)).block, (ad.add (k * 5)).off + 4, none⟩) (by rw [block_of_add]; exact hbk)).trans (hcj 4 _ rfl)
      obtain ⟨r1, r2, r3, r4⟩ := HOK.out _ hmem
      simp only at r1 r2 r3 r4
      have hfd : routeAt l k = routeF (l.take k) ⟨six, hi, lo, pn⟩ hop := by unfold routeAt; rw [hlk]
      have HF := Lib.hid hfd
      have HL := Lib.hid (range_at (n := n) hlt)
      have HK := Lib.hid (range_take (n := n) hlt)
      have HTK := Lib.hid htk
      have CK := Lib.hid (fun w => check_any six hi lo pn w r1 r2)
      have HBO := Lib.hid hb
      obtain ⟨cv, hcv⟩ : ∃ cv, chk six hi lo pn = cv := ⟨_, rfl⟩
      have HCV : Hid (PV.chk ⟨six, hi, lo, pn⟩ = cv) := hcv
      rw [hcv] at CK
      have HCV2 := Lib.hid hcv
      clear hlk htk hmem hbk hc0 hcj hfd hb hcv
      by_cases hck : cv = 0
      · subst hck
        have hpok : Hid (PV.Ok ⟨six, hi, lo, pn⟩) := chk_zero r1 r2 HCV2.out
        by_cases c1 : hop < 1 ∨ 999 < hop
        · have HF2 : Hid (routeF (l.take k) ⟨six, hi, lo, pn⟩ hop = 2) := by show _ = _; unfold routeF; rw [if_neg (by rw [HCV.out]; simp), if_pos c1]
          have HFH := Lib.hid (fault_here HT.out HL.out HF.out H0.out HF2.out (by omega))
          go_wp2_with fail
          refine (CK.out _).mono ?_
          rintro e w1 ⟨rfl, hb1⟩
          obtain ⟨HB1, hs1, hx1⟩ := box1 (cs := [.bool six, .int .u64 hi, .int .u64 lo, .int .i64 pn, .int .i64 hop]) hb1
          have e4 := hx1 4 _ rfl
          have HB2 := Lib.hid (HBO.out.trans (HB1.mono hszb))
          clear hb1 HB1 hx1
          by_cases c2 : hop < 1
          · go_wp2
            go_ret2
            exact ⟨HB2.out, .inl ⟨by rw [← HFH.out]; omega, ret_pi HFH.out⟩⟩
          · have c3 : 999 < hop := by omega
            go_wp2
            go_ret2
            exact ⟨HB2.out, .inl ⟨by rw [← HFH.out]; omega, ret_pi HFH.out⟩⟩
        · have HF2 : Hid (routeF (l.take k) ⟨six, hi, lo, pn⟩ hop = if hasR (l.take k) ⟨six, hi, lo, pn⟩ = true then 8 else 0) := by show _ = _; unfold routeF; rw [if_neg (by rw [HCV.out]; simp), if_neg c1]
          have x1 : ¬ hop < 1 := by omega
          have x2 : ¬ 999 < hop := by omega
          clear c1
          go_wp2_with fail
          refine (CK.out _).mono ?_
          rintro e w1 ⟨rfl, hb1⟩
          obtain ⟨HB1, hs1, hx1⟩ := box1 (cs := [.bool six, .int .u64 hi, .int .u64 lo, .int .i64 pn, .int .i64 hop]) hb1
          have e0 := hx1 0 _ rfl
          have e1 := hx1 1 _ rfl
          have e2 := hx1 2 _ rfl
          have e3 := hx1 3 _ rfl
          have e4 := hx1 4 _ rfl
          have HB2 := Lib.hid (HBO.out.trans (HB1.mono hszb))
          obtain ⟨R, cc, hTab, hInv, hM, hcc⟩ := HH.out.below HB1
          have hccb : 0 ≤ cc ∧ cc ≤ 1000000 := by
            rw [hcc]
            have := List.length_take_le k l
            omega
          have CP := Lib.hid (put_any hTab ⟨six, hi, lo, pn⟩ hpok.out hInv hop hccb)
          have HTab := Lib.hid hTab
          have HInv := Lib.hid hInv
          have HM := Lib.hid hM
          have HCC := Lib.hid hcc
          have hg : hopAt (R six) ⟨six, hi, lo, pn⟩ = getR (l.take k) ⟨six, hi, lo, pn⟩ := hM ⟨six, hi, lo, pn⟩ hpok.out
          unfold PutPost at CP
          obtain ⟨gv, hgv⟩ : ∃ gv, hopAt (R six) ⟨six, hi, lo, pn⟩ = gv := ⟨_, rfl⟩
          simp only at CP
          rw [hgv] at CP
          have HGV := Lib.hid (hgv.symm.trans hg)
          have HGH := Lib.hid hgv
          have hs1w : w.heap.size ≤ w1.heap.size := by have := HB2.out.size; omega
          unfold PV.val at CP
          simp only at CP
          clear hb1 HB1 hx1 hTab hInv hM hcc hg hgv
          obtain ⟨hv, hhv⟩ : ∃ hv, hasR (l.take k) ⟨six, hi, lo, pn⟩ = hv := ⟨_, rfl⟩
          have HHV := Lib.hid hhv
          rw [hhv] at HF2
          clear hhv
          cases hv with
          | true =>
            have hne : ¬ gv = 0 := by rw [HGV.out]; exact getR_some (fun r hr => (HV.out.1 r hr).2.1) HHV.out
            have hne2 : (gv != 0) = true := by simpa using hne
            have HFH := Lib.hid (fault_here HT.out HL.out HF.out H0.out (HF2.out.trans (by rw [if_pos rfl])) (by omega))
            go_wp2_with fail
            refine CP.out.mono ?_
            rintro e w2 ⟨rfl, _, hk2⟩
            have HB3 := Lib.hid (HB2.out.trans (hk2.below (fun g hg => (HTab.out.lt g hg).1) hs1w))
            clear hk2
            go_wp2
            go_ret2
            exact ⟨HB3.out, .inl ⟨by rw [← HFH.out]; omega, ret_pi HFH.out⟩⟩
          | false =>
            have hg0 : gv = 0 := by rw [HGV.out]; exact getR_none HHV.out
            have HN2 := Lib.hid (noneTo_succ HT.out HK.out (HF.out.trans (HF2.out.trans (by rw [if_neg (by simp)]))))
            have HV2 : Hid (Valid (l.take (k + 1))) := by show Valid _; rw [HTK.out]; exact valid_snoc HV.out hpok.out (by omega) HHV.out
            have HH2 : Hid (∀ w2 G1 G2, Tab w2 w.heap.size w.heap.size (upd R six (putT ⟨six, hi, lo, pn⟩ hop G1 G2 (R six))) (if gv = 0 then cc + 1 else cc) → Holds w2 w.heap.size w.heap.size (l.take (k + 1))) := by
              intro w2 G1 G2 ht
              rw [HTK.out]
              rw [← HGH.out] at ht
              exact holds_put HInv.out HM.out HCC.out hpok.out (by omega) HHV.out ht
            subst hg0
            go_wp2_with fail
            refine CP.out.mono ?_
            rintro e w2 ⟨rfl, ⟨G1, G2, ht2⟩, hk2⟩
            have HB3 := Lib.hid (HB2.out.trans (hk2.below (fun g hg => (HTab.out.lt g hg).1) hs1w))
            have HH3 := Lib.hid (HH2.out _ _ _ ht2)
            clear hk2 ht2
            go_wp2
            go_roundw
            case rel => exact ⟨k + 1, by omega, by go_num, HN2.out, HV2.out, HH3.out, HB3.out⟩
            case measure => simp [intOf]; omega
      · have hck2 : (cv != 0) = true := by simpa using hck
        have HF2 : Hid (routeF (l.take k) ⟨six, hi, lo, pn⟩ hop = cv) := by show _ = _; unfold routeF; rw [HCV.out, if_pos hck]
        have HFH := Lib.hid (fault_here HT.out HL.out HF.out H0.out HF2.out hck)
        have HCK := Lib.hid hck
        clear hck
        go_wp2_with fail
        refine (CK.out _).mono ?_
        rintro e w1 ⟨rfl, hb1⟩
        obtain ⟨HB1, hs1, _⟩ := box1 (cs := [.bool six, .int .u64 hi, .int .u64 lo, .int .i64 pn, .int .i64 hop]) hb1
        have HB2 := Lib.hid (HBO.out.trans (HB1.mono hszb))
        clear hb1 HB1
        go_wp2
        go_ret2
        exact ⟨HB2.out, .inl ⟨by rw [← HFH.out]; exact HCK.out, ret_pi HFH.out⟩⟩
    · obtain rfl : k = n := by omega
      have HR2 := Lib.hid (firstF_end HT.out (by simp))
      rw [List.take_of_length_le (by rw [HZ.out]; omega)] at HH HV
      go_wp2
      go_ret2
      exact ⟨hb, .inr ⟨by rw [H0.out]; exact HR2.out, rfl, HH.out, HV.out⟩⟩

set_option maxHeartbeats 400000 in
theorem new_big (A : Option Addr) (n c : Nat) (w : World) (hn : 60 < n) (hm : n ≤ maxLen) :
    Calls Try.prog 75 #[.slice A n c] w fun e w' => e = .returned (.tuple #[.pointer none, .int .i64 1]) ∧ Below w.heap.size w w' := by
  unfold maxLen at hm
  go_enter Try.func75, Try.ntmps75
  go_wp2
  go_ret2
  exact ⟨rfl, Below.refl _ _⟩

theorem new_is {A : Option Addr} {n c : Nat} {l : List RouteV} {w : World} (h : IsRoutes w A n c l) : Calls Try.prog 75 #[.slice A n c] w (NewPost l (routesF l) w) := by
  have h1 := h.1
  by_cases hn : 60 < l.length
  · have hf : routesF l = 1 := by unfold routesF; rw [if_pos hn]
    refine (new_big A n c w (by omega) (by have := h.2.1; omega)).mono ?_
    rintro e w' ⟨rfl, hb⟩
    exact ⟨hb, .inl ⟨by omega, by rw [hf]⟩⟩
  · have hf : routesF l = routesE l := by unfold routesF; rw [if_neg hn]
    refine (new_any A n c l w (by omega) h.2.1.1 h.2.1.2 h1 h.2.2.1 h.2.2.2).mono ?_
    intro e w' he
    rw [hf]
    exact he

set_option maxRecDepth 100000 in
set_option maxHeartbeats 400000 in
theorem tableCheck_is {A : Option Addr} {n c : Nat} {l : List RouteV} {w : World} (h : IsRoutes w A n c l) :
    Calls Try.prog 41 #[.slice A n c] w fun e w' => e = .returned (.int .i64 (routesF l)) ∧ Below w.heap.size w w' := by
  have HK := Lib.hid (new_is h)
  clear h
  go_enter Try.func41, Try.ntmps41
  go_wp2_with fail
  refine HK.out.mono ?_
  rintro e w1 ⟨hb, ⟨_, rfl⟩ | ⟨h0, rfl, _⟩⟩
  · go_wp2
    go_ret
    exact ⟨rfl, hb⟩
  · have H0 := Lib.hid h0
    clear h0
    go_wp2
    go_ret
    exact ⟨ret_int H0.out.symm, hb⟩

end Go.Proofs.Ytonelibgaceflaa

namespace Go.Proofs.Ytonelibgaceflaa
open Go.ChangeShapes Go.WideShapes Go.ChangeAt Go.RowKit

theorem reads_take {w : World} {B n k size : Nat} {A : Option Addr} {α : Type} {l : List α} {f : α → List Value} (hf : ∀ x, (f x).length = size) (hz : l.length = n) (hk : k ≤ n) (h : Reads w B size A n (l.flatMap f)) :
    Reads w B size A k ((l.take k).flatMap f) := by
  have hlen : ∀ (l : List α), (l.flatMap f).length = l.length * size := by
    intro l
    induction l with
    | nil => simp
    | cons x l ih => rw [List.flatMap_cons, List.length_append, hf, ih, List.length_cons, Nat.succ_mul]; omega
  refine ⟨by rw [hlen, List.length_take]; congr 1; omega, fun hk0 => ?_⟩
  obtain ⟨ad, rfl, hb, hc⟩ := h.2 (by omega)
  refine ⟨ad, rfl, hb, fun j u hj => hc j u ?_⟩
  have : l = l.take k ++ l.drop k := (List.take_append_drop k l).symm
  rw [this, List.flatMap_append, List.getElem?_append_left (by have := (List.getElem?_eq_some_iff.1 hj).1; exact this)]
  exact hj

set_option maxRecDepth 100000 in
set_option maxHeartbeats 3200000 in
theorem tableFault_any (A : Option Addr) (n c : Nat) (l : List RouteV) (w : World) (hn2 : n ≤ 60) (hnc : n ≤ c) (_hcm : c ≤ maxLen) (hz : l.length = n) (ho : ∀ r ∈ l, r.Ok) (hr : Reads w w.heap.size 5 A n (l.flatMap RouteV.cells)) :
    Calls Try.prog 42 #[.slice A n c] w fun e w' => e = .returned (.int .i64 (routesE l)) ∧ Below w.heap.size w w' := by
  have HZ := Lib.hid hz
  have HR := Lib.hid hr
  have HOK := Lib.hid ho
  obtain ⟨rr, hr0⟩ : ∃ r, r = firstF (routeAt l) (List.range n) := ⟨_, rfl⟩
  rw [show routesE l = firstF (routeAt l) (List.range n) from by unfold routesE; rw [hz], ← hr0]
  have H0 := Lib.hid hr0
  clear hz hr ho hr0
  go_enter Try.func42, Try.ntmps42
  go_wp2
  go_loopw [13, 2, 3, 4, 5, 7, 34, 35, 36] (fun i _ _ _ _ _ _ _ _ wr => ∃ k : Nat, k ≤ n ∧ i = .int .i64 k ∧ NoneTo (routeAt l) (List.range n) k ∧ Below w.heap.size w wr) (fun i _ _ _ _ _ _ _ _ _ => n - (intOf i).toNat)
  case atStart => exact ⟨0, by omega, rfl, rfl, Below.refl _ _⟩
  case round =>
    obtain ⟨k, hk, rfl, hto, hb⟩ := hrel
    have HT := Lib.hid hto
    have hszb := hb.size
    clear hto
    by_cases hlt : k < n
    · obtain ⟨ad, ⟨⟨six, hi, lo, pn⟩, hop⟩, rfl, hlk, htk, hmem, hbk, hc0, hcj⟩ := HR.out.atS RouteV.cells_length HZ.out hlt
      have q0 := (hb.cell (p := ad.add (k * 5)) (by rw [block_of_add]; exact hbk)).trans (hc0 _ rfl)
      have q1 := (hb.cell (p := ⟨(ad.add (k * 5)).block, (ad.add (k * 5)).off + 1, none⟩) (by rw [block_of_add]; exact hbk)).trans (hcj 1 _ rfl)
      have q2 := (hb.cell (p := ⟨(ad.add (k * 5)).block, (ad.add (k * 5)).off + 2, none⟩) (by rw [block_of_add]; exact hbk)).trans (hcj 2 _ rfl)
      have q3 := (hb.cell (p := ⟨(ad.add (k * 5)).block, (ad.add (k * 5)).off + 3, none⟩) (by rw [block_of_add]; exact hbk)).trans (hcj 3 _ rfl)
      have q4 := (hb.cell (p := ⟨(ad.add (k * 5)).block, (ad.add (k * 5)).off + 4, none⟩) (by rw [block_of_add]; exact hbk)).trans (hcj 4 _ rfl)
      obtain ⟨r1, r2, r3, r4⟩ := HOK.out _ hmem
      simp only at r1 r2 r3 r4
      have hfd : routeAt l k = routeF (l.take k) ⟨six, hi, lo, pn⟩ hop := by unfold routeAt; rw [hlk]
      have HF := Lib.hid hfd
      have HL := Lib.hid (range_at (n := n) hlt)
      have HK := Lib.hid (range_take (n := n) hlt)
      have CK := Lib.hid (fun w => preFault_any six hi lo pn w r1 r2)
      have HBO := Lib.hid hb
      have HRK := Lib.hid (reads_take RouteV.cells_length HZ.out hk HR.out)
      have HZK : Hid ((l.take k).length = k) := by show _ = _; rw [List.length_take, HZ.out]; omega
      obtain ⟨cv, hcv⟩ : ∃ cv, chk six hi lo pn = cv := ⟨_, rfl⟩
      have HCV : Hid (PV.chk ⟨six, hi, lo, pn⟩ = cv) := hcv
      rw [hcv] at CK
      have hkc : (k : Int) ≤ (c : Int) := by omega
      have hkc2 : (k : Int) ≤ 60 := by omega
      clear hlk htk hmem hbk hc0 hcj hfd hb hcv
      by_cases hck : cv = 0
      · subst hck
        by_cases c1 : hop < 1 ∨ 999 < hop
        · have HF2 : Hid (routeF (l.take k) ⟨six, hi, lo, pn⟩ hop = 2) := by show _ = _; unfold routeF; rw [if_neg (by rw [HCV.out]; simp), if_pos c1]
          have HFH := Lib.hid (fault_here HT.out HL.out HF.out H0.out HF2.out (by omega))
          go_wp2_with fail
          refine (CK.out _).mono ?_
          rintro e w1 ⟨rfl, hb1⟩
          obtain ⟨HB1, hs1, hx1⟩ := box1 (cs := [.bool six, .int .u64 hi, .int .u64 lo, .int .i64 pn, .int .i64 hop]) hb1
          have e4 := hx1 4 _ rfl
          have HB2 := Lib.hid (HBO.out.trans (HB1.mono hszb))
          clear hb1 HB1 hx1
          by_cases c2 : hop < 1
          · go_wp2
            go_ret
            exact ⟨ret_int HFH.out, HB2.out⟩
          · have c3 : 999 < hop := by omega
            go_wp2
            go_ret
            exact ⟨ret_int HFH.out, HB2.out⟩
        · have HF2 : Hid (routeF (l.take k) ⟨six, hi, lo, pn⟩ hop = if hasR (l.take k) ⟨six, hi, lo, pn⟩ = true then 8 else 0) := by show _ = _; unfold routeF; rw [if_neg (by rw [HCV.out]; simp), if_neg c1]
          have x1 : ¬ hop < 1 := by omega
          have x2 : ¬ 999 < hop := by omega
          clear c1
          generalize hlkk : l.take k = lk at *
          clear hlkk
          go_wp2_with fail
          refine (CK.out _).mono ?_
          rintro e w1 ⟨rfl, hb1⟩
          obtain ⟨HB1, hs1, hx1⟩ := box1 (cs := [.bool six, .int .u64 hi, .int .u64 lo, .int .i64 pn, .int .i64 hop]) hb1
          have e0 := hx1 0 _ rfl
          have e1 := hx1 1 _ rfl
          have e2 := hx1 2 _ rfl
          have e3 := hx1 3 _ rfl
          have e4 := hx1 4 _ rfl
          have HB2 := Lib.hid (HBO.out.trans (HB1.mono hszb))
          clear hb1 HB1 hx1 q0 q1 q2 q3 q4
          obtain ⟨wo, rfl⟩ : ∃ wo : World, wo = wr := ⟨_, rfl⟩
          go_wp2
          go_loopw [36, 2, 7] (fun i _ _ wy => ∃ j : Nat, j ≤ k ∧ i = .int .i64 j ∧ NoneYet (fun r : RouteV => decide (r.p = ⟨six, hi, lo, pn⟩)) lk j ∧ Below w1.heap.size w1 wy) (fun i _ _ _ => k - (intOf i).toNat)
          case atStart => exact ⟨0, by omega, rfl, noneYet_zero _ _, Below.refl _ _⟩
          case round =>
            obtain ⟨j, hj, rfl, hno, hbr⟩ := hrel
            have HN := Lib.hid hno
            have HBR := Lib.hid hbr
            have HB := Lib.hid (HB2.out.trans (hbr.mono HB2.out.size))
            have hb := HB.out
            obtain ⟨fc, ff⟩ := bcell hbr
            have s2 := hbr.size
            have g0 := (fc _ _ hs1).trans e0
            have g1 := (fc _ _ hs1).trans e1
            have g2 := (fc _ _ hs1).trans e2
            have g3 := (fc _ _ hs1).trans e3
            have g4 := (fc _ _ hs1).trans e4
            have s3 : wo.heap.size < wr.heap.size := by omega
            have s4 : ¬ wo.heap.size = wr.heap.size := by omega
            have s5 : ¬ wr.heap.size = wo.heap.size := by omega
            clear hno hbr
            by_cases hlt2 : j < k
            · obtain ⟨ad', ⟨⟨tsix, thi, tlo, tn⟩, thop⟩, hadd, hlk, htk, hmem, hbk, hc0, hcj⟩ := HRK.out.atS RouteV.cells_length HZK.out hlt2
              injection hadd with hadd
              subst hadd
              have q0 := (hb.cell (p := ad.add (j * 5)) (by rw [block_of_add]; exact hbk)).trans (hc0 _ rfl)
              have q1 := (hb.cell (p := ⟨(ad.add (j * 5)).block, (ad.add (j * 5)).off + 1, none⟩) (by rw [block_of_add]; exact hbk)).trans (hcj 1 _ rfl)
              have q2 := (hb.cell (p := ⟨(ad.add (j * 5)).block, (ad.add (j * 5)).off + 2, none⟩) (by rw [block_of_add]; exact hbk)).trans (hcj 2 _ rfl)
              have q3 := (hb.cell (p := ⟨(ad.add (j * 5)).block, (ad.add (j * 5)).off + 3, none⟩) (by rw [block_of_add]; exact hbk)).trans (hcj 3 _ rfl)
              have q4 := (hb.cell (p := ⟨(ad.add (j * 5)).block, (ad.add (j * 5)).off + 4, none⟩) (by rw [block_of_add]; exact hbk)).trans (hcj 4 _ rfl)
              have HLK2 := Lib.hid hlk
              have HTK2 := Lib.hid htk
              have HEQ := fun w => eqPV ⟨tsix, thi, tlo, tn⟩ ⟨six, hi, lo, pn⟩ w
              clear hlk htk hmem hbk hc0 hcj hb
              by_cases he : (⟨tsix, thi, tlo, tn⟩ : PV) = ⟨six, hi, lo, pn⟩
              · have HV : Hid (hasR lk ⟨six, hi, lo, pn⟩ = true) := by
                  show _ = _
                  unfold hasR
                  rw [List.any_eq_true]
                  exact ⟨_, List.mem_of_getElem? HLK2.out, by simpa using he⟩
                rw [decide_eq_true he] at HEQ
                unfold PV.val at HEQ
                simp only at HEQ
                clear he
                go_wp2
                go_ret
                exact ⟨ret_int (fault_here HT.out HL.out HF.out H0.out (HF2.out.trans (by rw [HV.out, if_pos rfl])) (by omega)), HB.out.alloc HB.out.size _⟩
              · have HN2 := Lib.hid (noneYet_succ HN.out HTK2.out (decide_eq_false he))
                rw [decide_eq_false he] at HEQ
                unfold PV.val at HEQ
                simp only at HEQ
                clear he
                go_wp2
                go_roundw
                case rel => exact ⟨j + 1, by omega, by go_num, HN2.out, HBR.out.alloc HBR.out.size _⟩
                case measure => simp [intOf]; omega
            · obtain rfl : j = k := by omega
              have HV : Hid (hasR lk ⟨six, hi, lo, pn⟩ = false) := by
                show _ = _
                unfold hasR
                rw [List.any_eq_false]
                intro x hx
                have := HN.out x (by rw [List.take_of_length_le (by rw [HZK.out]; omega)]; exact hx)
                simp only at this
                simp [this]
              clear hb
              go_wp2
              go_roundw
              case rel => exact ⟨j + 1, by omega, by go_num, noneTo_succ HT.out HK.out (HF.out.trans (HF2.out.trans (by rw [HV.out, if_neg (by simp)]))), HB.out⟩
              case measure => simp [intOf]; omega
      · have hck2 : (cv != 0) = true := by simpa using hck
        have HF2 : Hid (routeF (l.take k) ⟨six, hi, lo, pn⟩ hop = cv) := by show _ = _; unfold routeF; rw [HCV.out, if_pos hck]
        have HFH := Lib.hid (fault_here HT.out HL.out HF.out H0.out HF2.out hck)
        clear hck
        go_wp2_with fail
        refine (CK.out _).mono ?_
        rintro e w1 ⟨rfl, hb1⟩
        obtain ⟨HB1, hs1, _⟩ := box1 (cs := [.bool six, .int .u64 hi, .int .u64 lo, .int .i64 pn, .int .i64 hop]) hb1
        have HB2 := Lib.hid (HBO.out.trans (HB1.mono hszb))
        clear hb1 HB1
        go_wp2
        go_ret
        exact ⟨ret_int HFH.out, HB2.out⟩
    · obtain rfl : k = n := by omega
      have HR2 := Lib.hid (firstF_end HT.out (by simp))
      go_wp2
      go_ret
      exact ⟨ret_int (HR2.out.symm.trans H0.out.symm), hb⟩

set_option maxHeartbeats 400000 in
theorem tableFault_big (A : Option Addr) (n c : Nat) (w : World) (hn : 60 < n) (hm : n ≤ maxLen) :
    Calls Try.prog 42 #[.slice A n c] w fun e w' => e = .returned (.int .i64 1) ∧ Below w.heap.size w w' := by
  unfold maxLen at hm
  go_enter Try.func42, Try.ntmps42
  go_wp2
  go_ret
  exact ⟨rfl, Below.refl _ _⟩
theorem tableFault_is {A : Option Addr} {n c : Nat} {l : List RouteV} {w : World} (h : IsRoutes w A n c l) :
    Calls Try.prog 42 #[.slice A n c] w fun e w' => e = .returned (.int .i64 (routesF l)) ∧ Below w.heap.size w w' := by
  unfold routesF
  have h1 := h.1
  by_cases hn : 60 < l.length
  · rw [if_pos hn]
    exact tableFault_big A n c w (by omega) (by have := h.2.1; omega)
  · rw [if_neg hn]
    exact tableFault_any A n c l w (by omega) h.2.1.1 h.2.1.2 h1 h.2.2.1 h.2.2.2

set_option maxRecDepth 100000 in
set_option maxHeartbeats 400000 in
theorem tableChecks_walk {H : Type} {enc : TypeId × Value → H} (W : World) (vs : Array Value) (ds : List (DataW H)) (ps : List MemPlace) (h : ArgsOk Try.prog [33] H enc W vs.toList ds ps) :
    Calls Try.prog 9 vs W fun e W' => e = .returned (.bool true) ∧ Below W.heap.size W W' := by
  obtain ⟨hA, ⟨base, hval⟩, _, _⟩ := h
  obtain ⟨v0, d0, e0, _, h0⟩ := trodAll_one hA
  obtain ⟨a0, n, c, rfl⟩ := okWide_slice Try.underlying33 (hval 0 _ v0 rfl (by rw [e0]; rfl))
  obtain ⟨l, hr⟩ := open_routes h0
  obtain rfl : vs = #[.slice a0 n c] := by cases vs; simp_all
  generalize hg : routesF l = r
  have C1 := Lib.hid (fun (w : World) (hb : Below W.heap.size W w) => tableCheck_is (hr.below hb))
  have C2 := Lib.hid (fun (w : World) (hb : Below W.heap.size W w) => tableFault_is (hr.below hb))
  rw [hg] at C1 C2
  clear hr h0 hA hval e0 hg
  go_enter Try.func9, Try.ntmps9
  go_wp2_with fail
  refine (C1.out _ (Below.refl _ _)).mono ?_
  rintro e w1 ⟨rfl, hb1⟩
  go_wp2_with fail
  refine (C2.out _ hb1).mono ?_
  rintro e w2 ⟨rfl, hb2⟩
  go_wp2
  go_ret
  exact ⟨by simp, below_step hb1 hb2⟩

end Go.Proofs.Ytonelibgaceflaa

namespace Go.Proofs.Ytonelibgaceflaa
open Go.ChangeShapes Go.WideShapes Go.ChangeAt Go.RowKit

theorem firstF_zero2 {α : Type} {f : α → Int} : ∀ {l : List α}, firstF f l = 0 → ∀ x ∈ l, f x = 0
  | [], _, x, hx => by simp at hx
  | y :: l, h, x, hx => by
    unfold firstF at h
    by_cases hy : f y = 0
    · rw [if_pos hy] at h
      rcases List.mem_cons.1 hx with rfl | hx
      · exact hy
      · exact firstF_zero2 h x hx
    · rw [if_neg hy] at h
      exact absurd h hy
theorem valid_of {l : List RouteV} (ho : ∀ r ∈ l, r.Ok) (h : routesF l = 0) : Valid l ∧ l.length ≤ 60 := by
  unfold routesF at h
  by_cases hn : 60 < l.length
  · rw [if_pos hn] at h; omega
  rw [if_neg hn] at h
  have hz := firstF_zero2 h
  have key : ∀ k, k ≤ l.length → Valid (l.take k) := by
    intro k
    induction k with
    | zero => intro _; exact ⟨by simp, by simp⟩
    | succ k ih =>
      intro hk
      obtain ⟨r, hr⟩ : ∃ r, l[k]? = some r := ⟨l[k], List.getElem?_eq_getElem (by omega)⟩
      have h0 := hz k (List.mem_range.2 (by omega))
      unfold routeAt at h0
      rw [hr] at h0
      simp only at h0
      have hro := ho r (List.mem_of_getElem? hr)
      unfold routeF at h0
      by_cases h1 : r.p.chk = 0
      · rw [if_neg (by simp [h1])] at h0
        by_cases h2 : r.hop < 1 ∨ 999 < r.hop
        · rw [if_pos h2] at h0; omega
        · rw [if_neg h2] at h0
          by_cases h3 : hasR (l.take k) r.p = true
          · rw [if_pos h3] at h0; omega
          · rw [List.take_add_one, hr]
            obtain ⟨p, hop⟩ := r
            exact valid_snoc (ih (by omega)) (chk_zero hro.a hro.b h1) (by simp only at h2; omega) (by simpa using h3)
      · rw [if_pos (by simpa using h1)] at h0
        exact absurd h0 h1
  refine ⟨?_, by omega⟩
  have := key l.length (Nat.le_refl _)
  rwa [List.take_length] at this

/-- What Look says: hop, length, error. -/
def lookR (l : List RouteV) (six : Bool) (hi lo : Int) : Int × Int × Int :=
  if ¬ routesF l = 0 then (0, 0, routesF l) else if mayB six hi lo = false then (0, 0, 4) else ((goesR l six hi lo).1, (goesR l six hi lo).2, 0)
def Looked (r : Int × Int × Int) (w : World) (e : Ending) (w' : World) : Prop := e = .returned (.tuple #[.agg #[.int .i64 0, .int .i64 r.1, .int .i64 r.2.1], .int .i64 r.2.2]) ∧ Below w.heap.size w w'

set_option maxRecDepth 100000 in
set_option maxHeartbeats 1600000 in
theorem tableLook_is (A : Option Addr) (n c : Nat) (l : List RouteV) (six : Bool) (hi lo : Int) (w : World) (h : IsRoutes w A n c l) (h3 : 0 ≤ hi ∧ hi < 18446744073709551616) (h4 : 0 ≤ lo ∧ lo < 18446744073709551616) :
    Calls Try.prog 28 #[.slice A n c, .agg #[.bool six, .int .u64 hi, .int .u64 lo]] w (Looked (lookR l six hi lo) w) := by
  have CN := Lib.hid (fun (w' : World) (hb : Below w.heap.size w w') => new_is (h.below hb))
  have CM := Lib.hid (fun w => may_any six hi lo w h4.1)
  unfold Looked
  by_cases hz : routesF l = 0
  · have CN2 : Hid (∀ (w' : World) (_ : Below w.heap.size w w'), Calls Try.prog 75 #[.slice A n c] w' (NewPost l 0 w')) := by
      intro w' hb
      have := CN.out w' hb
      rwa [hz] at this
    clear CN
    cases hm : mayB six hi lo with
    | false =>
      have hr : lookR l six hi lo = (0, 0, 4) := by unfold lookR; rw [if_neg (by simp [hz]), if_pos hm]
      rw [hr]
      rw [hm] at CM
      clear hr hz hm h
      go_enter Try.func28, Try.ntmps28
      go_wp2_with fail
      refine (CN2.out _ (((Below.refl _ _).alloc (Nat.le_refl _) _).alloc (by simp) _)).mono ?_
      rintro e w1 ⟨hb1, ⟨hx, _⟩ | ⟨_, rfl, _, _⟩⟩
      · exact absurd rfl hx
      obtain ⟨fc, ff⟩ := bcell hb1
      obtain ⟨s1, s2⟩ := bsize2 hb1
      have HB := Lib.hid (balloc2 hb1)
      clear hb1
      go_wp2_with fail
      refine (CM.out _).mono ?_
      rintro e w2 ⟨rfl, hb2⟩
      obtain ⟨fc2, ff2⟩ := bcell hb2
      have HB2 := Lib.hid (below_step HB.out hb2)
      have s3 := hb2.size
      have s4 : w.heap.size + 1 < w2.heap.size := by omega
      clear hb2
      go_wp2
      refine bodyPost_ret (v := .tuple #[.agg #[.int .i64 0, .int .i64 0, .int .i64 0], .int .i64 4]) ?_ rfl ⟨rfl, ?_⟩
      · simp [results, Try.results28, go_sem, fc, fc2, s2]
      · (repeat' first | with_reducible exact HB2.out | with_reducible refine Below.drew ?_ | with_reducible refine below_drewN ?_ _ | with_reducible refine Below.setCell ?_ ?_ _ | (simp; done) | (simp; omega) | omega)
    | true =>
      have hr : lookR l six hi lo = ((goesR l six hi lo).1, (goesR l six hi lo).2, 0) := by unfold lookR; rw [if_neg (by simp [hz]), if_neg (by simp [hm])]
      rw [hr]
      have HAO : Hid (AV.Ok ⟨six, hi, lo⟩) := ⟨h3, h4, hm⟩
      rw [hm] at CM
      obtain ⟨res, hres⟩ : ∃ res, goesR l six hi lo = res := ⟨_, rfl⟩
      rw [hres]
      have HRES := Lib.hid hres
      clear hr hz hm h hres
      go_enter Try.func28, Try.ntmps28
      go_wp2_with fail
      refine (CN2.out _ (((Below.refl _ _).alloc (Nat.le_refl _) _).alloc (by simp) _)).mono ?_
      rintro e w1 ⟨hb1, ⟨hx, _⟩ | ⟨_, rfl, hhold, hval⟩⟩
      · exact absurd rfl hx
      obtain ⟨fc, ff⟩ := bcell hb1
      obtain ⟨s1, s2⟩ := bsize2 hb1
      have HB := Lib.hid (balloc2 hb1)
      have hhold2 : Holds w1 (w.heap.size + 1 + 1) (w.heap.size + 1 + 1) l := by simpa using hhold
      have HH := Lib.hid hhold2
      have HV := Lib.hid hval
      clear hb1 hhold hhold2 hval
      go_wp2_with fail
      refine (CM.out _).mono ?_
      rintro e w2 ⟨rfl, hb2⟩
      obtain ⟨fc2, ff2⟩ := bcell hb2
      have HB2 := Lib.hid (below_step HB.out hb2)
      have s3 := hb2.size
      have s4 : w.heap.size + 1 < w2.heap.size := by omega
      have s5 : w.heap.size < w2.heap.size := by omega
      obtain ⟨R, cc, hT, hI, hM, _⟩ := HH.out.below hb2
      have CL := Lib.hid (tlook_any hT hI six hi lo HAO.out)
      rw [look_goes HV.out (addr_pfx HAO.out) (hI six) (fun p hp h6 => by have := hM p hp; rw [h6] at this; exact this), HRES.out] at CL
      clear hb2 hT hI hM
      go_wp2_with fail
      refine CL.out.mono ?_
      rintro e w3 ⟨rfl, hb3⟩
      obtain ⟨fc3, ff3⟩ := bcell hb3
      have HB3 := Lib.hid (below_step HB2.out hb3)
      have s6 := hb3.size
      have s7 : w.heap.size + 1 < w3.heap.size := by omega
      clear hb3
      go_wp2
      refine bodyPost_ret (v := .tuple #[.agg #[.int .i64 0, .int .i64 res.1, .int .i64 res.2], .int .i64 0]) ?_ rfl ⟨rfl, ?_⟩
      · simp [results, Try.results28, go_sem, fc, fc2, fc3, s2, s4]
      · (repeat' first | with_reducible exact HB3.out | with_reducible refine Below.drew ?_ | with_reducible refine below_drewN ?_ _ | with_reducible refine Below.setCell ?_ ?_ _ | (simp; done) | (simp; omega) | omega)
  · have hr : lookR l six hi lo = (0, 0, routesF l) := by unfold lookR; rw [if_pos hz]
    rw [hr]
    obtain ⟨E, hE⟩ : ∃ E, routesF l = E := ⟨_, rfl⟩
    rw [hE] at hz CN ⊢
    have hzb : (E != 0) = true := by simpa using hz
    clear hr hE h CM
    go_enter Try.func28, Try.ntmps28
    go_wp2_with fail
    refine (CN.out _ (((Below.refl _ _).alloc (Nat.le_refl _) _).alloc (by simp) _)).mono ?_
    rintro e w1 ⟨hb1, ⟨_, rfl⟩ | ⟨hx, _⟩⟩
    · obtain ⟨fc, ff⟩ := bcell hb1
      obtain ⟨s1, s2⟩ := bsize2 hb1
      have HB := Lib.hid (balloc2 hb1)
      clear hb1
      go_wp2
      refine bodyPost_ret (v := .tuple #[.agg #[.int .i64 0, .int .i64 0, .int .i64 0], .int .i64 E]) ?_ rfl ⟨rfl, ?_⟩
      · simp [results, Try.results28, go_sem, fc]
      · (repeat' first | with_reducible exact HB.out | with_reducible refine Below.drew ?_ | with_reducible refine below_drewN ?_ _ | with_reducible refine Below.setCell ?_ ?_ _ | (simp; done) | (simp; omega) | omega)
    · exact absurd hx hz

set_option maxRecDepth 100000 in
set_option maxHeartbeats 1600000 in
theorem refLook_is (A : Option Addr) (n c : Nat) (l : List RouteV) (six : Bool) (hi lo : Int) (w : World) (h : IsRoutes w A n c l) (h3 : 0 ≤ hi ∧ hi < 18446744073709551616) (h4 : 0 ≤ lo ∧ lo < 18446744073709551616) :
    Calls Try.prog 43 #[.slice A n c, .agg #[.bool six, .int .u64 hi, .int .u64 lo]] w (Looked (lookR l six hi lo) w) := by
  have CF := Lib.hid (fun (w' : World) (hb : Below w.heap.size w w') => tableFault_is (h.below hb))
  have CM := Lib.hid (fun w => refMay_any six hi lo w h4.1)
  unfold Looked
  by_cases hz : routesF l = 0
  · rw [hz] at CF
    have hv := valid_of h.2.2.1 hz
    cases hm : mayB six hi lo with
    | false =>
      have hr : lookR l six hi lo = (0, 0, 4) := by unfold lookR; rw [if_neg (by simp [hz]), if_pos hm]
      rw [hr]
      rw [hm] at CM
      clear hr hz hm h hv
      go_enter Try.func43, Try.ntmps43
      go_wp2_with fail
      refine (CF.out _ (((Below.refl _ _).alloc (Nat.le_refl _) _).alloc (by simp) _)).mono ?_
      rintro e w1 ⟨rfl, hb1⟩
      obtain ⟨fc, ff⟩ := bcell hb1
      obtain ⟨s1, s2⟩ := bsize2 hb1
      have HB := Lib.hid (balloc2 hb1)
      clear hb1
      go_wp2_with fail
      refine (CM.out _).mono ?_
      rintro e w2 ⟨rfl, hb2⟩
      obtain ⟨fc2, ff2⟩ := bcell hb2
      have HB2 := Lib.hid (below_step HB.out hb2)
      have s3 := hb2.size
      have s4 : w.heap.size + 1 < w2.heap.size := by omega
      clear hb2
      go_wp2
      refine bodyPost_ret (v := .tuple #[.agg #[.int .i64 0, .int .i64 0, .int .i64 0], .int .i64 4]) ?_ rfl ⟨rfl, ?_⟩
      · simp [results, Try.results43, go_sem, fc, fc2, s2]
      · (repeat' first | with_reducible exact HB2.out | with_reducible refine Below.drew ?_ | with_reducible refine below_drewN ?_ _ | with_reducible refine Below.setCell ?_ ?_ _ | (simp; done) | (simp; omega) | omega)
    | true =>
      have hr : lookR l six hi lo = ((goesR l six hi lo).1, (goesR l six hi lo).2, 0) := by unfold lookR; rw [if_neg (by simp [hz]), if_neg (by simp [hm])]
      rw [hr]
      have hn60 : n ≤ 60 := by rw [← h.1]; exact hv.2
      have CG := Lib.hid (fun (w' : World) (hb : Below w.heap.size w w') => goes_any A n c l six hi lo w' (h.below hb) hv.1 ⟨h3, h4, hm⟩ hn60)
      rw [hm] at CM
      obtain ⟨res, hres⟩ : ∃ res, goesR l six hi lo = res := ⟨_, rfl⟩
      rw [hres] at CG ⊢
      clear hr hz hm h hres hv hn60
      go_enter Try.func43, Try.ntmps43
      go_wp2_with fail
      refine (CF.out _ (((Below.refl _ _).alloc (Nat.le_refl _) _).alloc (by simp) _)).mono ?_
      rintro e w1 ⟨rfl, hb1⟩
      obtain ⟨fc, ff⟩ := bcell hb1
      obtain ⟨s1, s2⟩ := bsize2 hb1
      have HB := Lib.hid (balloc2 hb1)
      clear hb1
      go_wp2_with fail
      refine (CM.out _).mono ?_
      rintro e w2 ⟨rfl, hb2⟩
      obtain ⟨fc2, ff2⟩ := bcell hb2
      have HB2 := Lib.hid (below_step HB.out hb2)
      have s3 := hb2.size
      have s4 : w.heap.size + 1 < w2.heap.size := by omega
      have s5 : w.heap.size < w2.heap.size := by omega
      clear hb2
      go_wp2_with fail
      refine (CG.out _ HB2.out).mono ?_
      rintro e w3 ⟨rfl, hb3⟩
      obtain ⟨fc3, ff3⟩ := bcell hb3
      have HB3 := Lib.hid (below_step HB2.out hb3)
      have s6 := hb3.size
      have s7 : w.heap.size + 1 < w3.heap.size := by omega
      clear hb3
      go_wp2
      refine bodyPost_ret (v := .tuple #[.agg #[.int .i64 0, .int .i64 res.1, .int .i64 res.2], .int .i64 0]) ?_ rfl ⟨rfl, ?_⟩
      · simp [results, Try.results43, go_sem, fc, fc2, fc3, s2, s4]
      · (repeat' first | with_reducible exact HB3.out | with_reducible refine Below.drew ?_ | with_reducible refine below_drewN ?_ _ | with_reducible refine Below.setCell ?_ ?_ _ | (simp; done) | (simp; omega) | omega)
  · have hr : lookR l six hi lo = (0, 0, routesF l) := by unfold lookR; rw [if_pos hz]
    rw [hr]
    obtain ⟨E, hE⟩ : ∃ E, routesF l = E := ⟨_, rfl⟩
    rw [hE] at hz CF ⊢
    have hzb : (E != 0) = true := by simpa using hz
    clear hr hE h CM hz
    go_enter Try.func43, Try.ntmps43
    go_wp2_with fail
    refine (CF.out _ (((Below.refl _ _).alloc (Nat.le_refl _) _).alloc (by simp) _)).mono ?_
    rintro e w1 ⟨rfl, hb1⟩
    obtain ⟨fc, ff⟩ := bcell hb1
    obtain ⟨s1, s2⟩ := bsize2 hb1
    have HB := Lib.hid (balloc2 hb1)
    clear hb1
    go_wp2
    refine bodyPost_ret (v := .tuple #[.agg #[.int .i64 0, .int .i64 0, .int .i64 0], .int .i64 E]) ?_ rfl ⟨rfl, ?_⟩
    · simp [results, Try.results43, go_sem, fc]
    · (repeat' first | with_reducible exact HB.out | with_reducible refine Below.drew ?_ | with_reducible refine below_drewN ?_ _ | with_reducible refine Below.setCell ?_ ?_ _ | (simp; done) | (simp; omega) | omega)

set_option maxRecDepth 100000 in
set_option maxHeartbeats 800000 in
theorem tableLooks_walk {H : Type} {enc : TypeId × Value → H} (W : World) (vs : Array Value) (ds : List (DataW H)) (ps : List MemPlace) (h : ArgsOk Try.prog [33, 24] H enc W vs.toList ds ps) :
    Calls Try.prog 10 vs W fun e W' => e = .returned (.bool true) ∧ Below W.heap.size W W' := by
  obtain ⟨hA, ⟨base, hval⟩, _, _⟩ := h
  obtain ⟨v0, v1, d0, d1, p0, p1, e0, _, _, h0, h1⟩ := trodAll_two hA
  obtain ⟨a0, n, c, rfl⟩ := okWide_slice Try.underlying33 (hval 0 _ v0 rfl (by rw [e0]; rfl))
  obtain ⟨l, hr⟩ := open_routes h0
  obtain ⟨six, hi, lo, rfl, b3, b4⟩ := open_addr (hval 1 _ v1 rfl (by rw [e0]; rfl)) h1
  obtain rfl : vs = #[.slice a0 n c, .agg #[.bool six, .int .u64 hi, .int .u64 lo]] := by cases vs; simp_all
  have C1 := Lib.hid (fun (w : World) (hb : Below W.heap.size W w) => tableLook_is a0 n c l six hi lo w (hr.below hb) b3 b4)
  have C2 := Lib.hid (fun (w : World) (hb : Below W.heap.size W w) => refLook_is a0 n c l six hi lo w (hr.below hb) b3 b4)
  unfold Looked at C1 C2
  generalize lookR l six hi lo = r at *
  clear hr h0 h1 hA hval e0
  go_enter Try.func10, Try.ntmps10
  go_wp2_with fail
  refine (C1.out _ ((Below.refl _ _).alloc (Nat.le_refl _) _)).mono ?_
  rintro e w1 ⟨rfl, hb1⟩
  obtain ⟨fc, ff⟩ := bcell hb1
  have s1 := bsize1 hb1
  have HB := Lib.hid (balloc1 hb1)
  clear hb1
  go_wp2_with fail
  refine (C2.out _ (HB.out.alloc HB.out.size _)).mono ?_
  rintro e w2 ⟨rfl, hb2⟩
  obtain ⟨fc2, ff2⟩ := bcell hb2
  have s2 := bsize1 hb2
  have HB2 := Lib.hid (below_step HB.out (balloc1 hb2))
  clear hb2
  go_wp2
  go_ret
  exact ⟨by simp, HB2.out.alloc HB2.out.size _⟩

end Go.Proofs.Ytonelibgaceflaa

namespace Go.Proofs.Ytonelibgaceflaa
open Go.ChangeShapes Go.WideShapes Go.ChangeAt Go.RowKit

set_option maxRecDepth 100000 in
set_option maxHeartbeats 800000 in
theorem sameRoutes_any (A A' : Option Addr) (n c n' c' : Nat) (l l' : List RouteV) (w : World) (hz : l.length = n) (hz' : l'.length = n') (hm : n ≤ maxLen) (hm' : n' ≤ maxLen)
    (hr : Reads w w.heap.size 5 A n (l.flatMap RouteV.cells)) (hr' : Reads w w.heap.size 5 A' n' (l'.flatMap RouteV.cells)) :
    Calls Try.prog 46 #[.slice A n c, .slice A' n' c'] w fun e w' => e = .returned (.bool (decide (l = l'))) ∧ Below w.heap.size w w' := by
  unfold maxLen at hm hm'
  by_cases hnn : n = n'
  · subst hnn
    have HZ := Lib.hid hz
    have HZ' := Lib.hid hz'
    have HR := Lib.hid hr
    have HR' := Lib.hid hr'
    obtain ⟨d, hd⟩ : ∃ d, d = decide (l = l') := ⟨_, rfl⟩
    rw [← hd]
    have HD := Lib.hid hd
    clear hz hz' hr hr' hm' hd
    go_enter Try.func46, Try.ntmps46
    go_wp2
    go_loopw [5, 4] (fun i _ wr => ∃ k : Nat, k ≤ n ∧ i = .int .i64 k ∧ l.take k = l'.take k ∧ Below w.heap.size w wr) (fun i _ _ => n - (intOf i).toNat)
    case atStart => exact ⟨0, by omega, rfl, rfl, Below.refl _ _⟩
    case round =>
      obtain ⟨k, hk, rfl, hto, hb⟩ := hrel
      have HT := Lib.hid hto
      clear hto
      by_cases hlt : k < n
      · obtain ⟨ad, ⟨⟨six, hi, lo, pn⟩, hop⟩, rfl, hlk, htk, hmem, hbk, hc0, hcj⟩ := HR.out.atS RouteV.cells_length HZ.out hlt
        have q0 := (hb.cell (p := ad.add (k * 5)) (by rw [block_of_add]; exact hbk)).trans (hc0 _ rfl)
        have q1 := (hb.cell (p := ⟨(ad.add (k * 5)).block, (ad.add (k * 5)).off + 1, none⟩) (by rw [block_of_add]; exact hbk)).trans (hcj 1 _ rfl)
        have q2 := (hb.cell (p := ⟨(ad.add (k * 5)).block, (ad.add (k * 5)).off + 2, none⟩) (by rw [block_of_add]; exact hbk)).trans (hcj 2 _ rfl)
        have q3 := (hb.cell (p := ⟨(ad.add (k * 5)).block, (ad.add (k * 5)).off + 3, none⟩) (by rw [block_of_add]; exact hbk)).trans (hcj 3 _ rfl)
        have q4 := (hb.cell (p := ⟨(ad.add (k * 5)).block, (ad.add (k * 5)).off + 4, none⟩) (by rw [block_of_add]; exact hbk)).trans (hcj 4 _ rfl)
        have HL := Lib.hid hlk
        have HTK := Lib.hid htk
        clear hlk htk hmem hc0 hcj
        obtain ⟨ad', ⟨⟨six', hi', lo', pn'⟩, hop'⟩, rfl, hlk, htk, hmem, hbk', hc0, hcj⟩ := HR'.out.atS RouteV.cells_length HZ'.out hlt
        have x0 := (hb.cell (p := ad'.add (k * 5)) (by rw [block_of_add]; exact hbk')).trans (hc0 _ rfl)
        have x1 := (hb.cell (p := ⟨(ad'.add (k * 5)).block, (ad'.add (k * 5)).off + 1, none⟩) (by rw [block_of_add]; exact hbk')).trans (hcj 1 _ rfl)
        have x2 := (hb.cell (p := ⟨(ad'.add (k * 5)).block, (ad'.add (k * 5)).off + 2, none⟩) (by rw [block_of_add]; exact hbk')).trans (hcj 2 _ rfl)
        have x3 := (hb.cell (p := ⟨(ad'.add (k * 5)).block, (ad'.add (k * 5)).off + 3, none⟩) (by rw [block_of_add]; exact hbk')).trans (hcj 3 _ rfl)
        have x4 := (hb.cell (p := ⟨(ad'.add (k * 5)).block, (ad'.add (k * 5)).off + 4, none⟩) (by rw [block_of_add]; exact hbk')).trans (hcj 4 _ rfl)
        have HL' := Lib.hid hlk
        have HTK' := Lib.hid htk
        have HEQ := fun w => eqRV ⟨⟨six, hi, lo, pn⟩, hop⟩ ⟨⟨six', hi', lo', pn'⟩, hop'⟩ w
        have HBO := Lib.hid hb
        clear hlk htk hmem hc0 hcj hb
        by_cases he : (⟨⟨six, hi, lo, pn⟩, hop⟩ : RouteV) = ⟨⟨six', hi', lo', pn'⟩, hop'⟩
        · have HN : Hid (l.take (k + 1) = l'.take (k + 1)) := by show _ = _; rw [HTK.out, HTK'.out, HT.out, he]
          rw [decide_eq_true he] at HEQ
          unfold RouteV.val at HEQ
          simp only at HEQ
          clear he
          go_wp2
          go_quiet (fail)
          go_wp2
          go_roundw
          case rel => exact ⟨k + 1, by omega, by go_num, HN.out, below_drewN HBO.out _⟩
          case measure => simp [intOf]; omega
        · have HN : Hid (d = false) := by
            show _ = _
            rw [HD.out, decide_eq_false_iff_not]
            intro h
            subst h
            rw [HL.out] at HL'
            have := HL'.out
            injection this with this
            exact he this
          rw [decide_eq_false he] at HEQ
          unfold RouteV.val at HEQ
          simp only at HEQ
          clear he
          go_wp2
          go_quiet (fail)
          go_wp2
          go_ret
          exact ⟨by rw [HN.out]; rfl, below_drewN HBO.out _⟩
      · obtain rfl : k = n := by omega
        have HN : Hid (d = true) := by
          show _ = _
          rw [HD.out, decide_eq_true_iff]
          have := HT.out
          rwa [List.take_of_length_le (by rw [HZ.out]; omega), List.take_of_length_le (by rw [HZ'.out]; omega)] at this
        go_wp2
        go_ret
        exact ⟨by rw [HN.out]; rfl, hb⟩
  · have hd : decide (l = l') = false := by rw [decide_eq_false_iff_not]; intro h; subst h; omega
    rw [hd]
    have hne : ¬ (n : Int) = n' := by omega
    clear hz hz' hr hr' hd
    go_enter Try.func46, Try.ntmps46
    go_wp2
    go_ret
    exact ⟨rfl, Below.refl _ _⟩

end Go.Proofs.Ytonelibgaceflaa

namespace Go.Proofs.Ytonelibgaceflaa
open Go.ChangeShapes Go.WideShapes Go.ChangeAt Go.RowKit

theorem infoRoute : (Try.prog.info? 37).map (fun i => (i.zero, i.size, i.bytes)) = some (some (.agg #[.bool false, .int .u64 0, .int .u64 0, .int .i64 0, .int .i64 0]), 5, 40) := by kernel_rfl
theorem own_slice {w : World} {base : Nat} {e : TypeId} {size n : Nat} {v : Value} {xs : List Value} (h : w.ownsRow base e size v n xs) : ∃ A c, v = .slice A n c := by
  rcases h.2 with ⟨rfl, rfl⟩ | ⟨g, cap, cur, rfl, _⟩
  · exact ⟨none, 0, rfl⟩
  · exact ⟨_, cap, rfl⟩
/-- The routes that rules let through. -/
def passR (l : List RuleV) (t : List RouteV) : List RouteV := t.filter fun r => firstYes (fun q => q.fits r.p.six r.p.hi r.p.lo r.p.n) l
theorem passR_snoc (l : List RuleV) (t : List RouteV) (r : RouteV) : passR l (t ++ [r]) = passR l t ++ if firstYes (fun q => q.fits r.p.six r.p.hi r.p.lo r.p.n) l = true then [r] else [] := by
  unfold passR
  rw [List.filter_append]
  congr 1
  by_cases h : firstYes (fun q => q.fits r.p.six r.p.hi r.p.lo r.p.n) l = true
  · rw [if_pos h, List.filter_cons_of_pos (by simpa using h)]; rfl
  · rw [if_neg h, List.filter_cons_of_neg (by simpa using h)]; rfl
theorem passR_le (l : List RuleV) (t : List RouteV) : (passR l t).length ≤ t.length := List.length_filter_le _ _
def filterF (l : List RuleV) (t : List RouteV) : Int := if ¬ rulesF l = 0 then rulesF l else routesF t
def filterR (l : List RuleV) (t : List RouteV) : List RouteV := if filterF l t = 0 then passR l t else []
def RetRoutes (w : World) (l : List RouteV) (E : Int) (e : Ending) (w' : World) : Prop :=
  ∃ v, e = .returned (.tuple #[v, .int .i64 E]) ∧ w'.ownsRow w.heap.size 37 5 v l.length (l.flatMap RouteV.cells) ∧ Below w.heap.size w w'

set_option maxRecDepth 100000 in
set_option maxHeartbeats 3200000 in
theorem filter_ok (A : Option Addr) (n c : Nat) (l : List RuleV) (A2 : Option Addr) (n2 c2 : Nat) (t : List RouteV) (w : World) (h : IsRules w A n l) (ht : IsRoutes w A2 n2 c2 t) (hz : rulesF l = 0) (hz2 : routesF t = 0) :
    Calls Try.prog 44 #[.slice A n c, .slice A2 n2 c2] w (RetRoutes w (passR l t) 0) := by
  have C1 := Lib.hid (fun (w' : World) (hb : Below w.heap.size w w') => rulesCheck_is (h.below hb) c)
  have C2 := Lib.hid (fun (w' : World) (hb : Below w.heap.size w w') => tableCheck_is (ht.below hb))
  rw [hz] at C1
  rw [hz2] at C2
  have hv := valid_of ht.2.2.1 hz2
  have HV := Lib.hid hv.1
  have hn60 : n2 ≤ 60 := by rw [← ht.1]; exact hv.2
  have HZ := Lib.hid ht.1
  have HR := Lib.hid ht.2.2.2
  have HM : Hid (∀ r ∈ l, r.Mid) := fun r hr => fault_mid (h.2.2.1 r hr) (rulesF_all hz r hr)
  have HRU := Lib.hid h
  have HRZ := Lib.hid hz
  have HC : Hid (∀ (r : RouteV) (w' : World), r ∈ t → Below w.heap.size w w' → Calls Try.prog 97 #[.slice A n c, .agg #[.bool r.p.six, .int .u64 r.p.hi, .int .u64 r.p.lo, .int .i64 r.p.n]] w' fun e w'' => e = .returned (.tuple #[.bool (firstYes (fun q => RuleV.fits q r.p.six r.p.hi r.p.lo r.p.n) l), .int .i64 (firstAt (fun q => RuleV.fits q r.p.six r.p.hi r.p.lo r.p.n) l)]) ∧ Below w'.heap.size w' w'') := by
    intro r w' hr hb
    have hp := (HV.out.1 r hr).1
    exact pass_any A n c l r.p.six r.p.hi r.p.lo r.p.n w' (Pfx.rhi hp) (Pfx.rlo hp) (fun hs => by have := Pfx.may hp; rw [hs] at this; exact (mayB_four this).2) (HRU.out.below hb) HM.out
  have hcb := ht.2.1
  unfold maxLen at hcb
  clear h ht hz hz2 hv
  unfold RetRoutes
  go_enter Try.func44, Try.ntmps44
  go_wp2_with fail
  refine (C1.out _ (Below.refl _ _)).mono ?_
  rintro e w1 ⟨rfl, hb1⟩
  go_wp2_with fail
  refine (C2.out _ hb1).mono ?_
  rintro e w2 ⟨rfl, hb2⟩
  have HB0 := Lib.hid (below_step hb1 hb2)
  clear hb1 hb2
  go_wp2
  go_loopw [8, 25, 10, 11, 12] (fun v i _ _ _ wr => ∃ k : Nat, k ≤ n2 ∧ i = .int .i64 k ∧ wr.ownsRow w.heap.size 37 5 v (passR l (t.take k)).length ((passR l (t.take k)).flatMap RouteV.cells) ∧ Below w.heap.size w wr) (fun _ i _ _ _ _ => n2 - (intOf i).toNat)
  case atStart => exact ⟨0, by omega, rfl, World.ownsRow_nil _ _ _ _, HB0.out⟩
  case round =>
    obtain ⟨k, hk, rfl, hown, hb⟩ := hrel
    have HOW := Lib.hid hown
    clear hown
    by_cases hlt : k < n2
    · obtain ⟨ad, ⟨⟨rsix, rhi, rlo, pn⟩, hop⟩, rfl, hlk, htk, hmem, hbk, hc0, hcj⟩ := HR.out.atS RouteV.cells_length HZ.out hlt
      have q0 := (hb.cell (p := ad.add (k * 5)) (by rw [block_of_add]; exact hbk)).trans (hc0 _ rfl)
      have q1 := (hb.cell (p := ⟨(ad.add (k * 5)).block, (ad.add (k * 5)).off + 1, none⟩) (by rw [block_of_add]; exact hbk)).trans (hcj 1 _ rfl)
      have q2 := (hb.cell (p := ⟨(ad.add (k * 5)).block, (ad.add (k * 5)).off + 2, none⟩) (by rw [block_of_add]; exact hbk)).trans (hcj 2 _ rfl)
      have q3 := (hb.cell (p := ⟨(ad.add (k * 5)).block, (ad.add (k * 5)).off + 3, none⟩) (by rw [block_of_add]; exact hbk)).trans (hcj 3 _ rfl)
      have q4 := (hb.cell (p := ⟨(ad.add (k * 5)).block, (ad.add (k * 5)).off + 4, none⟩) (by rw [block_of_add]; exact hbk)).trans (hcj 4 _ rfl)
      have CP := Lib.hid (fun w' hb => HC.out _ w' hmem hb)
      have hle := passR_le l (t.take k)
      have hle2 : (t.take k).length ≤ k := by rw [List.length_take]; omega
      have HT : Hid (passR l (t.take (k + 1)) = passR l (t.take k) ++ if firstYes (fun q => q.fits rsix rhi rlo pn) l = true then [⟨⟨rsix, rhi, rlo, pn⟩, hop⟩] else []) := by show _ = _; rw [htk, passR_snoc]
      simp only at CP
      have HBO := Lib.hid hb
      have hszb := hb.size
      generalize firstYes (fun q => RuleV.fits q rsix rhi rlo pn) l = yv at *
      generalize firstAt (fun q => RuleV.fits q rsix rhi rlo pn) l = iv at *
      clear hlk htk hmem hbk hc0 hcj hb
      generalize passR l (t.take k) = done at *
      cases yv with
      | false =>
        have HT2 : Hid (passR l (t.take (k + 1)) = done) := by show _ = _; rw [HT.out, if_neg (by simp), List.append_nil]
        clear HT
        go_wp2_with fail
        refine (CP.out _ (HBO.out.alloc HBO.out.size _)).mono ?_
        rintro e w3 ⟨rfl, hb3⟩
        have HB3 : Hid (Below wr.heap.size wr w3) := balloc1 hb3
        clear hb3
        go_wp2
        go_roundw
        case rel => exact ⟨k + 1, by omega, by go_num, by rw [HT2.out]; exact own_below HOW.out HB3.out, below_step HBO.out HB3.out⟩
        case measure => simp [intOf]; omega
      | true =>
        have HT2 : Hid (passR l (t.take (k + 1)) = done ++ [⟨⟨rsix, rhi, rlo, pn⟩, hop⟩]) := by show _ = _; rw [HT.out, if_pos rfl]
        clear HT
        go_wp2_with fail
        refine (CP.out _ (HBO.out.alloc HBO.out.size _)).mono ?_
        rintro e w3 ⟨rfl, hb3⟩
        obtain ⟨fc, ff⟩ := bcell hb3
        have hs3 := hb3.size
        simp at hs3
        have HB3 : Hid (Below wr.heap.size wr w3) := balloc1 hb3
        have l3 : wr.heap.size < w3.heap.size := by omega
        have HOW3 := Lib.hid (own_below HOW.out HB3.out)
        have HB4 := Lib.hid (below_step HBO.out HB3.out)
        clear hb3
        go_wp2_with (at_builtin; go_loud (refine wpList_append_oneN rfl _ _ 33 rfl w.heap.size (.agg #[.bool false, .int .u64 0, .int .u64 0, .int .i64 0, .int .i64 0]) 5 40 Try.underlying33 infoRoute rfl (by decide) _ _ _ rfl rfl ?c0 HOW3.out ?c1 rfl ?c2 ?c3 ?c4 ?_))
        case c0 => (try simp); done
        case c1 => have := HB4.out.size; omega
        case c2 => intro u hu; simp at hu; rcases hu with rfl | rfl | rfl | rfl | rfl <;> rfl
        case c3 => unfold maxLen; omega
        case c4 => omega
        intro v' w' hown' hb' hs' _
        have HOW4 : Hid (w'.ownsRow w.heap.size 37 5 v' (passR l (t.take (k + 1))).length ((passR l (t.take (k + 1))).flatMap RouteV.cells)) := by
          show World.ownsRow _ _ _ _ _ _ _
          rw [HT2.out, List.length_append, List.flatMap_append]
          exact hown'
        have HB5 := Lib.hid (HB4.out.trans hb')
        clear hown' hb'
        go_wp2
        go_roundw
        case rel => exact ⟨k + 1, by omega, by go_num, HOW4.out, HB5.out⟩
        case measure => simp [intOf]; omega
    · obtain rfl : k = n2 := by omega
      have HOW2 := HOW.out
      rw [List.take_of_length_le (by rw [HZ.out]; omega)] at HOW2
      go_wp2
      go_ret2
      exact ⟨_, rfl, HOW2, hb⟩

set_option maxRecDepth 100000 in
set_option maxHeartbeats 800000 in
theorem filter_bad1 (A : Option Addr) (n c : Nat) (l : List RuleV) (A2 : Option Addr) (n2 c2 : Nat) (w : World) (h : IsRules w A n l) (hz : ¬ rulesF l = 0) :
    Calls Try.prog 44 #[.slice A n c, .slice A2 n2 c2] w (RetRoutes w [] (rulesF l)) := by
  have C1 := Lib.hid (rulesCheck_is h c)
  obtain ⟨E, hE⟩ : ∃ E, rulesF l = E := ⟨_, rfl⟩
  rw [hE] at hz C1 ⊢
  have hzb : (E != 0) = true := by simpa using hz
  clear h hz hE
  unfold RetRoutes
  go_enter Try.func44, Try.ntmps44
  go_wp2_with fail
  refine C1.out.mono ?_
  rintro e w1 ⟨rfl, hb1⟩
  go_wp2
  go_ret2
  exact ⟨_, rfl, World.ownsRow_nil _ _ _ _, hb1⟩

set_option maxRecDepth 100000 in
set_option maxHeartbeats 800000 in
theorem filter_bad2 (A : Option Addr) (n c : Nat) (l : List RuleV) (A2 : Option Addr) (n2 c2 : Nat) (t : List RouteV) (w : World) (h : IsRules w A n l) (ht : IsRoutes w A2 n2 c2 t) (hz : rulesF l = 0) (hz2 : ¬ routesF t = 0) :
    Calls Try.prog 44 #[.slice A n c, .slice A2 n2 c2] w (RetRoutes w [] (routesF t)) := by
  have C1 := Lib.hid (rulesCheck_is h c)
  have C2 := Lib.hid (fun (w' : World) (hb : Below w.heap.size w w') => tableCheck_is (ht.below hb))
  rw [hz] at C1
  obtain ⟨E, hE⟩ : ∃ E, routesF t = E := ⟨_, rfl⟩
  rw [hE] at hz2 C2 ⊢
  have hzb : (E != 0) = true := by simpa using hz2
  clear h ht hz hz2 hE
  unfold RetRoutes
  go_enter Try.func44, Try.ntmps44
  go_wp2_with fail
  refine C1.out.mono ?_
  rintro e w1 ⟨rfl, hb1⟩
  have HB1 := Lib.hid hb1
  clear hb1
  go_wp2_with fail
  refine (C2.out _ HB1.out).mono ?_
  rintro e w2 ⟨rfl, hb2⟩
  have HB2 := Lib.hid (below_step HB1.out hb2)
  clear hb2
  go_wp2
  go_ret2
  exact ⟨_, rfl, World.ownsRow_nil _ _ _ _, HB2.out⟩

theorem filter_is (A : Option Addr) (n c : Nat) (l : List RuleV) (A2 : Option Addr) (n2 c2 : Nat) (t : List RouteV) (w : World) (h : IsRules w A n l) (ht : IsRoutes w A2 n2 c2 t) :
    Calls Try.prog 44 #[.slice A n c, .slice A2 n2 c2] w (RetRoutes w (filterR l t) (filterF l t)) := by
  by_cases hz : rulesF l = 0
  · have hf : filterF l t = routesF t := by unfold filterF; rw [if_neg (by simp [hz])]
    by_cases hz2 : routesF t = 0
    · have hr : filterR l t = passR l t := by unfold filterR; rw [if_pos (by rw [hf, hz2])]
      rw [hr, hf, hz2]
      exact filter_ok A n c l A2 n2 c2 t w h ht hz hz2
    · have hr : filterR l t = [] := by unfold filterR; rw [if_neg (by rw [hf]; exact hz2)]
      rw [hr, hf]
      exact filter_bad2 A n c l A2 n2 c2 t w h ht hz hz2
  · have hf : filterF l t = rulesF l := by unfold filterF; rw [if_pos hz]
    have hr : filterR l t = [] := by unfold filterR; rw [if_neg (by rw [hf]; exact hz)]
    rw [hr, hf]
    exact filter_bad1 A n c l A2 n2 c2 w h hz

set_option maxRecDepth 100000 in
set_option maxHeartbeats 3200000 in
theorem refFilter_ok (A : Option Addr) (n c : Nat) (l : List RuleV) (A2 : Option Addr) (n2 c2 : Nat) (t : List RouteV) (w : World) (h : IsRules w A n l) (ht : IsRoutes w A2 n2 c2 t) (hz : rulesF l = 0) (hz2 : routesF t = 0) :
    Calls Try.prog 45 #[.slice A n c, .slice A2 n2 c2] w (RetRoutes w (passR l t) 0) := by
  have C1 := Lib.hid (fun (w' : World) (hb : Below w.heap.size w w') => rulesFault_is (h.below hb) c)
  have C2 := Lib.hid (fun (w' : World) (hb : Below w.heap.size w w') => tableFault_is (ht.below hb))
  rw [hz] at C1
  rw [hz2] at C2
  have hv := valid_of ht.2.2.1 hz2
  have HV := Lib.hid hv.1
  have hn60 : n2 ≤ 60 := by rw [← ht.1]; exact hv.2
  have HZ := Lib.hid ht.1
  have HR := Lib.hid ht.2.2.2
  have HM : Hid (∀ r ∈ l, r.Mid) := fun r hr => fault_mid (h.2.2.1 r hr) (rulesF_all hz r hr)
  have HRU := Lib.hid h
  have HRZ := Lib.hid hz
  have HC : Hid (∀ (r : RouteV) (w' : World), r ∈ t → Below w.heap.size w w' → Calls Try.prog 98 #[.slice A n c, .agg #[.bool r.p.six, .int .u64 r.p.hi, .int .u64 r.p.lo, .int .i64 r.p.n]] w' fun e w'' => e = .returned (.tuple #[.bool (firstYes (fun q => RuleV.fits q r.p.six r.p.hi r.p.lo r.p.n) l), .int .i64 (firstAt (fun q => RuleV.fits q r.p.six r.p.hi r.p.lo r.p.n) l), .int .i64 0]) ∧ Below w'.heap.size w' w'') := by
    intro r w' hr hb
    have hp := (HV.out.1 r hr).1
    exact rpass_ok A n c l r.p.six r.p.hi r.p.lo r.p.n w' (Pfx.rhi hp) (Pfx.rlo hp) (HRU.out.below hb) HRZ.out (chk_of hp)
  have hcb := ht.2.1
  unfold maxLen at hcb
  clear h ht hz hz2 hv
  unfold RetRoutes
  go_enter Try.func45, Try.ntmps45
  go_wp2_with fail
  refine (C1.out _ (Below.refl _ _)).mono ?_
  rintro e w1 ⟨rfl, hb1⟩
  go_wp2_with fail
  refine (C2.out _ hb1).mono ?_
  rintro e w2 ⟨rfl, hb2⟩
  have HB0 := Lib.hid (below_step hb1 hb2)
  clear hb1 hb2
  go_wp2
  go_loopw [8, 26, 10, 11, 12, 13] (fun v i _ _ _ _ wr => ∃ k : Nat, k ≤ n2 ∧ i = .int .i64 k ∧ wr.ownsRow w.heap.size 37 5 v (passR l (t.take k)).length ((passR l (t.take k)).flatMap RouteV.cells) ∧ Below w.heap.size w wr) (fun _ i _ _ _ _ _ => n2 - (intOf i).toNat)
  case atStart => exact ⟨0, by omega, rfl, World.ownsRow_nil _ _ _ _, HB0.out⟩
  case round =>
    obtain ⟨k, hk, rfl, hown, hb⟩ := hrel
    have HOW := Lib.hid hown
    clear hown
    by_cases hlt : k < n2
    · obtain ⟨ad, ⟨⟨rsix, rhi, rlo, pn⟩, hop⟩, rfl, hlk, htk, hmem, hbk, hc0, hcj⟩ := HR.out.atS RouteV.cells_length HZ.out hlt
      have q0 := (hb.cell (p := ad.add (k * 5)) (by rw [block_of_add]; exact hbk)).trans (hc0 _ rfl)
      have q1 := (hb.cell (p := ⟨(ad.add (k * 5)).block, (ad.add (k * 5)).off + 1, none⟩) (by rw [block_of_add]; exact hbk)).trans (hcj 1 _ rfl)
      have q2 := (hb.cell (p := ⟨(ad.add (k * 5)).block, (ad.add (k * 5)).off + 2, none⟩) (by rw [block_of_add]; exact hbk)).trans (hcj 2 _ rfl)
      have q3 := (hb.cell (p := ⟨(ad.add (k * 5)).block, (ad.add (k * 5)).off + 3, none⟩) (by rw [block_of_add]; exact hbk)).trans (hcj 3 _ rfl)
      have q4 := (hb.cell (p := ⟨(ad.add (k * 5)).block, (ad.add (k * 5)).off + 4, none⟩) (by rw [block_of_add]; exact hbk)).trans (hcj 4 _ rfl)
      have CP := Lib.hid (fun w' hb => HC.out _ w' hmem hb)
      have hle := passR_le l (t.take k)
      have hle2 : (t.take k).length ≤ k := by rw [List.length_take]; omega
      have HT : Hid (passR l (t.take (k + 1)) = passR l (t.take k) ++ if firstYes (fun q => q.fits rsix rhi rlo pn) l = true then [⟨⟨rsix, rhi, rlo, pn⟩, hop⟩] else []) := by show _ = _; rw [htk, passR_snoc]
      simp only at CP
      have HBO := Lib.hid hb
      have hszb := hb.size
      generalize firstYes (fun q => RuleV.fits q rsix rhi rlo pn) l = yv at *
      generalize firstAt (fun q => RuleV.fits q rsix rhi rlo pn) l = iv at *
      clear hlk htk hmem hbk hc0 hcj hb
      generalize passR l (t.take k) = done at *
      cases yv with
      | false =>
        have HT2 : Hid (passR l (t.take (k + 1)) = done) := by show _ = _; rw [HT.out, if_neg (by simp), List.append_nil]
        clear HT
        go_wp2_with fail
        refine (CP.out _ (HBO.out.alloc HBO.out.size _)).mono ?_
        rintro e w3 ⟨rfl, hb3⟩
        have HB3 : Hid (Below wr.heap.size wr w3) := balloc1 hb3
        clear hb3
        go_wp2
        go_roundw
        case rel => exact ⟨k + 1, by omega, by go_num, by rw [HT2.out]; exact own_below HOW.out HB3.out, below_step HBO.out HB3.out⟩
        case measure => simp [intOf]; omega
      | true =>
        have HT2 : Hid (passR l (t.take (k + 1)) = done ++ [⟨⟨rsix, rhi, rlo, pn⟩, hop⟩]) := by show _ = _; rw [HT.out, if_pos rfl]
        clear HT
        go_wp2_with fail
        refine (CP.out _ (HBO.out.alloc HBO.out.size _)).mono ?_
        rintro e w3 ⟨rfl, hb3⟩
        obtain ⟨fc, ff⟩ := bcell hb3
        have hs3 := hb3.size
        simp at hs3
        have HB3 : Hid (Below wr.heap.size wr w3) := balloc1 hb3
        have l3 : wr.heap.size < w3.heap.size := by omega
        have HOW3 := Lib.hid (own_below HOW.out HB3.out)
        have HB4 := Lib.hid (below_step HBO.out HB3.out)
        clear hb3
        go_wp2_with (at_builtin; go_loud (refine wpList_append_oneN rfl _ _ 33 rfl w.heap.size (.agg #[.bool false, .int .u64 0, .int .u64 0, .int .i64 0, .int .i64 0]) 5 40 Try.underlying33 infoRoute rfl (by decide) _ _ _ rfl rfl ?c0 HOW3.out ?c1 rfl ?c2 ?c3 ?c4 ?_))
        case c0 => (try simp); done
        case c1 => have := HB4.out.size; omega
        case c2 => intro u hu; simp at hu; rcases hu with rfl | rfl | rfl | rfl | rfl <;> rfl
        case c3 => unfold maxLen; omega
        case c4 => omega
        intro v' w' hown' hb' hs' _
        have HOW4 : Hid (w'.ownsRow w.heap.size 37 5 v' (passR l (t.take (k + 1))).length ((passR l (t.take (k + 1))).flatMap RouteV.cells)) := by
          show World.ownsRow _ _ _ _ _ _ _
          rw [HT2.out, List.length_append, List.flatMap_append]
          exact hown'
        have HB5 := Lib.hid (HB4.out.trans hb')
        clear hown' hb'
        go_wp2
        go_roundw
        case rel => exact ⟨k + 1, by omega, by go_num, HOW4.out, HB5.out⟩
        case measure => simp [intOf]; omega
    · obtain rfl : k = n2 := by omega
      have HOW2 := HOW.out
      rw [List.take_of_length_le (by rw [HZ.out]; omega)] at HOW2
      go_wp2
      go_ret2
      exact ⟨_, rfl, HOW2, hb⟩

set_option maxRecDepth 100000 in
set_option maxHeartbeats 800000 in
theorem refFilter_bad1 (A : Option Addr) (n c : Nat) (l : List RuleV) (A2 : Option Addr) (n2 c2 : Nat) (w : World) (h : IsRules w A n l) (hz : ¬ rulesF l = 0) :
    Calls Try.prog 45 #[.slice A n c, .slice A2 n2 c2] w (RetRoutes w [] (rulesF l)) := by
  have C1 := Lib.hid (rulesFault_is h c)
  obtain ⟨E, hE⟩ : ∃ E, rulesF l = E := ⟨_, rfl⟩
  rw [hE] at hz C1 ⊢
  have hzb : (E != 0) = true := by simpa using hz
  clear h hz hE
  unfold RetRoutes
  go_enter Try.func45, Try.ntmps45
  go_wp2_with fail
  refine C1.out.mono ?_
  rintro e w1 ⟨rfl, hb1⟩
  go_wp2
  go_ret2
  exact ⟨_, rfl, World.ownsRow_nil _ _ _ _, hb1⟩

set_option maxRecDepth 100000 in
set_option maxHeartbeats 800000 in
theorem refFilter_bad2 (A : Option Addr) (n c : Nat) (l : List RuleV) (A2 : Option Addr) (n2 c2 : Nat) (t : List RouteV) (w : World) (h : IsRules w A n l) (ht : IsRoutes w A2 n2 c2 t) (hz : rulesF l = 0) (hz2 : ¬ routesF t = 0) :
    Calls Try.prog 45 #[.slice A n c, .slice A2 n2 c2] w (RetRoutes w [] (routesF t)) := by
  have C1 := Lib.hid (rulesFault_is h c)
  have C2 := Lib.hid (fun (w' : World) (hb : Below w.heap.size w w') => tableFault_is (ht.below hb))
  rw [hz] at C1
  obtain ⟨E, hE⟩ : ∃ E, routesF t = E := ⟨_, rfl⟩
  rw [hE] at hz2 C2 ⊢
  have hzb : (E != 0) = true := by simpa using hz2
  clear h ht hz hz2 hE
  unfold RetRoutes
  go_enter Try.func45, Try.ntmps45
  go_wp2_with fail
  refine C1.out.mono ?_
  rintro e w1 ⟨rfl, hb1⟩
  have HB1 := Lib.hid hb1
  clear hb1
  go_wp2_with fail
  refine (C2.out _ HB1.out).mono ?_
  rintro e w2 ⟨rfl, hb2⟩
  have HB2 := Lib.hid (below_step HB1.out hb2)
  clear hb2
  go_wp2
  go_ret2
  exact ⟨_, rfl, World.ownsRow_nil _ _ _ _, HB2.out⟩

theorem refFilter_is (A : Option Addr) (n c : Nat) (l : List RuleV) (A2 : Option Addr) (n2 c2 : Nat) (t : List RouteV) (w : World) (h : IsRules w A n l) (ht : IsRoutes w A2 n2 c2 t) :
    Calls Try.prog 45 #[.slice A n c, .slice A2 n2 c2] w (RetRoutes w (filterR l t) (filterF l t)) := by
  by_cases hz : rulesF l = 0
  · have hf : filterF l t = routesF t := by unfold filterF; rw [if_neg (by simp [hz])]
    by_cases hz2 : routesF t = 0
    · have hr : filterR l t = passR l t := by unfold filterR; rw [if_pos (by rw [hf, hz2])]
      rw [hr, hf, hz2]
      exact refFilter_ok A n c l A2 n2 c2 t w h ht hz hz2
    · have hr : filterR l t = [] := by unfold filterR; rw [if_neg (by rw [hf]; exact hz2)]
      rw [hr, hf]
      exact refFilter_bad2 A n c l A2 n2 c2 t w h ht hz hz2
  · have hf : filterF l t = rulesF l := by unfold filterF; rw [if_pos hz]
    have hr : filterR l t = [] := by unfold filterR; rw [if_neg (by rw [hf]; exact hz)]
    rw [hr, hf]
    exact refFilter_bad1 A n c l A2 n2 c2 w h hz

set_option maxRecDepth 100000 in
set_option maxHeartbeats 800000 in
theorem ruleFilters_walk {H : Type} {enc : TypeId × Value → H} (W : World) (vs : Array Value) (ds : List (DataW H)) (ps : List MemPlace) (h : ArgsOk Try.prog [43, 33] H enc W vs.toList ds ps) :
    Calls Try.prog 11 vs W fun e W' => e = .returned (.bool true) ∧ Below W.heap.size W W' := by
  obtain ⟨hA, ⟨base, hval⟩, _, _⟩ := h
  obtain ⟨v0, v1, d0, d1, p0, p1, e0, _, _, h0, h1⟩ := trodAll_two hA
  obtain ⟨a0, n, c, rfl⟩ := okWide_slice Try.underlying43 (hval 0 _ v0 rfl (by rw [e0]; rfl))
  obtain ⟨l, hr⟩ := open_rules h0
  obtain ⟨a1, n1, c1, rfl⟩ := okWide_slice Try.underlying33 (hval 1 _ v1 rfl (by rw [e0]; rfl))
  obtain ⟨t, ht⟩ := open_routes h1
  obtain rfl : vs = #[.slice a0 n c, .slice a1 n1 c1] := by cases vs; simp_all
  have C1 := Lib.hid (fun (w : World) (hb : Below W.heap.size W w) => filter_is a0 n c l a1 n1 c1 t w (hr.below hb) (ht.below hb))
  have C2 := Lib.hid (fun (w : World) (hb : Below W.heap.size W w) => refFilter_is a0 n c l a1 n1 c1 t w (hr.below hb) (ht.below hb))
  have hlen : (filterR l t).length ≤ t.length := by unfold filterR; split; exact passR_le l t; simp
  have htl := ht.1
  have htc := ht.2.1
  generalize filterR l t = r at *
  generalize filterF l t = E at *
  unfold RetRoutes at C1 C2
  clear hr ht h0 h1 hA hval e0
  go_enter Try.func11, Try.ntmps11
  go_wp2_with fail
  refine (C1.out _ (Below.refl _ _)).mono ?_
  rintro e w1 ⟨v1, rfl, ho1, hb1⟩
  obtain ⟨A1, k1, rfl⟩ := own_slice ho1
  have HO1 := Lib.hid ho1
  have HB1 := Lib.hid hb1
  clear ho1 hb1
  go_wp2_with fail
  refine (C2.out _ HB1.out).mono ?_
  rintro e w2 ⟨v2, rfl, ho2, hb2⟩
  obtain ⟨A2, k2, rfl⟩ := own_slice ho2
  have CS := Lib.hid (sameRoutes_any A1 A2 r.length k1 r.length k2 r r w2 rfl rfl (by omega) (by omega) (Reads.of_own (own_below HO1.out hb2)) (Reads.of_own ho2))
  rw [decide_eq_true rfl] at CS
  have HB2 := Lib.hid (below_step HB1.out hb2)
  clear ho2 hb2
  go_wp2_with fail
  refine CS.out.mono ?_
  rintro e w3 ⟨rfl, hb3⟩
  go_wp2
  go_ret
  exact ⟨by simp, below_step HB2.out hb3⟩

end Go.Proofs.Ytonelibgaceflaa
