/-
  
  
  
-/
import Derived.Test.YtmljdjakbbedlaaC3
import Derived.Test.YtmljdjakbbedlaaC5
import Derived.Test.YtmljdjakbbedlaaC2
import Derived.Test.YtmljdjakbbedlaaC7
namespace Go.Proofs.Ytmljdjakbbedlaa
open Go.ChangeShapes Go.WideShapes Go.ChangeAt Go.RowKit

/-- What table.New returns, and what it leaves. -/
def NewPost (l : List RouteV) (E : Int) (w : World) (e : Ending) (w' : World) : Prop :=
  Below w.heap.size w w' ∧ ((¬ E = 0 ∧ e = .returned (.tuple #[.pointer none, .int .i64 E])) ∨ (E = 0 ∧ e = .returned (.tuple #[.pointer (some ⟨w.heap.size, 0, none⟩), .int .i64 0]) ∧ Holds w' w.heap.size w.heap.size l ∧ Valid l))

theorem ret_pi {m : Value} {a b : Int} (h : a = b) : Ending.returned (.tuple #[m, .int .i64 a]) = Ending.returned (.tuple #[m, .int .i64 b]) := by rw [h]

set_option maxRecDepth 100000 in
set_option maxHeartbeats 3200000 in
theorem new_any (A : Option Addr) (n c : Nat) (l : List RouteV) (w : World) (hn2 : n ≤ 60) (hnc : n ≤ c) (hcm : c ≤ maxLen) (hz : l.length = n) (ho : ∀ r ∈ l, r.Ok) (hr : Reads w w.heap.size 5 A n (l.flatMap RouteV.cells)) :
    Calls Try.prog 50 #[.slice A n c] w (NewPost l (routesE l) w) := by
  have HZ := Lib.hid hz
  have HR := Lib.hid hr
  have HOK := Lib.hid ho
  unfold maxLen at hcm
  have H0 : Hid (routesE l = firstF (routeAt l) (List.range n)) := by show _ = _; unfold routesE; rw [hz]
  clear hz hr ho
  go_enter Try.func50, Try.ntmps50
  go_wp2
  go_loopw [15, 2, 3, 6, 7] (fun i _ _ _ _ wr => ∃ k : Nat, k ≤ n ∧ i = .int .i64 k ∧ NoneTo (routeAt l) (List.range n) k ∧ Valid (l.take k) ∧ Holds wr w.heap.size w.heap.size (l.take k) ∧ Below w.heap.size w wr) (fun i _ _ _ _ _ => n - (intOf i).toNat)
  case atStart => exact ⟨0, by omega, rfl, rfl, ⟨by simp, by simp⟩, holds_new w, (Below.refl _ _).alloc (Nat.le_refl _) _⟩
  case round =>
    obtain ⟨k, hk, rfl, hto, hval, hhold, hb⟩ := hrel
    have HT := Lib.hid hto
    have HV := Lib.hid hval
    have HH := Lib.hid hhold
    have hszb := hb.size
    clear hto hval hhold
    by_cases hlt : k < n
    · obtain ⟨ad, ⟨⟨six, hi, lo, pn⟩, hop⟩, rfl, hlk, htk, hmem, hbk, hc0, hcj⟩ := HR.out.atS RouteV.cells_length HZ.out hlt
      have q0 := (hb.cell (p := ad.add (k * 5)) (by rw [block_of_add]; exact hbk)).trans (hc0 _ rfl)
      have q1 := (hb.cell (p := ⟨(ad.add (k * 5)).block, (ad.add (k * 5)).off + 1, none⟩) (by rw [block_of_add]; exact hbk)).trans (hcj 1 _ rfl)
      have q2 := (hb.cell (p := ⟨(ad.add (k * 5)).block, (ad.add (k * 5)).off + 2, none⟩) (by rw [block_of_add]; exact hbk)).trans (hcj 2 _ rfl)
      have q3 := (hb.cell (p := ⟨(ad.add (k * 5)).block, (ad.add (k * 5)).off + 3, none⟩) (by rw [block_of_add]; exact hbk)).trans (hcj 3 _ rfl)
      have q4 := (hb.cell (p := ⟨(ad.add (k * 5)).block, (ad.add (k * 5)).off + 4, none⟩) (by rw [block_of_add]; exact hbk)).trans (hcj 4 _ rfl)
      obtain ⟨r1, r2, r3, r4⟩ := HOK.out _ hmem
      simp only at r1 r2 r3 r4
      have hfd : routeAt l k = routeF (l.take k) ⟨six, hi, lo, pn⟩ hop := by unfold routeAt; rw [hlk]
      have HF := Lib.hid hfd
      have HL := Lib.hid (range_at (n := n) hlt)
      have HK := Lib.hid (range_take (n := n) hlt)
      have HTK := Lib.hid htk
      have CK := Lib.hid (fun w => check_any six hi lo pn w r1 r2)
      have HBO := Lib.hid hb
      obtain ⟨cv, hcv⟩ : ∃ cv, chk six hi lo pn = cv := ⟨_, rfl⟩
      have HCV : Hid (PV.chk ⟨six, hi, lo, pn⟩ = cv) := hcv
      rw [hcv] at CK
      have HCV2 := Lib.hid hcv
      clear hlk htk hmem hbk hc0 hcj hfd hb hcv
      by_cases hck : cv = 0
      · subst hck
        have hpok : Hid (PV.Ok ⟨six, hi, lo, pn⟩) := chk_zero r1 r2 HCV2.out
        by_cases c1 : hop < 1 ∨ 999 < hop
        · have HF2 : Hid (routeF (l.take k) ⟨six, hi, lo, pn⟩ hop = 2) := by show _ = _; unfold routeF; rw [if_neg (by rw [HCV.out]; simp), if_pos c1]
          have HFH := Lib.hid (fault_here HT.out HL.out HF.out H0.out HF2.out (by omega))
          go_wp2_with fail
          refine (CK.out _).mono ?_
          rintro e w1 ⟨rfl, hb1⟩
          obtain ⟨HB1, hs1, hx1⟩ := box1 (cs := [.bool six, .int .u64 hi, .int .u64 lo, .int .i64 pn, .int .i64 hop]) hb1
          have e4 := hx1 4 _ rfl
          have HB2 := Lib.hid (HBO.out.trans (HB1.mono hszb))
          clear hb1 HB1 hx1
          by_cases c2 : hop < 1
          · go_wp2
            go_ret2
            exact ⟨HB2.out, .inl ⟨by rw [← HFH.out]; omega, ret_pi HFH.out⟩⟩
          · have c3 : 999 < hop := by omega
            go_wp2
            go_ret2
            exact ⟨HB2.out, .inl ⟨by rw [← HFH.out]; omega, ret_pi HFH.out⟩⟩
        · have HF2 : Hid (routeF (l.take k) ⟨six, hi, lo, pn⟩ hop = if hasR (l.take k) ⟨six, hi, lo, pn⟩ = true then 8 else 0) := by show _ = _; unfold routeF; rw [if_neg (by rw [HCV.out]; simp), if_neg c1]
          have x1 : ¬ hop < 1 := by omega
          have x2 : ¬ 999 < hop := by omega
          clear c1
          go_wp2_with fail
          refine (CK.out _).mono ?_
          rintro e w1 ⟨rfl, hb1⟩
          obtain ⟨HB1, hs1, hx1⟩ := box1 (cs := [.bool six, .int .u64 hi, .int .u64 lo, .int .i64 pn, .int .i64 hop]) hb1
          have e0 := hx1 0 _ rfl
          have e1 := hx1 1 _ rfl
          have e2 := hx1 2 _ rfl
          have e3 := hx1 3 _ rfl
          have e4 := hx1 4 _ rfl
          have HB2 := Lib.hid (HBO.out.trans (HB1.mono hszb))
          obtain ⟨R, cc, hTab, hInv, hM, hcc⟩ := HH.out.below HB1
          have hccb : 0 ≤ cc ∧ cc ≤ 1000000 := by
            rw [hcc]
            have := List.length_take_le k l
            omega
          have CP := Lib.hid (put_any hTab ⟨six, hi, lo, pn⟩ hpok.out hInv hop hccb)
          have HTab := Lib.hid hTab
          have HInv := Lib.hid hInv
          have HM := Lib.hid hM
          have HCC := Lib.hid hcc
          have hg : hopAt (R six) ⟨six, hi, lo, pn⟩ = getR (l.take k) ⟨six, hi, lo, pn⟩ := hM ⟨six, hi, lo, pn⟩ hpok.out
          unfold PutPost at CP
          obtain ⟨gv, hgv⟩ : ∃ gv, hopAt (R six) ⟨six, hi, lo, pn⟩ = gv := ⟨_, rfl⟩
          simp only at CP
          rw [hgv] at CP
          have HGV := Lib.hid (hgv.symm.trans hg)
          have HGH := Lib.hid hgv
          have hs1w : w.heap.size ≤ w1.heap.size := by have := HB2.out.size; omega
          unfold PV.val at CP
          simp only at CP
          clear hb1 HB1 hx1 hTab hInv hM hcc hg hgv
          obtain ⟨hv, hhv⟩ : ∃ hv, hasR (l.take k) ⟨six, hi, lo, pn⟩ = hv := ⟨_, rfl⟩
          have HHV := Lib.hid hhv
          rw [hhv] at HF2
          clear hhv
          cases hv with
          | true =>
            have hne : ¬ gv = 0 := by rw [HGV.out]; exact getR_some (fun r hr => (HV.out.1 r hr).2.1) HHV.out
            have hne2 : (gv != 0) = true := by simpa using hne
            have HFH := Lib.hid (fault_here HT.out HL.out HF.out H0.out (HF2.out.trans (by rw [if_pos rfl])) (by omega))
            go_wp2_with fail
            refine CP.out.mono ?_
            rintro e w2 ⟨rfl, _, hk2⟩
            have HB3 := Lib.hid (HB2.out.trans (hk2.below (fun g hg => (HTab.out.lt g hg).1) hs1w))
            clear hk2
            go_wp2
            go_ret2
            exact ⟨HB3.out, .inl ⟨by rw [← HFH.out]; omega, ret_pi HFH.out⟩⟩
          | false =>
            have hg0 : gv = 0 := by rw [HGV.out]; exact getR_none HHV.out
            have HN2 := Lib.hid (noneTo_succ HT.out HK.out (HF.out.trans (HF2.out.trans (by rw [if_neg (by simp)]))))
            have HV2 : Hid (Valid (l.take (k + 1))) := by show Valid _; rw [HTK.out]; exact valid_snoc HV.out hpok.out (by omega) HHV.out
            have HH2 : Hid (∀ w2 G1 G2, Tab w2 w.heap.size w.heap.size (upd R six (putT ⟨six, hi, lo, pn⟩ hop G1 G2 (R six))) (if gv = 0 then cc + 1 else cc) → Holds w2 w.heap.size w.heap.size (l.take (k + 1))) := by
              intro w2 G1 G2 ht
              rw [HTK.out]
              rw [← HGH.out] at ht
              exact holds_put HInv.out HM.out HCC.out hpok.out (by omega) HHV.out ht
            subst hg0
            go_wp2_with fail
            refine CP.out.mono ?_
            rintro e w2 ⟨rfl, ⟨G1, G2, ht2⟩, hk2⟩
            have HB3 := Lib.hid (HB2.out.trans (hk2.below (fun g hg => (HTab.out.lt g hg).1) hs1w))
            have HH3 := Lib.hid (HH2.out _ _ _ ht2)
            clear hk2 ht2
            go_wp2
            go_roundw
            case rel => exact ⟨k + 1, by omega, by go_num, HN2.out, HV2.out, HH3.out, HB3.out⟩
            case measure => simp [intOf]; omega
      · have hck2 : (cv != 0) = true := by simpa using hck
        have HF2 : Hid (routeF (l.take k) ⟨six, hi, lo, pn⟩ hop = cv) := by show _ = _; unfold routeF; rw [HCV.out, if_pos hck]
        have HFH := Lib.hid (fault_here HT.out HL.out HF.out H0.out HF2.out hck)
        have HCK := Lib.hid hck
        clear hck
        go_wp2_with fail
        refine (CK.out _).mono ?_
        rintro e w1 ⟨rfl, hb1⟩
        obtain ⟨HB1, hs1, _⟩ := box1 (cs := [.bool six, .int .u64 hi, .int .u64 lo, .int .i64 pn, .int .i64 hop]) hb1
        have HB2 := Lib.hid (HBO.out.trans (HB1.mono hszb))
        clear hb1 HB1
        go_wp2
        go_ret2
        exact ⟨HB2.out, .inl ⟨by rw [← HFH.out]; exact HCK.out, ret_pi HFH.out⟩⟩
    · obtain rfl : k = n := by omega
      have HR2 := Lib.hid (firstF_end HT.out (by simp))
      rw [List.take_of_length_le (by rw [HZ.out]; omega)] at HH HV
      go_wp2
      go_ret2
      exact ⟨hb, .inr ⟨by rw [H0.out]; exact HR2.out, rfl, HH.out, HV.out⟩⟩

set_option maxHeartbeats 400000 in
theorem new_big (A : Option Addr) (n c : Nat) (w : World) (hn : 60 < n) (hm : n ≤ maxLen) :
    Calls Try.prog 50 #[.slice A n c] w fun e w' => e = .returned (.tuple #[.pointer none, .int .i64 1]) ∧ Below w.heap.size w w' := by
  unfold maxLen at hm
  go_enter Try.func50, Try.ntmps50
  go_wp2
  go_ret2
  exact ⟨rfl, Below.refl _ _⟩

theorem new_is {A : Option Addr} {n c : Nat} {l : List RouteV} {w : World} (h : IsRoutes w A n c l) : Calls Try.prog 50 #[.slice A n c] w (NewPost l (routesF l) w) := by
  have h1 := h.1
  by_cases hn : 60 < l.length
  · have hf : routesF l = 1 := by unfold routesF; rw [if_pos hn]
    refine (new_big A n c w (by omega) (by have := h.2.1; omega)).mono ?_
    rintro e w' ⟨rfl, hb⟩
    exact ⟨hb, .inl ⟨by omega, by rw [hf]⟩⟩
  · have hf : routesF l = routesE l := by unfold routesF; rw [if_neg hn]
    refine (new_any A n c l w (by omega) h.2.1.1 h.2.1.2 h1 h.2.2.1 h.2.2.2).mono ?_
    intro e w' he
    rw [hf]
    exact he

set_option maxRecDepth 100000 in
set_option maxHeartbeats 400000 in
theorem tableCheck_is {A : Option Addr} {n c : Nat} {l : List RouteV} {w : World} (h : IsRoutes w A n c l) :
    Calls Try.prog 48 #[.slice A n c] w fun e w' => e = .returned (.int .i64 (routesF l)) ∧ Below w.heap.size w w' := by
  have HK := Lib.hid (new_is h)
  clear h
  go_enter Try.func48, Try.ntmps48
  go_wp2_with fail
  refine HK.out.mono ?_
  rintro e w1 ⟨hb, ⟨_, rfl⟩ | ⟨h0, rfl, _⟩⟩
  · go_wp2
    go_ret
    exact ⟨rfl, hb⟩
  · have H0 := Lib.hid h0
    clear h0
    go_wp2
    go_ret
    exact ⟨ret_int H0.out.symm, hb⟩

end Go.Proofs.Ytmljdjakbbedlaa

namespace Go.Proofs.Ytmljdjakbbedlaa
open Go.ChangeShapes Go.WideShapes Go.ChangeAt Go.RowKit

theorem reads_take {w : World} {B n k size : Nat} {A : Option Addr} {α : Type} {l : List α} {f : α → List Value} (hf : ∀ x, (f x).length = size) (hz : l.length = n) (hk : k ≤ n) (h : Reads w B size A n (l.flatMap f)) :
    Reads w B size A k ((l.take k).flatMap f) := by
  have hlen : ∀ (l : List α), (l.flatMap f).length = l.length * size := by
    intro l
    induction l with
    | nil => simp
    | cons x l ih => rw [List.flatMap_cons, List.length_append, hf, ih, List.length_cons, Nat.succ_mul]; omega
  refine ⟨by rw [hlen, List.length_take]; congr 1; omega, fun hk0 => ?_⟩
  obtain ⟨ad, rfl, hb, hc⟩ := h.2 (by omega)
  refine ⟨ad, rfl, hb, fun j u hj => hc j u ?_⟩
  have : l = l.take k ++ l.drop k := (List.take_append_drop k l).symm
  rw [this, List.flatMap_append, List.getElem?_append_left (by have := (List.getElem?_eq_some_iff.1 hj).1; exact this)]
  exact hj

set_option maxRecDepth 100000 in
set_option maxHeartbeats 3200000 in
theorem tableFault_any (A : Option Addr) (n c : Nat) (l : List RouteV) (w : World) (hn2 : n ≤ 60) (hnc : n ≤ c) (_hcm : c ≤ maxLen) (hz : l.length = n) (ho : ∀ r ∈ l, r.Ok) (hr : Reads w w.heap.size 5 A n (l.flatMap RouteV.cells)) :
    Calls Try.prog 58 #[.slice A n c] w fun e w' => e = .returned (.int .i64 (routesE l)) ∧ Below w.heap.size w w' := by
  have HZ := Lib.hid hz
  have HR := Lib.hid hr
  have HOK := Lib.hid ho
  obtain ⟨rr, hr0⟩ : ∃ r, r = firstF (routeAt l) (List.range n) := ⟨_, rfl⟩
  rw [show routesE l = firstF (routeAt l) (List.range n) from by unfold routesE; rw [hz], ← hr0]
  have H0 := Lib.hid hr0
  clear hz hr ho hr0
  go_enter Try.func58, Try.ntmps58
  go_wp2
  go_loopw [13, 2, 3, 4, 5, 7, 34, 35, 36] (fun i _ _ _ _ _ _ _ _ wr => ∃ k : Nat, k ≤ n ∧ i = .int .i64 k ∧ NoneTo (routeAt l) (List.range n) k ∧ Below w.heap.size w wr) (fun i _ _ _ _ _ _ _ _ _ => n - (intOf i).toNat)
  case atStart => exact ⟨0, by omega, rfl, rfl, Below.refl _ _⟩
  case round =>
    obtain ⟨k, hk, rfl, hto, hb⟩ := hrel
    have HT := Lib.hid hto
    have hszb := hb.size
    clear hto
    by_cases hlt : k < n
    · obtain ⟨ad, ⟨⟨six, hi, lo, pn⟩, hop⟩, rfl, hlk, htk, hmem, hbk, hc0, hcj⟩ := HR.out.atS RouteV.cells_length HZ.out hlt
      have q0 := (hb.cell (p := ad.add (k * 5)) (by rw [block_of_add]; exact hbk)).trans (hc0 _ rfl)
      have q1 := (hb.cell (p := ⟨(ad.add (k * 5)).block, (ad.add (k * 5)).off + 1, none⟩) (by rw [block_of_add]; exact hbk)).trans (hcj 1 _ rfl)
      have q2 := (hb.cell (p := ⟨(ad.add (k * 5)).block, (ad.add (k * 5)).off + 2, none⟩) (by rw [block_of_add]; exact hbk)).trans (hcj 2 _ rfl)
      have q3 := (hb.cell (p := ⟨(ad.add (k * 5)).block, (ad.add (k * 5)).off + 3, none⟩) (by rw [block_of_add]; exact hbk)).trans (hcj 3 _ rfl)
      have q4 := (hb.cell (p := ⟨(ad.add (k * 5)).block, (ad.add (k * 5)).off + 4, none⟩) (by rw [block_of_add]; exact hbk)).trans (hcj 4 _ rfl)
      obtain ⟨r1, r2, r3, r4⟩ := HOK.out _ hmem
      simp only at r1 r2 r3 r4
      have hfd : routeAt l k = routeF (l.take k) ⟨six, hi, lo, pn⟩ hop := by unfold routeAt; rw [hlk]
      have HF := Lib.hid hfd
      have HL := Lib.hid (range_at (n := n) hlt)
      have HK := Lib.hid (range_take (n := n) hlt)
      have CK := Lib.hid (fun w => preFault_any six hi lo pn w r1 r2)
      have HBO := Lib.hid hb
      have HRK := Lib.hid (reads_take RouteV.cells_length HZ.out hk HR.out)
      have HZK : Hid ((l.take k).length = k) := by show _ = _; rw [List.length_take, HZ.out]; omega
      obtain ⟨cv, hcv⟩ : ∃ cv, chk six hi lo pn = cv := ⟨_, rfl⟩
      have HCV : Hid (PV.chk ⟨six, hi, lo, pn⟩ = cv) := hcv
      rw [hcv] at CK
      have hkc : (k : Int) ≤ (c : Int) := by omega
      have hkc2 : (k : Int) ≤ 60 := by omega
      clear hlk htk hmem hbk hc0 hcj hfd hb hcv
      by_cases hck : cv = 0
      · subst hck
        by_cases c1 : hop < 1 ∨ 999 < hop
        · have HF2 : Hid (routeF (l.take k) ⟨six, hi, lo, pn⟩ hop = 2) := by show _ = _; unfold routeF; rw [if_neg (by rw [HCV.out]; simp), if_pos c1]
          have HFH := Lib.hid (fault_here HT.out HL.out HF.out H0.out HF2.out (by omega))
          go_wp2_with fail
          refine (CK.out _).mono ?_
          rintro e w1 ⟨rfl, hb1⟩
          obtain ⟨HB1, hs1, hx1⟩ := box1 (cs := [.bool six, .int .u64 hi, .int .u64 lo, .int .i64 pn, .int .i64 hop]) hb1
          have e4 := hx1 4 _ rfl
          have HB2 := Lib.hid (HBO.out.trans (HB1.mono hszb))
          clear hb1 HB1 hx1
          by_cases c2 : hop < 1
          · go_wp2
            go_ret
            exact ⟨ret_int HFH.out, HB2.out⟩
          · have c3 : 999 < hop := by omega
            go_wp2
            go_ret
            exact ⟨ret_int HFH.out, HB2.out⟩
        · have HF2 : Hid (routeF (l.take k) ⟨six, hi, lo, pn⟩ hop = if hasR (l.take k) ⟨six, hi, lo, pn⟩ = true then 8 else 0) := by show _ = _; unfold routeF; rw [if_neg (by rw [HCV.out]; simp), if_neg c1]
          have x1 : ¬ hop < 1 := by omega
          have x2 : ¬ 999 < hop := by omega
          clear c1
          generalize hlkk : l.take k = lk at *
          clear hlkk
          go_wp2_with fail
          refine (CK.out _).mono ?_
          rintro e w1 ⟨rfl, hb1⟩
          obtain ⟨HB1, hs1, hx1⟩ := box1 (cs := [.bool six, .int .u64 hi, .int .u64 lo, .int .i64 pn, .int .i64 hop]) hb1
          have e0 := hx1 0 _ rfl
          have e1 := hx1 1 _ rfl
          have e2 := hx1 2 _ rfl
          have e3 := hx1 3 _ rfl
          have e4 := hx1 4 _ rfl
          have HB2 := Lib.hid (HBO.out.trans (HB1.mono hszb))
          clear hb1 HB1 hx1 q0 q1 q2 q3 q4
          obtain ⟨wo, rfl⟩ : ∃ wo : World, wo = wr := ⟨_, rfl⟩
          go_wp2
          go_loopw [36, 2, 7] (fun i _ _ wy => ∃ j : Nat, j ≤ k ∧ i = .int .i64 j ∧ NoneYet (fun r : RouteV => decide (r.p = ⟨six, hi, lo, pn⟩)) lk j ∧ Below w1.heap.size w1 wy) (fun i _ _ _ => k - (intOf i).toNat)
          case atStart => exact ⟨0, by omega, rfl, noneYet_zero _ _, Below.refl _ _⟩
          case round =>
            obtain ⟨j, hj, rfl, hno, hbr⟩ := hrel
            have HN := Lib.hid hno
            have HBR := Lib.hid hbr
            have HB := Lib.hid (HB2.out.trans (hbr.mono HB2.out.size))
            have hb := HB.out
            obtain ⟨fc, ff⟩ := bcell hbr
            have s2 := hbr.size
            have g0 := (fc _ _ hs1).trans e0
            have g1 := (fc _ _ hs1).trans e1
            have g2 := (fc _ _ hs1).trans e2
            have g3 := (fc _ _ hs1).trans e3
            have g4 := (fc _ _ hs1).trans e4
            have s3 : wo.heap.size < wr.heap.size := by omega
            have s4 : ¬ wo.heap.size = wr.heap.size := by omega
            have s5 : ¬ wr.heap.size = wo.heap.size := by omega
            clear hno hbr
            by_cases hlt2 : j < k
            · obtain ⟨ad', ⟨⟨tsix, thi, tlo, tn⟩, thop⟩, hadd, hlk, htk, hmem, hbk, hc0, hcj⟩ := HRK.out.atS RouteV.cells_length HZK.out hlt2
              injection hadd with hadd
              subst hadd
              have q0 := (hb.cell (p := ad.add (j * 5)) (by rw [block_of_add]; exact hbk)).trans (hc0 _ rfl)
              have q1 := (hb.cell (p := ⟨(ad.add (j * 5)).block, (ad.add (j * 5)).off + 1, none⟩) (by rw [block_of_add]; exact hbk)).trans (hcj 1 _ rfl)
              have q2 := (hb.cell (p := ⟨(ad.add (j * 5)).block, (ad.add (j * 5)).off + 2, none⟩) (by rw [block_of_add]; exact hbk)).trans (hcj 2 _ rfl)
              have q3 := (hb.cell (p := ⟨(ad.add (j * 5)).block, (ad.add (j * 5)).off + 3, none⟩) (by rw [block_of_add]; exact hbk)).trans (hcj 3 _ rfl)
              have q4 := (hb.cell (p := ⟨(ad.add (j * 5)).block, (ad.add (j * 5)).off + 4, none⟩) (by rw [block_of_add]; exact hbk)).trans (hcj 4 _ rfl)
              have HLK2 := Lib.hid hlk
              have HTK2 := Lib.hid htk
              have HEQ := fun w => eqPV ⟨tsix, thi, tlo, tn⟩ ⟨six, hi, lo, pn⟩ w
              clear hlk htk hmem hbk hc0 hcj hb
              by_cases he : (⟨tsix, thi, tlo, tn⟩ : PV) = ⟨six, hi, lo, pn⟩
              · have HV : Hid (hasR lk ⟨six, hi, lo, pn⟩ = true) := by
                  show _ = _
                  unfold hasR
                  rw [List.any_eq_true]
                  exact ⟨_, List.mem_of_getElem? HLK2.out, by simpa using he⟩
                rw [decide_eq_true he] at HEQ
                unfold PV.val at HEQ
                simp only at HEQ
                clear he
                go_wp2
                go_ret
                exact ⟨ret_int (fault_here HT.out HL.out HF.out H0.out (HF2.out.trans (by rw [HV.out, if_pos rfl])) (by omega)), HB.out.alloc HB.out.size _⟩
              · have HN2 := Lib.hid (noneYet_succ HN.out HTK2.out (decide_eq_false he))
                rw [decide_eq_false he] at HEQ
                unfold PV.val at HEQ
                simp only at HEQ
                clear he
                go_wp2
                go_roundw
                case rel => exact ⟨j + 1, by omega, by go_num, HN2.out, HBR.out.alloc HBR.out.size _⟩
                case measure => simp [intOf]; omega
            · obtain rfl : j = k := by omega
              have HV : Hid (hasR lk ⟨six, hi, lo, pn⟩ = false) := by
                show _ = _
                unfold hasR
                rw [List.any_eq_false]
                intro x hx
                have := HN.out x (by rw [List.take_of_length_le (by rw [HZK.out]; omega)]; exact hx)
                simp only at this
                simp [this]
              clear hb
              go_wp2
              go_roundw
              case rel => exact ⟨j + 1, by omega, by go_num, noneTo_succ HT.out HK.out (HF.out.trans (HF2.out.trans (by rw [HV.out, if_neg (by simp)]))), HB.out⟩
              case measure => simp [intOf]; omega
      · have hck2 : (cv != 0) = true := by simpa using hck
        have HF2 : Hid (routeF (l.take k) ⟨six, hi, lo, pn⟩ hop = cv) := by show _ = _; unfold routeF; rw [HCV.out, if_pos hck]
        have HFH := Lib.hid (fault_here HT.out HL.out HF.out H0.out HF2.out hck)
        clear hck
        go_wp2_with fail
        refine (CK.out _).mono ?_
        rintro e w1 ⟨rfl, hb1⟩
        obtain ⟨HB1, hs1, _⟩ := box1 (cs := [.bool six, .int .u64 hi, .int .u64 lo, .int .i64 pn, .int .i64 hop]) hb1
        have HB2 := Lib.hid (HBO.out.trans (HB1.mono hszb))
        clear hb1 HB1
        go_wp2
        go_ret
        exact ⟨ret_int HFH.out, HB2.out⟩
    · obtain rfl : k = n := by omega
      have HR2 := Lib.hid (firstF_end HT.out (by simp))
      go_wp2
      go_ret
      exact ⟨ret_int (HR2.out.symm.trans H0.out.symm), hb⟩

set_option maxHeartbeats 400000 in
theorem tableFault_big (A : Option Addr) (n c : Nat) (w : World) (hn : 60 < n) (hm : n ≤ maxLen) :
    Calls Try.prog 58 #[.slice A n c] w fun e w' => e = .returned (.int .i64 1) ∧ Below w.heap.size w w' := by
  unfold maxLen at hm
  go_enter Try.func58, Try.ntmps58
  go_wp2
  go_ret
  exact ⟨rfl, Below.refl _ _⟩
theorem tableFault_is {A : Option Addr} {n c : Nat} {l : List RouteV} {w : World} (h : IsRoutes w A n c l) :
    Calls Try.prog 58 #[.slice A n c] w fun e w' => e = .returned (.int .i64 (routesF l)) ∧ Below w.heap.size w w' := by
  unfold routesF
  have h1 := h.1
  by_cases hn : 60 < l.length
  · rw [if_pos hn]
    exact tableFault_big A n c w (by omega) (by have := h.2.1; omega)
  · rw [if_neg hn]
    exact tableFault_any A n c l w (by omega) h.2.1.1 h.2.1.2 h1 h.2.2.1 h.2.2.2

end Go.Proofs.Ytmljdjakbbedlaa

namespace Go.Proofs.Ytmljdjakbbedlaa
open Go.ChangeShapes Go.WideShapes Go.ChangeAt Go.RowKit

theorem firstF_zero2 {α : Type} {f : α → Int} : ∀ {l : List α}, firstF f l = 0 → ∀ x ∈ l, f x = 0
  | [], _, x, hx => by simp at hx
  | y :: l, h, x, hx => by
    unfold firstF at h
    by_cases hy : f y = 0
    · rw [if_pos hy] at h
      rcases List.mem_cons.1 hx with rfl | hx
      · exact hy
      · exact firstF_zero2 h x hx
    · rw [if_neg hy] at h
      exact absurd h hy
theorem valid_of {l : List RouteV} (ho : ∀ r ∈ l, r.Ok) (h : routesF l = 0) : Valid l ∧ l.length ≤ 60 := by
  unfold routesF at h
  by_cases hn : 60 < l.length
  · rw [if_pos hn] at h; omega
  rw [if_neg hn] at h
  have hz := firstF_zero2 h
  have key : ∀ k, k ≤ l.length → Valid (l.take k) := by
    intro k
    induction k with
    | zero => intro _; exact ⟨by simp, by simp⟩
    | succ k ih =>
      intro hk
      obtain ⟨r, hr⟩ : ∃ r, l[k]? = some r := ⟨l[k], List.getElem?_eq_getElem (by omega)⟩
      have h0 := hz k (List.mem_range.2 (by omega))
      unfold routeAt at h0
      rw [hr] at h0
      simp only at h0
      have hro := ho r (List.mem_of_getElem? hr)
      unfold routeF at h0
      by_cases h1 : r.p.chk = 0
      · rw [if_neg (by simp [h1])] at h0
        by_cases h2 : r.hop < 1 ∨ 999 < r.hop
        · rw [if_pos h2] at h0; omega
        · rw [if_neg h2] at h0
          by_cases h3 : hasR (l.take k) r.p = true
          · rw [if_pos h3] at h0; omega
          · rw [List.take_add_one, hr]
            obtain ⟨p, hop⟩ := r
            exact valid_snoc (ih (by omega)) (chk_zero hro.a hro.b h1) (by simp only at h2; omega) (by simpa using h3)
      · rw [if_pos (by simpa using h1)] at h0
        exact absurd h0 h1
  refine ⟨?_, by omega⟩
  have := key l.length (Nat.le_refl _)
  rwa [List.take_length] at this

/-- What Look says: hop, length, error. -/
def lookR (l : List RouteV) (six : Bool) (hi lo : Int) : Int × Int × Int :=
  if ¬ routesF l = 0 then (0, 0, routesF l) else if mayB six hi lo = false then (0, 0, 4) else ((goesR l six hi lo).1, (goesR l six hi lo).2, 0)
def Looked (r : Int × Int × Int) (w : World) (e : Ending) (w' : World) : Prop := e = .returned (.tuple #[.agg #[.int .i64 0, .int .i64 r.1, .int .i64 r.2.1], .int .i64 r.2.2]) ∧ Below w.heap.size w w'

set_option maxRecDepth 100000 in
set_option maxHeartbeats 1600000 in
theorem tableLook_is (A : Option Addr) (n c : Nat) (l : List RouteV) (six : Bool) (hi lo : Int) (w : World) (h : IsRoutes w A n c l) (h3 : 0 ≤ hi ∧ hi < 18446744073709551616) (h4 : 0 ≤ lo ∧ lo < 18446744073709551616) :
    Calls Try.prog 18 #[.slice A n c, .agg #[.bool six, .int .u64 hi, .int .u64 lo]] w (Looked (lookR l six hi lo) w) := by
  have CN := Lib.hid (fun (w' : World) (hb : Below w.heap.size w w') => new_is (h.below hb))
  have CM := Lib.hid (fun w => may_any six hi lo w h4.1)
  unfold Looked
  by_cases hz : routesF l = 0
  · have CN2 : Hid (∀ (w' : World) (_ : Below w.heap.size w w'), Calls Try.prog 50 #[.slice A n c] w' (NewPost l 0 w')) := by
      intro w' hb
      have := CN.out w' hb
      rwa [hz] at this
    clear CN
    cases hm : mayB six hi lo with
    | false =>
      have hr : lookR l six hi lo = (0, 0, 4) := by unfold lookR; rw [if_neg (by simp [hz]), if_pos hm]
      rw [hr]
      rw [hm] at CM
      clear hr hz hm h
      go_enter Try.func18, Try.ntmps18
      go_wp2_with fail
      refine (CN2.out _ (((Below.refl _ _).alloc (Nat.le_refl _) _).alloc (by simp) _)).mono ?_
      rintro e w1 ⟨hb1, ⟨hx, _⟩ | ⟨_, rfl, _, _⟩⟩
      · exact absurd rfl hx
      obtain ⟨fc, ff⟩ := bcell hb1
      obtain ⟨s1, s2⟩ := bsize2 hb1
      have HB := Lib.hid (balloc2 hb1)
      clear hb1
      go_wp2_with fail
      refine (CM.out _).mono ?_
      rintro e w2 ⟨rfl, hb2⟩
      obtain ⟨fc2, ff2⟩ := bcell hb2
      have HB2 := Lib.hid (below_step HB.out hb2)
      have s3 := hb2.size
      have s4 : w.heap.size + 1 < w2.heap.size := by omega
      clear hb2
      go_wp2
      refine bodyPost_ret (v := .tuple #[.agg #[.int .i64 0, .int .i64 0, .int .i64 0], .int .i64 4]) ?_ rfl ⟨rfl, ?_⟩
      · simp [results, Try.results18, go_sem, fc, fc2, s2]
      · (repeat' first | with_reducible exact HB2.out | with_reducible refine Below.drew ?_ | with_reducible refine below_drewN ?_ _ | with_reducible refine Below.setCell ?_ ?_ _ | (simp; done) | (simp; omega) | omega)
    | true =>
      have hr : lookR l six hi lo = ((goesR l six hi lo).1, (goesR l six hi lo).2, 0) := by unfold lookR; rw [if_neg (by simp [hz]), if_neg (by simp [hm])]
      rw [hr]
      have HAO : Hid (AV.Ok ⟨six, hi, lo⟩) := ⟨h3, h4, hm⟩
      rw [hm] at CM
      obtain ⟨res, hres⟩ : ∃ res, goesR l six hi lo = res := ⟨_, rfl⟩
      rw [hres]
      have HRES := Lib.hid hres
      clear hr hz hm h hres
      go_enter Try.func18, Try.ntmps18
      go_wp2_with fail
      refine (CN2.out _ (((Below.refl _ _).alloc (Nat.le_refl _) _).alloc (by simp) _)).mono ?_
      rintro e w1 ⟨hb1, ⟨hx, _⟩ | ⟨_, rfl, hhold, hval⟩⟩
      · exact absurd rfl hx
      obtain ⟨fc, ff⟩ := bcell hb1
      obtain ⟨s1, s2⟩ := bsize2 hb1
      have HB := Lib.hid (balloc2 hb1)
      have hhold2 : Holds w1 (w.heap.size + 1 + 1) (w.heap.size + 1 + 1) l := by simpa using hhold
      have HH := Lib.hid hhold2
      have HV := Lib.hid hval
      clear hb1 hhold hhold2 hval
      go_wp2_with fail
      refine (CM.out _).mono ?_
      rintro e w2 ⟨rfl, hb2⟩
      obtain ⟨fc2, ff2⟩ := bcell hb2
      have HB2 := Lib.hid (below_step HB.out hb2)
      have s3 := hb2.size
      have s4 : w.heap.size + 1 < w2.heap.size := by omega
      have s5 : w.heap.size < w2.heap.size := by omega
      obtain ⟨R, cc, hT, hI, hM, _⟩ := HH.out.below hb2
      have CL := Lib.hid (tlook_any hT hI six hi lo HAO.out)
      rw [look_goes HV.out (addr_pfx HAO.out) (hI six) (fun p hp h6 => by have := hM p hp; rw [h6] at this; exact this), HRES.out] at CL
      clear hb2 hT hI hM
      go_wp2_with fail
      refine CL.out.mono ?_
      rintro e w3 ⟨rfl, hb3⟩
      obtain ⟨fc3, ff3⟩ := bcell hb3
      have HB3 := Lib.hid (below_step HB2.out hb3)
      have s6 := hb3.size
      have s7 : w.heap.size + 1 < w3.heap.size := by omega
      clear hb3
      go_wp2
      refine bodyPost_ret (v := .tuple #[.agg #[.int .i64 0, .int .i64 res.1, .int .i64 res.2], .int .i64 0]) ?_ rfl ⟨rfl, ?_⟩
      · simp [results, Try.results18, go_sem, fc, fc2, fc3, s2, s4]
      · (repeat' first | with_reducible exact HB3.out | with_reducible refine Below.drew ?_ | with_reducible refine below_drewN ?_ _ | with_reducible refine Below.setCell ?_ ?_ _ | (simp; done) | (simp; omega) | omega)
  · have hr : lookR l six hi lo = (0, 0, routesF l) := by unfold lookR; rw [if_pos hz]
    rw [hr]
    obtain ⟨E, hE⟩ : ∃ E, routesF l = E := ⟨_, rfl⟩
    rw [hE] at hz CN ⊢
    have hzb : (E != 0) = true := by simpa using hz
    clear hr hE h CM
    go_enter Try.func18, Try.ntmps18
    go_wp2_with fail
    refine (CN.out _ (((Below.refl _ _).alloc (Nat.le_refl _) _).alloc (by simp) _)).mono ?_
    rintro e w1 ⟨hb1, ⟨_, rfl⟩ | ⟨hx, _⟩⟩
    · obtain ⟨fc, ff⟩ := bcell hb1
      obtain ⟨s1, s2⟩ := bsize2 hb1
      have HB := Lib.hid (balloc2 hb1)
      clear hb1
      go_wp2
      refine bodyPost_ret (v := .tuple #[.agg #[.int .i64 0, .int .i64 0, .int .i64 0], .int .i64 E]) ?_ rfl ⟨rfl, ?_⟩
      · simp [results, Try.results18, go_sem, fc]
      · (repeat' first | with_reducible exact HB.out | with_reducible refine Below.drew ?_ | with_reducible refine below_drewN ?_ _ | with_reducible refine Below.setCell ?_ ?_ _ | (simp; done) | (simp; omega) | omega)
    · exact absurd hx hz

end Go.Proofs.Ytmljdjakbbedlaa
