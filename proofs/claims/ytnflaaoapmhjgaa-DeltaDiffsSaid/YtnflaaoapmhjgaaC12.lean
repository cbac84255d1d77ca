/-
  
  
  
  
  
  
-/
import Derived.Test.YtnflaaoapmhjgaaC3
import Derived.Test.YtnflaaoapmhjgaaC5
import Derived.Test.YtnflaaoapmhjgaaC2
import Derived.Test.YtnflaaoapmhjgaaC7
import Derived.Test.YtnflaaoapmhjgaaC10
import Derived.BigQuiet
import Derived.Test.YtnflaaoapmhjgaaC6
namespace Go.Proofs.Ytnflaaoapmhjgaa
open Go.ChangeShapes Go.WideShapes Go.ChangeAt Go.RowKit

/-- What table.New returns, and what it leaves. -/
def NewPost (l : List RouteV) (E : Int) (w : World) (e : Ending) (w' : World) : Prop :=
  Below w.heap.size w w' ∧ ((¬ E = 0 ∧ e = .returned (.tuple #[.pointer none, .int .i64 E])) ∨ (E = 0 ∧ e = .returned (.tuple #[.pointer (some ⟨w.heap.size, 0, none⟩), .int .i64 0]) ∧ Holds w' w.heap.size w.heap.size l ∧ Valid l))

theorem ret_pi {m : Value} {a b : Int} (h : a = b) : Ending.returned (.tuple #[m, .int .i64 a]) = Ending.returned (.tuple #[m, .int .i64 b]) := by rw [h]

set_option maxRecDepth 100000 in
set_option maxHeartbeats 3200000 in
theorem new_any (A : Option Addr) (n c : Nat) (l : List RouteV) (w : World) (hn2 : n ≤ 60) (hnc : n ≤ c) (hcm : c ≤ maxLen) (hz : l.length = n) (ho : ∀ r ∈ l, r.Ok) (hr : Reads w w.heap.size 5 A n (l.flatMap RouteV.cells)) :
    Calls Try.prog 75 #[.slice A n c] w (NewPost l (routesE l) w) := by
  have HZ := Lib.hid hz
  have HR := Lib.hid hr
  have HOK := Lib.hid ho
  unfold maxLen at hcm
  have H0 : Hid (routesE l = firstF (routeAt l) (List.range n)) := by show _ = _; unfold routesE; rw [hz]
  clear hz hr ho
  go_enter Try.func75, Try.ntmps75
  go_wp2
  go_loopw [15, 2, 3, 6, 7] (fun i _ _ _ _ wr => ∃ k : Nat, k ≤ n ∧ i = .int .i64 k ∧ NoneTo (routeAt l) (List.range n) k ∧ Valid (l.take k) ∧ Holds wr w.heap.size w.heap.size (l.take k) ∧ Below w.heap.size w wr) (fun i _ _ _ _ _ => n - (intOf i).toNat)
  case atStart => exact ⟨0, by omega, rfl, rfl, ⟨by simp, by simp⟩, holds_new w, (Below.refl _ _).alloc (Nat.le_refl _) _⟩
  case round =>
    obtain ⟨k, hk, rfl, hto, hval, hhold, hb⟩ := hrel
    have HT := Lib.hid hto
    have HV := Lib.hid hval
    have HH := Lib.hid hhold
    have hszb := hb.size
    clear hto hval hhold
    by_cases hlt : k < n
    · obtain ⟨ad, ⟨⟨six, hi, lo, pn⟩, hop⟩, rfl, hlk, htk, hmem, hbk, hc0, hcj⟩ := HR.out.atS RouteV.cells_length HZ.out hlt
      have q0 := (hb.cell (p := ad.add (k * 5)) (by rw [block_of_add]; exact hbk)).trans (hc0 _ rfl)
      have q1 := (hb.cell (p := ⟨(ad.add (k * 5)).block, (ad.add (k * 5)).off + 1, none⟩) (by rw [block_of_add]; exact hbk)).trans (hcj 1 _ rfl)
      have q2 := (hb.cell (p := ⟨(ad.add (k * 5)).block, (ad.add (k * 5)).off + 2, none⟩) (by rw [block_of_add]; exact hbk)).trans (hcj 2 _ rfl)
      have q3 := (hb.cell (p := ⟨(ad.add (k * 5)).block, (ad.add (k * 5)).off + 3, none⟩) (by rw [block_of_add]; exact hbk)).trans (hcj 3 _ rfl)
      have q4 := (hb.cell (p := ⟨(ad.add (k * 5)).block, (ad.add (k * 5)).off + 4, none⟩) (by rw [block_of_add]; exact hbk)).trans (hcj 4 _ rfl)
      obtain ⟨r1, r2, r3, r4⟩ := HOK.out _ hmem
      simp only at r1 r2 r3 r4
      have hfd : routeAt l k = routeF (l.take k) ⟨six, hi, lo, pn⟩ hop := by unfold routeAt; rw [hlk]
      have HF := Lib.hid hfd
      have HL := Lib.hid (range_at (n := n) hlt)
      have HK := Lib.hid (range_take (n := n) hlt)
      have HTK := Lib.hid htk
      have CK := Lib.hid (fun w => check_any six hi lo pn w r1 r2)
      have HBO := Lib.hid hb
      obtain ⟨cv, hcv⟩ : ∃ cv, chk six hi lo pn = cv := ⟨_, rfl⟩
      have HCV : Hid (PV.chk ⟨six, hi, lo, pn⟩ = cv) := hcv
      rw [hcv] at CK
      have HCV2 := Lib.hid hcv
      clear hlk htk hmem hbk hc0 hcj hfd hb hcv
      by_cases hck : cv = 0
      · subst hck
        have hpok : Hid (PV.Ok ⟨six, hi, lo, pn⟩) := chk_zero r1 r2 HCV2.out
        by_cases c1 : hop < 1 ∨ 999 < hop
        · have HF2 : Hid (routeF (l.take k) ⟨six, hi, lo, pn⟩ hop = 2) := by show _ = _; unfold routeF; rw [if_neg (by rw [HCV.out]; simp), if_pos c1]
          have HFH := Lib.hid (fault_here HT.out HL.out HF.out H0.out HF2.out (by omega))
          go_wp2_with fail
          refine (CK.out _).mono ?_
          rintro e w1 ⟨rfl, hb1⟩
          obtain ⟨HB1, hs1, hx1⟩ := box1 (cs := [.bool six, .int .u64 hi, .int .u64 lo, .int .i64 pn, .int .i64 hop]) hb1
          have e4 := hx1 4 _ rfl
          have HB2 := Lib.hid (HBO.out.trans (HB1.mono hszb))
          clear hb1 HB1 hx1
          by_cases c2 : hop < 1
          · go_wp2
            go_ret2
            exact ⟨HB2.out, .inl ⟨by rw [← HFH.out]; omega, ret_pi HFH.out⟩⟩
          · have c3 : 999 < hop := by omega
            go_wp2
            go_ret2
            exact ⟨HB2.out, .inl ⟨by rw [← HFH.out]; omega, ret_pi HFH.out⟩⟩
        · have HF2 : Hid (routeF (l.take k) ⟨six, hi, lo, pn⟩ hop = if hasR (l.take k) ⟨six, hi, lo, pn⟩ = true then 8 else 0) := by show _ = _; unfold routeF; rw [if_neg (by rw [HCV.out]; simp), if_neg c1]
          have x1 : ¬ hop < 1 := by omega
          have x2 : ¬ 999 < hop := by omega
          clear c1
          go_wp2_with fail
          refine (CK.out _).mono ?_
          rintro e w1 ⟨rfl, hb1⟩
          obtain ⟨HB1, hs1, hx1⟩ := box1 (cs := [.bool six, .int .u64 hi, .int .u64 lo, .int .i64 pn, .int .i64 hop]) hb1
          have e0 := hx1 0 _ rfl
          have e1 := hx1 1 _ rfl
          have e2 := hx1 2 _ rfl
          have e3 := hx1 3 _ rfl
          have e4 := hx1 4 _ rfl
          have HB2 := Lib.hid (HBO.out.trans (HB1.mono hszb))
          obtain ⟨R, cc, hTab, hInv, hM, hcc⟩ := HH.out.below HB1
          have hccb : 0 ≤ cc ∧ cc ≤ 1000000 := by
            rw [hcc]
            have := List.length_take_le k l
            omega
          have CP := Lib.hid (put_any hTab ⟨six, hi, lo, pn⟩ hpok.out hInv hop hccb)
          have HTab := Lib.hid hTab
          have HInv := Lib.hid hInv
          have HM := Lib.hid hM
          have HCC := Lib.hid hcc
          have hg : hopAt (R six) ⟨six, hi, lo, pn⟩ = getR (l.take k) ⟨six, hi, lo, pn⟩ := hM ⟨six, hi, lo, pn⟩ hpok.out
          unfold PutPost at CP
          obtain ⟨gv, hgv⟩ : ∃ gv, hopAt (R six) ⟨six, hi, lo, pn⟩ = gv := ⟨_, rfl⟩
          simp only at CP
          rw [hgv] at CP
          have HGV := Lib.hid (hgv.symm.trans hg)
          have HGH := Lib.hid hgv
          have hs1w : w.heap.size ≤ w1.heap.size := by have := HB2.out.size; omega
          unfold PV.val at CP
          simp only at CP
          clear hb1 HB1 hx1 hTab hInv hM hcc hg hgv
          obtain ⟨hv, hhv⟩ : ∃ hv, hasR (l.take k) ⟨six, hi, lo, pn⟩ = hv := ⟨_, rfl⟩
          have HHV := Lib.hid hhv
          rw [hhv] at HF2
          clear hhv
          cases hv with
          | true =>
            have hne : ¬ gv = 0 := by rw [HGV.out]; exact getR_some (fun r hr => (HV.out.1 r hr).2.1) HHV.out
            have hne2 : (gv != 0) = true := by simpa using hne
            have HFH := Lib.hid (fault_here HT.out HL.out HF.out H0.out (HF2.out.trans (by rw [if_pos rfl])) (by omega))
            go_wp2_with fail
            refine CP.out.mono ?_
            rintro e w2 ⟨rfl, _, hk2⟩
            have HB3 := Lib.hid (HB2.out.trans (hk2.below (fun g hg => (HTab.out.lt g hg).1) hs1w))
            clear hk2
            go_wp2
            go_ret2
            exact ⟨HB3.out, .inl ⟨by rw [← HFH.out]; omega, ret_pi HFH.out⟩⟩
          | false =>
            have hg0 : gv = 0 := by rw [HGV.out]; exact getR_none HHV.out
            have HN2 := Lib.hid (noneTo_succ HT.out HK.out (HF.out.trans (HF2.out.trans (by rw [if_neg (by simp)]))))
            have HV2 : Hid (Valid (l.take (k + 1))) := by show Valid _; rw [HTK.out]; exact valid_snoc HV.out hpok.out (by omega) HHV.out
            have HH2 : Hid (∀ w2 G1 G2, Tab w2 w.heap.size w.heap.size (upd R six (putT ⟨six, hi, lo, pn⟩ hop G1 G2 (R six))) (if gv = 0 then cc + 1 else cc) → Holds w2 w.heap.size w.heap.size (l.take (k + 1))) := by
              intro w2 G1 G2 ht
              rw [HTK.out]
              rw [← HGH.out] at ht
              exact holds_put HInv.out HM.out HCC.out hpok.out (by omega) HHV.out ht
            subst hg0
            go_wp2_with fail
            refine CP.out.mono ?_
            rintro e w2 ⟨rfl, ⟨G1, G2, ht2⟩, hk2⟩
            have HB3 := Lib.hid (HB2.out.trans (hk2.below (fun g hg => (HTab.out.lt g hg).1) hs1w))
            have HH3 := Lib.hid (HH2.out _ _ _ ht2)
            clear hk2 ht2
            go_wp2
            go_roundw
            case rel => exact ⟨k + 1, by omega, by go_num, HN2.out, HV2.out, HH3.out, HB3.out⟩
            case measure => simp [intOf]; omega
      · have hck2 : (cv != 0) = true := by simpa using hck
        have HF2 : Hid (routeF (l.take k) ⟨six, hi, lo, pn⟩ hop = cv) := by show _ = _; unfold routeF; rw [HCV.out, if_pos hck]
        have HFH := Lib.hid (fault_here HT.out HL.out HF.out H0.out HF2.out hck)
        have HCK := Lib.hid hck
        clear hck
        go_wp2_with fail
        refine (CK.out _).mono ?_
        rintro e w1 ⟨rfl, hb1⟩
        obtain ⟨HB1, hs1, _⟩ := box1 (cs := [.bool six, .int .u64 hi, .int .u64 lo, .int .i64 pn, .int .i64 hop]) hb1
        have HB2 := Lib.hid (HBO.out.trans (HB1.mono hszb))
        clear hb1 HB1
        go_wp2
        go_ret2
        exact ⟨HB2.out, .inl ⟨by rw [← HFH.out]; exact HCK.out, ret_pi HFH.out⟩⟩
    · obtain rfl : k = n := by omega
      have HR2 := Lib.hid (firstF_end HT.out (by simp))
      rw [List.take_of_length_le (by rw [HZ.out]; omega)] at HH HV
      go_wp2
      go_ret2
      exact ⟨hb, .inr ⟨by rw [H0.out]; exact HR2.out, rfl, HH.out, HV.out⟩⟩

set_option maxHeartbeats 400000 in
theorem new_big (A : Option Addr) (n c : Nat) (w : World) (hn : 60 < n) (hm : n ≤ maxLen) :
    Calls Try.prog 75 #[.slice A n c] w fun e w' => e = .returned (.tuple #[.pointer none, .int .i64 1]) ∧ Below w.heap.size w w' := by
  unfold maxLen at hm
  go_enter Try.func75, Try.ntmps75
  go_wp2
  go_ret2
  exact ⟨rfl, Below.refl _ _⟩

theorem new_is {A : Option Addr} {n c : Nat} {l : List RouteV} {w : World} (h : IsRoutes w A n c l) : Calls Try.prog 75 #[.slice A n c] w (NewPost l (routesF l) w) := by
  have h1 := h.1
  by_cases hn : 60 < l.length
  · have hf : routesF l = 1 := by unfold routesF; rw [if_pos hn]
    refine (new_big A n c w (by omega) (by have := h.2.1; omega)).mono ?_
    rintro e w' ⟨rfl, hb⟩
    exact ⟨hb, .inl ⟨by omega, by rw [hf]⟩⟩
  · have hf : routesF l = routesE l := by unfold routesF; rw [if_neg hn]
    refine (new_any A n c l w (by omega) h.2.1.1 h.2.1.2 h1 h.2.2.1 h.2.2.2).mono ?_
    intro e w' he
    rw [hf]
    exact he

set_option maxRecDepth 100000 in
set_option maxHeartbeats 400000 in
theorem tableCheck_is {A : Option Addr} {n c : Nat} {l : List RouteV} {w : World} (h : IsRoutes w A n c l) :
    Calls Try.prog 73 #[.slice A n c] w fun e w' => e = .returned (.int .i64 (routesF l)) ∧ Below w.heap.size w w' := by
  have HK := Lib.hid (new_is h)
  clear h
  go_enter Try.func73, Try.ntmps73
  go_wp2_with fail
  refine HK.out.mono ?_
  rintro e w1 ⟨hb, ⟨_, rfl⟩ | ⟨h0, rfl, _⟩⟩
  · go_wp2
    go_ret
    exact ⟨rfl, hb⟩
  · have H0 := Lib.hid h0
    clear h0
    go_wp2
    go_ret
    exact ⟨ret_int H0.out.symm, hb⟩

end Go.Proofs.Ytnflaaoapmhjgaa

namespace Go.Proofs.Ytnflaaoapmhjgaa
open Go.ChangeShapes Go.WideShapes Go.ChangeAt Go.RowKit

theorem reads_take {w : World} {B n k size : Nat} {A : Option Addr} {α : Type} {l : List α} {f : α → List Value} (hf : ∀ x, (f x).length = size) (hz : l.length = n) (hk : k ≤ n) (h : Reads w B size A n (l.flatMap f)) :
    Reads w B size A k ((l.take k).flatMap f) := by
  have hlen : ∀ (l : List α), (l.flatMap f).length = l.length * size := by
    intro l
    induction l with
    | nil => simp
    | cons x l ih => rw [List.flatMap_cons, List.length_append, hf, ih, List.length_cons, Nat.succ_mul]; omega
  refine ⟨by rw [hlen, List.length_take]; congr 1; omega, fun hk0 => ?_⟩
  obtain ⟨ad, rfl, hb, hc⟩ := h.2 (by omega)
  refine ⟨ad, rfl, hb, fun j u hj => hc j u ?_⟩
  have : l = l.take k ++ l.drop k := (List.take_append_drop k l).symm
  rw [this, List.flatMap_append, List.getElem?_append_left (by have := (List.getElem?_eq_some_iff.1 hj).1; exact this)]
  exact hj

set_option maxRecDepth 100000 in
set_option maxHeartbeats 3200000 in
theorem tableFault_any (A : Option Addr) (n c : Nat) (l : List RouteV) (w : World) (hn2 : n ≤ 60) (hnc : n ≤ c) (_hcm : c ≤ maxLen) (hz : l.length = n) (ho : ∀ r ∈ l, r.Ok) (hr : Reads w w.heap.size 5 A n (l.flatMap RouteV.cells)) :
    Calls Try.prog 83 #[.slice A n c] w fun e w' => e = .returned (.int .i64 (routesE l)) ∧ Below w.heap.size w w' := by
  have HZ := Lib.hid hz
  have HR := Lib.hid hr
  have HOK := Lib.hid ho
  obtain ⟨rr, hr0⟩ : ∃ r, r = firstF (routeAt l) (List.range n) := ⟨_, rfl⟩
  rw [show routesE l = firstF (routeAt l) (List.range n) from by unfold routesE; rw [hz], ← hr0]
  have H0 := Lib.hid hr0
  clear hz hr ho hr0
  go_enter Try.func83, Try.ntmps83
  go_wp2
  go_loopw [13, 2, 3, 4, 5, 7, 34, 35, 36] (fun i _ _ _ _ _ _ _ _ wr => ∃ k : Nat, k ≤ n ∧ i = .int .i64 k ∧ NoneTo (routeAt l) (List.range n) k ∧ Below w.heap.size w wr) (fun i _ _ _ _ _ _ _ _ _ => n - (intOf i).toNat)
  case atStart => exact ⟨0, by omega, rfl, rfl, Below.refl _ _⟩
  case round =>
    obtain ⟨k, hk, rfl, hto, hb⟩ := hrel
    have HT := Lib.hid hto
    have hszb := hb.size
    clear hto
    by_cases hlt : k < n
    · obtain ⟨ad, ⟨⟨six, hi, lo, pn⟩, hop⟩, rfl, hlk, htk, hmem, hbk, hc0, hcj⟩ := HR.out.atS RouteV.cells_length HZ.out hlt
      have q0 := (hb.cell (p := ad.add (k * 5)) (by rw [block_of_add]; exact hbk)).trans (hc0 _ rfl)
      have q1 := (hb.cell (p := ⟨(ad.add (k * 5)).block, (ad.add (k * 5)).off + 1, none⟩) (by rw [block_of_add]; exact hbk)).trans (hcj 1 _ rfl)
      have q2 := (hb.cell (p := ⟨(ad.add (k * 5)).block, (ad.add (k * 5)).off + 2, none⟩) (by rw [block_of_add]; exact hbk)).trans (hcj 2 _ rfl)
      have q3 := (hb.cell (p := ⟨(ad.add (k * 5)).block, (ad.add (k * 5)).off + 3, none⟩) (by rw [block_of_add]; exact hbk)).trans (hcj 3 _ rfl)
      have q4 := (hb.cell (p := ⟨(ad.add (k * 5)).block, (ad.add (k * 5)).off + 4, none⟩) (by rw [block_of_add]; exact hbk)).trans (hcj 4 _ rfl)
      obtain ⟨r1, r2, r3, r4⟩ := HOK.out _ hmem
      simp only at r1 r2 r3 r4
      have hfd : routeAt l k = routeF (l.take k) ⟨six, hi, lo, pn⟩ hop := by unfold routeAt; rw [hlk]
      have HF := Lib.hid hfd
      have HL := Lib.hid (range_at (n := n) hlt)
      have HK := Lib.hid (range_take (n := n) hlt)
      have CK := Lib.hid (fun w => preFault_any six hi lo pn w r1 r2)
      have HBO := Lib.hid hb
      have HRK := Lib.hid (reads_take RouteV.cells_length HZ.out hk HR.out)
      have HZK : Hid ((l.take k).length = k) := by show _ = _; rw [List.length_take, HZ.out]; omega
      obtain ⟨cv, hcv⟩ : ∃ cv, chk six hi lo pn = cv := ⟨_, rfl⟩
      have HCV : Hid (PV.chk ⟨six, hi, lo, pn⟩ = cv) := hcv
      rw [hcv] at CK
      have hkc : (k : Int) ≤ (c : Int) := by omega
      have hkc2 : (k : Int) ≤ 60 := by omega
      clear hlk htk hmem hbk hc0 hcj hfd hb hcv
      by_cases hck : cv = 0
      · subst hck
        by_cases c1 : hop < 1 ∨ 999 < hop
        · have HF2 : Hid (routeF (l.take k) ⟨six, hi, lo, pn⟩ hop = 2) := by show _ = _; unfold routeF; rw [if_neg (by rw [HCV.out]; simp), if_pos c1]
          have HFH := Lib.hid (fault_here HT.out HL.out HF.out H0.out HF2.out (by omega))
          go_wp2_with fail
          refine (CK.out _).mono ?_
          rintro e w1 ⟨rfl, hb1⟩
          obtain ⟨HB1, hs1, hx1⟩ := box1 (cs := [.bool six, .int .u64 hi, .int .u64 lo, .int .i64 pn, .int .i64 hop]) hb1
          have e4 := hx1 4 _ rfl
          have HB2 := Lib.hid (HBO.out.trans (HB1.mono hszb))
          clear hb1 HB1 hx1
          by_cases c2 : hop < 1
          · go_wp2
            go_ret
            exact ⟨ret_int HFH.out, HB2.out⟩
          · have c3 : 999 < hop := by omega
            go_wp2
            go_ret
            exact ⟨ret_int HFH.out, HB2.out⟩
        · have HF2 : Hid (routeF (l.take k) ⟨six, hi, lo, pn⟩ hop = if hasR (l.take k) ⟨six, hi, lo, pn⟩ = true then 8 else 0) := by show _ = _; unfold routeF; rw [if_neg (by rw [HCV.out]; simp), if_neg c1]
          have x1 : ¬ hop < 1 := by omega
          have x2 : ¬ 999 < hop := by omega
          clear c1
          generalize hlkk : l.take k = lk at *
          clear hlkk
          go_wp2_with fail
          refine (CK.out _).mono ?_
          rintro e w1 ⟨rfl, hb1⟩
          obtain ⟨HB1, hs1, hx1⟩ := box1 (cs := [.bool six, .int .u64 hi, .int .u64 lo, .int .i64 pn, .int .i64 hop]) hb1
          have e0 := hx1 0 _ rfl
          have e1 := hx1 1 _ rfl
          have e2 := hx1 2 _ rfl
          have e3 := hx1 3 _ rfl
          have e4 := hx1 4 _ rfl
          have HB2 := Lib.hid (HBO.out.trans (HB1.mono hszb))
          clear hb1 HB1 hx1 q0 q1 q2 q3 q4
          obtain ⟨wo, rfl⟩ : ∃ wo : World, wo = wr := ⟨_, rfl⟩
          go_wp2
          go_loopw [36, 2, 7] (fun i _ _ wy => ∃ j : Nat, j ≤ k ∧ i = .int .i64 j ∧ NoneYet (fun r : RouteV => decide (r.p = ⟨six, hi, lo, pn⟩)) lk j ∧ Below w1.heap.size w1 wy) (fun i _ _ _ => k - (intOf i).toNat)
          case atStart => exact ⟨0, by omega, rfl, noneYet_zero _ _, Below.refl _ _⟩
          case round =>
            obtain ⟨j, hj, rfl, hno, hbr⟩ := hrel
            have HN := Lib.hid hno
            have HBR := Lib.hid hbr
            have HB := Lib.hid (HB2.out.trans (hbr.mono HB2.out.size))
            have hb := HB.out
            obtain ⟨fc, ff⟩ := bcell hbr
            have s2 := hbr.size
            have g0 := (fc _ _ hs1).trans e0
            have g1 := (fc _ _ hs1).trans e1
            have g2 := (fc _ _ hs1).trans e2
            have g3 := (fc _ _ hs1).trans e3
            have g4 := (fc _ _ hs1).trans e4
            have s3 : wo.heap.size < wr.heap.size := by omega
            have s4 : ¬ wo.heap.size = wr.heap.size := by omega
            have s5 : ¬ wr.heap.size = wo.heap.size := by omega
            clear hno hbr
            by_cases hlt2 : j < k
            · obtain ⟨ad', ⟨⟨tsix, thi, tlo, tn⟩, thop⟩, hadd, hlk, htk, hmem, hbk, hc0, hcj⟩ := HRK.out.atS RouteV.cells_length HZK.out hlt2
              injection hadd with hadd
              subst hadd
              have q0 := (hb.cell (p := ad.add (j * 5)) (by rw [block_of_add]; exact hbk)).trans (hc0 _ rfl)
              have q1 := (hb.cell (p := ⟨(ad.add (j * 5)).block, (ad.add (j * 5)).off + 1, none⟩) (by rw [block_of_add]; exact hbk)).trans (hcj 1 _ rfl)
              have q2 := (hb.cell (p := ⟨(ad.add (j * 5)).block, (ad.add (j * 5)).off + 2, none⟩) (by rw [block_of_add]; exact hbk)).trans (hcj 2 _ rfl)
              have q3 := (hb.cell (p := ⟨(ad.add (j * 5)).block, (ad.add (j * 5)).off + 3, none⟩) (by rw [block_of_add]; exact hbk)).trans (hcj 3 _ rfl)
              have q4 := (hb.cell (p := ⟨(ad.add (j * 5)).block, (ad.add (j * 5)).off + 4, none⟩) (by rw [block_of_add]; exact hbk)).trans (hcj 4 _ rfl)
              have HLK2 := Lib.hid hlk
              have HTK2 := Lib.hid htk
              have HEQ := fun w => eqPV ⟨tsix, thi, tlo, tn⟩ ⟨six, hi, lo, pn⟩ w
              clear hlk htk hmem hbk hc0 hcj hb
              by_cases he : (⟨tsix, thi, tlo, tn⟩ : PV) = ⟨six, hi, lo, pn⟩
              · have HV : Hid (hasR lk ⟨six, hi, lo, pn⟩ = true) := by
                  show _ = _
                  unfold hasR
                  rw [List.any_eq_true]
                  exact ⟨_, List.mem_of_getElem? HLK2.out, by simpa using he⟩
                rw [decide_eq_true he] at HEQ
                unfold PV.val at HEQ
                simp only at HEQ
                clear he
                go_wp2
                go_ret
                exact ⟨ret_int (fault_here HT.out HL.out HF.out H0.out (HF2.out.trans (by rw [HV.out, if_pos rfl])) (by omega)), HB.out.alloc HB.out.size _⟩
              · have HN2 := Lib.hid (noneYet_succ HN.out HTK2.out (decide_eq_false he))
                rw [decide_eq_false he] at HEQ
                unfold PV.val at HEQ
                simp only at HEQ
                clear he
                go_wp2
                go_roundw
                case rel => exact ⟨j + 1, by omega, by go_num, HN2.out, HBR.out.alloc HBR.out.size _⟩
                case measure => simp [intOf]; omega
            · obtain rfl : j = k := by omega
              have HV : Hid (hasR lk ⟨six, hi, lo, pn⟩ = false) := by
                show _ = _
                unfold hasR
                rw [List.any_eq_false]
                intro x hx
                have := HN.out x (by rw [List.take_of_length_le (by rw [HZK.out]; omega)]; exact hx)
                simp only at this
                simp [this]
              clear hb
              go_wp2
              go_roundw
              case rel => exact ⟨j + 1, by omega, by go_num, noneTo_succ HT.out HK.out (HF.out.trans (HF2.out.trans (by rw [HV.out, if_neg (by simp)]))), HB.out⟩
              case measure => simp [intOf]; omega
      · have hck2 : (cv != 0) = true := by simpa using hck
        have HF2 : Hid (routeF (l.take k) ⟨six, hi, lo, pn⟩ hop = cv) := by show _ = _; unfold routeF; rw [HCV.out, if_pos hck]
        have HFH := Lib.hid (fault_here HT.out HL.out HF.out H0.out HF2.out hck)
        clear hck
        go_wp2_with fail
        refine (CK.out _).mono ?_
        rintro e w1 ⟨rfl, hb1⟩
        obtain ⟨HB1, hs1, _⟩ := box1 (cs := [.bool six, .int .u64 hi, .int .u64 lo, .int .i64 pn, .int .i64 hop]) hb1
        have HB2 := Lib.hid (HBO.out.trans (HB1.mono hszb))
        clear hb1 HB1
        go_wp2
        go_ret
        exact ⟨ret_int HFH.out, HB2.out⟩
    · obtain rfl : k = n := by omega
      have HR2 := Lib.hid (firstF_end HT.out (by simp))
      go_wp2
      go_ret
      exact ⟨ret_int (HR2.out.symm.trans H0.out.symm), hb⟩

set_option maxHeartbeats 400000 in
theorem tableFault_big (A : Option Addr) (n c : Nat) (w : World) (hn : 60 < n) (hm : n ≤ maxLen) :
    Calls Try.prog 83 #[.slice A n c] w fun e w' => e = .returned (.int .i64 1) ∧ Below w.heap.size w w' := by
  unfold maxLen at hm
  go_enter Try.func83, Try.ntmps83
  go_wp2
  go_ret
  exact ⟨rfl, Below.refl _ _⟩
theorem tableFault_is {A : Option Addr} {n c : Nat} {l : List RouteV} {w : World} (h : IsRoutes w A n c l) :
    Calls Try.prog 83 #[.slice A n c] w fun e w' => e = .returned (.int .i64 (routesF l)) ∧ Below w.heap.size w w' := by
  unfold routesF
  have h1 := h.1
  by_cases hn : 60 < l.length
  · rw [if_pos hn]
    exact tableFault_big A n c w (by omega) (by have := h.2.1; omega)
  · rw [if_neg hn]
    exact tableFault_any A n c l w (by omega) h.2.1.1 h.2.1.2 h1 h.2.2.1 h.2.2.2

end Go.Proofs.Ytnflaaoapmhjgaa

namespace Go.Proofs.Ytnflaaoapmhjgaa
open Go.ChangeShapes Go.WideShapes Go.ChangeAt Go.RowKit

theorem firstF_zero2 {α : Type} {f : α → Int} : ∀ {l : List α}, firstF f l = 0 → ∀ x ∈ l, f x = 0
  | [], _, x, hx => by simp at hx
  | y :: l, h, x, hx => by
    unfold firstF at h
    by_cases hy : f y = 0
    · rw [if_pos hy] at h
      rcases List.mem_cons.1 hx with rfl | hx
      · exact hy
      · exact firstF_zero2 h x hx
    · rw [if_neg hy] at h
      exact absurd h hy
theorem valid_of {l : List RouteV} (ho : ∀ r ∈ l, r.Ok) (h : routesF l = 0) : Valid l ∧ l.length ≤ 60 := by
  unfold routesF at h
  by_cases hn : 60 < l.length
  · rw [if_pos hn] at h; omega
  rw [if_neg hn] at h
  have hz := firstF_zero2 h
  have key : ∀ k, k ≤ l.length → Valid (l.take k) := by
    intro k
    induction k with
    | zero => intro _; exact ⟨by simp, by simp⟩
    | succ k ih =>
      intro hk
      obtain ⟨r, hr⟩ : ∃ r, l[k]? = some r := ⟨l[k], List.getElem?_eq_getElem (by omega)⟩
      have h0 := hz k (List.mem_range.2 (by omega))
      unfold routeAt at h0
      rw [hr] at h0
      simp only at h0
      have hro := ho r (List.mem_of_getElem? hr)
      unfold routeF at h0
      by_cases h1 : r.p.chk = 0
      · rw [if_neg (by simp [h1])] at h0
        by_cases h2 : r.hop < 1 ∨ 999 < r.hop
        · rw [if_pos h2] at h0; omega
        · rw [if_neg h2] at h0
          by_cases h3 : hasR (l.take k) r.p = true
          · rw [if_pos h3] at h0; omega
          · rw [List.take_add_one, hr]
            obtain ⟨p, hop⟩ := r
            exact valid_snoc (ih (by omega)) (chk_zero hro.a hro.b h1) (by simp only at h2; omega) (by simpa using h3)
      · rw [if_pos (by simpa using h1)] at h0
        exact absurd h0 h1
  refine ⟨?_, by omega⟩
  have := key l.length (Nat.le_refl _)
  rwa [List.take_length] at this

/-- What Look says: hop, length, error. -/
def lookR (l : List RouteV) (six : Bool) (hi lo : Int) : Int × Int × Int :=
  if ¬ routesF l = 0 then (0, 0, routesF l) else if mayB six hi lo = false then (0, 0, 4) else ((goesR l six hi lo).1, (goesR l six hi lo).2, 0)
def Looked (r : Int × Int × Int) (w : World) (e : Ending) (w' : World) : Prop := e = .returned (.tuple #[.agg #[.int .i64 0, .int .i64 r.1, .int .i64 r.2.1], .int .i64 r.2.2]) ∧ Below w.heap.size w w'

set_option maxRecDepth 100000 in
set_option maxHeartbeats 1600000 in
theorem tableLook_is (A : Option Addr) (n c : Nat) (l : List RouteV) (six : Bool) (hi lo : Int) (w : World) (h : IsRoutes w A n c l) (h3 : 0 ≤ hi ∧ hi < 18446744073709551616) (h4 : 0 ≤ lo ∧ lo < 18446744073709551616) :
    Calls Try.prog 28 #[.slice A n c, .agg #[.bool six, .int .u64 hi, .int .u64 lo]] w (Looked (lookR l six hi lo) w) := by
  have CN := Lib.hid (fun (w' : World) (hb : Below w.heap.size w w') => new_is (h.below hb))
  have CM := Lib.hid (fun w => may_any six hi lo w h4.1)
  unfold Looked
  by_cases hz : routesF l = 0
  · have CN2 : Hid (∀ (w' : World) (_ : Below w.heap.size w w'), Calls Try.prog 75 #[.slice A n c] w' (NewPost l 0 w')) := by
      intro w' hb
      have := CN.out w' hb
      rwa [hz] at this
    clear CN
    cases hm : mayB six hi lo with
    | false =>
      have hr : lookR l six hi lo = (0, 0, 4) := by unfold lookR; rw [if_neg (by simp [hz]), if_pos hm]
      rw [hr]
      rw [hm] at CM
      clear hr hz hm h
      go_enter Try.func28, Try.ntmps28
      go_wp2_with fail
      refine (CN2.out _ (((Below.refl _ _).alloc (Nat.le_refl _) _).alloc (by simp) _)).mono ?_
      rintro e w1 ⟨hb1, ⟨hx, _⟩ | ⟨_, rfl, _, _⟩⟩
      · exact absurd rfl hx
      obtain ⟨fc, ff⟩ := bcell hb1
      obtain ⟨s1, s2⟩ := bsize2 hb1
      have HB := Lib.hid (balloc2 hb1)
      clear hb1
      go_wp2_with fail
      refine (CM.out _).mono ?_
      rintro e w2 ⟨rfl, hb2⟩
      obtain ⟨fc2, ff2⟩ := bcell hb2
      have HB2 := Lib.hid (below_step HB.out hb2)
      have s3 := hb2.size
      have s4 : w.heap.size + 1 < w2.heap.size := by omega
      clear hb2
      go_wp2
      refine bodyPost_ret (v := .tuple #[.agg #[.int .i64 0, .int .i64 0, .int .i64 0], .int .i64 4]) ?_ rfl ⟨rfl, ?_⟩
      · simp [results, Try.results28, go_sem, fc, fc2, s2]
      · (repeat' first | with_reducible exact HB2.out | with_reducible refine Below.drew ?_ | with_reducible refine below_drewN ?_ _ | with_reducible refine Below.setCell ?_ ?_ _ | (simp; done) | (simp; omega) | omega)
    | true =>
      have hr : lookR l six hi lo = ((goesR l six hi lo).1, (goesR l six hi lo).2, 0) := by unfold lookR; rw [if_neg (by simp [hz]), if_neg (by simp [hm])]
      rw [hr]
      have HAO : Hid (AV.Ok ⟨six, hi, lo⟩) := ⟨h3, h4, hm⟩
      rw [hm] at CM
      obtain ⟨res, hres⟩ : ∃ res, goesR l six hi lo = res := ⟨_, rfl⟩
      rw [hres]
      have HRES := Lib.hid hres
      clear hr hz hm h hres
      go_enter Try.func28, Try.ntmps28
      go_wp2_with fail
      refine (CN2.out _ (((Below.refl _ _).alloc (Nat.le_refl _) _).alloc (by simp) _)).mono ?_
      rintro e w1 ⟨hb1, ⟨hx, _⟩ | ⟨_, rfl, hhold, hval⟩⟩
      · exact absurd rfl hx
      obtain ⟨fc, ff⟩ := bcell hb1
      obtain ⟨s1, s2⟩ := bsize2 hb1
      have HB := Lib.hid (balloc2 hb1)
      have hhold2 : Holds w1 (w.heap.size + 1 + 1) (w.heap.size + 1 + 1) l := by simpa using hhold
      have HH := Lib.hid hhold2
      have HV := Lib.hid hval
      clear hb1 hhold hhold2 hval
      go_wp2_with fail
      refine (CM.out _).mono ?_
      rintro e w2 ⟨rfl, hb2⟩
      obtain ⟨fc2, ff2⟩ := bcell hb2
      have HB2 := Lib.hid (below_step HB.out hb2)
      have s3 := hb2.size
      have s4 : w.heap.size + 1 < w2.heap.size := by omega
      have s5 : w.heap.size < w2.heap.size := by omega
      obtain ⟨R, cc, hT, hI, hM, _⟩ := HH.out.below hb2
      have CL := Lib.hid (tlook_any hT hI six hi lo HAO.out)
      rw [look_goes HV.out (addr_pfx HAO.out) (hI six) (fun p hp h6 => by have := hM p hp; rw [h6] at this; exact this), HRES.out] at CL
      clear hb2 hT hI hM
      go_wp2_with fail
      refine CL.out.mono ?_
      rintro e w3 ⟨rfl, hb3⟩
      obtain ⟨fc3, ff3⟩ := bcell hb3
      have HB3 := Lib.hid (below_step HB2.out hb3)
      have s6 := hb3.size
      have s7 : w.heap.size + 1 < w3.heap.size := by omega
      clear hb3
      go_wp2
      refine bodyPost_ret (v := .tuple #[.agg #[.int .i64 0, .int .i64 res.1, .int .i64 res.2], .int .i64 0]) ?_ rfl ⟨rfl, ?_⟩
      · simp [results, Try.results28, go_sem, fc, fc2, fc3, s2, s4]
      · (repeat' first | with_reducible exact HB3.out | with_reducible refine Below.drew ?_ | with_reducible refine below_drewN ?_ _ | with_reducible refine Below.setCell ?_ ?_ _ | (simp; done) | (simp; omega) | omega)
  · have hr : lookR l six hi lo = (0, 0, routesF l) := by unfold lookR; rw [if_pos hz]
    rw [hr]
    obtain ⟨E, hE⟩ : ∃ E, routesF l = E := ⟨_, rfl⟩
    rw [hE] at hz CN ⊢
    have hzb : (E != 0) = true := by simpa using hz
    clear hr hE h CM
    go_enter Try.func28, Try.ntmps28
    go_wp2_with fail
    refine (CN.out _ (((Below.refl _ _).alloc (Nat.le_refl _) _).alloc (by simp) _)).mono ?_
    rintro e w1 ⟨hb1, ⟨_, rfl⟩ | ⟨hx, _⟩⟩
    · obtain ⟨fc, ff⟩ := bcell hb1
      obtain ⟨s1, s2⟩ := bsize2 hb1
      have HB := Lib.hid (balloc2 hb1)
      clear hb1
      go_wp2
      refine bodyPost_ret (v := .tuple #[.agg #[.int .i64 0, .int .i64 0, .int .i64 0], .int .i64 E]) ?_ rfl ⟨rfl, ?_⟩
      · simp [results, Try.results28, go_sem, fc]
      · (repeat' first | with_reducible exact HB.out | with_reducible refine Below.drew ?_ | with_reducible refine below_drewN ?_ _ | with_reducible refine Below.setCell ?_ ?_ _ | (simp; done) | (simp; omega) | omega)
    · exact absurd hx hz

end Go.Proofs.Ytnflaaoapmhjgaa

namespace Go.Proofs.Ytnflaaoapmhjgaa
open Go.ChangeShapes Go.WideShapes Go.ChangeAt Go.RowKit

/-- What Apply returns. -/
def AppliedT (w : World) (E : Int) (L : List RouteV) (e : Ending) (w' : World) : Prop :=
  ∃ v S, e = .returned (.tuple #[v, .int .i64 E]) ∧ SortedIf (decide (¬ E = 0)) L S ∧ OwnRs w' w.heap.size v S ∧ Below w.heap.size w w'
theorem appliedT_bad {w w' : World} {E : Int} (h : ¬ E = 0) (L : List RouteV) (hb : Below w.heap.size w w') : AppliedT w E L (.returned (.tuple #[.slice none 0 0, .int .i64 E])) w' :=
  ⟨_, [], rfl, by unfold SortedIf; rw [decide_eq_true h]; rfl, World.ownsRow_nil _ _ _ _, hb⟩

set_option maxRecDepth 100000 in
set_option maxHeartbeats 3200000 in
theorem apply_any {w : World} {A0 : Option Addr} {n0r c0r : Nat} {L0 : List RouteV} {A : Option Addr} {n c : Nat} {l : List ActV} (hl : IsRoutes w A0 n0r c0r L0) (h : IsActs w A n l) (hc : n ≤ c ∧ c ≤ maxLen) :
    Calls Try.prog 61 #[.slice A0 n0r c0r, .slice A n c] w (AppliedT w (applyR L0 l (routesF L0)).1 (applyR L0 l (routesF L0)).2) := by
  have CN := Lib.hid (new_is hl)
  have HZ := Lib.hid h.len
  have HR := Lib.hid h.reads
  have HOK := Lib.hid h.ok
  have HGD := Lib.hid (fun h0 => valid_of hl.2.2.1 h0)
  have hcm := hc.2
  unfold maxLen at hcm
  clear h hc hl
  obtain ⟨RS, hRS⟩ : ∃ RS, applyR L0 l (routesF L0) = RS := ⟨_, rfl⟩
  have HRS := Lib.hid hRS
  obtain ⟨post, hpost⟩ : ∃ post, AppliedT w (applyR L0 l (routesF L0)).1 (applyR L0 l (routesF L0)).2 = post := ⟨_, rfl⟩
  rw [hpost]
  rw [hRS] at hpost
  have HP := Lib.hid hpost
  clear hpost hRS
  obtain ⟨E, hE⟩ : ∃ E, routesF L0 = E := ⟨_, rfl⟩
  rw [hE] at CN HRS HGD
  clear hE
  go_enter Try.func61, Try.ntmps61
  go_wp2_with fail
  refine CN.out.mono ?_
  rintro e w1 ⟨hb1, ⟨hE, rfl⟩ | ⟨rfl, rfl, hH, hV⟩⟩
  · have HB1 := Lib.hid hb1
    have d0 : (E != 0) = true := by simpa using hE
    have HRE : Hid (RS = (E, [])) := by have := HRS.out; unfold applyR at this; rw [if_pos hE] at this; exact this.symm
    clear hb1 hE CN HRS
    go_wp2
    (try go_ret2)
    rw [← HP.out, HRE.out]
    exact appliedT_bad (by simpa using d0) _ HB1.out
  · have HB1 := Lib.hid hb1
    have HH := Lib.hid hH
    have HG : Hid (GoodL L0) := (HGD.out rfl)
    by_cases h120 : 120 < n
    · have d1 : decide (120 < (n : Int)) = true := by simp; omega
      have HRE : Hid (RS = (1, [])) := by have := HRS.out; unfold applyR at this; rw [if_neg (by simp), if_pos (by rw [HZ.out]; exact h120)] at this; exact this.symm
      clear hb1 hH hV CN HRS
      go_wp2
      (try go_ret2)
      rw [← HP.out, HRE.out]
      exact appliedT_bad (by decide) _ HB1.out
    · have d1 : decide (120 < (n : Int)) = false := by simp; omega
      have HRE : Hid (RS = appl l L0) := by have := HRS.out; unfold applyR at this; rw [if_neg (by simp), if_neg (by rw [HZ.out]; exact h120)] at this; exact this.symm
      have hs1 := hb1.size
      clear hb1 hH hV CN HRS HGD
      go_wp2
      go_loopw [26] (fun i wr => ∃ (k : Nat) (L : List RouteV), k ≤ n ∧ i = .int .i64 k ∧ RS = appl (l.drop k) L ∧ GoodL L ∧ Holds wr w.heap.size w.heap.size L ∧ Below w.heap.size w wr) (fun i _ => n - (intOf i).toNat)
      case atStart => exact ⟨0, L0, by omega, rfl, HRE.out, HG.out, HH.out, HB1.out⟩
      case round =>
        obtain ⟨k, L, hk, rfl, hrs, hG, hho, hb⟩ := hrel
        obtain ⟨wo, rfl⟩ : ∃ wo : World, wo = wr := ⟨_, rfl⟩
        have hszb := hb.size
        by_cases hlt : k < n
        · obtain ⟨ad, ⟨kd, ⟨six, hi, lo, n0⟩, hop, ⟨six2, hi2, lo2⟩⟩, rfl, hlk, htk, hmem, hbk, hc0, hcj⟩ := HR.out.atS ActV.cells_length' HZ.out hlt
          rw [drop_at hlk] at hrs
          have q0 := (hb.cell (p := ad.add (k * 9)) (by rw [block_of_add]; exact hbk)).trans (hc0 _ rfl)
          have q1 := (hb.cell (p := ⟨(ad.add (k * 9)).block, (ad.add (k * 9)).off + 1, none⟩) (by rw [block_of_add]; exact hbk)).trans (hcj 1 _ rfl)
          have q2 := (hb.cell (p := ⟨(ad.add (k * 9)).block, (ad.add (k * 9)).off + 2, none⟩) (by rw [block_of_add]; exact hbk)).trans (hcj 2 _ rfl)
          have q3 := (hb.cell (p := ⟨(ad.add (k * 9)).block, (ad.add (k * 9)).off + 3, none⟩) (by rw [block_of_add]; exact hbk)).trans (hcj 3 _ rfl)
          have q4 := (hb.cell (p := ⟨(ad.add (k * 9)).block, (ad.add (k * 9)).off + 4, none⟩) (by rw [block_of_add]; exact hbk)).trans (hcj 4 _ rfl)
          have q5 := (hb.cell (p := ⟨(ad.add (k * 9)).block, (ad.add (k * 9)).off + 5, none⟩) (by rw [block_of_add]; exact hbk)).trans (hcj 5 _ rfl)
          have q6 := (hb.cell (p := ⟨(ad.add (k * 9)).block, (ad.add (k * 9)).off + 6, none⟩) (by rw [block_of_add]; exact hbk)).trans (hcj 6 _ rfl)
          have q7 := (hb.cell (p := ⟨(ad.add (k * 9)).block, (ad.add (k * 9)).off + 7, none⟩) (by rw [block_of_add]; exact hbk)).trans (hcj 7 _ rfl)
          have q8 := (hb.cell (p := ⟨(ad.add (k * 9)).block, (ad.add (k * 9)).off + 8, none⟩) (by rw [block_of_add]; exact hbk)).trans (hcj 8 _ rfl)
          obtain ⟨o1, o2, o3, o4⟩ := HOK.out _ hmem
          obtain ⟨R, hR⟩ := hho.named
          have CD := Lib.hid (fun (o : Obj) => tabDo_any (w := wo.alloc o) (hR.below ((Below.refl _ _).alloc (Nat.le_refl _) o)) hG.1 hG.2 ⟨kd, ⟨six, hi, lo, n0⟩, hop, ⟨six2, hi2, lo2⟩⟩ o1 o2 o3 o4)
          unfold ActV.valD at CD
          have HGN := Lib.hid (goodL_do hG (HOK.out _ hmem))
          have HHR := Lib.hid (fun (o : Obj) => hR.below ((Below.refl _ _).alloc (Nat.le_refl _) o))
          have HB := Lib.hid hb
          have HRK := Lib.hid hrs
          clear hlk htk hmem hc0 hcj hb hbk o1 o2 o3 o4 hG hR hho hrs
          by_cases hkd : kd = 1 ∨ kd = 2
          · rcases hkd with rfl | rfl
            · go_wp2_with fail
              refine (CD.out _).mono ?_
              rintro e X ⟨rfl, hhx, hkx⟩
              obtain ⟨av, hav⟩ : ∃ av : ActV, av = ⟨1, ⟨six, hi, lo, n0⟩, hop, ⟨six2, hi2, lo2⟩⟩ := ⟨_, rfl⟩
              rw [← hav] at HRK HGN hhx ⊢
              have HKA : Hid (av.kind = 1 ∨ av.kind = 2) := by rw [hav]; exact Lib.hid (by simp)
              clear hav
              obtain ⟨D, hD⟩ : ∃ D, doA L av = D := ⟨_, rfl⟩
              rw [hD]
              have hbx : Below w.heap.size w X := HB.out.trans ((((Below.refl w.heap.size wo).alloc hszb _)).trans (hkx.below (fun g hg => ((HHR.out (.cells #[] 0)).1.lt g hg).1) (by simp; omega)))
              have HHX := Lib.hid hhx
              have HBX := Lib.hid hbx
              have hsx := hbx.size
              clear hhx hkx hbx CD q0 q1 q2 q3 q4 q5 q6 q7 q8
              unfold AnsV.val
              obtain ⟨dc, hdc⟩ : ∃ dc, D.code = dc := ⟨_, rfl⟩
              rw [hdc]
              by_cases hz : dc = 0
              · have HN : Hid (RS = appl (l.drop (k + 1)) (doL L av)) := by show _ = _; rw [HRK.out]; exact appl_ok HKA.out (by rw [hD, hdc, hz])
                have HHY := Lib.hid (fun (o : Obj) => (HHX.out).below ((Below.refl _ _).alloc (Nat.le_refl _) o))
                have HBY := Lib.hid (fun (o : Obj) => HBX.out.alloc hsx o)
                subst hz
                clear hdc hD
                go_wp2
                go_roundw
                case rel => exact ⟨k + 1, _, by omega, by go_num, HN.out, HGN.out, HHY.out _, HBY.out _⟩
                case measure => simp [intOf]; omega
              · have d2 : (dc != 0) = true := by simpa using hz
                have HN : Hid (RS = (dc, [])) := by show _ = _; rw [HRK.out, appl_code HKA.out (by rw [hD, hdc]; exact hz), hD, hdc]
                have HBY := Lib.hid (fun (o : Obj) => HBX.out.alloc hsx o)
                clear hdc hD hz
                go_wp2
                go_quiet (fail)
                go_wp2
                (try go_ret2)
                rw [← HP.out, HN.out]
                exact appliedT_bad (by simpa using d2) _ (below_drewN (HBY.out _) _)
            · go_wp2_with fail
              refine (CD.out _).mono ?_
              rintro e X ⟨rfl, hhx, hkx⟩
              obtain ⟨av, hav⟩ : ∃ av : ActV, av = ⟨2, ⟨six, hi, lo, n0⟩, hop, ⟨six2, hi2, lo2⟩⟩ := ⟨_, rfl⟩
              rw [← hav] at HRK HGN hhx ⊢
              have HKA : Hid (av.kind = 1 ∨ av.kind = 2) := by rw [hav]; exact Lib.hid (by simp)
              clear hav
              obtain ⟨D, hD⟩ : ∃ D, doA L av = D := ⟨_, rfl⟩
              rw [hD]
              have hbx : Below w.heap.size w X := HB.out.trans ((((Below.refl w.heap.size wo).alloc hszb _)).trans (hkx.below (fun g hg => ((HHR.out (.cells #[] 0)).1.lt g hg).1) (by simp; omega)))
              have HHX := Lib.hid hhx
              have HBX := Lib.hid hbx
              have hsx := hbx.size
              clear hhx hkx hbx CD q0 q1 q2 q3 q4 q5 q6 q7 q8
              unfold AnsV.val
              obtain ⟨dc, hdc⟩ : ∃ dc, D.code = dc := ⟨_, rfl⟩
              rw [hdc]
              by_cases hz : dc = 0
              · have HN : Hid (RS = appl (l.drop (k + 1)) (doL L av)) := by show _ = _; rw [HRK.out]; exact appl_ok HKA.out (by rw [hD, hdc, hz])
                have HHY := Lib.hid (fun (o : Obj) => (HHX.out).below ((Below.refl _ _).alloc (Nat.le_refl _) o))
                have HBY := Lib.hid (fun (o : Obj) => HBX.out.alloc hsx o)
                subst hz
                clear hdc hD
                go_wp2
                go_roundw
                case rel => exact ⟨k + 1, _, by omega, by go_num, HN.out, HGN.out, HHY.out _, HBY.out _⟩
                case measure => simp [intOf]; omega
              · have d2 : (dc != 0) = true := by simpa using hz
                have HN : Hid (RS = (dc, [])) := by show _ = _; rw [HRK.out, appl_code HKA.out (by rw [hD, hdc]; exact hz), hD, hdc]
                have HBY := Lib.hid (fun (o : Obj) => HBX.out.alloc hsx o)
                clear hdc hD hz
                go_wp2
                go_quiet (fail)
                go_wp2
                (try go_ret2)
                rw [← HP.out, HN.out]
                exact appliedT_bad (by simpa using d2) _ (below_drewN (HBY.out _) _)
          · have k1 : (kd != 1) = true := by simp; omega
            have k2 : (kd != 2) = true := by simp; omega
            have HN : Hid (RS = (3, [])) := by show _ = _; rw [HRK.out, appl_kind hkd]
            have HBY := Lib.hid (fun (o : Obj) => HB.out.alloc hszb o)
            clear hkd CD
            go_wp2
            (try go_ret2)
            rw [← HP.out, HN.out]
            exact appliedT_bad (by decide) _ (HBY.out _)
        · obtain rfl : k = n := by omega
          have ht : l.drop k = [] := List.drop_eq_nil_of_le (by rw [HZ.out]; omega)
          rw [ht] at hrs
          have HN : Hid (RS = (0, L)) := hrs
          have CS := Lib.hid (sorted_is hho hG.1 (by have := hG.2; omega))
          have HB := Lib.hid hb
          clear hrs hho hb ht hG
          go_wp2_with fail
          refine CS.out.mono ?_
          rintro e w9 ⟨v, S, rfl, hS, hown, hb9⟩
          have H1 := Lib.hid hS
          have H2 := Lib.hid hown
          have H3 := Lib.hid hb9
          clear hS hown hb9
          go_wp2
          (try go_ret2)
          rw [← HP.out, HN.out]
          exact ⟨v, S, rfl, H1.out, own_mono H2.out hszb, below_step HB.out H3.out⟩

end Go.Proofs.Ytnflaaoapmhjgaa

namespace Go.Proofs.Ytnflaaoapmhjgaa
open Go.ChangeShapes Go.WideShapes Go.ChangeAt Go.RowKit

theorem sortedIf_ok {L S : List RouteV} (h : SortedOf L S) : SortedIf (decide (¬ (0 : Int) = 0)) L S := h

set_option maxRecDepth 100000 in
set_option maxHeartbeats 6400000 in
theorem refApply_any {w : World} {A0 : Option Addr} {n0r c0r : Nat} {L0 : List RouteV} {A : Option Addr} {n c : Nat} {l : List ActV} (hl : IsRoutes w A0 n0r c0r L0) (h : IsActs w A n l) (hc : n ≤ c ∧ c ≤ maxLen) :
    Calls Try.prog 62 #[.slice A0 n0r c0r, .slice A n c] w (AppliedT w (applyR L0 l (routesF L0)).1 (applyR L0 l (routesF L0)).2) := by
  have CN := Lib.hid (tableFault_is hl)
  have HZ := Lib.hid h.len
  have HR := Lib.hid h.reads
  have HOK := Lib.hid h.ok
  have HGD := Lib.hid (fun h0 => valid_of hl.2.2.1 h0)
  have HLZ := Lib.hid hl.1
  have HRL := Lib.hid (fun (W : World) (hb : Below w.heap.size w W) => (hl.below hb).2.2.2)
  have hcm := hc.2
  have hcr := hl.2.1
  unfold maxLen at hcm hcr
  clear h hc hl
  obtain ⟨RS, hRS⟩ : ∃ RS, applyR L0 l (routesF L0) = RS := ⟨_, rfl⟩
  have HRS := Lib.hid hRS
  obtain ⟨post, hpost⟩ : ∃ post, AppliedT w (applyR L0 l (routesF L0)).1 (applyR L0 l (routesF L0)).2 = post := ⟨_, rfl⟩
  rw [hpost]
  rw [hRS] at hpost
  have HP := Lib.hid hpost
  clear hpost hRS
  obtain ⟨E, hE⟩ : ∃ E, routesF L0 = E := ⟨_, rfl⟩
  rw [hE] at CN HRS HGD
  clear hE
  by_cases hE : E = 0
  rotate_left
  · have d0 : (E != 0) = true := by simpa using hE
    have HRE : Hid (RS = (E, [])) := by have := HRS.out; unfold applyR at this; rw [if_pos hE] at this; exact this.symm
    clear hE HRS
    go_enter Try.func62, Try.ntmps62
    go_wp2_with fail
    refine CN.out.mono ?_
    rintro e w1 ⟨rfl, hb1⟩
    have HB1 := Lib.hid hb1
    clear hb1
    go_wp2
    (try go_ret2)
    rw [← HP.out, HRE.out]
    exact appliedT_bad (by simpa using d0) _ HB1.out
  subst hE
  have HG0 : Hid (GoodL L0) := HGD.out rfl
  by_cases h120 : 120 < n
  · have d1 : decide (120 < (n : Int)) = true := by simp; omega
    have HRE : Hid (RS = (1, [])) := by have := HRS.out; unfold applyR at this; rw [if_neg (by simp), if_pos (by rw [HZ.out]; exact h120)] at this; exact this.symm
    clear HRS
    go_enter Try.func62, Try.ntmps62
    go_wp2_with fail
    refine CN.out.mono ?_
    rintro e w1 ⟨rfl, hb1⟩
    have HB1 := Lib.hid hb1
    clear hb1
    go_wp2
    (try go_ret2)
    rw [← HP.out, HRE.out]
    exact appliedT_bad (by decide) _ HB1.out
  have d1 : decide (120 < (n : Int)) = false := by simp; omega
  have HRE : Hid (RS = appl l L0) := by have := HRS.out; unfold applyR at this; rw [if_neg (by simp), if_neg (by rw [HZ.out]; exact h120)] at this; exact this.symm
  have hn60 : n0r ≤ 60 := by rw [← HLZ.out]; exact HG0.out.2
  clear HRS HGD
  go_enter Try.func62, Try.ntmps62
  go_wp2_with fail
  refine CN.out.mono ?_
  rintro e w1 ⟨rfl, hb1⟩
  have HB1 := Lib.hid hb1
  have hs1 := hb1.size
  have HR1 := Lib.hid (HRL.out w1 hb1)
  clear hb1 CN
  go_wp2_with (at_builtin; go_loud (refine wpList_append_reads rfl _ _ 36 rfl w1.heap.size 57 _ 5 40 Try.underlying36 infoRouteP rfl (by decide) _ _ _ rfl _ _ _ rfl (World.ownsRow_nil _ _ _ _) _ _ HR1.out (rts_one _) ?c3 ?c4 ?c5 ?_))
  case c3 => unfold maxLen; omega
  case c4 => omega
  case c5 => exact Nat.le_refl _
  intro v0 w2 hown0 hb2
  have hz2 := hb2.size
  have HO2 : Hid (OwnRs w2 w.heap.size v0 L0) := by
    show World.ownsRow _ _ _ _ _ _ _
    rw [HLZ.out]
    have := own_mono hown0 hs1
    simpa using this
  have HB2 := Lib.hid (below_step HB1.out hb2)
  clear hown0 hb2
  go_wp2
  go_loopw [26, 7] (fun i s7 wr => ∃ (k : Nat) (L : List RouteV) (v7 : Value), k ≤ n ∧ i = .int .i64 k ∧ v7 = s7 ∧ RS = appl (l.drop k) L ∧ GoodL L ∧ OwnRs wr w.heap.size v7 L ∧ Below w.heap.size w wr) (fun i _ _ => n - (intOf i).toNat)
  case atStart => exact ⟨0, L0, _, by omega, rfl, rfl, HRE.out, HG0.out, HO2.out, HB2.out⟩
  case round =>
    obtain ⟨k, L, v7, hk, rfl, rfl, hrs, hG, h5, hb⟩ := hrel
    obtain ⟨wo, rfl⟩ : ∃ wo : World, wo = wr := ⟨_, rfl⟩
    have hszb := hb.size
    by_cases hlt : k < n
    · obtain ⟨ad, ⟨kd, ⟨six, hi, lo, n0⟩, hop, ⟨six2, hi2, lo2⟩⟩, rfl, hlk, htk, hmem, hbk, hc0, hcj⟩ := HR.out.atS ActV.cells_length' HZ.out hlt
      rw [drop_at hlk] at hrs
      have q0 := (hb.cell (p := ad.add (k * 9)) (by rw [block_of_add]; exact hbk)).trans (hc0 _ rfl)
      have q1 := (hb.cell (p := ⟨(ad.add (k * 9)).block, (ad.add (k * 9)).off + 1, none⟩) (by rw [block_of_add]; exact hbk)).trans (hcj 1 _ rfl)
      have q2 := (hb.cell (p := ⟨(ad.add (k * 9)).block, (ad.add (k * 9)).off + 2, none⟩) (by rw [block_of_add]; exact hbk)).trans (hcj 2 _ rfl)
      have q3 := (hb.cell (p := ⟨(ad.add (k * 9)).block, (ad.add (k * 9)).off + 3, none⟩) (by rw [block_of_add]; exact hbk)).trans (hcj 3 _ rfl)
      have q4 := (hb.cell (p := ⟨(ad.add (k * 9)).block, (ad.add (k * 9)).off + 4, none⟩) (by rw [block_of_add]; exact hbk)).trans (hcj 4 _ rfl)
      have q5 := (hb.cell (p := ⟨(ad.add (k * 9)).block, (ad.add (k * 9)).off + 5, none⟩) (by rw [block_of_add]; exact hbk)).trans (hcj 5 _ rfl)
      have q6 := (hb.cell (p := ⟨(ad.add (k * 9)).block, (ad.add (k * 9)).off + 6, none⟩) (by rw [block_of_add]; exact hbk)).trans (hcj 6 _ rfl)
      have q7 := (hb.cell (p := ⟨(ad.add (k * 9)).block, (ad.add (k * 9)).off + 7, none⟩) (by rw [block_of_add]; exact hbk)).trans (hcj 7 _ rfl)
      have q8 := (hb.cell (p := ⟨(ad.add (k * 9)).block, (ad.add (k * 9)).off + 8, none⟩) (by rw [block_of_add]; exact hbk)).trans (hcj 8 _ rfl)
      obtain ⟨o1, o2, o3, o4⟩ := HOK.out _ hmem
      simp only at o1 o2 o3 o4
      have HGN := Lib.hid (goodL_do hG (HOK.out _ hmem))
      have HRK := Lib.hid hrs
      have HG := Lib.hid hG
      obtain ⟨A5, c5, rfl, hc5, _⟩ := own_reads h5
      obtain ⟨m, hm⟩ : ∃ m, L.length = m := ⟨_, rfl⟩
      rw [hm] at hc5
      have hm60 : m ≤ 60 := by rw [← hm]; exact hG.2
      have hc5m := hc5.2
      unfold maxLen at hc5m
      have HM := Lib.hid hm
      have H5 := Lib.hid h5
      have HN5 := Lib.hid (own_blk_lt h5)
      have HB := Lib.hid hb
      have HEQ0 := fun w (x : PV) => eqPV x ⟨six, hi, lo, n0⟩ w
      unfold PV.val at HEQ0
      have HEQH := Lib.hid HEQ0
      clear HEQ0 hlk htk hmem hc0 hcj hb hbk hG h5 hrs
      rw [hm]
      clear hm
      go_wp2
      obtain ⟨Y, hY⟩ : ∃ Y : World, Y = wo.alloc (.cells #[.int .i64 kd, .bool six, .int .u64 hi, .int .u64 lo, .int .i64 n0, .int .i64 hop, .bool six2, .int .u64 hi2, .int .u64 lo2] 117) := ⟨_, rfl⟩
      have hbY : Below wo.heap.size wo Y := by rw [hY]; exact (Below.refl _ _).alloc (Nat.le_refl _) _
      have hYs : Y.heap.size = wo.heap.size + 1 := by rw [hY]; simp
      have hka : Blk Y wo.heap.size 117 #[.int .i64 kd, .bool six, .int .u64 hi, .int .u64 lo, .int .i64 n0, .int .i64 hop, .bool six2, .int .u64 hi2, .int .u64 lo2] := by rw [hY]; exact Blk.new _ _ _
      rw [← hY]
      have H5Y := Lib.hid (H5.out.below hbY)
      have HBY := Lib.hid hbY
      have HKA := Lib.hid hka
      have hYl : wo.heap.size < Y.heap.size := by omega
      clear hY hbY hka hYs
      go_loopw [32, 10] (fun i at_ wr => ∃ (t : Nat) (z : Int), t ≤ m ∧ i = .int .i64 t ∧ at_ = .int .i64 z ∧ FoundAt L ⟨six, hi, lo, n0⟩ t z ∧ Below Y.heap.size Y wr) (fun i _ _ => m - (intOf i).toNat)
      case atStart => exact ⟨0, -1, by omega, rfl, rfl, FoundAt.start _ _, Below.refl _ _⟩
      case round =>
        obtain ⟨t, z, ht, rfl, rfl, hat, hbr⟩ := hrel
        obtain ⟨wi, rfl⟩ : ∃ wi : World, wi = wr := ⟨_, rfl⟩
        have HAT := Lib.hid hat
        have HBR := Lib.hid hbr
        have hszi := hbr.size
        have hki := HKA.out.below hbr HKA.out.lt
        have HKI := Lib.hid hki
        have hlt2 : wo.heap.size < wi.heap.size := by omega
        have a0 := hki.cell 0
        have a1 := hki.cell 1
        have a2 := hki.cell 2
        have a3 := hki.cell 3
        have a4 := hki.cell 4
        have a5 := hki.cell 5
        have a6 := hki.cell 6
        have a7 := hki.cell 7
        have a8 := hki.cell 8
        simp at a0 a1 a2 a3 a4 a5 a6 a7 a8
        clear hat hki
        by_cases hti : t < m
        · have hLt : L[t]? = some (L[t]'(by rw [HM.out]; exact hti)) := List.getElem?_eq_getElem _
          obtain ⟨⟨⟨xs, xh, xl, xn⟩, xo⟩, hX⟩ : ∃ X, L[t]'(by rw [HM.out]; exact hti) = X := ⟨_, rfl⟩
          rw [hX] at hLt
          obtain ⟨g5, cc, cur, hv, _⟩ := H5Y.out.form (by rw [HM.out]; omega)
          injection hv with hv1 hv2 hv3
          subst hv1 hv3
          have HLT := Lib.hid hLt
          clear hX hLt hv2
          have h5i := H5Y.out.below hbr
          rw [HM.out] at h5i
          obtain ⟨⟨y0, y1, y2, y3, y4⟩, yg, _⟩ := (H5Y.out.below hbr).at_ HLT.out
          simp only at y0 y1 y2 y3 y4
          have HEQ := fun w => HEQH.out w ⟨xs, xh, xl, xn⟩
          simp only at HEQ
          clear hbr h5i
          by_cases he : (⟨xs, xh, xl, xn⟩ : PV) = ⟨six, hi, lo, n0⟩
          · rw [decide_eq_true he] at HEQ
            have HEE := Lib.hid he
            clear he
            go_wp2
            go_roundw
            case rel => exact ⟨t + 1, (t : Int), by omega, by go_num, rfl, FoundAt.hit HLT.out HEE.out, HBR.out.alloc (by omega) _⟩
            case measure => simp [intOf]; omega
          · rw [decide_eq_false he] at HEQ
            have HEE := Lib.hid he
            clear he
            go_wp2
            go_roundw
            case rel => exact ⟨t + 1, z, by omega, by go_num, rfl, HAT.out.miss HLT.out HEE.out, HBR.out.alloc (by omega) _⟩
            case measure => simp [intOf]; omega
        · obtain rfl : t = m := by omega
          have HBX : Hid (Below wo.heap.size wo wi) := HBY.out.trans (HBR.out.mono (by omega))
          have H5V := Lib.hid (H5.out.below HBX.out)
          have HBI : Hid (Below w.heap.size w wi) := HB.out.trans (HBX.out.mono hszb)
          have hwi := HBI.out.size
          have CP := Lib.hid (preFault_any six hi lo n0 wi o1 o2)
          obtain ⟨ck, hck⟩ : ∃ ck, chk six hi lo n0 = ck := ⟨_, rfl⟩
          rw [hck] at CP
          obtain ⟨aV, haV⟩ : ∃ aV : ActV, (⟨kd, ⟨six, hi, lo, n0⟩, hop, ⟨six2, hi2, lo2⟩⟩ : ActV) = aV := ⟨_, rfl⟩
          rw [haV] at HRK HGN
          have HAE := Lib.hid haV
          have HCK : Hid ((⟨six, hi, lo, n0⟩ : PV).chk = ck) := hck
          clear haV hck hbr q0 q1 q2 q3 q4 q5 q6 q7 q8 H5 H5Y HBY HBR HKA
          by_cases hkd : kd = 1 ∨ kd = 2
          rotate_left
          · have k1 : (kd != 1) = true := by simp; omega
            have k2 : (kd != 2) = true := by simp; omega
            have HN : Hid (RS = (3, [])) := by show _ = _; rw [HRK.out]; exact appl_kind (by rw [← HAE.out]; exact hkd)
            clear hkd CP
            go_wp2
            (try go_ret2)
            rw [← HP.out, HN.out]
            exact appliedT_bad (by decide) _ HBI.out
          have HKA : Hid (aV.kind = 1 ∨ aV.kind = 2) := by rw [← HAE.out]; exact Lib.hid hkd
          by_cases hc0 : ck = 0
          rotate_left
          · have d3 : (ck != 0) = true := by simpa using hc0
            have hA : doA L aV = ⟨ck, 0, 0⟩ := by rw [← HAE.out]; unfold doA; rw [if_neg (by simp only; omega), if_neg (by simp only; omega), if_pos (by simp only; rw [HCK.out]; exact hc0)]; simp only [HCK.out]
            have HN : Hid (RS = (ck, [])) := by show _ = _; rw [HRK.out, appl_code HKA.out (by rw [hA]; exact hc0), hA]
            clear hA hc0
            rcases hkd with rfl | rfl
            all_goals
              go_wp2_with (go_at_call 66; (with_reducible refine CP.out.mono ?_); rintro e V ⟨rfl, hbV⟩; obtain ⟨fcV, ffV⟩ := bcell hbV; have hzV := hbV.size; have HBW := Lib.hid hbV; clear hbV)
              (try go_ret2)
              rw [← HP.out, HN.out]
              exact appliedT_bad (by simpa using d3) _ (below_step HBI.out HBW.out)
          have d3 : (ck != 0) = false := by simpa using hc0
          rcases hkd with rfl | rfl
          · by_cases hh : hop < 1 ∨ 999 < hop
            · have hA : doA L aV = ⟨2, 0, 0⟩ := by rw [← HAE.out]; unfold doA; rw [if_neg (by simp), if_neg (by simp), if_neg (by simp only; rw [HCK.out]; simpa using hc0), if_neg (by simp), if_neg (by simp), if_pos hh]
              have HN : Hid (RS = (2, [])) := by show _ = _; rw [HRK.out, appl_code HKA.out (by rw [hA]; decide), hA]
              clear hA hc0
              by_cases c1 : hop < 1
              · have d4 : decide (hop < 1) = true := by simpa using c1
                clear hh c1
                go_wp2_with (go_at_call 66; (with_reducible refine CP.out.mono ?_); rintro e V ⟨rfl, hbV⟩; obtain ⟨fcV, ffV⟩ := bcell hbV; have hzV := hbV.size; have HBW := Lib.hid hbV; clear hbV)
                (try go_ret2)
                rw [← HP.out, HN.out]
                exact appliedT_bad (by decide) _ (below_step HBI.out HBW.out)
              · have d4 : decide (hop < 1) = false := by simpa using c1
                have d5 : decide (999 < hop) = true := by simp; omega
                clear hh c1
                go_wp2_with (go_at_call 66; (with_reducible refine CP.out.mono ?_); rintro e V ⟨rfl, hbV⟩; obtain ⟨fcV, ffV⟩ := bcell hbV; have hzV := hbV.size; have HBW := Lib.hid hbV; clear hbV)
                (try go_ret2)
                rw [← HP.out, HN.out]
                exact appliedT_bad (by decide) _ (below_step HBI.out HBW.out)
            · have d4 : decide (hop < 1) = false := by simp; omega
              have d5 : decide (999 < hop) = false := by simp; omega
              rcases HAT.out with ⟨rfl, hno⟩ | ⟨u, x, rfl, hut, hux, hxp⟩
              · have hnone : hasR L ⟨six, hi, lo, n0⟩ = false := FoundAt.none (fun i x hi hx => hno i x (by rw [← HM.out]; exact hi) hx)
                have hg0 := getR_none hnone
                clear hno
                by_cases h60 : t = 60
                · have hA : doA L aV = ⟨9, 0, 0⟩ := by rw [← HAE.out]; unfold doA; rw [if_neg (by simp), if_neg (by simp), if_neg (by simp only; rw [HCK.out]; simpa using hc0), if_neg (by simp), if_neg (by simp), if_neg hh, if_pos ⟨by rw [HM.out]; exact h60, hg0⟩]
                  have HN : Hid (RS = (9, [])) := by show _ = _; rw [HRK.out, appl_code HKA.out (by rw [hA]; decide), hA]
                  subst h60
                  clear hA hc0 hh hnone hg0
                  go_wp2_with (go_at_call 66; (with_reducible refine CP.out.mono ?_); rintro e V ⟨rfl, hbV⟩; obtain ⟨fcV, ffV⟩ := bcell hbV; have hzV := hbV.size; have HBW := Lib.hid hbV; clear hbV)
                  (try go_ret2)
                  rw [← HP.out, HN.out]
                  exact appliedT_bad (by decide) _ (below_step HBI.out HBW.out)
                · have d6 : decide ((t : Int) = 60) = false := by simp; omega
                  have d6' : ((t : Int) == 60) = false := by simp; omega
                  have hA : doA L aV = ⟨0, 0, 0⟩ := by rw [← HAE.out]; unfold doA; rw [if_neg (by simp), if_neg (by simp), if_neg (by simp only; rw [HCK.out]; simpa using hc0), if_neg (by simp), if_neg (by simp), if_neg hh, if_neg (fun h => h60 (by rw [← HM.out]; exact h.1)), hg0]
                  have hU : doL L aV = L ++ [⟨⟨six, hi, lo, n0⟩, hop⟩] := by rw [← HAE.out]; unfold doL; rw [if_neg (by simp), if_neg (by simp only; rw [HCK.out]; simpa using hc0), if_neg (by simp), if_neg hh, if_neg (fun h => h60 (by rw [← HM.out]; exact h.1))]; unfold setR; rw [if_neg (by simp only; rw [hnone]; simp)]
                  have HN : Hid (RS = appl (l.drop (k + 1)) (L ++ [⟨⟨six, hi, lo, n0⟩, hop⟩])) := by show _ = _; rw [HRK.out, appl_ok HKA.out (by rw [hA]), hU]
                  have HGN2 : Hid (GoodL (L ++ [⟨⟨six, hi, lo, n0⟩, hop⟩])) := by rw [← hU]; exact HGN
                  have h60' : t < 60 := by omega
                  clear hA hU hc0 hh hnone hg0
                  have h5r := H5V.out
                  unfold OwnRs at h5r
                  rw [HM.out] at h5r
                  have H5R := Lib.hid h5r
                  clear h5r
                  go_wp2_with (first | (at_builtin; go_loud (refine wpList_append_oneN (us := [.bool six, .int .u64 hi, .int .u64 lo, .int .i64 n0, .int .i64 hop]) rfl _ _ 36 rfl w.heap.size _ 5 40 Try.underlying36 infoRouteP rfl (by decide) _ _ _ rfl rfl rfl (own_below H5R.out HBW.out) ?c1 rfl ?c4 ?c2 ?c3 ?_)) | (go_at_call 66; (with_reducible refine CP.out.mono ?_); rintro e V ⟨rfl, hbV⟩; obtain ⟨fcV, ffV⟩ := bcell hbV; have hzV := hbV.size; have HBW := Lib.hid hbV; clear hbV))
                  case c1 => have := HBW.out.size; omega
                  case c2 => unfold maxLen; omega
                  case c3 => omega
                  case c4 => intro u hu; simp at hu; rcases hu with rfl | rfl | rfl | rfl | rfl <;> rfl
                  intro v' w9 hown' hb9 hs9 hk9
                  have HO9 : Hid (OwnRs w9 w.heap.size v' (L ++ [⟨⟨six, hi, lo, n0⟩, hop⟩])) := by
                    show World.ownsRow _ _ _ _ _ _ _
                    rw [List.length_append, HM.out, List.flatMap_append]
                    simpa [RouteV.cells] using hown'
                  have HB9 := Lib.hid ((below_step HBI.out HBW.out).trans hb9)
                  clear hown' hb9 hk9
                  go_wp2
                  go_roundw
                  case rel => exact ⟨k + 1, _, _, by omega, by go_num, rfl, HN.out, HGN2.out, HO9.out, HB9.out⟩
                  case measure => simp [intOf]; omega
              · have hul : u < L.length := (List.getElem?_eq_some_iff.1 hux).1
                have hin : hasR L ⟨six, hi, lo, n0⟩ = true := hasR_iff.2 ⟨x, List.mem_of_getElem? hux, hxp⟩
                obtain ⟨g1, g2, g3⟩ := get_at HG.out.1.2 hux
                rw [hxp] at g1 g3
                have hxh := HG.out.1.1 x (List.mem_of_getElem? hux)
                have hA : doA L aV = ⟨0, x.hop, 0⟩ := by rw [← HAE.out]; unfold doA; rw [if_neg (by simp), if_neg (by simp), if_neg (by simp only; rw [HCK.out]; simpa using hc0), if_neg (by simp), if_neg (by simp), if_neg hh, if_neg (fun h => by have h2 := h.2; simp only at h2; rw [g1] at h2; omega), g1]
                have hU : doL L aV = L.set u ⟨x.p, hop⟩ := by rw [← HAE.out]; unfold doL; rw [if_neg (by simp), if_neg (by simp only; rw [HCK.out]; simpa using hc0), if_neg (by simp), if_neg hh, if_neg (fun h => by have h2 := h.2; simp only at h2; rw [g1] at h2; omega)]; unfold setR; rw [if_pos (by simpa using hin)]; simp only; rw [g3 hop, hxp]
                have HN : Hid (RS = appl (l.drop (k + 1)) (L.set u ⟨x.p, hop⟩)) := by show _ = _; rw [HRK.out, appl_ok HKA.out (by rw [hA]), hU]
                have HGN2 : Hid (GoodL (L.set u ⟨x.p, hop⟩)) := by rw [← hU]; exact HGN
                have HUX := Lib.hid hux
                have HUL := Lib.hid hul
                clear hA hU hc0 hh hin g1 g2 g3 hxh hux hul hxp
                obtain ⟨g5, cc, cur, hv, _, hb5, _⟩ := H5V.out.form (by have := HUL.out; omega)
                injection hv with hv1 hv2 hv3
                subst hv1 hv3
                have hg5 : g5 < wi.heap.size := by have : g5 < wo.heap.size := HN5.out g5 (by rfl); omega
                have yf := hb5.frozen (u * 5 + 4)
                obtain ⟨⟨y0, y1, y2, y3, y4⟩, yg, _⟩ := H5V.out.at_ HUX.out
                obtain ⟨xh, hxh⟩ : ∃ xh, x.hop = xh := ⟨_, rfl⟩
                rw [hxh] at y4
                have i1 : (0 : Int) ≤ (u : Int) := by omega
                have i2 : (u : Int) < (t : Int) := by omega
                have dge : decide ((0 : Int) ≤ (u : Int)) = true := by simp
                have dlt : decide ((u : Int) < 0) = false := by simp
                clear hv2 hb5 hxh y0 y1 y2 y3
                have HSET := Lib.hid (fun (V : World) (hV : Below wi.heap.size wi V) => (H5V.out.below hV).set_ HUX.out hop)
                have hbg5 := (H5V.out.at_ HUX.out).2.2
                have hlm := HM.out
                rw [hlm] at HSET
                clear hlm
                go_wp2_with (go_at_call 66; (with_reducible refine CP.out.mono ?_); rintro e V ⟨rfl, hbV⟩; obtain ⟨fcV, ffV⟩ := bcell hbV; have hzV := hbV.size; have HBW := Lib.hid hbV; clear hbV)
                go_roundw
                case rel => exact ⟨k + 1, _, _, by omega, by go_num, rfl, HN.out, HGN2.out, HSET.out _ HBW.out, (below_step HBI.out HBW.out).setCell (by show w.heap.size ≤ g5; omega) _⟩
                case measure => simp [intOf]; omega
          · rcases HAT.out with ⟨rfl, hno⟩ | ⟨u, x, rfl, hut, hux, hxp⟩
            · have hnone : hasR L ⟨six, hi, lo, n0⟩ = false := FoundAt.none (fun i x hi hx => hno i x (by rw [← HM.out]; exact hi) hx)
              have hg0 := getR_none hnone
              have hA : doA L aV = ⟨7, 0, 0⟩ := by rw [← HAE.out]; unfold doA; rw [if_neg (by simp), if_neg (by simp), if_neg (by simp only; rw [HCK.out]; simpa using hc0), if_pos rfl, if_pos hg0]
              have HN : Hid (RS = (7, [])) := by show _ = _; rw [HRK.out, appl_code HKA.out (by rw [hA]; decide), hA]
              clear hA hc0 hnone hg0 hno
              go_wp2_with (go_at_call 66; (with_reducible refine CP.out.mono ?_); rintro e V ⟨rfl, hbV⟩; obtain ⟨fcV, ffV⟩ := bcell hbV; have hzV := hbV.size; have HBW := Lib.hid hbV; clear hbV)
              (try go_ret2)
              rw [← HP.out, HN.out]
              exact appliedT_bad (by decide) _ (below_step HBI.out HBW.out)
            · have hul : u < L.length := (List.getElem?_eq_some_iff.1 hux).1
              obtain ⟨g1, g2, g3⟩ := get_at HG.out.1.2 hux
              rw [hxp] at g1 g2
              have hxh := HG.out.1.1 x (List.mem_of_getElem? hux)
              have hA : doA L aV = ⟨0, x.hop, 0⟩ := by rw [← HAE.out]; unfold doA; rw [if_neg (by simp), if_neg (by simp), if_neg (by simp only; rw [HCK.out]; simpa using hc0), if_pos rfl, if_neg (by simp only; rw [g1]; omega), g1]
              have hU : doL L aV = L.take u ++ L.drop (u + 1) := by rw [← HAE.out]; unfold doL; rw [if_neg (by simp), if_neg (by simp only; rw [HCK.out]; simpa using hc0), if_pos rfl]; exact g2
              have HN : Hid (RS = appl (l.drop (k + 1)) (L.take u ++ L.drop (u + 1))) := by show _ = _; rw [HRK.out, appl_ok HKA.out (by rw [hA]), hU]
              have HGN2 : Hid (GoodL (L.take u ++ L.drop (u + 1))) := by rw [← hU]; exact HGN
              have HUX := Lib.hid hux
              have HUL := Lib.hid hul
              clear hA hU hc0 g1 g2 g3 hxh hux hul hxp
              obtain ⟨g5, cc, cur, hv, _, hb5, _⟩ := H5V.out.form (by have := HUL.out; omega)
              injection hv with hv1 hv2 hv3
              subst hv1 hv3
              have hg5 : g5 < wi.heap.size := by have : g5 < wo.heap.size := HN5.out g5 (by rfl); omega
              have yf := hb5.frozen (u * 5 + 4)
              obtain ⟨⟨y0, y1, y2, y3, y4⟩, yg, _⟩ := H5V.out.at_ HUX.out
              obtain ⟨xh, hxh⟩ : ∃ xh, x.hop = xh := ⟨_, rfl⟩
              rw [hxh] at y4
              have i1 : (0 : Int) ≤ (u : Int) := by omega
              have i2 : (u : Int) < (t : Int) := by omega
              have dge : decide ((0 : Int) ≤ (u : Int)) = true := by simp
              have dlt : decide ((u : Int) < 0) = false := by simp
              clear hv2 hb5 hxh y0 y1 y2 y3
              go_upto_region 25 with (go_at_call 66; (with_reducible refine CP.out.mono ?_); rintro e V ⟨rfl, hbV⟩; obtain ⟨fcV, ffV⟩ := bcell hbV; have hzV := hbV.size; have HBW := Lib.hid hbV; clear hbV)
              have H54 := Lib.hid (H5V.out.below HBW.out)
              have HB4 := Lib.hid (below_step HBI.out HBW.out)
              obtain ⟨A5', c5', hv5, hir⟩ := Good.isRoutes H54.out HG.out.1
              injection hv5 with hv1 _ hv3
              subst hv1 hv3
              rw [HM.out] at hir
              have HRH := Lib.hid (fun (Y : World) (hY : Below V.heap.size V Y) => (hir.below hY).2.2.2.front RouteV.cells_length HM.out (k := u) (by have := HUL.out; omega))
              have hic := hir.2.1
              have hul : u < t := by rw [← HM.out]; exact HUL.out
              have hicm := hic.2
              unfold maxLen at hicm
              have wu : IntKind.i64.wrap ((u : Int) + 1) = (u : Int) + 1 := by rw [IntWalk.i64_in _ (by omega)]
              have b1 : (u : Int) ≤ (c5 : Int) := by omega
              have b2 : (u : Int) + 1 ≤ (c5 : Int) := by omega
              have b3 : (0 : Int) ≤ (u : Int) + 1 := by omega
              have b4 : (u : Int) + 1 ≤ (t : Int) := by omega
              have b5 : ((u : Int) + 1).toNat = u + 1 := by omega
              have b6 : (u : Int) ≤ (t : Int) := by omega
              by_cases hcz : c5 = u + 1
              · have het : t = u + 1 := by omega
                have hed : L.drop (u + 1) = [] := List.drop_eq_nil_of_le (by rw [HM.out]; omega)
                have HED := Lib.hid hed
                have HET := Lib.hid het
                clear hed het hir hul hic hicm
                subst hcz
                have b7 : (u : Int) ≤ (u : Int) + 1 := by omega
                have b8 : (u : Int) + 1 ≤ (u : Int) + 1 := by omega
                go_region_held3 (fun w' => (∀ b o, b < V.heap.size → w'.cell? ⟨b, o, none⟩ = V.cell? ⟨b, o, none⟩) ∧ V.heap.size ≤ w'.heap.size ∧ Hid (Below V.heap.size V w'))
                  ((first | assumption | exact keep0 _ | exact keep1 (by assumption) (by assumption) | exact keepD (by assumption) | exact keepB (by assumption) (by assumption) | exact keepA (by assumption) _ | exact ⟨fun _ _ _ => rfl, Nat.le_refl _, Below.refl _ _⟩))
                  (first
                    | (refine step_append_nilI (o := ⟨some 66, _, _, _, _, _⟩) ((L.take u).flatMap RouteV.cells) u 36 rfl rfl V.heap.size 57 _ 5 40 Try.underlying36 infoRouteP rfl (by decide) ?_ ?_ ?_ ?_ ?_ ?_ ?_; (focus rfl); (focus exact ⟨_, _, rfl, HRH.out _ (keepBelow (by assumption))⟩); (focus exact rts_one _); (focus (unfold maxLen; omega)); (focus omega); (focus exact keepSize (by assumption)); intro v1 w2 hown2 hb2)
                    | (refine step_append_farI (o := ⟨some 71, _, _, _, _, _⟩) ([] : List Value) 0 36 u ((L.take u).flatMap RouteV.cells) rfl rfl V.heap.size 57 _ 5 40 Try.underlying36 infoRouteP rfl (by decide) ?_ ?_ ?_ ?_ ?_ ?_ ?_; (focus (exact hown2)); (focus exact ⟨_, _, rfl, Reads.none_⟩); (focus (intro u' hu'; cases hu')); (focus (unfold maxLen; omega)); (focus omega); (focus exact keepSize (by assumption)); intro v3 w4 hown4 hb4 hg4))
                all_goals
                  obtain ⟨fc4, z4, H4⟩ : (∀ b o, b < V.heap.size → w4.cell? ⟨b, o, none⟩ = V.cell? ⟨b, o, none⟩) ∧ V.heap.size ≤ w4.heap.size ∧ Hid (Below V.heap.size V w4) := by assumption
                  have HO4 : Hid (OwnRs w4 w.heap.size v3 (L.take u ++ L.drop (u + 1))) := by
                    show World.ownsRow _ _ _ _ _ _ _
                    have hl : (L.take u ++ L.drop (u + 1)).length = u + 0 := by rw [List.length_append, List.length_take, List.length_drop, Nat.min_eq_left (by have := HUL.out; omega), HM.out]; have := HET.out; omega
                    rw [hl, List.flatMap_append, HED.out]
                    exact own_mono hown4 (by have := HB4.out.size; omega)
                  clear hown2 hb2 hown4 hb4 hg4
                  go_wp2_with fail
                  go_roundw
                  case rel => exact ⟨k + 1, _, _, by omega, by go_num, rfl, HN.out, HGN2.out, HO4.out, below_step HB4.out H4.out⟩
                  case measure => simp [intOf]; omega
              · have HRT : Hid (∀ Y, Below V.heap.size V Y → Reads Y Y.heap.size 5 (some ⟨g5, (u + 1) * 5, none⟩) (t - (u + 1)) ((L.drop (u + 1)).flatMap RouteV.cells)) := by
                  intro Y hY
                  have hr := (hir.below hY).2.2.2.cut (k := u + 1) (by omega) hic.1
                  rw [if_neg hcz, rflat_drop L (by rw [HM.out]; omega)] at hr
                  simpa [Addr.add] using hr
                clear hir hul hic hicm
                go_region_held3 (fun w' => (∀ b o, b < V.heap.size → w'.cell? ⟨b, o, none⟩ = V.cell? ⟨b, o, none⟩) ∧ V.heap.size ≤ w'.heap.size ∧ Hid (Below V.heap.size V w'))
                  ((first | assumption | exact keep0 _ | exact keep1 (by assumption) (by assumption) | exact keepD (by assumption) | exact keepB (by assumption) (by assumption) | exact keepA (by assumption) _ | exact ⟨fun _ _ _ => rfl, Nat.le_refl _, Below.refl _ _⟩))
                  (first
                    | (refine step_append_nilI (o := ⟨some 66, _, _, _, _, _⟩) ((L.take u).flatMap RouteV.cells) u 36 rfl rfl V.heap.size 57 _ 5 40 Try.underlying36 infoRouteP rfl (by decide) ?_ ?_ ?_ ?_ ?_ ?_ ?_; (focus rfl); (focus exact ⟨_, _, rfl, HRH.out _ (keepBelow (by assumption))⟩); (focus exact rts_one _); (focus (unfold maxLen; omega)); (focus omega); (focus exact keepSize (by assumption)); intro v1 w2 hown2 hb2)
                    | (refine step_append_farI (o := ⟨some 71, _, _, _, _, _⟩) ((L.drop (u + 1)).flatMap RouteV.cells) (t - (u + 1)) 36 u ((L.take u).flatMap RouteV.cells) rfl rfl V.heap.size 57 _ 5 40 Try.underlying36 infoRouteP rfl (by decide) ?_ ?_ ?_ ?_ ?_ ?_ ?_; (focus (exact hown2)); (focus exact ⟨_, _, rfl, HRT.out _ (keepBelow (by assumption))⟩); (focus (exact rts_one _)); (focus (unfold maxLen; omega)); (focus omega); (focus exact keepSize (by assumption)); intro v3 w4 hown4 hb4 hg4))
                all_goals
                  obtain ⟨fc4, z4, H4⟩ : (∀ b o, b < V.heap.size → w4.cell? ⟨b, o, none⟩ = V.cell? ⟨b, o, none⟩) ∧ V.heap.size ≤ w4.heap.size ∧ Hid (Below V.heap.size V w4) := by assumption
                  have HO4 : Hid (OwnRs w4 w.heap.size v3 (L.take u ++ L.drop (u + 1))) := by
                    show World.ownsRow _ _ _ _ _ _ _
                    have hl : (L.take u ++ L.drop (u + 1)).length = u + (t - (u + 1)) := by rw [List.length_append, List.length_take, List.length_drop, Nat.min_eq_left (by have := HUL.out; omega), HM.out]; try omega
                    rw [hl, List.flatMap_append]
                    exact own_mono hown4 (by have := HB4.out.size; omega)
                  clear hown2 hb2 hown4 hb4 hg4
                  go_wp2_with fail
                  go_roundw
                  case rel => exact ⟨k + 1, _, _, by omega, by go_num, rfl, HN.out, HGN2.out, HO4.out, below_step HB4.out H4.out⟩
                  case measure => simp [intOf]; omega
    · obtain rfl : k = n := by omega
      have ht : l.drop k = [] := List.drop_eq_nil_of_le (by rw [HZ.out]; omega)
      rw [ht] at hrs
      have HN : Hid (RS = (0, L)) := hrs
      have CS := Lib.hid (sortRs_any h5 hG)
      have H5S := Lib.hid h5
      have HB := Lib.hid hb
      clear hrs h5 hb ht hG
      go_wp2_with (go_at_call 126; (with_reducible refine CS.out.mono ?_); rintro e W2 ⟨rfl, S, hS, hown, hgr⟩)
      (try go_ret2)
      rw [← HP.out, HN.out]
      exact ⟨_, S, rfl, sortedIf_ok hS, hown, HB.out.grown hgr HB.out.size (fun g hg => own_base H5S.out _ hg)⟩

end Go.Proofs.Ytnflaaoapmhjgaa

namespace Go.Proofs.Ytnflaaoapmhjgaa
open Go.ChangeShapes Go.WideShapes Go.ChangeAt Go.RowKit

theorem applyR_good {L0 : List RouteV} {l : List ActV} (ho : ∀ r ∈ L0, r.Ok) (hl : ∀ a ∈ l, a.Ok) : GoodL (applyR L0 l (routesF L0)).2 := by
  unfold applyR
  by_cases h0 : routesF L0 = 0
  · rw [if_neg (not_not_intro h0)]
    by_cases h1 : 120 < l.length
    · rw [if_pos h1]; exact goodL_nil
    · rw [if_neg h1]; exact appl_good (valid_of ho h0) hl
  · rw [if_pos h0]; exact goodL_nil

set_option maxRecDepth 100000 in
set_option maxHeartbeats 800000 in
theorem deltaApplies_core {W : World} {A0 : Option Addr} {n0 c0 : Nat} {L0 : List RouteV} {a0 : Option Addr} {n c : Nat} {l : List ActV} (hl : IsRoutes W A0 n0 c0 L0) (hr : IsActs W a0 n l) (hc : n ≤ c ∧ c ≤ maxLen) :
    Calls Try.prog 18 #[.slice A0 n0 c0, .slice a0 n c] W fun e W' => e = .returned (.bool true) ∧ Below W.heap.size W W' := by
  have C1 := Lib.hid (apply_any hl hr hc)
  have C2 := Lib.hid (fun (w : World) (hb : Below W.heap.size W w) => refApply_any (hl.below hb) (hr.below hb) hc)
  have hG := applyR_good hl.2.2.1 hr.ok
  generalize applyR L0 l (routesF L0) = RS at *
  obtain ⟨E, L⟩ := RS
  simp only at C1 C2 hG
  clear hr hc hl
  go_enter Try.func18, Try.ntmps18
  go_wp2_with fail
  refine C1.out.mono ?_
  rintro e w1 ⟨v1, S, rfl, hS1, hd1, hb1⟩
  have HD1 := Lib.hid hd1
  have HB1 := Lib.hid hb1
  clear hd1 hb1
  go_wp2_with fail
  refine (C2.out _ HB1.out).mono ?_
  rintro e w2 ⟨v2, S2, rfl, hS2, hd2, hb2⟩
  obtain rfl := sortedIf_unique (fun _ => hG.1) hS1 hS2
  have hlen : S.length ≤ 60 := sortedIf_len (fun _ => hG.2) hS1
  obtain ⟨A2, c2, rfl, hc2, hr2⟩ := own_reads hd2
  obtain ⟨A1, c1, rfl, hc1, hr1⟩ := own_reads (own_below HD1.out hb2)
  have CS := Lib.hid (sameRoutes_any A1 A2 S.length c1 S.length c2 S S w2 rfl rfl (by omega) (by omega) hr1 hr2)
  rw [decide_eq_true rfl] at CS
  have HB2 := Lib.hid (below_step HB1.out hb2)
  generalize S.length = m at *
  clear hd2 hb2 hr1 hr2 C1 C2 HD1 hS1 hS2 hG
  go_wp2_with fail
  refine CS.out.mono ?_
  rintro e w3 ⟨rfl, hb3⟩
  have HB3 := Lib.hid (below_step HB2.out hb3)
  clear hb3
  go_wp2
  go_ret
  exact ⟨ret_bool (by simp), HB3.out⟩

set_option maxRecDepth 100000 in
set_option maxHeartbeats 800000 in
theorem deltaApplies_walk {H : Type} {enc : TypeId × Value → H} (W : World) (vs : Array Value) (ds : List (DataW H)) (ps : List MemPlace) (h : ArgsOk Try.prog [36, 27] H enc W vs.toList ds ps) :
    Calls Try.prog 18 vs W fun e W' => e = .returned (.bool true) ∧ Below W.heap.size W W' := by
  obtain ⟨hA, ⟨base, hval⟩, _, _⟩ := h
  obtain ⟨v0, v1, d0, d1, p0, p1, e0, _, _, h0, h1⟩ := trodAll_two hA
  obtain ⟨A0, n0, c0, rfl⟩ := okWide_slice Try.underlying36 (hval 0 _ v0 rfl (by rw [e0]; rfl))
  obtain ⟨a0, n, c, rfl⟩ := okWide_slice Try.underlying27 (hval 1 _ v1 rfl (by rw [e0]; rfl))
  obtain ⟨L0, hl⟩ := open_routes h0
  obtain ⟨l, hr, hc⟩ := open_acts h1
  obtain rfl : vs = #[.slice A0 n0 c0, .slice a0 n c] := by cases vs; simp_all
  exact deltaApplies_core hl hr hc

end Go.Proofs.Ytnflaaoapmhjgaa
