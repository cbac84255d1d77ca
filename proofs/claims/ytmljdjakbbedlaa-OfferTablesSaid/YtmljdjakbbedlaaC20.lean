/-
  
-/
import Derived.Test.YtmljdjakbbedlaaC19
import Derived.Test.YtmljdjakbbedlaaC18
import Derived.Test.YtmljdjakbbedlaaC3
import Derived.Test.YtmljdjakbbedlaaC6
import Derived.BigQuiet
import Derived.LoopN
namespace Go.Proofs.Ytmljdjakbbedlaa
open Go.ChangeShapes Go.WideShapes Go.ChangeAt Go.RowKit

theorem add_row (g k : Nat) : (⟨g, 0, none⟩ : Addr).add k = ⟨g, k, none⟩ := by
  unfold Addr.add
  split <;> simp_all
theorem add_off (g o j : Nat) : (⟨g, o, none⟩ : Addr).add j = ⟨g, o + j, none⟩ := by
  unfold Addr.add
  split <;> simp_all
theorem infoOffSize : (Try.prog.info? 44).map (·.size) = some 8 := by kernel_rfl
theorem off_one (l : List OffV) : ∀ v ∈ l.flatMap OffV.cells, v.oneCell' = true := by
  intro v hv
  obtain ⟨o, _, ho⟩ := List.mem_flatMap.1 hv
  simp [OffV.cells] at ho
  rcases ho with rfl | rfl | rfl | rfl | rfl | rfl | rfl | rfl <;> rfl
theorem off_drop (l : List OffV) (k : Nat) : (l.flatMap OffV.cells).drop (k * 8) = (l.drop k).flatMap OffV.cells := by
  induction k generalizing l with
  | zero => simp
  | succ k ih =>
    cases l with
    | nil => simp
    | cons o l =>
      rw [List.flatMap_cons, List.drop_succ_cons, ← ih l, List.drop_append, OffV.cells_length, show (k + 1) * 8 - 8 = k * 8 by omega, List.drop_of_length_le (by rw [OffV.cells_length]; omega), List.nil_append]
set_option maxHeartbeats 800000 in
theorem refWorth_any (o : OffV) (g : o.Good) (w : World) : Calls Try.prog 78 #[o.val] w fun e w' => e = .returned (.int .i64 o.worth) ∧ Below w.heap.size w w' := by
  have a1 := g.src
  have a2 := g.met
  have a3 := g.peer
  obtain ⟨⟨six, hi, lo, pn⟩, src, peer, met, hop⟩ := o
  simp only at a1 a2 a3
  have b1 : IntKind.i64.wrap (src * 1000) = src * 1000 := IntWalk.i64_in _ (by omega)
  have b2 : IntKind.i64.wrap (src * 1000 + met) = src * 1000 + met := IntWalk.i64_in _ (by omega)
  have b3 : IntKind.i64.wrap ((src * 1000 + met) * 1000) = (src * 1000 + met) * 1000 := IntWalk.i64_in _ (by omega)
  have b4 : IntKind.i64.wrap ((src * 1000 + met) * 1000 + peer) = (src * 1000 + met) * 1000 + peer := IntWalk.i64_in _ (by omega)
  unfold OffV.val OffV.worth
  go_enter Try.func78, Try.ntmps78
  go_wp2
  go_ret
  exact ⟨rfl, (Below.refl _ _).alloc (Nat.le_refl _) _⟩

set_option maxRecDepth 100000 in
set_option maxHeartbeats 12800000 in
theorem refBest_any {A : Option Addr} {n c : Nat} {l : List OffV} {w : World} (h : IsOffs w A n c l) (hn2 : n ≤ 100) : Calls Try.prog 30 #[.slice A n c] w (BestPost w l) := by
  have HZ := Lib.hid h.1
  have hnc := h.2.1.1
  have hcm := h.2.1.2
  have HOK := Lib.hid h.2.2.1
  have HR := Lib.hid h.2.2.2
  obtain ⟨post, hpost⟩ : ∃ post, BestPost w l = post := ⟨_, rfl⟩
  have HP := Lib.hid hpost
  rw [hpost]
  unfold maxLen at hcm
  have H0 : Hid (offsF l = offsTo l) := by show _ = _; unfold offsF; rw [if_neg (by have := HZ.out; omega)]
  clear h hpost
  go_enter Try.func30, Try.ntmps30
  go_wp2
  go_loopw [26, 5, 6] (fun i _ _ wr => ∃ k : Nat, k ≤ n ∧ i = .int .i64 k ∧ Hid (∀ x ∈ l.take k, x.E = 0) ∧ Hid (Below w.heap.size w wr)) (fun i _ _ _ => n - (intOf i).toNat)
  case atStart => exact ⟨0, by omega, rfl, (by show ∀ x ∈ l.take 0, x.E = 0; simp), Below.refl _ _⟩
  case round =>
    obtain ⟨k, hk, rfl, HT, HB⟩ := hrel
    obtain ⟨wo, rfl⟩ : ∃ wo : World, wo = wr := ⟨_, rfl⟩
    have hszb := HB.out.size
    by_cases hlt : k < n
    · obtain ⟨ad, ⟨⟨six, hi, lo, pn⟩, src, peer, met, hop⟩, rfl, hlk, htk, hmem, hbk, hc0, hcj⟩ := HR.out.atS OffV.cells_length HZ.out hlt
      have q0 := (HB.out.cell (p := ad.add (k * 8)) (by rw [block_of_add]; exact hbk)).trans (hc0 _ rfl)
      have q1 := (HB.out.cell (p := ⟨(ad.add (k * 8)).block, (ad.add (k * 8)).off + 1, none⟩) (by rw [block_of_add]; exact hbk)).trans (hcj 1 _ rfl)
      have q2 := (HB.out.cell (p := ⟨(ad.add (k * 8)).block, (ad.add (k * 8)).off + 2, none⟩) (by rw [block_of_add]; exact hbk)).trans (hcj 2 _ rfl)
      have q3 := (HB.out.cell (p := ⟨(ad.add (k * 8)).block, (ad.add (k * 8)).off + 3, none⟩) (by rw [block_of_add]; exact hbk)).trans (hcj 3 _ rfl)
      have q4 := (HB.out.cell (p := ⟨(ad.add (k * 8)).block, (ad.add (k * 8)).off + 4, none⟩) (by rw [block_of_add]; exact hbk)).trans (hcj 4 _ rfl)
      have q5 := (HB.out.cell (p := ⟨(ad.add (k * 8)).block, (ad.add (k * 8)).off + 5, none⟩) (by rw [block_of_add]; exact hbk)).trans (hcj 5 _ rfl)
      have q6 := (HB.out.cell (p := ⟨(ad.add (k * 8)).block, (ad.add (k * 8)).off + 6, none⟩) (by rw [block_of_add]; exact hbk)).trans (hcj 6 _ rfl)
      have q7 := (HB.out.cell (p := ⟨(ad.add (k * 8)).block, (ad.add (k * 8)).off + 7, none⟩) (by rw [block_of_add]; exact hbk)).trans (hcj 7 _ rfl)
      have hraw := HOK.out _ hmem
      have h1 := hraw.1
      have h2 := hraw.2
      simp only at h1 h2
      have HC := Lib.hid (fun w => offerFault_any six hi lo pn src peer met hop w h1 h2)
      obtain ⟨f, hf⟩ : ∃ f, OffV.E ⟨⟨six, hi, lo, pn⟩, src, peer, met, hop⟩ = f := ⟨_, rfl⟩
      have hf' : offE (chk six hi lo pn) src peer met hop = f := hf
      rw [hf'] at HC
      have HF := Lib.hid hf
      have HLK := Lib.hid hlk
      have HTK := Lib.hid htk
      have hkc : (k : Int) ≤ (c : Int) := by omega
      have hkc2 : (k : Int) ≤ 100 := by omega
      clear hlk htk hmem hbk hc0 hcj hf hf' hraw h1 h2
      by_cases hz : f = 0
      · subst hz
        have HN2 : Hid (∀ x ∈ l.take (k + 1), x.E = 0) := by
          show ∀ x ∈ l.take (k + 1), x.E = 0
          rw [HTK.out]
          intro x hx
          rcases List.mem_append.1 hx with hx | hx
          · exact HT.out x hx
          · simp at hx; subst hx; exact HF.out
        go_wp2_with fail
        refine (HC.out _).mono ?_
        rintro e w1 ⟨rfl, hb1⟩
        have HB1 : Hid (Below w.heap.size w w1) := below_step (HB.out.alloc hszb _) hb1
        clear hb1
        go_wp2
        go_roundw
        case rel => exact ⟨k + 1, by omega, by go_num, HN2, HB1⟩
        case measure => simp [intOf]; omega
      · have hfd : (f != 0) = true := by simpa using hz
        have HBAD : Hid (offsF l = f) := by
          show _ = _
          rw [H0.out, offsTo_at HT.out HLK.out (by rw [HF.out]; exact hz), HF.out]
        go_wp2_with fail
        refine (HC.out _).mono ?_
        rintro e w1 ⟨rfl, hb1⟩
        have HB1 : Hid (Below w.heap.size w w1) := below_step (HB.out.alloc hszb _) hb1
        clear hb1
        go_wp2
        (try go_ret2)
        rw [← HP.out, ← HBAD.out]
        exact bestPost_bad (by rw [HBAD.out]; exact hz) HB1.out
    · obtain rfl : n = k := by omega
      have HE : Hid (l.take n = l) := List.take_of_length_le (by rw [HZ.out]; omega)
      rw [HE.out] at HT
      have HF : Hid (offsF l = 0) := by show _ = _; rw [H0.out]; exact offsTo_zero.2 HT.out
      have HG := Lib.hid (offs_good HF.out HOK.out)
      clear H0 HT HE HOK hk hlt
      clear hszb
      go_wp2
      go_loopw [38, 7, 8, 9, 10, 12] (fun i av _ _ _ _ wr => ∃ k2 : Nat, k2 ≤ n ∧ i = .int .i64 k2 ∧ Hid (wr.ownsRow w.heap.size 44 8 av (aliveTo l k2).length ((aliveTo l k2).flatMap OffV.cells)) ∧ Hid (Below w.heap.size w wr)) (fun i _ _ _ _ _ _ => n - (intOf i).toNat)
      case atStart => exact ⟨0, by omega, rfl, World.ownsRow_nil _ _ _ _, HB⟩
      case round =>
        clear HB
        clear wo
        obtain ⟨k, hk, rfl, HROW, HB⟩ := hrel
        obtain ⟨wo, rfl⟩ : ∃ wo : World, wo = wr := ⟨_, rfl⟩
        have hszb := HB.out.size
        by_cases hlt : k < n
        · obtain ⟨ad, ⟨⟨six, hi, lo, pn⟩, src, peer, met, hop⟩, rfl, hlk, htk, hmem, hbk, hc0, hcj⟩ := HR.out.atS OffV.cells_length HZ.out hlt
          have q0 := (HB.out.cell (p := ad.add (k * 8)) (by rw [block_of_add]; exact hbk)).trans (hc0 _ rfl)
          have q1 := (HB.out.cell (p := ⟨(ad.add (k * 8)).block, (ad.add (k * 8)).off + 1, none⟩) (by rw [block_of_add]; exact hbk)).trans (hcj 1 _ rfl)
          have q2 := (HB.out.cell (p := ⟨(ad.add (k * 8)).block, (ad.add (k * 8)).off + 2, none⟩) (by rw [block_of_add]; exact hbk)).trans (hcj 2 _ rfl)
          have q3 := (HB.out.cell (p := ⟨(ad.add (k * 8)).block, (ad.add (k * 8)).off + 3, none⟩) (by rw [block_of_add]; exact hbk)).trans (hcj 3 _ rfl)
          have q4 := (HB.out.cell (p := ⟨(ad.add (k * 8)).block, (ad.add (k * 8)).off + 4, none⟩) (by rw [block_of_add]; exact hbk)).trans (hcj 4 _ rfl)
          have q5 := (HB.out.cell (p := ⟨(ad.add (k * 8)).block, (ad.add (k * 8)).off + 5, none⟩) (by rw [block_of_add]; exact hbk)).trans (hcj 5 _ rfl)
          have q6 := (HB.out.cell (p := ⟨(ad.add (k * 8)).block, (ad.add (k * 8)).off + 6, none⟩) (by rw [block_of_add]; exact hbk)).trans (hcj 6 _ rfl)
          have q7 := (HB.out.cell (p := ⟨(ad.add (k * 8)).block, (ad.add (k * 8)).off + 7, none⟩) (by rw [block_of_add]; exact hbk)).trans (hcj 7 _ rfl)
          have HSU := Lib.hid (aliveTo_succ hlk)
          have hal := aliveTo_length l k
          clear htk hmem hlk
          (try clear hc0 hcj)
          have hal2 : (aliveTo l k).length ≤ 100 := by omega
          by_cases hcz : c = k + 1
          · subst hcz
            go_wp2_with fail
            obtain ⟨wp, hwp⟩ : ∃ wn : World, wo.alloc (.cells #[.bool six, .int .u64 hi, .int .u64 lo, .int .i64 pn, .int .i64 src, .int .i64 peer, .int .i64 met, .int .i64 hop] 44) = wn := ⟨_, rfl⟩
            have p0 : wp.cell? ⟨wo.heap.size, 0, none⟩ = some (.bool six) := by rw [← hwp]; exact alloc_cellN (j := 0) rfl
            have p1 : wp.cell? ⟨wo.heap.size, 1, none⟩ = some (.int .u64 hi) := by rw [← hwp]; exact alloc_cellN (j := 1) rfl
            have p2 : wp.cell? ⟨wo.heap.size, 2, none⟩ = some (.int .u64 lo) := by rw [← hwp]; exact alloc_cellN (j := 2) rfl
            have p3 : wp.cell? ⟨wo.heap.size, 3, none⟩ = some (.int .i64 pn) := by rw [← hwp]; exact alloc_cellN (j := 3) rfl
            have p4 : wp.cell? ⟨wo.heap.size, 4, none⟩ = some (.int .i64 src) := by rw [← hwp]; exact alloc_cellN (j := 4) rfl
            have p5 : wp.cell? ⟨wo.heap.size, 5, none⟩ = some (.int .i64 peer) := by rw [← hwp]; exact alloc_cellN (j := 5) rfl
            have p6 : wp.cell? ⟨wo.heap.size, 6, none⟩ = some (.int .i64 met) := by rw [← hwp]; exact alloc_cellN (j := 6) rfl
            have p7 : wp.cell? ⟨wo.heap.size, 7, none⟩ = some (.int .i64 hop) := by rw [← hwp]; exact alloc_cellN (j := 7) rfl
            have HROWP : Hid (wp.ownsRow w.heap.size 44 8 u7 (aliveTo l k).length ((aliveTo l k).flatMap OffV.cells)) := by rw [← hwp]; exact HROW.out.alloc _
            have HBP : Hid (Below w.heap.size w wp) := by rw [← hwp]; exact HB.out.alloc hszb _
            have hszp : wo.heap.size < wp.heap.size := by rw [← hwp]; simp
            rw [hwp]
            clear hwp
            go_loopw [51, 10, 12] (fun j lv _ wr => ∃ (t : Nat) (X : Bool), t ≤ n - (k + 1) ∧ j = .int .i64 t ∧ lv = .bool X ∧ Hid (X = (decide (met < 999) && ((l.drop (k + 1)).take t).all fun q => !decide (SameK q (⟨⟨six, hi, lo, pn⟩, src, peer, met, hop⟩ : OffV)))) ∧ Hid (Below wp.heap.size wp wr)) (fun j _ _ _ => (n - (k + 1)) - (intOf j).toNat)
            case atStart => exact ⟨0, _, by omega, rfl, rfl, (by show _ = _; simp), Below.refl _ _⟩
            case round =>
              obtain ⟨t, X, ht, rfl, rfl, HX, hb⟩ := hrel
              obtain ⟨wq, rfl⟩ : ∃ wq : World, wq = wr := ⟨_, rfl⟩
              have hszq := hb.out.size
              have r0 := (hb.out.cell (p := ⟨wo.heap.size, 0, none⟩) hszp).trans p0
              have r1 := (hb.out.cell (p := ⟨wo.heap.size, 1, none⟩) hszp).trans p1
              have r2 := (hb.out.cell (p := ⟨wo.heap.size, 2, none⟩) hszp).trans p2
              have r3 := (hb.out.cell (p := ⟨wo.heap.size, 3, none⟩) hszp).trans p3
              have r4 := (hb.out.cell (p := ⟨wo.heap.size, 4, none⟩) hszp).trans p4
              have r5 := (hb.out.cell (p := ⟨wo.heap.size, 5, none⟩) hszp).trans p5
              have r6 := (hb.out.cell (p := ⟨wo.heap.size, 6, none⟩) hszp).trans p6
              have r7 := (hb.out.cell (p := ⟨wo.heap.size, 7, none⟩) hszp).trans p7
              by_cases hlt3 : t < n - (k + 1)
              · omega
              · obtain rfl : t = n - (k + 1) := by omega
                have HX : Hid (lastB l k (⟨⟨six, hi, lo, pn⟩, src, peer, met, hop⟩ : OffV) = X) := by
                  show _ = _
                  rw [HX.out, List.take_of_length_le (by rw [List.length_drop, HZ.out]; omega)]
                  rfl
                have HROW5 : Hid (wq.ownsRow w.heap.size 44 8 u7 (aliveTo l k).length ((aliveTo l k).flatMap OffV.cells)) := own_below HROWP.out hb.out
                have HB5 : Hid (Below w.heap.size w wq) := below_step HBP.out hb.out
                have hs5 : w.heap.size ≤ wq.heap.size := HB5.out.size
                clear hb
                cases X with
                | true =>
                  go_wp2_with (at_builtin; go_loud (refine wpList_append_oneN (us := [.bool six, .int .u64 hi, .int .u64 lo, .int .i64 pn, .int .i64 src, .int .i64 peer, .int .i64 met, .int .i64 hop]) rfl _ _ 24 rfl w.heap.size _ 8 64 Try.underlying24 infoOffer rfl (by decide) _ _ _ rfl rfl rfl HROW5.out hs5 rfl (by intro u hu; simp at hu; rcases hu with rfl | rfl | rfl | rfl | rfl | rfl | rfl | rfl <;> rfl) (by unfold maxLen; omega) (by omega) ?_))
                  intro v6 w6 hown6 hb6 hs6 hk6
                  have HO6 : Hid (w6.ownsRow w.heap.size 44 8 v6 (aliveTo l (k + 1)).length ((aliveTo l (k + 1)).flatMap OffV.cells)) := by
                    show World.ownsRow _ _ _ _ _ _ _
                    rw [HSU.out, if_pos HX.out, List.length_append, List.flatMap_append]
                    exact hown6
                  have HB6 : Hid (Below w.heap.size w w6) := HB5.out.trans (hb6.mono (by omega))
                  clear hown6 hb6 hk6
                  go_wp2
                  go_roundw
                  case rel => exact ⟨k + 1, by omega, by go_num, HO6, HB6⟩
                  case measure => simp [intOf]; omega
                | false =>
                  have HO6 : Hid (wq.ownsRow w.heap.size 44 8 u7 (aliveTo l (k + 1)).length ((aliveTo l (k + 1)).flatMap OffV.cells)) := by
                    show World.ownsRow _ _ _ _ _ _ _
                    rw [HSU.out, if_neg (by rw [HX.out]; decide), List.append_nil]
                    exact HROW5.out
                  go_wp2
                  go_roundw
                  case rel => exact ⟨k + 1, by omega, by go_num, HO6, HB5⟩
                  case measure => simp [intOf]; omega
          · have HSUB : Hid (∀ Y, Below w.heap.size w Y → Reads Y w.heap.size 8 (some (ad.add ((k + 1) * 8))) (n - (k + 1)) ((l.drop (k + 1)).flatMap OffV.cells)) := by
              intro Y hY
              have hr := (HR.out.below hY).cut (k := k + 1) (cap := c) (by omega) hnc
              rw [if_neg hcz, off_drop] at hr
              exact hr
            go_wp2_with fail
            obtain ⟨wp, hwp⟩ : ∃ wn : World, wo.alloc (.cells #[.bool six, .int .u64 hi, .int .u64 lo, .int .i64 pn, .int .i64 src, .int .i64 peer, .int .i64 met, .int .i64 hop] 44) = wn := ⟨_, rfl⟩
            have p0 : wp.cell? ⟨wo.heap.size, 0, none⟩ = some (.bool six) := by rw [← hwp]; exact alloc_cellN (j := 0) rfl
            have p1 : wp.cell? ⟨wo.heap.size, 1, none⟩ = some (.int .u64 hi) := by rw [← hwp]; exact alloc_cellN (j := 1) rfl
            have p2 : wp.cell? ⟨wo.heap.size, 2, none⟩ = some (.int .u64 lo) := by rw [← hwp]; exact alloc_cellN (j := 2) rfl
            have p3 : wp.cell? ⟨wo.heap.size, 3, none⟩ = some (.int .i64 pn) := by rw [← hwp]; exact alloc_cellN (j := 3) rfl
            have p4 : wp.cell? ⟨wo.heap.size, 4, none⟩ = some (.int .i64 src) := by rw [← hwp]; exact alloc_cellN (j := 4) rfl
            have p5 : wp.cell? ⟨wo.heap.size, 5, none⟩ = some (.int .i64 peer) := by rw [← hwp]; exact alloc_cellN (j := 5) rfl
            have p6 : wp.cell? ⟨wo.heap.size, 6, none⟩ = some (.int .i64 met) := by rw [← hwp]; exact alloc_cellN (j := 6) rfl
            have p7 : wp.cell? ⟨wo.heap.size, 7, none⟩ = some (.int .i64 hop) := by rw [← hwp]; exact alloc_cellN (j := 7) rfl
            have HROWP : Hid (wp.ownsRow w.heap.size 44 8 u7 (aliveTo l k).length ((aliveTo l k).flatMap OffV.cells)) := by rw [← hwp]; exact HROW.out.alloc _
            have HBP : Hid (Below w.heap.size w wp) := by rw [← hwp]; exact HB.out.alloc hszb _
            have hszp : wo.heap.size < wp.heap.size := by rw [← hwp]; simp
            rw [hwp]
            clear hwp
            go_loopw [51, 10, 12] (fun j lv _ wr => ∃ (t : Nat) (X : Bool), t ≤ n - (k + 1) ∧ j = .int .i64 t ∧ lv = .bool X ∧ Hid (X = (decide (met < 999) && ((l.drop (k + 1)).take t).all fun q => !decide (SameK q (⟨⟨six, hi, lo, pn⟩, src, peer, met, hop⟩ : OffV)))) ∧ Hid (Below wp.heap.size wp wr)) (fun j _ _ _ => (n - (k + 1)) - (intOf j).toNat)
            case atStart => exact ⟨0, _, by omega, rfl, rfl, (by show _ = _; simp), Below.refl _ _⟩
            case round =>
              obtain ⟨t, X, ht, rfl, rfl, HX, hb⟩ := hrel
              obtain ⟨wq, rfl⟩ : ∃ wq : World, wq = wr := ⟨_, rfl⟩
              have hszq := hb.out.size
              have r0 := (hb.out.cell (p := ⟨wo.heap.size, 0, none⟩) hszp).trans p0
              have r1 := (hb.out.cell (p := ⟨wo.heap.size, 1, none⟩) hszp).trans p1
              have r2 := (hb.out.cell (p := ⟨wo.heap.size, 2, none⟩) hszp).trans p2
              have r3 := (hb.out.cell (p := ⟨wo.heap.size, 3, none⟩) hszp).trans p3
              have r4 := (hb.out.cell (p := ⟨wo.heap.size, 4, none⟩) hszp).trans p4
              have r5 := (hb.out.cell (p := ⟨wo.heap.size, 5, none⟩) hszp).trans p5
              have r6 := (hb.out.cell (p := ⟨wo.heap.size, 6, none⟩) hszp).trans p6
              have r7 := (hb.out.cell (p := ⟨wo.heap.size, 7, none⟩) hszp).trans p7
              by_cases hlt3 : t < n - (k + 1)
              · obtain ⟨ad2, ⟨⟨six', hi', lo', pn'⟩, src', peer', met', hop'⟩, e2, hlk2, htk2, hmem2, hbk, hc0, hcj⟩ := (HSUB.out wq (below_step HBP.out hb.out)).atS OffV.cells_length (by rw [List.length_drop, HZ.out]) hlt3
                injection e2 with e2
                subst e2
                have x0 := ((Below.refl w.heap.size wq).cell (p := (ad.add ((k + 1) * 8)).add (t * 8)) (by rw [block_of_add]; exact hbk)).trans (hc0 _ rfl)
                have x1 := ((Below.refl w.heap.size wq).cell (p := ⟨((ad.add ((k + 1) * 8)).add (t * 8)).block, ((ad.add ((k + 1) * 8)).add (t * 8)).off + 1, none⟩) (by rw [block_of_add]; exact hbk)).trans (hcj 1 _ rfl)
                have x2 := ((Below.refl w.heap.size wq).cell (p := ⟨((ad.add ((k + 1) * 8)).add (t * 8)).block, ((ad.add ((k + 1) * 8)).add (t * 8)).off + 2, none⟩) (by rw [block_of_add]; exact hbk)).trans (hcj 2 _ rfl)
                have x3 := ((Below.refl w.heap.size wq).cell (p := ⟨((ad.add ((k + 1) * 8)).add (t * 8)).block, ((ad.add ((k + 1) * 8)).add (t * 8)).off + 3, none⟩) (by rw [block_of_add]; exact hbk)).trans (hcj 3 _ rfl)
                have x4 := ((Below.refl w.heap.size wq).cell (p := ⟨((ad.add ((k + 1) * 8)).add (t * 8)).block, ((ad.add ((k + 1) * 8)).add (t * 8)).off + 4, none⟩) (by rw [block_of_add]; exact hbk)).trans (hcj 4 _ rfl)
                have x5 := ((Below.refl w.heap.size wq).cell (p := ⟨((ad.add ((k + 1) * 8)).add (t * 8)).block, ((ad.add ((k + 1) * 8)).add (t * 8)).off + 5, none⟩) (by rw [block_of_add]; exact hbk)).trans (hcj 5 _ rfl)
                have x6 := ((Below.refl w.heap.size wq).cell (p := ⟨((ad.add ((k + 1) * 8)).add (t * 8)).block, ((ad.add ((k + 1) * 8)).add (t * 8)).off + 6, none⟩) (by rw [block_of_add]; exact hbk)).trans (hcj 6 _ rfl)
                have x7 := ((Below.refl w.heap.size wq).cell (p := ⟨((ad.add ((k + 1) * 8)).add (t * 8)).block, ((ad.add ((k + 1) * 8)).add (t * 8)).off + 7, none⟩) (by rw [block_of_add]; exact hbk)).trans (hcj 7 _ rfl)
                have HTK3 := Lib.hid htk2
                have HB6 : Hid (Below wp.heap.size wp (wq.alloc (.cells #[.bool six', .int .u64 hi', .int .u64 lo', .int .i64 pn', .int .i64 src', .int .i64 peer', .int .i64 met', .int .i64 hop'] 44))) := hb.out.alloc hszq _
                clear htk2 hlk2 hmem2 hc0 hcj hb
                have hszo : wo.heap.size < wq.heap.size := by omega
                by_cases e1 : (⟨six', hi', lo', pn'⟩ : PV) = ⟨six, hi, lo, pn⟩
                · have heq : ∀ w, (Op.equalIn 10000 42 (.agg #[.bool six', .int .u64 hi', .int .u64 lo', .int .i64 pn']) (.agg #[.bool six, .int .u64 hi, .int .u64 lo, .int .i64 pn])).run Try.prog w = .ok true w := fun w => by
                    have := eqPV ⟨six', hi', lo', pn'⟩ ⟨six, hi, lo, pn⟩ w
                    rw [decide_eq_true e1] at this
                    exact this
                  have E1 := Lib.hid e1
                  clear e1
                  by_cases e2 : src' = src
                  · have d2 : (src' == src) = true := by simpa using e2
                    by_cases e3 : peer' = peer
                    · have d3 : (peer' == peer) = true := by simpa using e3
                      have HS : Hid (SameK (⟨⟨six', hi', lo', pn'⟩, src', peer', met', hop'⟩ : OffV) (⟨⟨six, hi, lo, pn⟩, src, peer, met, hop⟩ : OffV)) := ⟨E1.out, e2, e3⟩
                      clear e2 e3

                      have HXN : Hid (((decide (met < 999) && ((l.drop (k + 1)).take (t + 1)).all fun q => !decide (SameK q (⟨⟨six, hi, lo, pn⟩, src, peer, met, hop⟩ : OffV)))) = false) := by
                        show _ = _
                        rw [HTK3.out, List.all_append, ← Bool.and_assoc, ← HX.out]
                        simp only [List.all_cons, List.all_nil, Bool.and_true]
                        rw [decide_eq_true HS.out]; simp
                      go_wp2
                      go_roundw
                      case rel => exact ⟨t + 1, _, by omega, by go_num, rfl, HXN.out.symm, HB6⟩
                      case measure => simp [intOf]; omega
                    · have d3 : (peer' == peer) = false := by simpa using e3
                      have HS : Hid (¬ SameK (⟨⟨six', hi', lo', pn'⟩, src', peer', met', hop'⟩ : OffV) (⟨⟨six, hi, lo, pn⟩, src, peer, met, hop⟩ : OffV)) := fun h => e3 h.2.2
                      clear e2 e3

                      have HXN : Hid (((decide (met < 999) && ((l.drop (k + 1)).take (t + 1)).all fun q => !decide (SameK q (⟨⟨six, hi, lo, pn⟩, src, peer, met, hop⟩ : OffV)))) = X) := by
                        show _ = _
                        rw [HTK3.out, List.all_append, ← Bool.and_assoc, ← HX.out]
                        simp only [List.all_cons, List.all_nil, Bool.and_true]
                        rw [decide_eq_false HS.out]; simp
                      go_wp2
                      go_roundw
                      case rel => exact ⟨t + 1, _, by omega, by go_num, rfl, HXN.out.symm, HB6⟩
                      case measure => simp [intOf]; omega
                  · have d2 : (src' == src) = false := by simpa using e2
                    have HS : Hid (¬ SameK (⟨⟨six', hi', lo', pn'⟩, src', peer', met', hop'⟩ : OffV) (⟨⟨six, hi, lo, pn⟩, src, peer, met, hop⟩ : OffV)) := fun h => e2 h.2.1
                    clear e2

                    have HXN : Hid (((decide (met < 999) && ((l.drop (k + 1)).take (t + 1)).all fun q => !decide (SameK q (⟨⟨six, hi, lo, pn⟩, src, peer, met, hop⟩ : OffV)))) = X) := by
                      show _ = _
                      rw [HTK3.out, List.all_append, ← Bool.and_assoc, ← HX.out]
                      simp only [List.all_cons, List.all_nil, Bool.and_true]
                      rw [decide_eq_false HS.out]; simp
                    go_wp2
                    go_roundw
                    case rel => exact ⟨t + 1, _, by omega, by go_num, rfl, HXN.out.symm, HB6⟩
                    case measure => simp [intOf]; omega
                · have heq : ∀ w, (Op.equalIn 10000 42 (.agg #[.bool six', .int .u64 hi', .int .u64 lo', .int .i64 pn']) (.agg #[.bool six, .int .u64 hi, .int .u64 lo, .int .i64 pn])).run Try.prog w = .ok false w := fun w => by
                    have := eqPV ⟨six', hi', lo', pn'⟩ ⟨six, hi, lo, pn⟩ w
                    rw [decide_eq_false e1] at this
                    exact this
                  have HS : Hid (¬ SameK (⟨⟨six', hi', lo', pn'⟩, src', peer', met', hop'⟩ : OffV) (⟨⟨six, hi, lo, pn⟩, src, peer, met, hop⟩ : OffV)) := fun h => e1 h.1
                  clear e1

                  have HXN : Hid (((decide (met < 999) && ((l.drop (k + 1)).take (t + 1)).all fun q => !decide (SameK q (⟨⟨six, hi, lo, pn⟩, src, peer, met, hop⟩ : OffV)))) = X) := by
                    show _ = _
                    rw [HTK3.out, List.all_append, ← Bool.and_assoc, ← HX.out]
                    simp only [List.all_cons, List.all_nil, Bool.and_true]
                    rw [decide_eq_false HS.out]; simp
                  go_wp2
                  go_roundw
                  case rel => exact ⟨t + 1, _, by omega, by go_num, rfl, HXN.out.symm, HB6⟩
                  case measure => simp [intOf]; omega
              · obtain rfl : t = n - (k + 1) := by omega
                have HX : Hid (lastB l k (⟨⟨six, hi, lo, pn⟩, src, peer, met, hop⟩ : OffV) = X) := by
                  show _ = _
                  rw [HX.out, List.take_of_length_le (by rw [List.length_drop, HZ.out]; omega)]
                  rfl
                have HROW5 : Hid (wq.ownsRow w.heap.size 44 8 u7 (aliveTo l k).length ((aliveTo l k).flatMap OffV.cells)) := own_below HROWP.out hb.out
                have HB5 : Hid (Below w.heap.size w wq) := below_step HBP.out hb.out
                have hs5 : w.heap.size ≤ wq.heap.size := HB5.out.size
                clear hb
                cases X with
                | true =>
                  go_wp2_with (at_builtin; go_loud (refine wpList_append_oneN (us := [.bool six, .int .u64 hi, .int .u64 lo, .int .i64 pn, .int .i64 src, .int .i64 peer, .int .i64 met, .int .i64 hop]) rfl _ _ 24 rfl w.heap.size _ 8 64 Try.underlying24 infoOffer rfl (by decide) _ _ _ rfl rfl rfl HROW5.out hs5 rfl (by intro u hu; simp at hu; rcases hu with rfl | rfl | rfl | rfl | rfl | rfl | rfl | rfl <;> rfl) (by unfold maxLen; omega) (by omega) ?_))
                  intro v6 w6 hown6 hb6 hs6 hk6
                  have HO6 : Hid (w6.ownsRow w.heap.size 44 8 v6 (aliveTo l (k + 1)).length ((aliveTo l (k + 1)).flatMap OffV.cells)) := by
                    show World.ownsRow _ _ _ _ _ _ _
                    rw [HSU.out, if_pos HX.out, List.length_append, List.flatMap_append]
                    exact hown6
                  have HB6 : Hid (Below w.heap.size w w6) := HB5.out.trans (hb6.mono (by omega))
                  clear hown6 hb6 hk6
                  go_wp2
                  go_roundw
                  case rel => exact ⟨k + 1, by omega, by go_num, HO6, HB6⟩
                  case measure => simp [intOf]; omega
                | false =>
                  have HO6 : Hid (wq.ownsRow w.heap.size 44 8 u7 (aliveTo l (k + 1)).length ((aliveTo l (k + 1)).flatMap OffV.cells)) := by
                    show World.ownsRow _ _ _ _ _ _ _
                    rw [HSU.out, if_neg (by rw [HX.out]; decide), List.append_nil]
                    exact HROW5.out
                  go_wp2
                  go_roundw
                  case rel => exact ⟨k + 1, by omega, by go_num, HO6, HB5⟩
                  case measure => simp [intOf]; omega
        · obtain rfl : n = k := by omega
          have hal := aliveTo_length l n
          have HAL : Hid (∀ q, q ∈ aliveTo l n ↔ Live l q) := fun q => by rw [← HZ.out]; exact mem_alive
          have HND := Lib.hid (alive_nodup l n)
          obtain ⟨AL, hAL⟩ : ∃ AL, aliveTo l n = AL := ⟨_, rfl⟩
          rw [hAL] at HROW HAL HND hal
          have HGA : Hid (∀ q ∈ AL, q.Good) := fun q hq => HG.out q ((HAL.out q).1 hq).mem
          obtain ⟨A2, c2, rfl, hc2, hr2⟩ := own_reads HROW.out
          obtain ⟨na, hna⟩ : ∃ na, AL.length = na := ⟨_, rfl⟩
          rw [hna] at hr2 hc2 hal ⊢
          have HR2 := Lib.hid hr2
          have HNA := Lib.hid hna
          have hcm2 := hc2.2
          have hcn2 := hc2.1
          unfold maxLen at hcm2
          clear hr2 hc2 hna hAL HROW hk hlt
          go_wp2
          go_loopw [83, 14, 16, 17, 19, 20] (fun i ov _ _ _ _ wr => ∃ (k : Nat) (m : List OffV), k ≤ na ∧ i = .int .i64 k ∧ Hid (OutAt AL k m) ∧ m.length ≤ k ∧ Hid (wr.ownsRow wo.heap.size 44 8 ov m.length (m.flatMap OffV.cells)) ∧ Hid (Below wo.heap.size wo wr)) (fun i _ _ _ _ _ _ => na - (intOf i).toNat)
          case atStart => exact ⟨0, [], by omega, rfl, OutAt.start _, by simp, World.ownsRow_nil _ _ _ _, Below.refl _ _⟩
          case round =>
            obtain ⟨k, m, hk, rfl, HOUT, hmk, HROW, HB4⟩ := hrel
            obtain ⟨wz, rfl⟩ : ∃ wz : World, wz = wr := ⟨_, rfl⟩
            have hszz := HB4.out.size
            by_cases hlt : k < na
            · obtain ⟨ad, ⟨⟨six, hi, lo, pn⟩, src, peer, met, hop⟩, rfl, hlk, htk, hmem, hbk, hc0, hcj⟩ := HR2.out.atS OffV.cells_length HNA.out hlt
              have q0 := (HB4.out.cell (p := ad.add (k * 8)) (by rw [block_of_add]; exact hbk)).trans (hc0 _ rfl)
              have q1 := (HB4.out.cell (p := ⟨(ad.add (k * 8)).block, (ad.add (k * 8)).off + 1, none⟩) (by rw [block_of_add]; exact hbk)).trans (hcj 1 _ rfl)
              have q2 := (HB4.out.cell (p := ⟨(ad.add (k * 8)).block, (ad.add (k * 8)).off + 2, none⟩) (by rw [block_of_add]; exact hbk)).trans (hcj 2 _ rfl)
              have q3 := (HB4.out.cell (p := ⟨(ad.add (k * 8)).block, (ad.add (k * 8)).off + 3, none⟩) (by rw [block_of_add]; exact hbk)).trans (hcj 3 _ rfl)
              have q4 := (HB4.out.cell (p := ⟨(ad.add (k * 8)).block, (ad.add (k * 8)).off + 4, none⟩) (by rw [block_of_add]; exact hbk)).trans (hcj 4 _ rfl)
              have q5 := (HB4.out.cell (p := ⟨(ad.add (k * 8)).block, (ad.add (k * 8)).off + 5, none⟩) (by rw [block_of_add]; exact hbk)).trans (hcj 5 _ rfl)
              have q6 := (HB4.out.cell (p := ⟨(ad.add (k * 8)).block, (ad.add (k * 8)).off + 6, none⟩) (by rw [block_of_add]; exact hbk)).trans (hcj 6 _ rfl)
              have q7 := (HB4.out.cell (p := ⟨(ad.add (k * 8)).block, (ad.add (k * 8)).off + 7, none⟩) (by rw [block_of_add]; exact hbk)).trans (hcj 7 _ rfl)
              have HGO := Lib.hid (HGA.out _ hmem)
              have HLKO := Lib.hid hlk
              obtain ⟨A3, c3, rfl, hc3, hr3⟩ := own_reads HROW.out
              obtain ⟨ml, hml⟩ : ∃ ml, m.length = ml := ⟨_, rfl⟩
              rw [hml] at hc3 hr3 hmk HROW ⊢
              have HML := Lib.hid hml
              have HR3 := Lib.hid hr3
              have hcn3 := hc3.1
              have hcm3 := hc3.2
              unfold maxLen at hcm3
              have hG : ∃ G, (∀ k, (Value.slice A3 ml c3).ownBlock = some k → k = G) ∧ ¬ G = wz.heap.size := by
                cases hv : (Value.slice A3 ml c3).ownBlock with
                | none => exact ⟨wz.heap.size + 1, by simp, by omega⟩
                | some g => exact ⟨g, fun k hk => by injection hk with hk; exact hk.symm, fun e => by subst e; exact own_block_lt HROW.out (Nat.le_refl _) hv⟩
              obtain ⟨G, hG1, hG2⟩ := hG
              have HG1 := Lib.hid hG1
              clear hlk htk hmem hbk hc0 hcj hc3 hr3 hml hG1
              go_wp2_with fail
              obtain ⟨wp, hwp⟩ : ∃ wn : World, wz.alloc (.cells #[.bool six, .int .u64 hi, .int .u64 lo, .int .i64 pn, .int .i64 src, .int .i64 peer, .int .i64 met, .int .i64 hop] 44) = wn := ⟨_, rfl⟩
              have p0 : wp.cell? ⟨wz.heap.size, 0, none⟩ = some (.bool six) := by rw [← hwp]; exact alloc_cellN (j := 0) rfl
              have p1 : wp.cell? ⟨wz.heap.size, 1, none⟩ = some (.int .u64 hi) := by rw [← hwp]; exact alloc_cellN (j := 1) rfl
              have p2 : wp.cell? ⟨wz.heap.size, 2, none⟩ = some (.int .u64 lo) := by rw [← hwp]; exact alloc_cellN (j := 2) rfl
              have p3 : wp.cell? ⟨wz.heap.size, 3, none⟩ = some (.int .i64 pn) := by rw [← hwp]; exact alloc_cellN (j := 3) rfl
              have p4 : wp.cell? ⟨wz.heap.size, 4, none⟩ = some (.int .i64 src) := by rw [← hwp]; exact alloc_cellN (j := 4) rfl
              have p5 : wp.cell? ⟨wz.heap.size, 5, none⟩ = some (.int .i64 peer) := by rw [← hwp]; exact alloc_cellN (j := 5) rfl
              have p6 : wp.cell? ⟨wz.heap.size, 6, none⟩ = some (.int .i64 met) := by rw [← hwp]; exact alloc_cellN (j := 6) rfl
              have p7 : wp.cell? ⟨wz.heap.size, 7, none⟩ = some (.int .i64 hop) := by rw [← hwp]; exact alloc_cellN (j := 7) rfl
              have HROWP : Hid (wp.ownsRow wo.heap.size 44 8 (.slice A3 ml c3) ml (m.flatMap OffV.cells)) := by rw [← hwp]; exact HROW.out.alloc _
              have HR3P : Hid (Reads wp wz.heap.size 8 A3 ml (m.flatMap OffV.cells)) := by rw [← hwp]; exact HR3.out.alloc (Nat.le_refl _) _
              have HBP : Hid (Below wo.heap.size wo wp) := by rw [← hwp]; exact HB4.out.alloc hszz _
              have hszp : wz.heap.size < wp.heap.size := by rw [← hwp]; simp
              rw [hwp]
              clear hwp
              go_loopw [89, 17, 19] (fun j bv _ wr => ∃ (t : Nat) (X : Bool), t ≤ na ∧ j = .int .i64 t ∧ bv = .bool X ∧ Hid (X = (AL.take t).all (fun p : OffV => !(decide (p.p = PV.mk six hi lo pn) && decide (p.worth < OffV.worth (⟨⟨six, hi, lo, pn⟩, src, peer, met, hop⟩ : OffV))))) ∧ Hid (Below wp.heap.size wp wr)) (fun j _ _ _ => na - (intOf j).toNat)
              case atStart => exact ⟨0, _, by omega, rfl, rfl, (by show _ = _; simp), Below.refl _ _⟩
              case round =>
                obtain ⟨t, X, ht, rfl, rfl, HX, hb⟩ := hrel
                obtain ⟨wq, rfl⟩ : ∃ wq : World, wq = wr := ⟨_, rfl⟩
                have hszq := hb.out.size
                have r0 : wq.cell? ⟨wz.heap.size, 0, none⟩ = some (.bool six) := (hb.out.cell (p := ⟨wz.heap.size, 0, none⟩) hszp).trans p0
                have r1 : wq.cell? ⟨wz.heap.size, 1, none⟩ = some (.int .u64 hi) := (hb.out.cell (p := ⟨wz.heap.size, 1, none⟩) hszp).trans p1
                have r2 : wq.cell? ⟨wz.heap.size, 2, none⟩ = some (.int .u64 lo) := (hb.out.cell (p := ⟨wz.heap.size, 2, none⟩) hszp).trans p2
                have r3 : wq.cell? ⟨wz.heap.size, 3, none⟩ = some (.int .i64 pn) := (hb.out.cell (p := ⟨wz.heap.size, 3, none⟩) hszp).trans p3
                have r4 : wq.cell? ⟨wz.heap.size, 4, none⟩ = some (.int .i64 src) := (hb.out.cell (p := ⟨wz.heap.size, 4, none⟩) hszp).trans p4
                have r5 : wq.cell? ⟨wz.heap.size, 5, none⟩ = some (.int .i64 peer) := (hb.out.cell (p := ⟨wz.heap.size, 5, none⟩) hszp).trans p5
                have r6 : wq.cell? ⟨wz.heap.size, 6, none⟩ = some (.int .i64 met) := (hb.out.cell (p := ⟨wz.heap.size, 6, none⟩) hszp).trans p6
                have r7 : wq.cell? ⟨wz.heap.size, 7, none⟩ = some (.int .i64 hop) := (hb.out.cell (p := ⟨wz.heap.size, 7, none⟩) hszp).trans p7
                by_cases hlt3 : t < na
                · obtain ⟨ad2, ⟨⟨six', hi', lo', pn'⟩, src', peer', met', hop'⟩, e2, hlk2, htk2, hmem2, hbk, hc0, hcj⟩ := HR2.out.atS OffV.cells_length HNA.out hlt3
                  injection e2 with e2
                  subst e2
                  have hbq : Below wo.heap.size wo wq := below_step HBP.out hb.out
                  have x0 := (hbq.cell (p := ad.add (t * 8)) (by rw [block_of_add]; exact hbk)).trans (hc0 _ rfl)
                  have x1 := (hbq.cell (p := ⟨(ad.add (t * 8)).block, (ad.add (t * 8)).off + 1, none⟩) (by rw [block_of_add]; exact hbk)).trans (hcj 1 _ rfl)
                  have x2 := (hbq.cell (p := ⟨(ad.add (t * 8)).block, (ad.add (t * 8)).off + 2, none⟩) (by rw [block_of_add]; exact hbk)).trans (hcj 2 _ rfl)
                  have x3 := (hbq.cell (p := ⟨(ad.add (t * 8)).block, (ad.add (t * 8)).off + 3, none⟩) (by rw [block_of_add]; exact hbk)).trans (hcj 3 _ rfl)
                  have x4 := (hbq.cell (p := ⟨(ad.add (t * 8)).block, (ad.add (t * 8)).off + 4, none⟩) (by rw [block_of_add]; exact hbk)).trans (hcj 4 _ rfl)
                  have x5 := (hbq.cell (p := ⟨(ad.add (t * 8)).block, (ad.add (t * 8)).off + 5, none⟩) (by rw [block_of_add]; exact hbk)).trans (hcj 5 _ rfl)
                  have x6 := (hbq.cell (p := ⟨(ad.add (t * 8)).block, (ad.add (t * 8)).off + 6, none⟩) (by rw [block_of_add]; exact hbk)).trans (hcj 6 _ rfl)
                  have x7 := (hbq.cell (p := ⟨(ad.add (t * 8)).block, (ad.add (t * 8)).off + 7, none⟩) (by rw [block_of_add]; exact hbk)).trans (hcj 7 _ rfl)
                  have HTK3 := Lib.hid htk2
                  have gq := HGA.out _ hmem2
                  have CWQ := Lib.hid (fun w => refWorth_any _ gq w)
                  clear hbk hc0 hcj hbq
                  by_cases e1 : (⟨six', hi', lo', pn'⟩ : PV) = ⟨six, hi, lo, pn⟩
                  · have heq : ∀ w, (Op.equalIn 10000 42 (.agg #[.bool six', .int .u64 hi', .int .u64 lo', .int .i64 pn']) (.agg #[.bool six, .int .u64 hi, .int .u64 lo, .int .i64 pn])).run Try.prog w = .ok true w := fun w => by
                      have := eqPV ⟨six', hi', lo', pn'⟩ ⟨six, hi, lo, pn⟩ w
                      rw [decide_eq_true e1] at this
                      exact this
                    have E1 := Lib.hid e1
                    obtain ⟨wa, hwa⟩ : ∃ wa, OffV.worth (⟨⟨six', hi', lo', pn'⟩, src', peer', met', hop'⟩ : OffV) = wa := ⟨_, rfl⟩
                    obtain ⟨wb, hwb⟩ : ∃ wb, OffV.worth (⟨⟨six, hi, lo, pn⟩, src, peer, met, hop⟩ : OffV) = wb := ⟨_, rfl⟩
                    have HWA := Lib.hid hwa
                    have HWB := Lib.hid hwb
                    have CWO2 := Lib.hid (fun w => refWorth_any _ HGO.out w)
                    rw [hwa] at CWQ
                    rw [hwb] at CWO2
                    have CWO := CWO2
                    unfold OffV.val at CWQ CWO
                    simp only at CWQ CWO
                    clear e1 hwa hwb CWO2 hmem2 hlk2 htk2 gq
                    go_wp2_with fail
                    obtain ⟨ws, hws⟩ : ∃ wn : World, wq.alloc (.cells #[.bool six', .int .u64 hi', .int .u64 lo', .int .i64 pn', .int .i64 src', .int .i64 peer', .int .i64 met', .int .i64 hop'] 44) = wn := ⟨_, rfl⟩
                    have s0 : ws.cell? ⟨wq.heap.size, 0, none⟩ = some (.bool six') := by rw [← hws]; exact alloc_cellN (j := 0) rfl
                    have s1 : ws.cell? ⟨wq.heap.size, 1, none⟩ = some (.int .u64 hi') := by rw [← hws]; exact alloc_cellN (j := 1) rfl
                    have s2 : ws.cell? ⟨wq.heap.size, 2, none⟩ = some (.int .u64 lo') := by rw [← hws]; exact alloc_cellN (j := 2) rfl
                    have s3 : ws.cell? ⟨wq.heap.size, 3, none⟩ = some (.int .i64 pn') := by rw [← hws]; exact alloc_cellN (j := 3) rfl
                    have s4 : ws.cell? ⟨wq.heap.size, 4, none⟩ = some (.int .i64 src') := by rw [← hws]; exact alloc_cellN (j := 4) rfl
                    have s5 : ws.cell? ⟨wq.heap.size, 5, none⟩ = some (.int .i64 peer') := by rw [← hws]; exact alloc_cellN (j := 5) rfl
                    have s6 : ws.cell? ⟨wq.heap.size, 6, none⟩ = some (.int .i64 met') := by rw [← hws]; exact alloc_cellN (j := 6) rfl
                    have s7 : ws.cell? ⟨wq.heap.size, 7, none⟩ = some (.int .i64 hop') := by rw [← hws]; exact alloc_cellN (j := 7) rfl
                    have o0 : ws.cell? ⟨wz.heap.size, 0, none⟩ = some (.bool six) := by rw [← hws]; exact alloc_cellO r0 (by omega)
                    have o1 : ws.cell? ⟨wz.heap.size, 1, none⟩ = some (.int .u64 hi) := by rw [← hws]; exact alloc_cellO r1 (by omega)
                    have o2 : ws.cell? ⟨wz.heap.size, 2, none⟩ = some (.int .u64 lo) := by rw [← hws]; exact alloc_cellO r2 (by omega)
                    have o3 : ws.cell? ⟨wz.heap.size, 3, none⟩ = some (.int .i64 pn) := by rw [← hws]; exact alloc_cellO r3 (by omega)
                    have o4 : ws.cell? ⟨wz.heap.size, 4, none⟩ = some (.int .i64 src) := by rw [← hws]; exact alloc_cellO r4 (by omega)
                    have o5 : ws.cell? ⟨wz.heap.size, 5, none⟩ = some (.int .i64 peer) := by rw [← hws]; exact alloc_cellO r5 (by omega)
                    have o6 : ws.cell? ⟨wz.heap.size, 6, none⟩ = some (.int .i64 met) := by rw [← hws]; exact alloc_cellO r6 (by omega)
                    have o7 : ws.cell? ⟨wz.heap.size, 7, none⟩ = some (.int .i64 hop) := by rw [← hws]; exact alloc_cellO r7 (by omega)
                    have HBS : Hid (Below wp.heap.size wp ws) := by rw [← hws]; exact hb.out.alloc hszq _
                    have hzs : wq.heap.size < ws.heap.size := by rw [← hws]; simp
                    have hzo : wz.heap.size < ws.heap.size := by omega
                    rw [hws]
                    clear hws hb
                    by_cases hlw : wa < wb
                    · have hd : decide (wa < wb) = true := by simpa using hlw
                      go_region_held3 (fun w' => (∀ b o, b < ws.heap.size → w'.cell? ⟨b, o, none⟩ = ws.cell? ⟨b, o, none⟩) ∧ ws.heap.size ≤ w'.heap.size ∧ Hid (Below ws.heap.size ws w'))
                        ((first | assumption | exact keep0 _ | exact keep1 (by assumption) (by assumption) | exact keepD (by assumption) | exact keepB (by assumption) (by assumption) | exact keepA (by assumption) _ | exact ⟨fun _ _ _ => rfl, Nat.le_refl _, Below.refl _ _⟩))
                        (first | (go_at_call 78; (first | (with_reducible refine (CWQ.out _).mono ?_) | (with_reducible refine (CWO.out _).mono ?_)); rintro e w8 ⟨rfl, hb8⟩))
                      all_goals
                        obtain ⟨fc4, z4, H4⟩ : (∀ b o, b < ws.heap.size → w8.cell? ⟨b, o, none⟩ = ws.cell? ⟨b, o, none⟩) ∧ ws.heap.size ≤ w8.heap.size ∧ Hid (Below ws.heap.size ws w8) := by assumption
                        have HB6 : Hid (Below wp.heap.size wp w8) := below_step HBS.out H4.out
                        have HXN : Hid ((AL.take (t + 1)).all (fun p : OffV => !(decide (p.p = PV.mk six hi lo pn) && decide (p.worth < OffV.worth (⟨⟨six, hi, lo, pn⟩, src, peer, met, hop⟩ : OffV)))) = false) := by
                          show _ = _
                          rw [HTK3.out, List.all_append, ← HX.out]
                          simp only [List.all_cons, List.all_nil, Bool.and_true]
                          rw [HWA.out, HWB.out, decide_eq_true E1.out, hd]; simp
                        go_wp2
                        go_roundw
                        case rel => exact ⟨t + 1, _, by omega, by go_num, rfl, HXN.out.symm, HB6⟩
                        case measure => simp [intOf]; omega
                    · have hd : decide (wa < wb) = false := by simpa using hlw
                      go_region_held3 (fun w' => (∀ b o, b < ws.heap.size → w'.cell? ⟨b, o, none⟩ = ws.cell? ⟨b, o, none⟩) ∧ ws.heap.size ≤ w'.heap.size ∧ Hid (Below ws.heap.size ws w'))
                        ((first | assumption | exact keep0 _ | exact keep1 (by assumption) (by assumption) | exact keepD (by assumption) | exact keepB (by assumption) (by assumption) | exact keepA (by assumption) _ | exact ⟨fun _ _ _ => rfl, Nat.le_refl _, Below.refl _ _⟩))
                        (first | (go_at_call 78; (first | (with_reducible refine (CWQ.out _).mono ?_) | (with_reducible refine (CWO.out _).mono ?_)); rintro e w8 ⟨rfl, hb8⟩))
                      all_goals
                        obtain ⟨fc4, z4, H4⟩ : (∀ b o, b < ws.heap.size → w8.cell? ⟨b, o, none⟩ = ws.cell? ⟨b, o, none⟩) ∧ ws.heap.size ≤ w8.heap.size ∧ Hid (Below ws.heap.size ws w8) := by assumption
                        have HB6 : Hid (Below wp.heap.size wp w8) := below_step HBS.out H4.out
                        have HXN : Hid ((AL.take (t + 1)).all (fun p : OffV => !(decide (p.p = PV.mk six hi lo pn) && decide (p.worth < OffV.worth (⟨⟨six, hi, lo, pn⟩, src, peer, met, hop⟩ : OffV)))) = X) := by
                          show _ = _
                          rw [HTK3.out, List.all_append, ← HX.out]
                          simp only [List.all_cons, List.all_nil, Bool.and_true]
                          rw [HWA.out, HWB.out, hd]; simp
                        go_wp2
                        go_roundw
                        case rel => exact ⟨t + 1, _, by omega, by go_num, rfl, HXN.out.symm, HB6⟩
                        case measure => simp [intOf]; omega
                  · have heq : ∀ w, (Op.equalIn 10000 42 (.agg #[.bool six', .int .u64 hi', .int .u64 lo', .int .i64 pn']) (.agg #[.bool six, .int .u64 hi, .int .u64 lo, .int .i64 pn])).run Try.prog w = .ok false w := fun w => by
                      have := eqPV ⟨six', hi', lo', pn'⟩ ⟨six, hi, lo, pn⟩ w
                      rw [decide_eq_false e1] at this
                      exact this
                    have E1 := Lib.hid e1
                    have HB6 : Hid (∀ k, Below wp.heap.size wp ((wq.alloc (.cells #[.bool six', .int .u64 hi', .int .u64 lo', .int .i64 pn', .int .i64 src', .int .i64 peer', .int .i64 met', .int .i64 hop'] 44)).drewN k)) := fun k => below_drewN (hb.out.alloc hszq _) k
                    have hszo : wz.heap.size < wq.heap.size := by omega
                    clear e1 hmem2 hlk2 htk2 gq hb CWQ
                    go_wp2_with fail
                    go_quiet (fail)
                    have HXN : Hid ((AL.take (t + 1)).all (fun p : OffV => !(decide (p.p = PV.mk six hi lo pn) && decide (p.worth < OffV.worth (⟨⟨six, hi, lo, pn⟩, src, peer, met, hop⟩ : OffV)))) = X) := by
                      show _ = _
                      rw [HTK3.out, List.all_append, ← HX.out]
                      simp only [List.all_cons, List.all_nil, Bool.and_true]
                      rw [decide_eq_false E1.out]; simp
                    go_wp2
                    go_roundw
                    case rel => exact ⟨t + 1, _, by omega, by go_num, rfl, HXN.out.symm, HB6.out _⟩
                    case measure => simp [intOf]; omega
                · obtain rfl : t = na := by omega
                  rw [List.take_of_length_le (by rw [HNA.out]; omega)] at HX
                  have HBQ : Hid (Below wo.heap.size wo wq) := below_step HBP.out hb.out
                  have hszo : wz.heap.size < wq.heap.size := by omega
                  have HROWQ : Hid (wq.ownsRow wo.heap.size 44 8 (.slice A3 ml c3) ml (m.flatMap OffV.cells)) := own_below HROWP.out hb.out
                  have HR3Q : Hid (Reads wq wz.heap.size 8 A3 ml (m.flatMap OffV.cells)) := HR3P.out.below (hb.out.mono (by omega))
                  clear hb ht hlt3 hszq
                  cases X with
                  | false =>
                    have HXF : Hid (bestB AL (⟨⟨six, hi, lo, pn⟩, src, peer, met, hop⟩ : OffV) = false) := HX.out.symm
                    go_wp2
                    go_roundw
                    case rel => exact ⟨k + 1, m, by omega, by go_num, HOUT.out.skip HLKO.out HXF.out, by have := HML.out; omega, by rw [HML.out]; exact HROWQ, HBQ⟩
                    case measure => simp [intOf]; omega
                  | true =>
                    have HX : Hid (bestB AL (⟨⟨six, hi, lo, pn⟩, src, peer, met, hop⟩ : OffV) = true) := HX.out.symm
                    go_wp2_with fail
                    go_loopw [20] (fun a wr => ∃ t : Nat, t ≤ ml ∧ a = .int .i64 t ∧ Hid (∀ x ∈ m.take t, ltB x.p ⟨six, hi, lo, pn⟩ = true) ∧ Hid (Below wq.heap.size wq wr)) (fun a _ => ml - (intOf a).toNat)
                    case atStart => exact ⟨0, by omega, rfl, (by show ∀ x ∈ m.take 0, _; simp), Below.refl _ _⟩
                    case round =>
                      obtain ⟨t, htl, rfl, HLO, hb⟩ := hrel
                      obtain ⟨wy, rfl⟩ : ∃ wy : World, wy = wr := ⟨_, rfl⟩
                      have hszy := hb.out.size
                      have f0 : wy.cell? ⟨wz.heap.size, 0, none⟩ = some (.bool six) := (hb.out.cell (p := ⟨wz.heap.size, 0, none⟩) hszo).trans r0
                      have f1 : wy.cell? ⟨wz.heap.size, 1, none⟩ = some (.int .u64 hi) := (hb.out.cell (p := ⟨wz.heap.size, 1, none⟩) hszo).trans r1
                      have f2 : wy.cell? ⟨wz.heap.size, 2, none⟩ = some (.int .u64 lo) := (hb.out.cell (p := ⟨wz.heap.size, 2, none⟩) hszo).trans r2
                      have f3 : wy.cell? ⟨wz.heap.size, 3, none⟩ = some (.int .i64 pn) := (hb.out.cell (p := ⟨wz.heap.size, 3, none⟩) hszo).trans r3
                      have f4 : wy.cell? ⟨wz.heap.size, 4, none⟩ = some (.int .i64 src) := (hb.out.cell (p := ⟨wz.heap.size, 4, none⟩) hszo).trans r4
                      have f5 : wy.cell? ⟨wz.heap.size, 5, none⟩ = some (.int .i64 peer) := (hb.out.cell (p := ⟨wz.heap.size, 5, none⟩) hszo).trans r5
                      have f6 : wy.cell? ⟨wz.heap.size, 6, none⟩ = some (.int .i64 met) := (hb.out.cell (p := ⟨wz.heap.size, 6, none⟩) hszo).trans r6
                      have f7 : wy.cell? ⟨wz.heap.size, 7, none⟩ = some (.int .i64 hop) := (hb.out.cell (p := ⟨wz.heap.size, 7, none⟩) hszo).trans r7
                      clear r0 r1 r2 r3 r4 r5 r6 r7
                      by_cases hlt6 : t < ml
                      · obtain ⟨g3, rfl⟩ : ∃ g3, A3 = some ⟨g3, 0, none⟩ := by
                          rcases HROWQ.out.2 with ⟨hv, h0⟩ | ⟨g3, cap3, cur3, hv, _⟩
                          · omega
                          · injection hv with hv; exact ⟨g3, hv⟩
                        obtain ⟨ad3, ⟨⟨six', hi', lo', pn'⟩, src', peer', met', hop'⟩, ead, hlk3, htk3, hmem3, hbk, hc0, hcj⟩ := (HR3Q.out.below (hb.out.mono (Nat.le_of_lt hszo))).atS OffV.cells_length HML.out hlt6
                        injection ead with ead
                        subst ead
                        have hbk3 : g3 < wy.heap.size := by simp at hbk; omega
                        have x0 : wy.cell? ⟨g3, t * 8, none⟩ = some (.bool six') := by have := hc0 _ rfl; rw [add_row] at this; exact this
                        have x1 : wy.cell? ⟨g3, t * 8 + 1, none⟩ = some (.int .u64 hi') := by have := hcj 1 _ rfl; rw [add_row] at this; exact this
                        have x2 : wy.cell? ⟨g3, t * 8 + 2, none⟩ = some (.int .u64 lo') := by have := hcj 2 _ rfl; rw [add_row] at this; exact this
                        have x3 : wy.cell? ⟨g3, t * 8 + 3, none⟩ = some (.int .i64 pn') := by have := hcj 3 _ rfl; rw [add_row] at this; exact this
                        have HLK3 := Lib.hid hlk3
                        have HTK3 := Lib.hid htk3
                        have gy := HGA.out _ (List.mem_of_mem_take ((HOUT.out.mem _).1 hmem3).1)
                        have CL := Lib.hid (fun w => refLess_any six' hi' lo' six hi lo w gy.ok.addr HGO.out.ok.addr)
                        obtain ⟨b1, hb1⟩ : ∃ b1, lessB (⟨six', hi', lo'⟩ : AV) (⟨six, hi, lo⟩ : AV) = b1 := ⟨_, rfl⟩
                        rw [hb1] at CL
                        have HLS := Lib.hid hb1
                        have hdl : decide ((t : Int) < (ml : Int)) = true := by simp; omega
                        have htc : (t : Int) < (c3 : Int) := by omega
                        have hszyo : wz.heap.size < wy.heap.size := by omega
                        clear hbk hc0 hcj hlk3 htk3 hmem3 gy hb1
                        go_wp2_with fail
                        cases b1 with
                        | true =>
                          refine wp_region_held_drew (S := (fun w' => (∀ b o, b < wy.heap.size → w'.cell? ⟨b, o, none⟩ = wy.cell? ⟨b, o, none⟩) ∧ wy.heap.size ≤ w'.heap.size ∧ Hid (Below wy.heap.size wy w'))) (by kernel_rfl) ?_ (fun hHeld => ?_)
                          · (first | assumption | exact keep0 _ | exact keep1 (by assumption) (by assumption) | exact keepD (by assumption) | exact keepB (by assumption) (by assumption) | exact keepA (by assumption) _ | exact ⟨fun _ _ _ => rfl, Nat.le_refl _, Below.refl _ _⟩)
                          refine wpAnyH_take (i := 0) (v := ?_) rfl (by kernel_rfl) (by kernel_rfl) (by kernel_rfl) (fun _ _ _ h => h) (Or.inl ⟨by rfl, ?_⟩) (by assumption) ?_
                          rotate_left
                          · (intro w hSw; (try dsimp only at hSw); go_simp <;> with_reducible rfl)
                          (try simp only [Act.put, List.getElem_toArray, List.getElem_cons_zero, List.setIfInBounds_toArray, List.set_cons_zero, List.set_cons_succ])
                          refine wpAnyH_take (i := 1) (v := ?_) rfl (by kernel_rfl) (by kernel_rfl) (by kernel_rfl) (fun _ _ _ h => h) (Or.inl ⟨by rfl, ?_⟩) (by assumption) ?_
                          rotate_left
                          · (intro w hSw; (try dsimp only at hSw); go_simp <;> with_reducible rfl)
                          (try simp only [Act.put, List.getElem_toArray, List.getElem_cons_succ, List.getElem_cons_zero, List.setIfInBounds_toArray, List.set_cons_zero, List.set_cons_succ])
                          refine wpAnyH_take (i := 2) (v := ?_) rfl (by kernel_rfl) (by kernel_rfl) (by kernel_rfl) (fun _ _ _ h => h) (Or.inl ⟨by rfl, ?_⟩) (by assumption) ?_
                          rotate_left
                          · (intro w hSw; (try dsimp only at hSw); go_simp <;> with_reducible rfl)
                          (try simp only [Act.put, List.getElem_toArray, List.getElem_cons_succ, List.getElem_cons_zero, List.setIfInBounds_toArray, List.set_cons_zero, List.set_cons_succ])
                          refine wpAnyH_take (i := 3) (v := ?_) rfl (by kernel_rfl) (by kernel_rfl) (by kernel_rfl) (fun _ _ _ h => h) (Or.inl ⟨by rfl, ?_⟩) (by assumption) ?_
                          rotate_left
                          · (intro w hSw; (try dsimp only at hSw); go_simp <;> with_reducible rfl)
                          (try simp only [Act.put, List.getElem_toArray, List.getElem_cons_succ, List.getElem_cons_zero, List.setIfInBounds_toArray, List.set_cons_zero, List.set_cons_succ])
                          refine wpAnyH_take (i := 4) (v := ?_) rfl (by kernel_rfl) (by kernel_rfl) (by kernel_rfl) (fun _ _ _ h => h) (Or.inl ⟨by rfl, ?_⟩) (by assumption) ?_
                          rotate_left
                          · (intro w hSw; (try dsimp only at hSw); go_simp <;> with_reducible rfl)
                          (try simp only [Act.put, List.getElem_toArray, List.getElem_cons_succ, List.getElem_cons_zero, List.setIfInBounds_toArray, List.set_cons_zero, List.set_cons_succ])
                          refine wpAnyH_take (i := 5) (v := ?_) rfl (by kernel_rfl) (by kernel_rfl) (by kernel_rfl) (fun _ _ _ h => h) (Or.inl ⟨by rfl, ?_⟩) (by assumption) ?_
                          rotate_left
                          · (intro w hSw; (try dsimp only at hSw); go_simp <;> with_reducible rfl)
                          (try simp only [Act.put, List.getElem_toArray, List.getElem_cons_succ, List.getElem_cons_zero, List.setIfInBounds_toArray, List.set_cons_zero, List.set_cons_succ])
                          refine wpAnyH_take (i := 6) (v := ?_) rfl (by kernel_rfl) (by kernel_rfl) (by kernel_rfl) (fun _ _ _ h => h) (Or.inl ⟨by rfl, ?_⟩) (by assumption) ?_
                          rotate_left
                          · (intro w hSw; (try dsimp only at hSw); go_simp <;> with_reducible rfl)
                          (try simp only [Act.put, List.getElem_toArray, List.getElem_cons_succ, List.getElem_cons_zero, List.setIfInBounds_toArray, List.set_cons_zero, List.set_cons_succ])
                          refine wpAnyH_take (i := 7) (v := ?_) rfl (by kernel_rfl) (by kernel_rfl) (by kernel_rfl) (fun _ _ _ h => h) (Or.inl ⟨by rfl, ?_⟩) (by assumption) ?_
                          rotate_left
                          · (intro w hSw; (try dsimp only at hSw); go_simp <;> with_reducible rfl)
                          (try simp only [Act.put, List.getElem_toArray, List.getElem_cons_succ, List.getElem_cons_zero, List.setIfInBounds_toArray, List.set_cons_zero, List.set_cons_succ])
                          refine wpAnyH_take (i := 8) (v := ?_) rfl (by kernel_rfl) (by kernel_rfl) (by kernel_rfl) (fun _ _ _ h => h) (Or.inl ⟨by rfl, ?_⟩) (by assumption) ?_
                          rotate_left
                          · (intro w hSw; (try dsimp only at hSw); go_simp <;> with_reducible rfl)
                          (try simp only [Act.put, List.getElem_toArray, List.getElem_cons_succ, List.getElem_cons_zero, List.setIfInBounds_toArray, List.set_cons_zero, List.set_cons_succ])
                          refine wpAnyH_take (i := 9) (v := ?_) rfl (by kernel_rfl) (by kernel_rfl) (by kernel_rfl) (fun _ _ _ h => h) (Or.inl ⟨by rfl, ?_⟩) (by assumption) ?_
                          rotate_left
                          · (intro w hSw; (try dsimp only at hSw); go_simp <;> with_reducible rfl)
                          (try simp only [Act.put, List.getElem_toArray, List.getElem_cons_succ, List.getElem_cons_zero, List.setIfInBounds_toArray, List.set_cons_zero, List.set_cons_succ])
                          refine wpAnyH_take (i := 10) (v := ?_) rfl (by kernel_rfl) (by kernel_rfl) (by kernel_rfl) (fun _ _ _ h => h) (Or.inl ⟨by rfl, ?_⟩) (by assumption) ?_
                          rotate_left
                          · (intro w hSw; (try dsimp only at hSw); go_simp <;> with_reducible rfl)
                          (try simp only [Act.put, List.getElem_toArray, List.getElem_cons_succ, List.getElem_cons_zero, List.setIfInBounds_toArray, List.set_cons_zero, List.set_cons_succ])
                          refine wpAnyH_take (i := 11) (v := ?_) rfl (by kernel_rfl) (by kernel_rfl) (by kernel_rfl) (fun _ _ _ h => h) (Or.inl ⟨by rfl, ?_⟩) (by assumption) ?_
                          rotate_left
                          · (intro w hSw; (try dsimp only at hSw); go_simp <;> with_reducible rfl)
                          (try simp only [Act.put, List.getElem_toArray, List.getElem_cons_succ, List.getElem_cons_zero, List.setIfInBounds_toArray, List.set_cons_zero, List.set_cons_succ])
                          refine wpAnyH_take (i := 12) (v := ?_) rfl (by kernel_rfl) (by kernel_rfl) (by kernel_rfl) (fun _ _ _ h => h) (Or.inl ⟨by rfl, ?_⟩) (by assumption) ?_
                          rotate_left
                          · (intro w hSw; (try dsimp only at hSw); go_simp <;> with_reducible rfl)
                          (try simp only [Act.put, List.getElem_toArray, List.getElem_cons_succ, List.getElem_cons_zero, List.setIfInBounds_toArray, List.set_cons_zero, List.set_cons_succ])
                          refine wpAnyH_take (i := 13) (v := ?_) rfl (by kernel_rfl) (by kernel_rfl) (by kernel_rfl) (fun _ _ _ h => h) (Or.inl ⟨by rfl, ?_⟩) (by assumption) ?_
                          rotate_left
                          · (intro w hSw; (try dsimp only at hSw); go_simp <;> with_reducible rfl)
                          (try simp only [Act.put, List.getElem_toArray, List.getElem_cons_succ, List.getElem_cons_zero, List.setIfInBounds_toArray, List.set_cons_zero, List.set_cons_succ])
                          refine wpAnyH_ready (rs := [14]) (by kernel_rfl) (by simp) ?_
                          refine AllReadyH.cons rfl (fun K hK => ?_) AllReadyH.nil
                          go_simp
                          (go_at_call 79; (with_reducible refine (CL.out _).mono ?_); rintro e w8 ⟨rfl, hb8⟩)
                          first
                            | refine hK.out _ _ ?_ (fun hHeld => ?_)
                            | (go_wp2_with fail; refine hK.out _ _ ?_ (fun hHeld => ?_))
                          · (first | assumption | exact keep0 _ | exact keep1 (by assumption) (by assumption) | exact keepD (by assumption) | exact keepB (by assumption) (by assumption) | exact keepA (by assumption) _ | exact ⟨fun _ _ _ => rfl, Nat.le_refl _, Below.refl _ _⟩)
                          clear hK K
                          (try simp only [Act.put, List.getElem_toArray, List.getElem_cons_succ, List.getElem_cons_zero, List.setIfInBounds_toArray, List.set_cons_zero, List.set_cons_succ])
                          refine wpAnyH_take (i := 15) (v := ?_) rfl (by kernel_rfl) (by kernel_rfl) (by kernel_rfl) (fun _ _ _ h => h) (Or.inl ⟨by rfl, ?_⟩) (by assumption) ?_
                          rotate_left
                          · (intro w hSw; (try dsimp only at hSw); go_simp <;> with_reducible rfl)
                          (try simp only [Act.put, List.getElem_toArray, List.getElem_cons_succ, List.getElem_cons_zero, List.setIfInBounds_toArray, List.set_cons_zero, List.set_cons_succ])
                          refine wpAnyH_take (i := 16) (v := undef) rfl (by kernel_rfl) (by kernel_rfl) (by kernel_rfl) (fun _ _ _ h => h) (Or.inr ⟨by rfl, rfl⟩) (by assumption) ?_
                          (try simp only [Act.put, List.getElem_toArray, List.getElem_cons_succ, List.getElem_cons_zero, List.setIfInBounds_toArray, List.set_cons_zero, List.set_cons_succ])
                          refine wpAnyH_take (i := 17) (v := undef) rfl (by kernel_rfl) (by kernel_rfl) (by kernel_rfl) (fun _ _ _ h => h) (Or.inr ⟨by rfl, rfl⟩) (by assumption) ?_
                          (try simp only [Act.put, List.getElem_toArray, List.getElem_cons_succ, List.getElem_cons_zero, List.setIfInBounds_toArray, List.set_cons_zero, List.set_cons_succ])
                          refine wpAnyH_take (i := 18) (v := undef) rfl (by kernel_rfl) (by kernel_rfl) (by kernel_rfl) (fun _ _ _ h => h) (Or.inr ⟨by rfl, rfl⟩) (by assumption) ?_
                          (try simp only [Act.put, List.getElem_toArray, List.getElem_cons_succ, List.getElem_cons_zero, List.setIfInBounds_toArray, List.set_cons_zero, List.set_cons_succ])
                          refine wpAnyH_take (i := 19) (v := undef) rfl (by kernel_rfl) (by kernel_rfl) (by kernel_rfl) (fun _ _ _ h => h) (Or.inr ⟨by rfl, rfl⟩) (by assumption) ?_
                          (try simp only [Act.put, List.getElem_toArray, List.getElem_cons_succ, List.getElem_cons_zero, List.setIfInBounds_toArray, List.set_cons_zero, List.set_cons_succ])
                          refine wpAnyH_take (i := 20) (v := undef) rfl (by kernel_rfl) (by kernel_rfl) (by kernel_rfl) (fun _ _ _ h => h) (Or.inr ⟨by rfl, rfl⟩) (by assumption) ?_
                          (try simp only [Act.put, List.getElem_toArray, List.getElem_cons_succ, List.getElem_cons_zero, List.setIfInBounds_toArray, List.set_cons_zero, List.set_cons_succ])
                          refine wpAnyH_take (i := 21) (v := undef) rfl (by kernel_rfl) (by kernel_rfl) (by kernel_rfl) (fun _ _ _ h => h) (Or.inr ⟨by rfl, rfl⟩) (by assumption) ?_
                          (try simp only [Act.put, List.getElem_toArray, List.getElem_cons_succ, List.getElem_cons_zero, List.setIfInBounds_toArray, List.set_cons_zero, List.set_cons_succ])
                          refine wpAnyH_take (i := 22) (v := undef) rfl (by kernel_rfl) (by kernel_rfl) (by kernel_rfl) (fun _ _ _ h => h) (Or.inr ⟨by rfl, rfl⟩) (by assumption) ?_
                          (try simp only [Act.put, List.getElem_toArray, List.getElem_cons_succ, List.getElem_cons_zero, List.setIfInBounds_toArray, List.set_cons_zero, List.set_cons_succ])
                          refine wpAnyH_take (i := 23) (v := undef) rfl (by kernel_rfl) (by kernel_rfl) (by kernel_rfl) (fun _ _ _ h => h) (Or.inr ⟨by rfl, rfl⟩) (by assumption) ?_
                          (try simp only [Act.put, List.getElem_toArray, List.getElem_cons_succ, List.getElem_cons_zero, List.setIfInBounds_toArray, List.set_cons_zero, List.set_cons_succ])
                          refine wpAnyH_take (i := 24) (v := undef) rfl (by kernel_rfl) (by kernel_rfl) (by kernel_rfl) (fun _ _ _ h => h) (Or.inr ⟨by rfl, rfl⟩) (by assumption) ?_
                          (try simp only [Act.put, List.getElem_toArray, List.getElem_cons_succ, List.getElem_cons_zero, List.setIfInBounds_toArray, List.set_cons_zero, List.set_cons_succ])
                          refine wpAnyH_take (i := 25) (v := undef) rfl (by kernel_rfl) (by kernel_rfl) (by kernel_rfl) (fun _ _ _ h => h) (Or.inr ⟨by rfl, rfl⟩) (by assumption) ?_
                          (try simp only [Act.put, List.getElem_toArray, List.getElem_cons_succ, List.getElem_cons_zero, List.setIfInBounds_toArray, List.set_cons_zero, List.set_cons_succ])
                          refine wpAnyH_take (i := 26) (v := undef) rfl (by kernel_rfl) (by kernel_rfl) (by kernel_rfl) (fun _ _ _ h => h) (Or.inr ⟨by rfl, rfl⟩) (by assumption) ?_
                          (try simp only [Act.put, List.getElem_toArray, List.getElem_cons_succ, List.getElem_cons_zero, List.setIfInBounds_toArray, List.set_cons_zero, List.set_cons_succ])
                          refine wpAnyH_take (i := 27) (v := undef) rfl (by kernel_rfl) (by kernel_rfl) (by kernel_rfl) (fun _ _ _ h => h) (Or.inr ⟨by rfl, rfl⟩) (by assumption) ?_
                          (try simp only [Act.put, List.getElem_toArray, List.getElem_cons_succ, List.getElem_cons_zero, List.setIfInBounds_toArray, List.set_cons_zero, List.set_cons_succ])
                          refine wpAnyH_take (i := 28) (v := undef) rfl (by kernel_rfl) (by kernel_rfl) (by kernel_rfl) (fun _ _ _ h => h) (Or.inr ⟨by rfl, rfl⟩) (by assumption) ?_
                          (try simp only [Act.put, List.getElem_toArray, List.getElem_cons_succ, List.getElem_cons_zero, List.setIfInBounds_toArray, List.set_cons_zero, List.set_cons_succ])
                          refine wpAnyH_take (i := 29) (v := undef) rfl (by kernel_rfl) (by kernel_rfl) (by kernel_rfl) (fun _ _ _ h => h) (Or.inr ⟨by rfl, rfl⟩) (by assumption) ?_
                          (try simp only [Act.put, List.getElem_toArray, List.getElem_cons_succ, List.getElem_cons_zero, List.setIfInBounds_toArray, List.set_cons_zero, List.set_cons_succ])
                          refine wpAnyH_take (i := 30) (v := undef) rfl (by kernel_rfl) (by kernel_rfl) (by kernel_rfl) (fun _ _ _ h => h) (Or.inr ⟨by rfl, rfl⟩) (by assumption) ?_
                          (try simp only [Act.put, List.getElem_toArray, List.getElem_cons_succ, List.getElem_cons_zero, List.setIfInBounds_toArray, List.set_cons_zero, List.set_cons_succ])
                          refine wpAnyH_take (i := 31) (v := undef) rfl (by kernel_rfl) (by kernel_rfl) (by kernel_rfl) (fun _ _ _ h => h) (Or.inr ⟨by rfl, rfl⟩) (by assumption) ?_
                          (try simp only [Act.put, List.getElem_toArray, List.getElem_cons_succ, List.getElem_cons_zero, List.setIfInBounds_toArray, List.set_cons_zero, List.set_cons_succ])
                          refine wpAnyH_take (i := 32) (v := undef) rfl (by kernel_rfl) (by kernel_rfl) (by kernel_rfl) (fun _ _ _ h => h) (Or.inr ⟨by rfl, rfl⟩) (by assumption) ?_
                          (try simp only [Act.put, List.getElem_toArray, List.getElem_cons_succ, List.getElem_cons_zero, List.setIfInBounds_toArray, List.set_cons_zero, List.set_cons_succ])
                          refine wpAnyH_take (i := 33) (v := undef) rfl (by kernel_rfl) (by kernel_rfl) (by kernel_rfl) (fun _ _ _ h => h) (Or.inr ⟨by rfl, rfl⟩) (by assumption) ?_
                          (try simp only [Act.put, List.getElem_toArray, List.getElem_cons_succ, List.getElem_cons_zero, List.setIfInBounds_toArray, List.set_cons_zero, List.set_cons_succ])
                          refine wpAnyH_take (i := 34) (v := undef) rfl (by kernel_rfl) (by kernel_rfl) (by kernel_rfl) (fun _ _ _ h => h) (Or.inr ⟨by rfl, rfl⟩) (by assumption) ?_
                          (try simp only [Act.put, List.getElem_toArray, List.getElem_cons_succ, List.getElem_cons_zero, List.setIfInBounds_toArray, List.set_cons_zero, List.set_cons_succ])
                          refine wpAnyH_take (i := 35) (v := undef) rfl (by kernel_rfl) (by kernel_rfl) (by kernel_rfl) (fun _ _ _ h => h) (Or.inr ⟨by rfl, rfl⟩) (by assumption) ?_
                          (try simp only [Act.put, List.getElem_toArray, List.getElem_cons_succ, List.getElem_cons_zero, List.setIfInBounds_toArray, List.set_cons_zero, List.set_cons_succ])
                          refine wpAnyH_take (i := 36) (v := undef) rfl (by kernel_rfl) (by kernel_rfl) (by kernel_rfl) (fun _ _ _ h => h) (Or.inr ⟨by rfl, rfl⟩) (by assumption) ?_
                          (try simp only [Act.put, List.getElem_toArray, List.getElem_cons_succ, List.getElem_cons_zero, List.setIfInBounds_toArray, List.set_cons_zero, List.set_cons_succ])
                          refine wpAnyH_take (i := 37) (v := undef) rfl (by kernel_rfl) (by kernel_rfl) (by kernel_rfl) (fun _ _ _ h => h) (Or.inr ⟨by rfl, rfl⟩) (by assumption) ?_
                          (try simp only [Act.put, List.getElem_toArray, List.getElem_cons_succ, List.getElem_cons_zero, List.setIfInBounds_toArray, List.set_cons_zero, List.set_cons_succ])
                          refine wpAnyH_take (i := 38) (v := ?_) rfl (by kernel_rfl) (by kernel_rfl) (by kernel_rfl) (fun _ _ _ h => h) (Or.inl ⟨by rfl, ?_⟩) (by assumption) ?_
                          rotate_left
                          · (intro w hSw; (try dsimp only at hSw); go_simp <;> with_reducible rfl)
                          (try simp only [Act.put, List.getElem_toArray, List.getElem_cons_succ, List.getElem_cons_zero, List.setIfInBounds_toArray, List.set_cons_zero, List.set_cons_succ])
                          refine wpAnyH_take (i := 39) (v := ?_) rfl (by kernel_rfl) (by kernel_rfl) (by kernel_rfl) (fun _ _ _ h => h) (Or.inl ⟨by rfl, ?_⟩) (by assumption) ?_
                          rotate_left
                          · (intro w hSw; (try dsimp only at hSw); go_simp <;> with_reducible rfl)
                          (try simp only [Act.put, List.getElem_toArray, List.getElem_cons_succ, List.getElem_cons_zero, List.setIfInBounds_toArray, List.set_cons_zero, List.set_cons_succ])
                          refine wpAnyH_done (by kernel_rfl) ?_ _
                          obtain ⟨fc4, z4, H4⟩ : (∀ b o, b < wy.heap.size → w8.cell? ⟨b, o, none⟩ = wy.cell? ⟨b, o, none⟩) ∧ wy.heap.size ≤ w8.heap.size ∧ Hid (Below wy.heap.size wy w8) := by assumption
                          have HB9 : Hid (Below wq.heap.size wq w8) := below_step hb.out H4.out
                          have HLTB : Hid (ltB ⟨six', hi', lo', pn'⟩ ⟨six, hi, lo, pn⟩ = true) := by
                            show _ = _
                            unfold ltB; rw [show lessB (PV.a ⟨six', hi', lo', pn'⟩) (PV.a ⟨six, hi, lo, pn⟩) = true from HLS.out]; rfl
                          have HLO2 : Hid (∀ x ∈ m.take (t + 1), ltB x.p ⟨six, hi, lo, pn⟩ = true) := by
                            show ∀ x ∈ m.take (t + 1), ltB x.p ⟨six, hi, lo, pn⟩ = true
                            rw [HTK3.out]
                            intro x hx
                            rcases List.mem_append.1 hx with hx | hx
                            · exact HLO.out x hx
                            · simp at hx; subst hx; exact HLTB.out
                          go_wp2
                          go_roundw
                          case rel => exact ⟨t + 1, by omega, by go_num, HLO2, HB9⟩
                          case measure => simp [intOf]; omega
                        | false =>
                          by_cases e1 : (⟨six', hi', lo'⟩ : AV) = (⟨six, hi, lo⟩ : AV)
                          · have heq : ∀ w, (Op.equalIn 10000 35 (.agg #[.bool six', .int .u64 hi', .int .u64 lo']) (.agg #[.bool six, .int .u64 hi, .int .u64 lo])).run Try.prog w = .ok true w := fun w => by
                              rw [eqAV 9998]
                              injection e1 with a1 a2 a3
                              simp [a1, a2, a3]
                            have E1 := Lib.hid e1
                            clear e1
                            by_cases hpn : pn' < pn
                            · have hd : decide (pn' < pn) = true := by simpa using hpn
                              go_region_held3 (fun w' => (∀ b o, b < wy.heap.size → w'.cell? ⟨b, o, none⟩ = wy.cell? ⟨b, o, none⟩) ∧ wy.heap.size ≤ w'.heap.size ∧ Hid (Below wy.heap.size wy w'))
                                ((first | assumption | exact keep0 _ | exact keep1 (by assumption) (by assumption) | exact keepD (by assumption) | exact keepB (by assumption) (by assumption) | exact keepA (by assumption) _ | exact ⟨fun _ _ _ => rfl, Nat.le_refl _, Below.refl _ _⟩))
                                (first | (go_at_call 79; (with_reducible refine (CL.out _).mono ?_); rintro e w8 ⟨rfl, hb8⟩))
                              all_goals
                                obtain ⟨fc4, z4, H4⟩ : (∀ b o, b < wy.heap.size → w8.cell? ⟨b, o, none⟩ = wy.cell? ⟨b, o, none⟩) ∧ wy.heap.size ≤ w8.heap.size ∧ Hid (Below wy.heap.size wy w8) := by assumption
                                have HB9 : Hid (Below wq.heap.size wq w8) := below_step hb.out H4.out
                                have HLTB : Hid (ltB ⟨six', hi', lo', pn'⟩ ⟨six, hi, lo, pn⟩ = true) := by
                                  show _ = _
                                  unfold ltB; rw [show lessB (PV.a ⟨six', hi', lo', pn'⟩) (PV.a ⟨six, hi, lo, pn⟩) = false from HLS.out, decide_eq_true (show PV.a ⟨six', hi', lo', pn'⟩ = PV.a ⟨six, hi, lo, pn⟩ from E1.out), hd]; rfl
                                have HLO2 : Hid (∀ x ∈ m.take (t + 1), ltB x.p ⟨six, hi, lo, pn⟩ = true) := by
                                  show ∀ x ∈ m.take (t + 1), ltB x.p ⟨six, hi, lo, pn⟩ = true
                                  rw [HTK3.out]
                                  intro x hx
                                  rcases List.mem_append.1 hx with hx | hx
                                  · exact HLO.out x hx
                                  · simp at hx; subst hx; exact HLTB.out
                                go_wp2
                                go_roundw
                                case rel => exact ⟨t + 1, by omega, by go_num, HLO2, HB9⟩
                                case measure => simp [intOf]; omega
                            · have hd : decide (pn' < pn) = false := by simpa using hpn
                              go_region_held3 (fun w' => (∀ b o, b < wy.heap.size → w'.cell? ⟨b, o, none⟩ = wy.cell? ⟨b, o, none⟩) ∧ wy.heap.size ≤ w'.heap.size ∧ Hid (Below wy.heap.size wy w'))
                                ((first | assumption | exact keep0 _ | exact keep1 (by assumption) (by assumption) | exact keepD (by assumption) | exact keepB (by assumption) (by assumption) | exact keepA (by assumption) _ | exact ⟨fun _ _ _ => rfl, Nat.le_refl _, Below.refl _ _⟩))
                                (first | (go_at_call 79; (with_reducible refine (CL.out _).mono ?_); rintro e w8 ⟨rfl, hb8⟩))
                              all_goals
                                obtain ⟨fc4, z4, H4⟩ : (∀ b o, b < wy.heap.size → w8.cell? ⟨b, o, none⟩ = wy.cell? ⟨b, o, none⟩) ∧ wy.heap.size ≤ w8.heap.size ∧ Hid (Below wy.heap.size wy w8) := by assumption
                                have HB9 : Hid (Below wq.heap.size wq w8) := below_step hb.out H4.out
                                have HLTB : Hid (ltB ⟨six', hi', lo', pn'⟩ ⟨six, hi, lo, pn⟩ = false) := by
                                  show _ = _
                                  unfold ltB; rw [show lessB (PV.a ⟨six', hi', lo', pn'⟩) (PV.a ⟨six, hi, lo, pn⟩) = false from HLS.out, hd]; simp
                                have v0 : w8.cell? ⟨wz.heap.size, 0, none⟩ = some (.bool six) := (fc4 wz.heap.size 0 (by omega)).trans f0
                                have v1 : w8.cell? ⟨wz.heap.size, 1, none⟩ = some (.int .u64 hi) := (fc4 wz.heap.size 1 (by omega)).trans f1
                                have v2 : w8.cell? ⟨wz.heap.size, 2, none⟩ = some (.int .u64 lo) := (fc4 wz.heap.size 2 (by omega)).trans f2
                                have v3 : w8.cell? ⟨wz.heap.size, 3, none⟩ = some (.int .i64 pn) := (fc4 wz.heap.size 3 (by omega)).trans f3
                                have v4 : w8.cell? ⟨wz.heap.size, 4, none⟩ = some (.int .i64 src) := (fc4 wz.heap.size 4 (by omega)).trans f4
                                have v5 : w8.cell? ⟨wz.heap.size, 5, none⟩ = some (.int .i64 peer) := (fc4 wz.heap.size 5 (by omega)).trans f5
                                have v6 : w8.cell? ⟨wz.heap.size, 6, none⟩ = some (.int .i64 met) := (fc4 wz.heap.size 6 (by omega)).trans f6
                                have v7 : w8.cell? ⟨wz.heap.size, 7, none⟩ = some (.int .i64 hop) := (fc4 wz.heap.size 7 (by omega)).trans f7
                                have HHI : Hid (∀ y, m[t]? = some y → ltB y.p ⟨six, hi, lo, pn⟩ = false) := by
                                  intro y hy
                                  rw [HLK3.out] at hy; injection hy with hy; subst hy; exact HLTB.out
                                have HROW7 : Hid (w8.ownsRow wo.heap.size 44 8 (.slice (some ⟨g3, 0, none⟩) ml c3) ml (m.flatMap OffV.cells)) := own_below HROWQ.out HB9.out
                                have HB7 : Hid (Below wo.heap.size wo w8) := below_step HBQ.out HB9.out
                                have hs7 : wz.heap.size < w8.heap.size := by have := HB9.out.size; omega
                                have hszo7 : wo.heap.size ≤ w8.heap.size := HB7.out.size
                                have HRW7 : Hid (RowAt w8 G wo.heap.size 44 8 w8 (.slice (some ⟨g3, 0, none⟩) ml c3) ml (m.flatMap OffV.cells)) := ⟨HROW7.out, fun k hk => .inl (HG1.out k hk), Below.refl _ _, fun _ _ _ => rfl, by omega⟩
                                have hwr : IntKind.i64.wrap ((t : Int) + 1) = (t : Int) + 1 := IntWalk.i64_in _ (by omega)
                                have hnn : (0 : Int) ≤ (t : Int) + 1 := by omega
                                have hnm : (t : Int) ≤ (ml : Int) + 1 := by omega
                                have hnl : (t : Int) < (ml : Int) + 1 := by omega
                                have hno : (t : Int) + 1 ≤ (ml : Int) + 1 := by omega
                                go_wp2_with (at_builtin; go_loud (refine wpList_append_row (us := [.bool six, .int .u64 hi, .int .u64 lo, .int .i64 pn, .int .i64 src, .int .i64 peer, .int .i64 met, .int .i64 hop]) rfl _ _ 24 rfl w8 G wo.heap.size _ 8 64 Try.underlying24 infoOffer rfl (by decide) _ _ _ rfl rfl rfl HRW7.out rfl (by intro u hu; simp at hu; rcases hu with rfl | rfl | rfl | rfl | rfl | rfl | rfl | rfl <;> rfl) (by unfold maxLen; omega) (by omega) ?_))
                                intro v8 w8 hrow8 hs8 hk8
                                have z0 : w8.cell? ⟨wz.heap.size, 0, none⟩ = some (.bool six) := (World.cell?_of_block (hrow8.kept wz.heap.size (by omega) (fun e => hG2 e.symm))).trans v0
                                have z1 : w8.cell? ⟨wz.heap.size, 1, none⟩ = some (.int .u64 hi) := (World.cell?_of_block (hrow8.kept wz.heap.size (by omega) (fun e => hG2 e.symm))).trans v1
                                have z2 : w8.cell? ⟨wz.heap.size, 2, none⟩ = some (.int .u64 lo) := (World.cell?_of_block (hrow8.kept wz.heap.size (by omega) (fun e => hG2 e.symm))).trans v2
                                have z3 : w8.cell? ⟨wz.heap.size, 3, none⟩ = some (.int .i64 pn) := (World.cell?_of_block (hrow8.kept wz.heap.size (by omega) (fun e => hG2 e.symm))).trans v3
                                have z4 : w8.cell? ⟨wz.heap.size, 4, none⟩ = some (.int .i64 src) := (World.cell?_of_block (hrow8.kept wz.heap.size (by omega) (fun e => hG2 e.symm))).trans v4
                                have z5 : w8.cell? ⟨wz.heap.size, 5, none⟩ = some (.int .i64 peer) := (World.cell?_of_block (hrow8.kept wz.heap.size (by omega) (fun e => hG2 e.symm))).trans v5
                                have z6 : w8.cell? ⟨wz.heap.size, 6, none⟩ = some (.int .i64 met) := (World.cell?_of_block (hrow8.kept wz.heap.size (by omega) (fun e => hG2 e.symm))).trans v6
                                have z7 : w8.cell? ⟨wz.heap.size, 7, none⟩ = some (.int .i64 hop) := (World.cell?_of_block (hrow8.kept wz.heap.size (by omega) (fun e => hG2 e.symm))).trans v7
                                have HB8 : Hid (Below wo.heap.size wo w8) := HB7.out.trans hrow8.below
                                have hblk := hrow8.blk
                                have hown8 := hrow8.own
                                rcases hrow8.own.2 with ⟨_, hn0⟩ | ⟨g, cap, cur, rfl, hg, _, hnc8, hcm8, _, _⟩
                                · omega
                                have hgz : ¬ g = wz.heap.size := by
                                  rcases hblk g rfl with h | h
                                  · omega
                                  · omega
                                have HO8 : Hid (w8.ownsRow wo.heap.size 44 8 (.slice (some ⟨g, 0, none⟩) (ml + 1) cap) (ml + 1) ((m ++ [(⟨⟨six, hi, lo, pn⟩, src, peer, met, hop⟩ : OffV)]).flatMap OffV.cells)) := by
                                  show World.ownsRow _ _ _ _ _ _ _
                                  rw [List.flatMap_append]
                                  exact hown8
                                clear hrow8 hk8 hblk hown8
                                by_cases hcp : cap = t + 1
                                · subst hcp
                                  have HO8D := Lib.hid (own_below HO8.out (Below.refl _ _).drew)
                                  go_wp2_with fail
                                  go_region_law (refine step_copy_K rfl _ _ 24 24 rfl 44 8 Try.underlying24 infoOffSize (some ⟨g, 0, none⟩) (some ⟨g, t * 8, none⟩) 0 0 (ml + 1 - t) 1 (by simp [Act.eval, Act.put]) (by simp [Act.eval, Act.put]) wo.heap.size g _ (ml + 1) _ HO8D.out ((t + 1) * 8) (t * 8) (ml - t) (by simp only [Nat.min_def]; split <;> omega) (by intro h0; first | (exfalso; omega) | exact ⟨rfl, _, rfl, fun j => add_off g (t * 8) j⟩) (by omega) (by omega) (off_one _) ?_; intro w9 ho9 hg9 hs9)
                                  have HO9 := Lib.hid ho9.out
                                  have HB9 : Hid (Below wo.heap.size wo w9) := by first | exact HB8.out.grown hg9 HB8.out.size (fun j hj => by injection hj with hj; omega) | exact HB8.out.drew.grown hg9 HB8.out.size (fun j hj => by injection hj with hj; omega)
                                  have y0 := (grown_cells hg9 wz.heap.size 0 (by show wz.heap.size < w8.heap.size; omega) (fun e => hgz e.symm)).trans z0
                                  have y1 := (grown_cells hg9 wz.heap.size 1 (by show wz.heap.size < w8.heap.size; omega) (fun e => hgz e.symm)).trans z1
                                  have y2 := (grown_cells hg9 wz.heap.size 2 (by show wz.heap.size < w8.heap.size; omega) (fun e => hgz e.symm)).trans z2
                                  have y3 := (grown_cells hg9 wz.heap.size 3 (by show wz.heap.size < w8.heap.size; omega) (fun e => hgz e.symm)).trans z3
                                  have y4 := (grown_cells hg9 wz.heap.size 4 (by show wz.heap.size < w8.heap.size; omega) (fun e => hgz e.symm)).trans z4
                                  have y5 := (grown_cells hg9 wz.heap.size 5 (by show wz.heap.size < w8.heap.size; omega) (fun e => hgz e.symm)).trans z5
                                  have y6 := (grown_cells hg9 wz.heap.size 6 (by show wz.heap.size < w8.heap.size; omega) (fun e => hgz e.symm)).trans z6
                                  have y7 := (grown_cells hg9 wz.heap.size 7 (by show wz.heap.size < w8.heap.size; omega) (fun e => hgz e.symm)).trans z7
                                  clear ho9 hg9
                                  go_wp2_with (refine wpList_store_K (o := ⟨none, .store 44 _ _, _, _, _, _⟩) rfl _ _ _ rfl wo.heap.size g _ (ml + 1) 8 (t * 8) _ [.bool six, .int .u64 hi, .int .u64 lo, .int .i64 pn, .int .i64 src, .int .i64 peer, .int .i64 met, .int .i64 hop] HO9.out _ rfl (by simp) rfl rfl infoOffSize (by omega) (by intro u hu; simp at hu; rcases hu with rfl | rfl | rfl | rfl | rfl | rfl | rfl | rfl <;> rfl) ?_)
                                  intro w10 ho10 hg10 hs10
                                  have HB10 : Hid (Below wo.heap.size wo w10) := HB9.out.grown hg10 HB9.out.size (fun j hj => by injection hj with hj; omega)
                                  have hnlen : (m.take t ++ (⟨⟨six, hi, lo, pn⟩, src, peer, met, hop⟩ : OffV) :: m.drop t).length = ml + 1 := by
                                    have e := congrArg List.length (List.take_append_drop t m)
                                    rw [List.length_append] at e
                                    rw [List.length_append, List.length_cons]
                                    have := HML.out
                                    omega
                                  have HO10 := Lib.hid ho10.out
                                  have HSP := Lib.hid (splice_ins (f := OffV.cells) OffV.cells_length m (⟨⟨six, hi, lo, pn⟩, src, peer, met, hop⟩ : OffV) t (by have := HML.out; omega))
                                  rw [HML.out] at HSP
                                  have HO11 : Hid (w10.ownsRow wo.heap.size 44 8 (.slice (some ⟨g, 0, none⟩) (ml + 1) (t + 1)) (m.take t ++ (⟨⟨six, hi, lo, pn⟩, src, peer, met, hop⟩ : OffV) :: m.drop t).length ((m.take t ++ (⟨⟨six, hi, lo, pn⟩, src, peer, met, hop⟩ : OffV) :: m.drop t).flatMap OffV.cells)) := by
                                    show World.ownsRow _ _ _ _ _ _ _
                                    rw [hnlen, ← HSP.out]
                                    first | exact HO10.out | (simp only [List.flatMap_append, List.flatMap_cons, List.flatMap_nil, List.append_nil]; exact HO10.out)
                                  clear ho10 hg10
                                  go_wp2
                                  go_roundw
                                  case rel => exact ⟨k + 1, m.take t ++ (⟨⟨six, hi, lo, pn⟩, src, peer, met, hop⟩ : OffV) :: m.drop t, by omega, by go_num, HOUT.out.put HAL.out HND.out HG.out HLKO.out HX.out HLO.out HHI.out, by omega, HO11, HB10⟩
                                  case measure => simp [intOf]; omega
                                · have hcp2 : ¬ cap = t := by omega
                                  have HO8D := Lib.hid (own_below HO8.out (Below.refl _ _).drew)
                                  go_wp2_with fail
                                  go_region_law (refine step_copy_K rfl _ _ 24 24 rfl 44 8 Try.underlying24 infoOffSize (some ⟨g, (t + 1) * 8, none⟩) (some ⟨g, t * 8, none⟩) (ml - t) (cap - (t + 1)) (ml + 1 - t) (cap - t) (by simp [Act.eval, Act.put]) (by simp [Act.eval, Act.put]) wo.heap.size g _ (ml + 1) _ HO8D.out ((t + 1) * 8) (t * 8) (ml - t) (by simp only [Nat.min_def]; split <;> omega) (by intro h0; first | (exfalso; omega) | exact ⟨rfl, _, rfl, fun j => add_off g (t * 8) j⟩) (by omega) (by omega) (off_one _) ?_; intro w9 ho9 hg9 hs9)
                                  have HO9 := Lib.hid ho9.out
                                  have HB9 : Hid (Below wo.heap.size wo w9) := by first | exact HB8.out.grown hg9 HB8.out.size (fun j hj => by injection hj with hj; omega) | exact HB8.out.drew.grown hg9 HB8.out.size (fun j hj => by injection hj with hj; omega)
                                  have y0 := (grown_cells hg9 wz.heap.size 0 (by show wz.heap.size < w8.heap.size; omega) (fun e => hgz e.symm)).trans z0
                                  have y1 := (grown_cells hg9 wz.heap.size 1 (by show wz.heap.size < w8.heap.size; omega) (fun e => hgz e.symm)).trans z1
                                  have y2 := (grown_cells hg9 wz.heap.size 2 (by show wz.heap.size < w8.heap.size; omega) (fun e => hgz e.symm)).trans z2
                                  have y3 := (grown_cells hg9 wz.heap.size 3 (by show wz.heap.size < w8.heap.size; omega) (fun e => hgz e.symm)).trans z3
                                  have y4 := (grown_cells hg9 wz.heap.size 4 (by show wz.heap.size < w8.heap.size; omega) (fun e => hgz e.symm)).trans z4
                                  have y5 := (grown_cells hg9 wz.heap.size 5 (by show wz.heap.size < w8.heap.size; omega) (fun e => hgz e.symm)).trans z5
                                  have y6 := (grown_cells hg9 wz.heap.size 6 (by show wz.heap.size < w8.heap.size; omega) (fun e => hgz e.symm)).trans z6
                                  have y7 := (grown_cells hg9 wz.heap.size 7 (by show wz.heap.size < w8.heap.size; omega) (fun e => hgz e.symm)).trans z7
                                  clear ho9 hg9
                                  go_wp2_with (refine wpList_store_K (o := ⟨none, .store 44 _ _, _, _, _, _⟩) rfl _ _ _ rfl wo.heap.size g _ (ml + 1) 8 (t * 8) _ [.bool six, .int .u64 hi, .int .u64 lo, .int .i64 pn, .int .i64 src, .int .i64 peer, .int .i64 met, .int .i64 hop] HO9.out _ rfl (by simp) rfl rfl infoOffSize (by omega) (by intro u hu; simp at hu; rcases hu with rfl | rfl | rfl | rfl | rfl | rfl | rfl | rfl <;> rfl) ?_)
                                  intro w10 ho10 hg10 hs10
                                  have HB10 : Hid (Below wo.heap.size wo w10) := HB9.out.grown hg10 HB9.out.size (fun j hj => by injection hj with hj; omega)
                                  have hnlen : (m.take t ++ (⟨⟨six, hi, lo, pn⟩, src, peer, met, hop⟩ : OffV) :: m.drop t).length = ml + 1 := by
                                    have e := congrArg List.length (List.take_append_drop t m)
                                    rw [List.length_append] at e
                                    rw [List.length_append, List.length_cons]
                                    have := HML.out
                                    omega
                                  have HO10 := Lib.hid ho10.out
                                  have HSP := Lib.hid (splice_ins (f := OffV.cells) OffV.cells_length m (⟨⟨six, hi, lo, pn⟩, src, peer, met, hop⟩ : OffV) t (by have := HML.out; omega))
                                  rw [HML.out] at HSP
                                  have HO11 : Hid (w10.ownsRow wo.heap.size 44 8 (.slice (some ⟨g, 0, none⟩) (ml + 1) cap) (m.take t ++ (⟨⟨six, hi, lo, pn⟩, src, peer, met, hop⟩ : OffV) :: m.drop t).length ((m.take t ++ (⟨⟨six, hi, lo, pn⟩, src, peer, met, hop⟩ : OffV) :: m.drop t).flatMap OffV.cells)) := by
                                    show World.ownsRow _ _ _ _ _ _ _
                                    rw [hnlen, ← HSP.out]
                                    first | exact HO10.out | (simp only [List.flatMap_append, List.flatMap_cons, List.flatMap_nil, List.append_nil]; exact HO10.out)
                                  clear ho10 hg10
                                  go_wp2
                                  go_roundw
                                  case rel => exact ⟨k + 1, m.take t ++ (⟨⟨six, hi, lo, pn⟩, src, peer, met, hop⟩ : OffV) :: m.drop t, by omega, by go_num, HOUT.out.put HAL.out HND.out HG.out HLKO.out HX.out HLO.out HHI.out, by omega, HO11, HB10⟩
                                  case measure => simp [intOf]; omega
                          · have heq : ∀ w, (Op.equalIn 10000 35 (.agg #[.bool six', .int .u64 hi', .int .u64 lo']) (.agg #[.bool six, .int .u64 hi, .int .u64 lo])).run Try.prog w = .ok false w := fun w => by
                              rw [eqAV 9998]
                              by_cases a1 : six' = six
                              · by_cases a2 : hi' = hi
                                · by_cases a3 : lo' = lo
                                  · exact absurd (by rw [a1, a2, a3]) e1
                                  · simp [a3]
                                · simp [a2]
                              · simp [a1]
                            have E1 := Lib.hid e1
                            clear e1
                            refine wp_region_held_drew (S := (fun w' => (∀ b o, b < wy.heap.size → w'.cell? ⟨b, o, none⟩ = wy.cell? ⟨b, o, none⟩) ∧ wy.heap.size ≤ w'.heap.size ∧ Hid (Below wy.heap.size wy w'))) (by kernel_rfl) ?_ (fun hHeld => ?_)
                            · (first | assumption | exact keep0 _ | exact keep1 (by assumption) (by assumption) | exact keepD (by assumption) | exact keepB (by assumption) (by assumption) | exact keepA (by assumption) _ | exact ⟨fun _ _ _ => rfl, Nat.le_refl _, Below.refl _ _⟩)
                            refine wpAnyH_take (i := 0) (v := ?_) rfl (by kernel_rfl) (by kernel_rfl) (by kernel_rfl) (fun _ _ _ h => h) (Or.inl ⟨by rfl, ?_⟩) (by assumption) ?_
                            rotate_left
                            · (intro w hSw; (try dsimp only at hSw); go_simp <;> with_reducible rfl)
                            (try simp only [Act.put, List.getElem_toArray, List.getElem_cons_zero, List.setIfInBounds_toArray, List.set_cons_zero, List.set_cons_succ])
                            refine wpAnyH_take (i := 1) (v := ?_) rfl (by kernel_rfl) (by kernel_rfl) (by kernel_rfl) (fun _ _ _ h => h) (Or.inl ⟨by rfl, ?_⟩) (by assumption) ?_
                            rotate_left
                            · (intro w hSw; (try dsimp only at hSw); go_simp <;> with_reducible rfl)
                            (try simp only [Act.put, List.getElem_toArray, List.getElem_cons_succ, List.getElem_cons_zero, List.setIfInBounds_toArray, List.set_cons_zero, List.set_cons_succ])
                            refine wpAnyH_take (i := 2) (v := ?_) rfl (by kernel_rfl) (by kernel_rfl) (by kernel_rfl) (fun _ _ _ h => h) (Or.inl ⟨by rfl, ?_⟩) (by assumption) ?_
                            rotate_left
                            · (intro w hSw; (try dsimp only at hSw); go_simp <;> with_reducible rfl)
                            (try simp only [Act.put, List.getElem_toArray, List.getElem_cons_succ, List.getElem_cons_zero, List.setIfInBounds_toArray, List.set_cons_zero, List.set_cons_succ])
                            refine wpAnyH_take (i := 3) (v := ?_) rfl (by kernel_rfl) (by kernel_rfl) (by kernel_rfl) (fun _ _ _ h => h) (Or.inl ⟨by rfl, ?_⟩) (by assumption) ?_
                            rotate_left
                            · (intro w hSw; (try dsimp only at hSw); go_simp <;> with_reducible rfl)
                            (try simp only [Act.put, List.getElem_toArray, List.getElem_cons_succ, List.getElem_cons_zero, List.setIfInBounds_toArray, List.set_cons_zero, List.set_cons_succ])
                            refine wpAnyH_take (i := 4) (v := ?_) rfl (by kernel_rfl) (by kernel_rfl) (by kernel_rfl) (fun _ _ _ h => h) (Or.inl ⟨by rfl, ?_⟩) (by assumption) ?_
                            rotate_left
                            · (intro w hSw; (try dsimp only at hSw); go_simp <;> with_reducible rfl)
                            (try simp only [Act.put, List.getElem_toArray, List.getElem_cons_succ, List.getElem_cons_zero, List.setIfInBounds_toArray, List.set_cons_zero, List.set_cons_succ])
                            refine wpAnyH_take (i := 5) (v := ?_) rfl (by kernel_rfl) (by kernel_rfl) (by kernel_rfl) (fun _ _ _ h => h) (Or.inl ⟨by rfl, ?_⟩) (by assumption) ?_
                            rotate_left
                            · (intro w hSw; (try dsimp only at hSw); go_simp <;> with_reducible rfl)
                            (try simp only [Act.put, List.getElem_toArray, List.getElem_cons_succ, List.getElem_cons_zero, List.setIfInBounds_toArray, List.set_cons_zero, List.set_cons_succ])
                            refine wpAnyH_take (i := 6) (v := ?_) rfl (by kernel_rfl) (by kernel_rfl) (by kernel_rfl) (fun _ _ _ h => h) (Or.inl ⟨by rfl, ?_⟩) (by assumption) ?_
                            rotate_left
                            · (intro w hSw; (try dsimp only at hSw); go_simp <;> with_reducible rfl)
                            (try simp only [Act.put, List.getElem_toArray, List.getElem_cons_succ, List.getElem_cons_zero, List.setIfInBounds_toArray, List.set_cons_zero, List.set_cons_succ])
                            refine wpAnyH_take (i := 7) (v := ?_) rfl (by kernel_rfl) (by kernel_rfl) (by kernel_rfl) (fun _ _ _ h => h) (Or.inl ⟨by rfl, ?_⟩) (by assumption) ?_
                            rotate_left
                            · (intro w hSw; (try dsimp only at hSw); go_simp <;> with_reducible rfl)
                            (try simp only [Act.put, List.getElem_toArray, List.getElem_cons_succ, List.getElem_cons_zero, List.setIfInBounds_toArray, List.set_cons_zero, List.set_cons_succ])
                            refine wpAnyH_take (i := 8) (v := ?_) rfl (by kernel_rfl) (by kernel_rfl) (by kernel_rfl) (fun _ _ _ h => h) (Or.inl ⟨by rfl, ?_⟩) (by assumption) ?_
                            rotate_left
                            · (intro w hSw; (try dsimp only at hSw); go_simp <;> with_reducible rfl)
                            (try simp only [Act.put, List.getElem_toArray, List.getElem_cons_succ, List.getElem_cons_zero, List.setIfInBounds_toArray, List.set_cons_zero, List.set_cons_succ])
                            refine wpAnyH_take (i := 9) (v := ?_) rfl (by kernel_rfl) (by kernel_rfl) (by kernel_rfl) (fun _ _ _ h => h) (Or.inl ⟨by rfl, ?_⟩) (by assumption) ?_
                            rotate_left
                            · (intro w hSw; (try dsimp only at hSw); go_simp <;> with_reducible rfl)
                            (try simp only [Act.put, List.getElem_toArray, List.getElem_cons_succ, List.getElem_cons_zero, List.setIfInBounds_toArray, List.set_cons_zero, List.set_cons_succ])
                            refine wpAnyH_take (i := 10) (v := ?_) rfl (by kernel_rfl) (by kernel_rfl) (by kernel_rfl) (fun _ _ _ h => h) (Or.inl ⟨by rfl, ?_⟩) (by assumption) ?_
                            rotate_left
                            · (intro w hSw; (try dsimp only at hSw); go_simp <;> with_reducible rfl)
                            (try simp only [Act.put, List.getElem_toArray, List.getElem_cons_succ, List.getElem_cons_zero, List.setIfInBounds_toArray, List.set_cons_zero, List.set_cons_succ])
                            refine wpAnyH_take (i := 11) (v := ?_) rfl (by kernel_rfl) (by kernel_rfl) (by kernel_rfl) (fun _ _ _ h => h) (Or.inl ⟨by rfl, ?_⟩) (by assumption) ?_
                            rotate_left
                            · (intro w hSw; (try dsimp only at hSw); go_simp <;> with_reducible rfl)
                            (try simp only [Act.put, List.getElem_toArray, List.getElem_cons_succ, List.getElem_cons_zero, List.setIfInBounds_toArray, List.set_cons_zero, List.set_cons_succ])
                            refine wpAnyH_take (i := 12) (v := ?_) rfl (by kernel_rfl) (by kernel_rfl) (by kernel_rfl) (fun _ _ _ h => h) (Or.inl ⟨by rfl, ?_⟩) (by assumption) ?_
                            rotate_left
                            · (intro w hSw; (try dsimp only at hSw); go_simp <;> with_reducible rfl)
                            (try simp only [Act.put, List.getElem_toArray, List.getElem_cons_succ, List.getElem_cons_zero, List.setIfInBounds_toArray, List.set_cons_zero, List.set_cons_succ])
                            refine wpAnyH_take (i := 13) (v := ?_) rfl (by kernel_rfl) (by kernel_rfl) (by kernel_rfl) (fun _ _ _ h => h) (Or.inl ⟨by rfl, ?_⟩) (by assumption) ?_
                            rotate_left
                            · (intro w hSw; (try dsimp only at hSw); go_simp <;> with_reducible rfl)
                            (try simp only [Act.put, List.getElem_toArray, List.getElem_cons_succ, List.getElem_cons_zero, List.setIfInBounds_toArray, List.set_cons_zero, List.set_cons_succ])
                            refine wpAnyH_ready (rs := [14]) (by kernel_rfl) (by simp) ?_
                            refine AllReadyH.cons rfl (fun K hK => ?_) AllReadyH.nil
                            go_simp
                            (go_at_call 79; (with_reducible refine (CL.out _).mono ?_); rintro e w8 ⟨rfl, hb8⟩)
                            first
                              | refine hK.out _ _ ?_ (fun hHeld => ?_)
                              | (go_wp2_with fail; refine hK.out _ _ ?_ (fun hHeld => ?_))
                            · (first | assumption | exact keep0 _ | exact keep1 (by assumption) (by assumption) | exact keepD (by assumption) | exact keepB (by assumption) (by assumption) | exact keepA (by assumption) _ | exact ⟨fun _ _ _ => rfl, Nat.le_refl _, Below.refl _ _⟩)
                            clear hK K
                            (try simp only [Act.put, List.getElem_toArray, List.getElem_cons_succ, List.getElem_cons_zero, List.setIfInBounds_toArray, List.set_cons_zero, List.set_cons_succ])
                            refine wpAnyH_take (i := 15) (v := ?_) rfl (by kernel_rfl) (by kernel_rfl) (by kernel_rfl) (fun _ _ _ h => h) (Or.inl ⟨by rfl, ?_⟩) (by assumption) ?_
                            rotate_left
                            · (intro w hSw; (try dsimp only at hSw); go_simp <;> with_reducible rfl)
                            (try simp only [Act.put, List.getElem_toArray, List.getElem_cons_succ, List.getElem_cons_zero, List.setIfInBounds_toArray, List.set_cons_zero, List.set_cons_succ])
                            refine wpAnyH_take (i := 16) (v := ?_) rfl (by kernel_rfl) (by kernel_rfl) (by kernel_rfl) (fun _ _ _ h => h) (Or.inl ⟨by rfl, ?_⟩) (by assumption) ?_
                            rotate_left
                            · (intro w hSw; (try dsimp only at hSw); go_simp <;> with_reducible rfl)
                            (try simp only [Act.put, List.getElem_toArray, List.getElem_cons_succ, List.getElem_cons_zero, List.setIfInBounds_toArray, List.set_cons_zero, List.set_cons_succ])
                            refine wpAnyH_take (i := 17) (v := ?_) rfl (by kernel_rfl) (by kernel_rfl) (by kernel_rfl) (fun _ _ _ h => h) (Or.inl ⟨by rfl, ?_⟩) (by assumption) ?_
                            rotate_left
                            · (intro w hSw; (try dsimp only at hSw); go_simp <;> with_reducible rfl)
                            (try simp only [Act.put, List.getElem_toArray, List.getElem_cons_succ, List.getElem_cons_zero, List.setIfInBounds_toArray, List.set_cons_zero, List.set_cons_succ])
                            refine wpAnyH_take (i := 18) (v := ?_) rfl (by kernel_rfl) (by kernel_rfl) (by kernel_rfl) (fun _ _ _ h => h) (Or.inl ⟨by rfl, ?_⟩) (by assumption) ?_
                            rotate_left
                            · (intro w hSw; (try dsimp only at hSw); go_simp <;> with_reducible rfl)
                            (try simp only [Act.put, List.getElem_toArray, List.getElem_cons_succ, List.getElem_cons_zero, List.setIfInBounds_toArray, List.set_cons_zero, List.set_cons_succ])
                            refine wpAnyH_take (i := 19) (v := ?_) rfl (by kernel_rfl) (by kernel_rfl) (by kernel_rfl) (fun _ _ _ h => h) (Or.inl ⟨by rfl, ?_⟩) (by assumption) ?_
                            rotate_left
                            · (intro w hSw; (try dsimp only at hSw); go_simp <;> with_reducible rfl)
                            (try simp only [Act.put, List.getElem_toArray, List.getElem_cons_succ, List.getElem_cons_zero, List.setIfInBounds_toArray, List.set_cons_zero, List.set_cons_succ])
                            refine wpAnyH_take (i := 20) (v := ?_) rfl (by kernel_rfl) (by kernel_rfl) (by kernel_rfl) (fun _ _ _ h => h) (Or.inl ⟨by rfl, ?_⟩) (by assumption) ?_
                            rotate_left
                            · (intro w hSw; (try dsimp only at hSw); go_simp <;> with_reducible rfl)
                            (try simp only [Act.put, List.getElem_toArray, List.getElem_cons_succ, List.getElem_cons_zero, List.setIfInBounds_toArray, List.set_cons_zero, List.set_cons_succ])
                            refine wpAnyH_take (i := 21) (v := ?_) rfl (by kernel_rfl) (by kernel_rfl) (by kernel_rfl) (fun _ _ _ h => h) (Or.inl ⟨by rfl, ?_⟩) (by assumption) ?_
                            rotate_left
                            · (intro w hSw; (try dsimp only at hSw); go_simp <;> with_reducible rfl)
                            (try simp only [Act.put, List.getElem_toArray, List.getElem_cons_succ, List.getElem_cons_zero, List.setIfInBounds_toArray, List.set_cons_zero, List.set_cons_succ])
                            refine wpAnyH_take (i := 22) (v := ?_) rfl (by kernel_rfl) (by kernel_rfl) (by kernel_rfl) (fun _ _ _ h => h) (Or.inl ⟨by rfl, ?_⟩) (by assumption) ?_
                            rotate_left
                            · (intro w hSw; (try dsimp only at hSw); go_simp <;> with_reducible rfl)
                            (try simp only [Act.put, List.getElem_toArray, List.getElem_cons_succ, List.getElem_cons_zero, List.setIfInBounds_toArray, List.set_cons_zero, List.set_cons_succ])
                            refine wpAnyH_take (i := 23) (v := ?_) rfl (by kernel_rfl) (by kernel_rfl) (by kernel_rfl) (fun _ _ _ h => h) (Or.inl ⟨by rfl, ?_⟩) (by assumption) ?_
                            rotate_left
                            · (intro w hSw; (try dsimp only at hSw); go_simp <;> with_reducible rfl)
                            (try simp only [Act.put, List.getElem_toArray, List.getElem_cons_succ, List.getElem_cons_zero, List.setIfInBounds_toArray, List.set_cons_zero, List.set_cons_succ])
                            refine wpAnyH_take (i := 24) (v := ?_) rfl (by kernel_rfl) (by kernel_rfl) (by kernel_rfl) (fun _ _ _ h => h) (Or.inl ⟨by rfl, ?_⟩) (by assumption) ?_
                            rotate_left
                            · (intro w hSw; (try dsimp only at hSw); go_simp <;> with_reducible rfl)
                            (try simp only [Act.put, List.getElem_toArray, List.getElem_cons_succ, List.getElem_cons_zero, List.setIfInBounds_toArray, List.set_cons_zero, List.set_cons_succ])
                            refine wpAnyH_take (i := 25) (v := ?_) rfl (by kernel_rfl) (by kernel_rfl) (by kernel_rfl) (fun _ _ _ h => h) (Or.inl ⟨by rfl, ?_⟩) (by assumption) ?_
                            rotate_left
                            · (intro w hSw; (try dsimp only at hSw); go_simp <;> with_reducible rfl)
                            (try simp only [Act.put, List.getElem_toArray, List.getElem_cons_succ, List.getElem_cons_zero, List.setIfInBounds_toArray, List.set_cons_zero, List.set_cons_succ])
                            refine wpAnyH_take (i := 26) (v := ?_) rfl (by kernel_rfl) (by kernel_rfl) (by kernel_rfl) (fun _ _ _ h => h) (Or.inl ⟨by rfl, ?_⟩) (by assumption) ?_
                            rotate_left
                            · (intro w hSw; (try dsimp only at hSw); go_simp <;> with_reducible rfl)
                            (try simp only [Act.put, List.getElem_toArray, List.getElem_cons_succ, List.getElem_cons_zero, List.setIfInBounds_toArray, List.set_cons_zero, List.set_cons_succ])
                            refine wpAnyH_take (i := 27) (v := undef) rfl (by kernel_rfl) (by kernel_rfl) (by kernel_rfl) (fun _ _ _ h => h) (Or.inr ⟨by rfl, rfl⟩) (by assumption) ?_
                            (try simp only [Act.put, List.getElem_toArray, List.getElem_cons_succ, List.getElem_cons_zero, List.setIfInBounds_toArray, List.set_cons_zero, List.set_cons_succ])
                            refine wpAnyH_take (i := 28) (v := undef) rfl (by kernel_rfl) (by kernel_rfl) (by kernel_rfl) (fun _ _ _ h => h) (Or.inr ⟨by rfl, rfl⟩) (by assumption) ?_
                            (try simp only [Act.put, List.getElem_toArray, List.getElem_cons_succ, List.getElem_cons_zero, List.setIfInBounds_toArray, List.set_cons_zero, List.set_cons_succ])
                            refine wpAnyH_take (i := 29) (v := undef) rfl (by kernel_rfl) (by kernel_rfl) (by kernel_rfl) (fun _ _ _ h => h) (Or.inr ⟨by rfl, rfl⟩) (by assumption) ?_
                            (try simp only [Act.put, List.getElem_toArray, List.getElem_cons_succ, List.getElem_cons_zero, List.setIfInBounds_toArray, List.set_cons_zero, List.set_cons_succ])
                            refine wpAnyH_take (i := 30) (v := undef) rfl (by kernel_rfl) (by kernel_rfl) (by kernel_rfl) (fun _ _ _ h => h) (Or.inr ⟨by rfl, rfl⟩) (by assumption) ?_
                            (try simp only [Act.put, List.getElem_toArray, List.getElem_cons_succ, List.getElem_cons_zero, List.setIfInBounds_toArray, List.set_cons_zero, List.set_cons_succ])
                            refine wpAnyH_take (i := 31) (v := undef) rfl (by kernel_rfl) (by kernel_rfl) (by kernel_rfl) (fun _ _ _ h => h) (Or.inr ⟨by rfl, rfl⟩) (by assumption) ?_
                            (try simp only [Act.put, List.getElem_toArray, List.getElem_cons_succ, List.getElem_cons_zero, List.setIfInBounds_toArray, List.set_cons_zero, List.set_cons_succ])
                            refine wpAnyH_take (i := 32) (v := undef) rfl (by kernel_rfl) (by kernel_rfl) (by kernel_rfl) (fun _ _ _ h => h) (Or.inr ⟨by rfl, rfl⟩) (by assumption) ?_
                            (try simp only [Act.put, List.getElem_toArray, List.getElem_cons_succ, List.getElem_cons_zero, List.setIfInBounds_toArray, List.set_cons_zero, List.set_cons_succ])
                            refine wpAnyH_take (i := 33) (v := undef) rfl (by kernel_rfl) (by kernel_rfl) (by kernel_rfl) (fun _ _ _ h => h) (Or.inr ⟨by rfl, rfl⟩) (by assumption) ?_
                            (try simp only [Act.put, List.getElem_toArray, List.getElem_cons_succ, List.getElem_cons_zero, List.setIfInBounds_toArray, List.set_cons_zero, List.set_cons_succ])
                            refine wpAnyH_take (i := 34) (v := undef) rfl (by kernel_rfl) (by kernel_rfl) (by kernel_rfl) (fun _ _ _ h => h) (Or.inr ⟨by rfl, rfl⟩) (by assumption) ?_
                            (try simp only [Act.put, List.getElem_toArray, List.getElem_cons_succ, List.getElem_cons_zero, List.setIfInBounds_toArray, List.set_cons_zero, List.set_cons_succ])
                            refine wpAnyH_take (i := 35) (v := undef) rfl (by kernel_rfl) (by kernel_rfl) (by kernel_rfl) (fun _ _ _ h => h) (Or.inr ⟨by rfl, rfl⟩) (by assumption) ?_
                            (try simp only [Act.put, List.getElem_toArray, List.getElem_cons_succ, List.getElem_cons_zero, List.setIfInBounds_toArray, List.set_cons_zero, List.set_cons_succ])
                            refine wpAnyH_take (i := 36) (v := undef) rfl (by kernel_rfl) (by kernel_rfl) (by kernel_rfl) (fun _ _ _ h => h) (Or.inr ⟨by rfl, rfl⟩) (by assumption) ?_
                            (try simp only [Act.put, List.getElem_toArray, List.getElem_cons_succ, List.getElem_cons_zero, List.setIfInBounds_toArray, List.set_cons_zero, List.set_cons_succ])
                            refine wpAnyH_take (i := 37) (v := ?_) rfl (by kernel_rfl) (by kernel_rfl) (by kernel_rfl) (fun _ _ _ h => h) (Or.inl ⟨by rfl, ?_⟩) (by assumption) ?_
                            rotate_left
                            · (intro w hSw; (try dsimp only at hSw); go_simp <;> with_reducible rfl)
                            (try simp only [Act.put, List.getElem_toArray, List.getElem_cons_succ, List.getElem_cons_zero, List.setIfInBounds_toArray, List.set_cons_zero, List.set_cons_succ])
                            refine wpAnyH_take (i := 38) (v := ?_) rfl (by kernel_rfl) (by kernel_rfl) (by kernel_rfl) (fun _ _ _ h => h) (Or.inl ⟨by rfl, ?_⟩) (by assumption) ?_
                            rotate_left
                            · (intro w hSw; (try dsimp only at hSw); go_simp <;> with_reducible rfl)
                            (try simp only [Act.put, List.getElem_toArray, List.getElem_cons_succ, List.getElem_cons_zero, List.setIfInBounds_toArray, List.set_cons_zero, List.set_cons_succ])
                            refine wpAnyH_take (i := 39) (v := ?_) rfl (by kernel_rfl) (by kernel_rfl) (by kernel_rfl) (fun _ _ _ h => h) (Or.inl ⟨by rfl, ?_⟩) (by assumption) ?_
                            rotate_left
                            · (intro w hSw; (try dsimp only at hSw); go_simp <;> with_reducible rfl)
                            (try simp only [Act.put, List.getElem_toArray, List.getElem_cons_succ, List.getElem_cons_zero, List.setIfInBounds_toArray, List.set_cons_zero, List.set_cons_succ])
                            refine wpAnyH_done (by kernel_rfl) ?_ _
                            obtain ⟨fc4, z4, H4⟩ : (∀ b o, b < wy.heap.size → w8.cell? ⟨b, o, none⟩ = wy.cell? ⟨b, o, none⟩) ∧ wy.heap.size ≤ w8.heap.size ∧ Hid (Below wy.heap.size wy w8) := by assumption
                            have HB9 : Hid (Below wq.heap.size wq w8) := below_step hb.out H4.out
                            have HLTB : Hid (ltB ⟨six', hi', lo', pn'⟩ ⟨six, hi, lo, pn⟩ = false) := by
                              show _ = _
                              unfold ltB; rw [show lessB (PV.a ⟨six', hi', lo', pn'⟩) (PV.a ⟨six, hi, lo, pn⟩) = false from HLS.out, decide_eq_false (show ¬ PV.a ⟨six', hi', lo', pn'⟩ = PV.a ⟨six, hi, lo, pn⟩ from E1.out)]; rfl
                            have v0 : w8.cell? ⟨wz.heap.size, 0, none⟩ = some (.bool six) := (fc4 wz.heap.size 0 (by omega)).trans f0
                            have v1 : w8.cell? ⟨wz.heap.size, 1, none⟩ = some (.int .u64 hi) := (fc4 wz.heap.size 1 (by omega)).trans f1
                            have v2 : w8.cell? ⟨wz.heap.size, 2, none⟩ = some (.int .u64 lo) := (fc4 wz.heap.size 2 (by omega)).trans f2
                            have v3 : w8.cell? ⟨wz.heap.size, 3, none⟩ = some (.int .i64 pn) := (fc4 wz.heap.size 3 (by omega)).trans f3
                            have v4 : w8.cell? ⟨wz.heap.size, 4, none⟩ = some (.int .i64 src) := (fc4 wz.heap.size 4 (by omega)).trans f4
                            have v5 : w8.cell? ⟨wz.heap.size, 5, none⟩ = some (.int .i64 peer) := (fc4 wz.heap.size 5 (by omega)).trans f5
                            have v6 : w8.cell? ⟨wz.heap.size, 6, none⟩ = some (.int .i64 met) := (fc4 wz.heap.size 6 (by omega)).trans f6
                            have v7 : w8.cell? ⟨wz.heap.size, 7, none⟩ = some (.int .i64 hop) := (fc4 wz.heap.size 7 (by omega)).trans f7
                            have HHI : Hid (∀ y, m[t]? = some y → ltB y.p ⟨six, hi, lo, pn⟩ = false) := by
                              intro y hy
                              rw [HLK3.out] at hy; injection hy with hy; subst hy; exact HLTB.out
                            have HROW7 : Hid (w8.ownsRow wo.heap.size 44 8 (.slice (some ⟨g3, 0, none⟩) ml c3) ml (m.flatMap OffV.cells)) := own_below HROWQ.out HB9.out
                            have HB7 : Hid (Below wo.heap.size wo w8) := below_step HBQ.out HB9.out
                            have hs7 : wz.heap.size < w8.heap.size := by have := HB9.out.size; omega
                            have hszo7 : wo.heap.size ≤ w8.heap.size := HB7.out.size
                            have HRW7 : Hid (RowAt w8 G wo.heap.size 44 8 w8 (.slice (some ⟨g3, 0, none⟩) ml c3) ml (m.flatMap OffV.cells)) := ⟨HROW7.out, fun k hk => .inl (HG1.out k hk), Below.refl _ _, fun _ _ _ => rfl, by omega⟩
                            have hwr : IntKind.i64.wrap ((t : Int) + 1) = (t : Int) + 1 := IntWalk.i64_in _ (by omega)
                            have hnn : (0 : Int) ≤ (t : Int) + 1 := by omega
                            have hnm : (t : Int) ≤ (ml : Int) + 1 := by omega
                            have hnl : (t : Int) < (ml : Int) + 1 := by omega
                            have hno : (t : Int) + 1 ≤ (ml : Int) + 1 := by omega
                            go_wp2_with (at_builtin; go_loud (refine wpList_append_row (us := [.bool six, .int .u64 hi, .int .u64 lo, .int .i64 pn, .int .i64 src, .int .i64 peer, .int .i64 met, .int .i64 hop]) rfl _ _ 24 rfl w8 G wo.heap.size _ 8 64 Try.underlying24 infoOffer rfl (by decide) _ _ _ rfl rfl rfl HRW7.out rfl (by intro u hu; simp at hu; rcases hu with rfl | rfl | rfl | rfl | rfl | rfl | rfl | rfl <;> rfl) (by unfold maxLen; omega) (by omega) ?_))
                            intro v8 w8 hrow8 hs8 hk8
                            have z0 : w8.cell? ⟨wz.heap.size, 0, none⟩ = some (.bool six) := (World.cell?_of_block (hrow8.kept wz.heap.size (by omega) (fun e => hG2 e.symm))).trans v0
                            have z1 : w8.cell? ⟨wz.heap.size, 1, none⟩ = some (.int .u64 hi) := (World.cell?_of_block (hrow8.kept wz.heap.size (by omega) (fun e => hG2 e.symm))).trans v1
                            have z2 : w8.cell? ⟨wz.heap.size, 2, none⟩ = some (.int .u64 lo) := (World.cell?_of_block (hrow8.kept wz.heap.size (by omega) (fun e => hG2 e.symm))).trans v2
                            have z3 : w8.cell? ⟨wz.heap.size, 3, none⟩ = some (.int .i64 pn) := (World.cell?_of_block (hrow8.kept wz.heap.size (by omega) (fun e => hG2 e.symm))).trans v3
                            have z4 : w8.cell? ⟨wz.heap.size, 4, none⟩ = some (.int .i64 src) := (World.cell?_of_block (hrow8.kept wz.heap.size (by omega) (fun e => hG2 e.symm))).trans v4
                            have z5 : w8.cell? ⟨wz.heap.size, 5, none⟩ = some (.int .i64 peer) := (World.cell?_of_block (hrow8.kept wz.heap.size (by omega) (fun e => hG2 e.symm))).trans v5
                            have z6 : w8.cell? ⟨wz.heap.size, 6, none⟩ = some (.int .i64 met) := (World.cell?_of_block (hrow8.kept wz.heap.size (by omega) (fun e => hG2 e.symm))).trans v6
                            have z7 : w8.cell? ⟨wz.heap.size, 7, none⟩ = some (.int .i64 hop) := (World.cell?_of_block (hrow8.kept wz.heap.size (by omega) (fun e => hG2 e.symm))).trans v7
                            have HB8 : Hid (Below wo.heap.size wo w8) := HB7.out.trans hrow8.below
                            have hblk := hrow8.blk
                            have hown8 := hrow8.own
                            rcases hrow8.own.2 with ⟨_, hn0⟩ | ⟨g, cap, cur, rfl, hg, _, hnc8, hcm8, _, _⟩
                            · omega
                            have hgz : ¬ g = wz.heap.size := by
                              rcases hblk g rfl with h | h
                              · omega
                              · omega
                            have HO8 : Hid (w8.ownsRow wo.heap.size 44 8 (.slice (some ⟨g, 0, none⟩) (ml + 1) cap) (ml + 1) ((m ++ [(⟨⟨six, hi, lo, pn⟩, src, peer, met, hop⟩ : OffV)]).flatMap OffV.cells)) := by
                              show World.ownsRow _ _ _ _ _ _ _
                              rw [List.flatMap_append]
                              exact hown8
                            clear hrow8 hk8 hblk hown8
                            by_cases hcp : cap = t + 1
                            · subst hcp
                              have HO8D := Lib.hid (own_below HO8.out (Below.refl _ _).drew)
                              go_wp2_with fail
                              go_region_law (refine step_copy_K rfl _ _ 24 24 rfl 44 8 Try.underlying24 infoOffSize (some ⟨g, 0, none⟩) (some ⟨g, t * 8, none⟩) 0 0 (ml + 1 - t) 1 (by simp [Act.eval, Act.put]) (by simp [Act.eval, Act.put]) wo.heap.size g _ (ml + 1) _ HO8D.out ((t + 1) * 8) (t * 8) (ml - t) (by simp only [Nat.min_def]; split <;> omega) (by intro h0; first | (exfalso; omega) | exact ⟨rfl, _, rfl, fun j => add_off g (t * 8) j⟩) (by omega) (by omega) (off_one _) ?_; intro w9 ho9 hg9 hs9)
                              have HO9 := Lib.hid ho9.out
                              have HB9 : Hid (Below wo.heap.size wo w9) := by first | exact HB8.out.grown hg9 HB8.out.size (fun j hj => by injection hj with hj; omega) | exact HB8.out.drew.grown hg9 HB8.out.size (fun j hj => by injection hj with hj; omega)
                              have y0 := (grown_cells hg9 wz.heap.size 0 (by show wz.heap.size < w8.heap.size; omega) (fun e => hgz e.symm)).trans z0
                              have y1 := (grown_cells hg9 wz.heap.size 1 (by show wz.heap.size < w8.heap.size; omega) (fun e => hgz e.symm)).trans z1
                              have y2 := (grown_cells hg9 wz.heap.size 2 (by show wz.heap.size < w8.heap.size; omega) (fun e => hgz e.symm)).trans z2
                              have y3 := (grown_cells hg9 wz.heap.size 3 (by show wz.heap.size < w8.heap.size; omega) (fun e => hgz e.symm)).trans z3
                              have y4 := (grown_cells hg9 wz.heap.size 4 (by show wz.heap.size < w8.heap.size; omega) (fun e => hgz e.symm)).trans z4
                              have y5 := (grown_cells hg9 wz.heap.size 5 (by show wz.heap.size < w8.heap.size; omega) (fun e => hgz e.symm)).trans z5
                              have y6 := (grown_cells hg9 wz.heap.size 6 (by show wz.heap.size < w8.heap.size; omega) (fun e => hgz e.symm)).trans z6
                              have y7 := (grown_cells hg9 wz.heap.size 7 (by show wz.heap.size < w8.heap.size; omega) (fun e => hgz e.symm)).trans z7
                              clear ho9 hg9
                              go_wp2_with (refine wpList_store_K (o := ⟨none, .store 44 _ _, _, _, _, _⟩) rfl _ _ _ rfl wo.heap.size g _ (ml + 1) 8 (t * 8) _ [.bool six, .int .u64 hi, .int .u64 lo, .int .i64 pn, .int .i64 src, .int .i64 peer, .int .i64 met, .int .i64 hop] HO9.out _ rfl (by simp) rfl rfl infoOffSize (by omega) (by intro u hu; simp at hu; rcases hu with rfl | rfl | rfl | rfl | rfl | rfl | rfl | rfl <;> rfl) ?_)
                              intro w10 ho10 hg10 hs10
                              have HB10 : Hid (Below wo.heap.size wo w10) := HB9.out.grown hg10 HB9.out.size (fun j hj => by injection hj with hj; omega)
                              have hnlen : (m.take t ++ (⟨⟨six, hi, lo, pn⟩, src, peer, met, hop⟩ : OffV) :: m.drop t).length = ml + 1 := by
                                have e := congrArg List.length (List.take_append_drop t m)
                                rw [List.length_append] at e
                                rw [List.length_append, List.length_cons]
                                have := HML.out
                                omega
                              have HO10 := Lib.hid ho10.out
                              have HSP := Lib.hid (splice_ins (f := OffV.cells) OffV.cells_length m (⟨⟨six, hi, lo, pn⟩, src, peer, met, hop⟩ : OffV) t (by have := HML.out; omega))
                              rw [HML.out] at HSP
                              have HO11 : Hid (w10.ownsRow wo.heap.size 44 8 (.slice (some ⟨g, 0, none⟩) (ml + 1) (t + 1)) (m.take t ++ (⟨⟨six, hi, lo, pn⟩, src, peer, met, hop⟩ : OffV) :: m.drop t).length ((m.take t ++ (⟨⟨six, hi, lo, pn⟩, src, peer, met, hop⟩ : OffV) :: m.drop t).flatMap OffV.cells)) := by
                                show World.ownsRow _ _ _ _ _ _ _
                                rw [hnlen, ← HSP.out]
                                first | exact HO10.out | (simp only [List.flatMap_append, List.flatMap_cons, List.flatMap_nil, List.append_nil]; exact HO10.out)
                              clear ho10 hg10
                              go_wp2
                              go_roundw
                              case rel => exact ⟨k + 1, m.take t ++ (⟨⟨six, hi, lo, pn⟩, src, peer, met, hop⟩ : OffV) :: m.drop t, by omega, by go_num, HOUT.out.put HAL.out HND.out HG.out HLKO.out HX.out HLO.out HHI.out, by omega, HO11, HB10⟩
                              case measure => simp [intOf]; omega
                            · have hcp2 : ¬ cap = t := by omega
                              have HO8D := Lib.hid (own_below HO8.out (Below.refl _ _).drew)
                              go_wp2_with fail
                              go_region_law (refine step_copy_K rfl _ _ 24 24 rfl 44 8 Try.underlying24 infoOffSize (some ⟨g, (t + 1) * 8, none⟩) (some ⟨g, t * 8, none⟩) (ml - t) (cap - (t + 1)) (ml + 1 - t) (cap - t) (by simp [Act.eval, Act.put]) (by simp [Act.eval, Act.put]) wo.heap.size g _ (ml + 1) _ HO8D.out ((t + 1) * 8) (t * 8) (ml - t) (by simp only [Nat.min_def]; split <;> omega) (by intro h0; first | (exfalso; omega) | exact ⟨rfl, _, rfl, fun j => add_off g (t * 8) j⟩) (by omega) (by omega) (off_one _) ?_; intro w9 ho9 hg9 hs9)
                              have HO9 := Lib.hid ho9.out
                              have HB9 : Hid (Below wo.heap.size wo w9) := by first | exact HB8.out.grown hg9 HB8.out.size (fun j hj => by injection hj with hj; omega) | exact HB8.out.drew.grown hg9 HB8.out.size (fun j hj => by injection hj with hj; omega)
                              have y0 := (grown_cells hg9 wz.heap.size 0 (by show wz.heap.size < w8.heap.size; omega) (fun e => hgz e.symm)).trans z0
                              have y1 := (grown_cells hg9 wz.heap.size 1 (by show wz.heap.size < w8.heap.size; omega) (fun e => hgz e.symm)).trans z1
                              have y2 := (grown_cells hg9 wz.heap.size 2 (by show wz.heap.size < w8.heap.size; omega) (fun e => hgz e.symm)).trans z2
                              have y3 := (grown_cells hg9 wz.heap.size 3 (by show wz.heap.size < w8.heap.size; omega) (fun e => hgz e.symm)).trans z3
                              have y4 := (grown_cells hg9 wz.heap.size 4 (by show wz.heap.size < w8.heap.size; omega) (fun e => hgz e.symm)).trans z4
                              have y5 := (grown_cells hg9 wz.heap.size 5 (by show wz.heap.size < w8.heap.size; omega) (fun e => hgz e.symm)).trans z5
                              have y6 := (grown_cells hg9 wz.heap.size 6 (by show wz.heap.size < w8.heap.size; omega) (fun e => hgz e.symm)).trans z6
                              have y7 := (grown_cells hg9 wz.heap.size 7 (by show wz.heap.size < w8.heap.size; omega) (fun e => hgz e.symm)).trans z7
                              clear ho9 hg9
                              go_wp2_with (refine wpList_store_K (o := ⟨none, .store 44 _ _, _, _, _, _⟩) rfl _ _ _ rfl wo.heap.size g _ (ml + 1) 8 (t * 8) _ [.bool six, .int .u64 hi, .int .u64 lo, .int .i64 pn, .int .i64 src, .int .i64 peer, .int .i64 met, .int .i64 hop] HO9.out _ rfl (by simp) rfl rfl infoOffSize (by omega) (by intro u hu; simp at hu; rcases hu with rfl | rfl | rfl | rfl | rfl | rfl | rfl | rfl <;> rfl) ?_)
                              intro w10 ho10 hg10 hs10
                              have HB10 : Hid (Below wo.heap.size wo w10) := HB9.out.grown hg10 HB9.out.size (fun j hj => by injection hj with hj; omega)
                              have hnlen : (m.take t ++ (⟨⟨six, hi, lo, pn⟩, src, peer, met, hop⟩ : OffV) :: m.drop t).length = ml + 1 := by
                                have e := congrArg List.length (List.take_append_drop t m)
                                rw [List.length_append] at e
                                rw [List.length_append, List.length_cons]
                                have := HML.out
                                omega
                              have HO10 := Lib.hid ho10.out
                              have HSP := Lib.hid (splice_ins (f := OffV.cells) OffV.cells_length m (⟨⟨six, hi, lo, pn⟩, src, peer, met, hop⟩ : OffV) t (by have := HML.out; omega))
                              rw [HML.out] at HSP
                              have HO11 : Hid (w10.ownsRow wo.heap.size 44 8 (.slice (some ⟨g, 0, none⟩) (ml + 1) cap) (m.take t ++ (⟨⟨six, hi, lo, pn⟩, src, peer, met, hop⟩ : OffV) :: m.drop t).length ((m.take t ++ (⟨⟨six, hi, lo, pn⟩, src, peer, met, hop⟩ : OffV) :: m.drop t).flatMap OffV.cells)) := by
                                show World.ownsRow _ _ _ _ _ _ _
                                rw [hnlen, ← HSP.out]
                                first | exact HO10.out | (simp only [List.flatMap_append, List.flatMap_cons, List.flatMap_nil, List.append_nil]; exact HO10.out)
                              clear ho10 hg10
                              go_wp2
                              go_roundw
                              case rel => exact ⟨k + 1, m.take t ++ (⟨⟨six, hi, lo, pn⟩, src, peer, met, hop⟩ : OffV) :: m.drop t, by omega, by go_num, HOUT.out.put HAL.out HND.out HG.out HLKO.out HX.out HLO.out HHI.out, by omega, HO11, HB10⟩
                              case measure => simp [intOf]; omega
                      · have hdl : decide ((t : Int) < (ml : Int)) = false := by simp; omega
                        have HDR : Hid (∀ k, Below wq.heap.size wq (wy.drewN k)) := fun k => below_drewN hb.out k
                        have HSY : Hid (wz.heap.size < wy.heap.size) := by show wz.heap.size < wy.heap.size; omega
                        go_wp2_with fail
                        go_quiet (fail)
                        obtain ⟨wv, hwv⟩ : ∃ wv : World, wy.drewN nq = wv := ⟨_, rfl⟩
                        have HB9 : Hid (Below wq.heap.size wq wv) := by rw [← hwv]; exact HDR.out _
                        rw [hwv]
                        have v0 : wv.cell? ⟨wz.heap.size, 0, none⟩ = some (.bool six) := by rw [← hwv]; exact f0
                        have v1 : wv.cell? ⟨wz.heap.size, 1, none⟩ = some (.int .u64 hi) := by rw [← hwv]; exact f1
                        have v2 : wv.cell? ⟨wz.heap.size, 2, none⟩ = some (.int .u64 lo) := by rw [← hwv]; exact f2
                        have v3 : wv.cell? ⟨wz.heap.size, 3, none⟩ = some (.int .i64 pn) := by rw [← hwv]; exact f3
                        have v4 : wv.cell? ⟨wz.heap.size, 4, none⟩ = some (.int .i64 src) := by rw [← hwv]; exact f4
                        have v5 : wv.cell? ⟨wz.heap.size, 5, none⟩ = some (.int .i64 peer) := by rw [← hwv]; exact f5
                        have v6 : wv.cell? ⟨wz.heap.size, 6, none⟩ = some (.int .i64 met) := by rw [← hwv]; exact f6
                        have v7 : wv.cell? ⟨wz.heap.size, 7, none⟩ = some (.int .i64 hop) := by rw [← hwv]; exact f7
                        have HHI : Hid (∀ y, m[t]? = some y → ltB y.p ⟨six, hi, lo, pn⟩ = false) := by
                          intro y hy
                          rw [List.getElem?_eq_none (by have := HML.out; omega)] at hy; cases hy
                        have HROW7 : Hid (wv.ownsRow wo.heap.size 44 8 (.slice A3 ml c3) ml (m.flatMap OffV.cells)) := own_below HROWQ.out HB9.out
                        have HB7 : Hid (Below wo.heap.size wo wv) := below_step HBQ.out HB9.out
                        have hs7 : wz.heap.size < wv.heap.size := by have := HB9.out.size; omega
                        have hszo7 : wo.heap.size ≤ wv.heap.size := HB7.out.size
                        have HRW7 : Hid (RowAt wv G wo.heap.size 44 8 wv (.slice A3 ml c3) ml (m.flatMap OffV.cells)) := ⟨HROW7.out, fun k hk => .inl (HG1.out k hk), Below.refl _ _, fun _ _ _ => rfl, by omega⟩
                        have hwr : IntKind.i64.wrap ((t : Int) + 1) = (t : Int) + 1 := IntWalk.i64_in _ (by omega)
                        have hnn : (0 : Int) ≤ (t : Int) + 1 := by omega
                        have hnm : (t : Int) ≤ (ml : Int) + 1 := by omega
                        have hnl : (t : Int) < (ml : Int) + 1 := by omega
                        have hno : (t : Int) + 1 ≤ (ml : Int) + 1 := by omega
                        go_wp2_with (at_builtin; go_loud (refine wpList_append_row (us := [.bool six, .int .u64 hi, .int .u64 lo, .int .i64 pn, .int .i64 src, .int .i64 peer, .int .i64 met, .int .i64 hop]) rfl _ _ 24 rfl wv G wo.heap.size _ 8 64 Try.underlying24 infoOffer rfl (by decide) _ _ _ rfl rfl rfl HRW7.out rfl (by intro u hu; simp at hu; rcases hu with rfl | rfl | rfl | rfl | rfl | rfl | rfl | rfl <;> rfl) (by unfold maxLen; omega) (by omega) ?_))
                        intro v8 w8 hrow8 hs8 hk8
                        have z0 : w8.cell? ⟨wz.heap.size, 0, none⟩ = some (.bool six) := (World.cell?_of_block (hrow8.kept wz.heap.size (by omega) (fun e => hG2 e.symm))).trans v0
                        have z1 : w8.cell? ⟨wz.heap.size, 1, none⟩ = some (.int .u64 hi) := (World.cell?_of_block (hrow8.kept wz.heap.size (by omega) (fun e => hG2 e.symm))).trans v1
                        have z2 : w8.cell? ⟨wz.heap.size, 2, none⟩ = some (.int .u64 lo) := (World.cell?_of_block (hrow8.kept wz.heap.size (by omega) (fun e => hG2 e.symm))).trans v2
                        have z3 : w8.cell? ⟨wz.heap.size, 3, none⟩ = some (.int .i64 pn) := (World.cell?_of_block (hrow8.kept wz.heap.size (by omega) (fun e => hG2 e.symm))).trans v3
                        have z4 : w8.cell? ⟨wz.heap.size, 4, none⟩ = some (.int .i64 src) := (World.cell?_of_block (hrow8.kept wz.heap.size (by omega) (fun e => hG2 e.symm))).trans v4
                        have z5 : w8.cell? ⟨wz.heap.size, 5, none⟩ = some (.int .i64 peer) := (World.cell?_of_block (hrow8.kept wz.heap.size (by omega) (fun e => hG2 e.symm))).trans v5
                        have z6 : w8.cell? ⟨wz.heap.size, 6, none⟩ = some (.int .i64 met) := (World.cell?_of_block (hrow8.kept wz.heap.size (by omega) (fun e => hG2 e.symm))).trans v6
                        have z7 : w8.cell? ⟨wz.heap.size, 7, none⟩ = some (.int .i64 hop) := (World.cell?_of_block (hrow8.kept wz.heap.size (by omega) (fun e => hG2 e.symm))).trans v7
                        have HB8 : Hid (Below wo.heap.size wo w8) := HB7.out.trans hrow8.below
                        have hblk := hrow8.blk
                        have hown8 := hrow8.own
                        rcases hrow8.own.2 with ⟨_, hn0⟩ | ⟨g, cap, cur, rfl, hg, _, hnc8, hcm8, _, _⟩
                        · omega
                        have hgz : ¬ g = wz.heap.size := by
                          rcases hblk g rfl with h | h
                          · omega
                          · omega
                        have HO8 : Hid (w8.ownsRow wo.heap.size 44 8 (.slice (some ⟨g, 0, none⟩) (ml + 1) cap) (ml + 1) ((m ++ [(⟨⟨six, hi, lo, pn⟩, src, peer, met, hop⟩ : OffV)]).flatMap OffV.cells)) := by
                          show World.ownsRow _ _ _ _ _ _ _
                          rw [List.flatMap_append]
                          exact hown8
                        clear hrow8 hk8 hblk hown8
                        by_cases hcp : cap = t + 1
                        · subst hcp
                          have HO8D := Lib.hid (own_below HO8.out (Below.refl _ _).drew)
                          go_wp2_with fail
                          go_region_law (refine step_copy_K rfl _ _ 24 24 rfl 44 8 Try.underlying24 infoOffSize (some ⟨g, 0, none⟩) (some ⟨g, t * 8, none⟩) 0 0 (ml + 1 - t) 1 (by simp [Act.eval, Act.put]) (by simp [Act.eval, Act.put]) wo.heap.size g _ (ml + 1) _ HO8D.out ((t + 1) * 8) (t * 8) (ml - t) (by simp only [Nat.min_def]; split <;> omega) (by intro h0; first | (exfalso; omega) | exact ⟨rfl, _, rfl, fun j => add_off g (t * 8) j⟩) (by omega) (by omega) (off_one _) ?_; intro w9 ho9 hg9 hs9)
                          have HO9 := Lib.hid ho9.out
                          have HB9 : Hid (Below wo.heap.size wo w9) := by first | exact HB8.out.grown hg9 HB8.out.size (fun j hj => by injection hj with hj; omega) | exact HB8.out.drew.grown hg9 HB8.out.size (fun j hj => by injection hj with hj; omega)
                          have y0 := (grown_cells hg9 wz.heap.size 0 (by show wz.heap.size < w8.heap.size; omega) (fun e => hgz e.symm)).trans z0
                          have y1 := (grown_cells hg9 wz.heap.size 1 (by show wz.heap.size < w8.heap.size; omega) (fun e => hgz e.symm)).trans z1
                          have y2 := (grown_cells hg9 wz.heap.size 2 (by show wz.heap.size < w8.heap.size; omega) (fun e => hgz e.symm)).trans z2
                          have y3 := (grown_cells hg9 wz.heap.size 3 (by show wz.heap.size < w8.heap.size; omega) (fun e => hgz e.symm)).trans z3
                          have y4 := (grown_cells hg9 wz.heap.size 4 (by show wz.heap.size < w8.heap.size; omega) (fun e => hgz e.symm)).trans z4
                          have y5 := (grown_cells hg9 wz.heap.size 5 (by show wz.heap.size < w8.heap.size; omega) (fun e => hgz e.symm)).trans z5
                          have y6 := (grown_cells hg9 wz.heap.size 6 (by show wz.heap.size < w8.heap.size; omega) (fun e => hgz e.symm)).trans z6
                          have y7 := (grown_cells hg9 wz.heap.size 7 (by show wz.heap.size < w8.heap.size; omega) (fun e => hgz e.symm)).trans z7
                          clear ho9 hg9
                          go_wp2_with (refine wpList_store_K (o := ⟨none, .store 44 _ _, _, _, _, _⟩) rfl _ _ _ rfl wo.heap.size g _ (ml + 1) 8 (t * 8) _ [.bool six, .int .u64 hi, .int .u64 lo, .int .i64 pn, .int .i64 src, .int .i64 peer, .int .i64 met, .int .i64 hop] HO9.out _ rfl (by simp) rfl rfl infoOffSize (by omega) (by intro u hu; simp at hu; rcases hu with rfl | rfl | rfl | rfl | rfl | rfl | rfl | rfl <;> rfl) ?_)
                          intro w10 ho10 hg10 hs10
                          have HB10 : Hid (Below wo.heap.size wo w10) := HB9.out.grown hg10 HB9.out.size (fun j hj => by injection hj with hj; omega)
                          have hnlen : (m.take t ++ (⟨⟨six, hi, lo, pn⟩, src, peer, met, hop⟩ : OffV) :: m.drop t).length = ml + 1 := by
                            have e := congrArg List.length (List.take_append_drop t m)
                            rw [List.length_append] at e
                            rw [List.length_append, List.length_cons]
                            have := HML.out
                            omega
                          have HO10 := Lib.hid ho10.out
                          have HSP := Lib.hid (splice_ins (f := OffV.cells) OffV.cells_length m (⟨⟨six, hi, lo, pn⟩, src, peer, met, hop⟩ : OffV) t (by have := HML.out; omega))
                          rw [HML.out] at HSP
                          have HO11 : Hid (w10.ownsRow wo.heap.size 44 8 (.slice (some ⟨g, 0, none⟩) (ml + 1) (t + 1)) (m.take t ++ (⟨⟨six, hi, lo, pn⟩, src, peer, met, hop⟩ : OffV) :: m.drop t).length ((m.take t ++ (⟨⟨six, hi, lo, pn⟩, src, peer, met, hop⟩ : OffV) :: m.drop t).flatMap OffV.cells)) := by
                            show World.ownsRow _ _ _ _ _ _ _
                            rw [hnlen, ← HSP.out]
                            first | exact HO10.out | (simp only [List.flatMap_append, List.flatMap_cons, List.flatMap_nil, List.append_nil]; exact HO10.out)
                          clear ho10 hg10
                          go_wp2
                          go_roundw
                          case rel => exact ⟨k + 1, m.take t ++ (⟨⟨six, hi, lo, pn⟩, src, peer, met, hop⟩ : OffV) :: m.drop t, by omega, by go_num, HOUT.out.put HAL.out HND.out HG.out HLKO.out HX.out HLO.out HHI.out, by omega, HO11, HB10⟩
                          case measure => simp [intOf]; omega
                        · have hcp2 : ¬ cap = t := by omega
                          have HO8D := Lib.hid (own_below HO8.out (Below.refl _ _).drew)
                          go_wp2_with fail
                          go_region_law (refine step_copy_K rfl _ _ 24 24 rfl 44 8 Try.underlying24 infoOffSize (some ⟨g, (t + 1) * 8, none⟩) (some ⟨g, t * 8, none⟩) (ml - t) (cap - (t + 1)) (ml + 1 - t) (cap - t) (by simp [Act.eval, Act.put]) (by simp [Act.eval, Act.put]) wo.heap.size g _ (ml + 1) _ HO8D.out ((t + 1) * 8) (t * 8) (ml - t) (by simp only [Nat.min_def]; split <;> omega) (by intro h0; first | (exfalso; omega) | exact ⟨rfl, _, rfl, fun j => add_off g (t * 8) j⟩) (by omega) (by omega) (off_one _) ?_; intro w9 ho9 hg9 hs9)
                          have HO9 := Lib.hid ho9.out
                          have HB9 : Hid (Below wo.heap.size wo w9) := by first | exact HB8.out.grown hg9 HB8.out.size (fun j hj => by injection hj with hj; omega) | exact HB8.out.drew.grown hg9 HB8.out.size (fun j hj => by injection hj with hj; omega)
                          have y0 := (grown_cells hg9 wz.heap.size 0 (by show wz.heap.size < w8.heap.size; omega) (fun e => hgz e.symm)).trans z0
                          have y1 := (grown_cells hg9 wz.heap.size 1 (by show wz.heap.size < w8.heap.size; omega) (fun e => hgz e.symm)).trans z1
                          have y2 := (grown_cells hg9 wz.heap.size 2 (by show wz.heap.size < w8.heap.size; omega) (fun e => hgz e.symm)).trans z2
                          have y3 := (grown_cells hg9 wz.heap.size 3 (by show wz.heap.size < w8.heap.size; omega) (fun e => hgz e.symm)).trans z3
                          have y4 := (grown_cells hg9 wz.heap.size 4 (by show wz.heap.size < w8.heap.size; omega) (fun e => hgz e.symm)).trans z4
                          have y5 := (grown_cells hg9 wz.heap.size 5 (by show wz.heap.size < w8.heap.size; omega) (fun e => hgz e.symm)).trans z5
                          have y6 := (grown_cells hg9 wz.heap.size 6 (by show wz.heap.size < w8.heap.size; omega) (fun e => hgz e.symm)).trans z6
                          have y7 := (grown_cells hg9 wz.heap.size 7 (by show wz.heap.size < w8.heap.size; omega) (fun e => hgz e.symm)).trans z7
                          clear ho9 hg9
                          go_wp2_with (refine wpList_store_K (o := ⟨none, .store 44 _ _, _, _, _, _⟩) rfl _ _ _ rfl wo.heap.size g _ (ml + 1) 8 (t * 8) _ [.bool six, .int .u64 hi, .int .u64 lo, .int .i64 pn, .int .i64 src, .int .i64 peer, .int .i64 met, .int .i64 hop] HO9.out _ rfl (by simp) rfl rfl infoOffSize (by omega) (by intro u hu; simp at hu; rcases hu with rfl | rfl | rfl | rfl | rfl | rfl | rfl | rfl <;> rfl) ?_)
                          intro w10 ho10 hg10 hs10
                          have HB10 : Hid (Below wo.heap.size wo w10) := HB9.out.grown hg10 HB9.out.size (fun j hj => by injection hj with hj; omega)
                          have hnlen : (m.take t ++ (⟨⟨six, hi, lo, pn⟩, src, peer, met, hop⟩ : OffV) :: m.drop t).length = ml + 1 := by
                            have e := congrArg List.length (List.take_append_drop t m)
                            rw [List.length_append] at e
                            rw [List.length_append, List.length_cons]
                            have := HML.out
                            omega
                          have HO10 := Lib.hid ho10.out
                          have HSP := Lib.hid (splice_ins (f := OffV.cells) OffV.cells_length m (⟨⟨six, hi, lo, pn⟩, src, peer, met, hop⟩ : OffV) t (by have := HML.out; omega))
                          rw [HML.out] at HSP
                          have HO11 : Hid (w10.ownsRow wo.heap.size 44 8 (.slice (some ⟨g, 0, none⟩) (ml + 1) cap) (m.take t ++ (⟨⟨six, hi, lo, pn⟩, src, peer, met, hop⟩ : OffV) :: m.drop t).length ((m.take t ++ (⟨⟨six, hi, lo, pn⟩, src, peer, met, hop⟩ : OffV) :: m.drop t).flatMap OffV.cells)) := by
                            show World.ownsRow _ _ _ _ _ _ _
                            rw [hnlen, ← HSP.out]
                            first | exact HO10.out | (simp only [List.flatMap_append, List.flatMap_cons, List.flatMap_nil, List.append_nil]; exact HO10.out)
                          clear ho10 hg10
                          go_wp2
                          go_roundw
                          case rel => exact ⟨k + 1, m.take t ++ (⟨⟨six, hi, lo, pn⟩, src, peer, met, hop⟩ : OffV) :: m.drop t, by omega, by go_num, HOUT.out.put HAL.out HND.out HG.out HLKO.out HX.out HLO.out HHI.out, by omega, HO11, HB10⟩
                          case measure => simp [intOf]; omega

            · obtain rfl : k = na := by omega
              go_wp2
              (try go_ret2)
              rw [← HP.out]
              rw [← HNA.out] at HOUT
              exact bestPost_ok HF.out (HOUT.out.done HAL.out) (by omega) (own_mono HROW.out HB.out.size) (below_step HB.out HB4.out)

end Go.Proofs.Ytmljdjakbbedlaa
