/-
  
-/
import Derived.Test.YtmljdjakbbedlaaC21
import Derived.Test.YtmljdjakbbedlaaC19
import Derived.Test.YtmljdjakbbedlaaC17
import Derived.Test.YtmljdjakbbedlaaC15
namespace Go.Proofs.Ytmljdjakbbedlaa
open Go.ChangeShapes Go.WideShapes Go.ChangeAt Go.RowKit

theorem refOver_off (p q : PV) (hp : p.Ok) (hq : q.Ok) (w : World) : Calls Try.prog 80 #[p.val, q.val] w fun e w' => e = .returned (.bool (p.over q)) ∧ Below w.heap.size w w' := by
  have hn := Pfx.len hp
  obtain ⟨six, hi, lo, n⟩ := p
  obtain ⟨six', hi', lo', n'⟩ := q
  obtain ⟨k, rfl⟩ : ∃ k : Nat, n = (k : Int) := ⟨n.toNat, by simp only at hn; omega⟩
  exact refOver_any six hi lo k six' hi' lo' n' w hp (Pfx.rhi hq) (Pfx.rlo hq) (Pfx.may hq)
/-- None of the first t hides it. -/
def staysTo (m : List OffV) (o : OffV) (t : Nat) : Bool := (m.take t).all fun b => !(decide (o.src = 4) && overO o b)
theorem stays_all {m : List OffV} {o : OffV} {t : Nat} (h : m.length ≤ t) : staysTo m o t = !hidB m o := by
  unfold staysTo hidB
  rw [List.take_of_length_le h]
  induction m with
  | nil => simp
  | cons b l ih =>
    rw [List.all_cons, List.any_cons, ih (by simp at h; omega)]
    cases decide (o.src = 4) <;> cases overO o b <;> simp
theorem stays_succ {m : List OffV} {o b : OffV} {t : Nat} (h : m.take (t + 1) = m.take t ++ [b]) : staysTo m o (t + 1) = (staysTo m o t && !(decide (o.src = 4) && overO o b)) := by
  unfold staysTo
  rw [h, List.all_append]
  simp

set_option maxRecDepth 100000 in
set_option maxHeartbeats 6400000 in
theorem refTable_any {A : Option Addr} {n c : Nat} {l : List OffV} {w : World} (h : IsOffs w A n c l) : Calls Try.prog 31 #[.slice A n c] w (TabPost w l) := by
  have C1 := Lib.hid (refBest_is h)
  have HRW := Lib.hid h.2.2.1
  obtain ⟨post, hpost⟩ : ∃ post, TabPost w l = post := ⟨_, rfl⟩
  have HP := Lib.hid hpost
  rw [hpost]
  clear h hpost
  unfold BestPost at C1
  by_cases hf : offsF l = 0
  rotate_left
  · have HF := Lib.hid hf
    obtain ⟨f, hff⟩ : ∃ f, offsF l = f := ⟨_, rfl⟩
    rw [hff] at C1 hf
    have HFF := Lib.hid hff
    have d0 : (f != 0) = true := by simpa using hf
    clear hff
    go_enter Try.func31, Try.ntmps31
    go_wp2_with fail
    refine C1.out.mono ?_
    rintro e w1 ⟨v1, m, rfl, hm, _, _, hb1⟩
    have HB1 := Lib.hid hb1
    have HM := Lib.hid hm
    clear hb1 hm
    go_wp2
    (try go_ret2)
    rw [← HP.out, ← HFF.out]
    exact tabPost_bad HF.out HM.out HB1.out
  have HF := Lib.hid hf
  rw [hf] at C1
  clear hf
  go_enter Try.func31, Try.ntmps31
  go_wp2_with fail
  refine C1.out.mono ?_
  rintro e w1 ⟨v1, m, rfl, hm, hlen, hd1, hb1⟩
  obtain ⟨A1, c1, rfl, hc1, hr1⟩ := own_reads hd1
  have hc1l := hc1.1
  have hc1m := hc1.2
  unfold maxLen at hc1m
  have HBL := Lib.hid hm
  have HGM : Hid (∀ o ∈ m, o.Good) := fun o ho => offs_good HF.out HRW.out o ((((hm.1 HF.out).2 o).1 ho).1.mem)
  have HR := Lib.hid hr1
  have HB1 := Lib.hid hb1
  have hs1 := hb1.size
  obtain ⟨nm, hn⟩ : ∃ nm, m.length = nm := ⟨_, rfl⟩
  rw [hn] at HR hlen hc1l ⊢
  have HN := Lib.hid hn
  have htl := tabTo_length m
  clear hd1 hr1 hb1 hm hc1 hn C1
  go_wp2
  go_loopw [22, 6, 8, 9, 11] (fun i ov _ _ _ wr => ∃ k : Nat, k ≤ nm ∧ i = .int .i64 k ∧ Hid (wr.ownsRow w1.heap.size 48 5 ov (tabTo m k).length ((tabTo m k).flatMap RouteV.cells)) ∧ Hid (Below w1.heap.size w1 wr)) (fun i _ _ _ _ _ => nm - (intOf i).toNat)
  case atStart => exact ⟨0, by omega, rfl, World.ownsRow_nil _ _ _ _, Below.refl _ _⟩
  case round =>
    obtain ⟨k, hk, rfl, HROW, HB⟩ := hrel
    obtain ⟨wo, rfl⟩ : ∃ wo : World, wo = wr := ⟨_, rfl⟩
    have hszb := HB.out.size
    have htk := htl k
    by_cases hlt : k < nm
    · obtain ⟨ad, ⟨⟨six, hi, lo, pn⟩, src, peer, met, hop⟩, rfl, hlk, htk2, hmem, hbk, hc0, hcj⟩ := HR.out.atS OffV.cells_length HN.out hlt
      have q0 := (HB.out.cell (p := ad.add (k * 8)) (by rw [block_of_add]; exact hbk)).trans (hc0 _ rfl)
      have q1 := (HB.out.cell (p := ⟨(ad.add (k * 8)).block, (ad.add (k * 8)).off + 1, none⟩) (by rw [block_of_add]; exact hbk)).trans (hcj 1 _ rfl)
      have q2 := (HB.out.cell (p := ⟨(ad.add (k * 8)).block, (ad.add (k * 8)).off + 2, none⟩) (by rw [block_of_add]; exact hbk)).trans (hcj 2 _ rfl)
      have q3 := (HB.out.cell (p := ⟨(ad.add (k * 8)).block, (ad.add (k * 8)).off + 3, none⟩) (by rw [block_of_add]; exact hbk)).trans (hcj 3 _ rfl)
      have q4 := (HB.out.cell (p := ⟨(ad.add (k * 8)).block, (ad.add (k * 8)).off + 4, none⟩) (by rw [block_of_add]; exact hbk)).trans (hcj 4 _ rfl)
      have q5 := (HB.out.cell (p := ⟨(ad.add (k * 8)).block, (ad.add (k * 8)).off + 5, none⟩) (by rw [block_of_add]; exact hbk)).trans (hcj 5 _ rfl)
      have q6 := (HB.out.cell (p := ⟨(ad.add (k * 8)).block, (ad.add (k * 8)).off + 6, none⟩) (by rw [block_of_add]; exact hbk)).trans (hcj 6 _ rfl)
      have q7 := (HB.out.cell (p := ⟨(ad.add (k * 8)).block, (ad.add (k * 8)).off + 7, none⟩) (by rw [block_of_add]; exact hbk)).trans (hcj 7 _ rfl)
      have HSU := Lib.hid (tabTo_succ htk2)
      have HGO := Lib.hid (HGM.out _ hmem)
      clear hlk htk2 hmem hbk hc0 hcj
      go_wp2_with fail
      obtain ⟨wp, hwp⟩ : ∃ wn : World, wo.alloc (.cells #[.bool six, .int .u64 hi, .int .u64 lo, .int .i64 pn, .int .i64 src, .int .i64 peer, .int .i64 met, .int .i64 hop] 44) = wn := ⟨_, rfl⟩
      have p0 : wp.cell? ⟨wo.heap.size, 0, none⟩ = some (.bool six) := by rw [← hwp]; exact alloc_cellN (j := 0) rfl
      have p1 : wp.cell? ⟨wo.heap.size, 1, none⟩ = some (.int .u64 hi) := by rw [← hwp]; exact alloc_cellN (j := 1) rfl
      have p2 : wp.cell? ⟨wo.heap.size, 2, none⟩ = some (.int .u64 lo) := by rw [← hwp]; exact alloc_cellN (j := 2) rfl
      have p3 : wp.cell? ⟨wo.heap.size, 3, none⟩ = some (.int .i64 pn) := by rw [← hwp]; exact alloc_cellN (j := 3) rfl
      have p4 : wp.cell? ⟨wo.heap.size, 4, none⟩ = some (.int .i64 src) := by rw [← hwp]; exact alloc_cellN (j := 4) rfl
      have p5 : wp.cell? ⟨wo.heap.size, 5, none⟩ = some (.int .i64 peer) := by rw [← hwp]; exact alloc_cellN (j := 5) rfl
      have p6 : wp.cell? ⟨wo.heap.size, 6, none⟩ = some (.int .i64 met) := by rw [← hwp]; exact alloc_cellN (j := 6) rfl
      have p7 : wp.cell? ⟨wo.heap.size, 7, none⟩ = some (.int .i64 hop) := by rw [← hwp]; exact alloc_cellN (j := 7) rfl
      have HROWP : Hid (wp.ownsRow w1.heap.size 48 5 u6 (tabTo m k).length ((tabTo m k).flatMap RouteV.cells)) := by rw [← hwp]; exact HROW.out.alloc _
      have HBP : Hid (Below w1.heap.size w1 wp) := by rw [← hwp]; exact HB.out.alloc hszb _
      have hszp : wo.heap.size < wp.heap.size := by rw [← hwp]; simp
      rw [hwp]
      clear hwp
      go_loopw [28, 9, 11] (fun j bv _ wr => ∃ (t : Nat) (X : Bool), t ≤ nm ∧ j = .int .i64 t ∧ bv = .bool X ∧ Hid (X = staysTo m (⟨⟨six, hi, lo, pn⟩, src, peer, met, hop⟩ : OffV) t) ∧ Hid (Below wp.heap.size wp wr)) (fun j _ _ _ => nm - (intOf j).toNat)
      case atStart => exact ⟨0, _, by omega, rfl, rfl, (by show _ = _; unfold staysTo; simp), Below.refl _ _⟩
      case round =>
        obtain ⟨t, X, ht, rfl, rfl, HX, hb⟩ := hrel
        obtain ⟨wq, rfl⟩ : ∃ wq : World, wq = wr := ⟨_, rfl⟩
        have hszq := hb.out.size
        have r0 : wq.cell? ⟨wo.heap.size, 0, none⟩ = some (.bool six) := (hb.out.cell (p := ⟨wo.heap.size, 0, none⟩) hszp).trans p0
        have r1 : wq.cell? ⟨wo.heap.size, 1, none⟩ = some (.int .u64 hi) := (hb.out.cell (p := ⟨wo.heap.size, 1, none⟩) hszp).trans p1
        have r2 : wq.cell? ⟨wo.heap.size, 2, none⟩ = some (.int .u64 lo) := (hb.out.cell (p := ⟨wo.heap.size, 2, none⟩) hszp).trans p2
        have r3 : wq.cell? ⟨wo.heap.size, 3, none⟩ = some (.int .i64 pn) := (hb.out.cell (p := ⟨wo.heap.size, 3, none⟩) hszp).trans p3
        have r4 : wq.cell? ⟨wo.heap.size, 4, none⟩ = some (.int .i64 src) := (hb.out.cell (p := ⟨wo.heap.size, 4, none⟩) hszp).trans p4
        have r5 : wq.cell? ⟨wo.heap.size, 5, none⟩ = some (.int .i64 peer) := (hb.out.cell (p := ⟨wo.heap.size, 5, none⟩) hszp).trans p5
        have r6 : wq.cell? ⟨wo.heap.size, 6, none⟩ = some (.int .i64 met) := (hb.out.cell (p := ⟨wo.heap.size, 6, none⟩) hszp).trans p6
        have r7 : wq.cell? ⟨wo.heap.size, 7, none⟩ = some (.int .i64 hop) := (hb.out.cell (p := ⟨wo.heap.size, 7, none⟩) hszp).trans p7
        by_cases hlt3 : t < nm
        · obtain ⟨ad2, ⟨⟨six', hi', lo', pn'⟩, src', peer', met', hop'⟩, e2, hlk2, htk2, hmem2, hbk, hc0, hcj⟩ := HR.out.atS OffV.cells_length HN.out hlt3
          injection e2 with e2
          subst e2
          have hbq : Below w1.heap.size w1 wq := below_step HBP.out hb.out
          have x0 := (hbq.cell (p := ad.add (t * 8)) (by rw [block_of_add]; exact hbk)).trans (hc0 _ rfl)
          have x1 := (hbq.cell (p := ⟨(ad.add (t * 8)).block, (ad.add (t * 8)).off + 1, none⟩) (by rw [block_of_add]; exact hbk)).trans (hcj 1 _ rfl)
          have x2 := (hbq.cell (p := ⟨(ad.add (t * 8)).block, (ad.add (t * 8)).off + 2, none⟩) (by rw [block_of_add]; exact hbk)).trans (hcj 2 _ rfl)
          have x3 := (hbq.cell (p := ⟨(ad.add (t * 8)).block, (ad.add (t * 8)).off + 3, none⟩) (by rw [block_of_add]; exact hbk)).trans (hcj 3 _ rfl)
          have x4 := (hbq.cell (p := ⟨(ad.add (t * 8)).block, (ad.add (t * 8)).off + 4, none⟩) (by rw [block_of_add]; exact hbk)).trans (hcj 4 _ rfl)
          have x5 := (hbq.cell (p := ⟨(ad.add (t * 8)).block, (ad.add (t * 8)).off + 5, none⟩) (by rw [block_of_add]; exact hbk)).trans (hcj 5 _ rfl)
          have x6 := (hbq.cell (p := ⟨(ad.add (t * 8)).block, (ad.add (t * 8)).off + 6, none⟩) (by rw [block_of_add]; exact hbk)).trans (hcj 6 _ rfl)
          have x7 := (hbq.cell (p := ⟨(ad.add (t * 8)).block, (ad.add (t * 8)).off + 7, none⟩) (by rw [block_of_add]; exact hbk)).trans (hcj 7 _ rfl)
          have HTK3 := Lib.hid htk2
          have gq := HGM.out _ hmem2
          have hq4 := gq.src
          have CO := Lib.hid (fun w => refOver_off ⟨six', hi', lo', pn'⟩ ⟨six, hi, lo, pn⟩ gq.ok HGO.out.ok w)
          have HB6 : Hid (Below wp.heap.size wp (wq.alloc (.cells #[.bool six', .int .u64 hi', .int .u64 lo', .int .i64 pn', .int .i64 src', .int .i64 peer', .int .i64 met', .int .i64 hop'] 44))) := hb.out.alloc hszq _
          have hszo : wo.heap.size < wq.heap.size := by omega
          simp only at hq4
          clear hbk hc0 hcj hbq hmem2 hlk2 htk2 gq
          by_cases hs4 : src = 4
          · subst hs4
            by_cases hs5 : src' = 4
            · subst hs5
              have HXN : Hid (staysTo m (⟨⟨six, hi, lo, pn⟩, 4, peer, met, hop⟩ : OffV) (t + 1) = X) := by
                show _ = _
                rw [stays_succ HTK3.out, ← HX.out]
                unfold overO; simp
              go_wp2
              go_roundw
              case rel => exact ⟨t + 1, _, by omega, by go_num, rfl, HXN.out.symm, HB6⟩
              case measure => simp [intOf]; omega
            · have hd : decide (src' < 4) = true := by simp; omega
              obtain ⟨v, hv⟩ : ∃ v, PV.over ⟨six', hi', lo', pn'⟩ ⟨six, hi, lo, pn⟩ = v := ⟨_, rfl⟩
              have HV := Lib.hid hv
              rw [hv] at CO
              unfold PV.val at CO
              simp only at CO
              have HD5 := Lib.hid (decide_eq_false hs5)
              clear hv hs5
              go_wp2_with fail
              refine (CO.out _).mono ?_
              rintro e w8 ⟨rfl, hb8⟩
              have HB8 : Hid (Below wp.heap.size wp w8) := below_step HB6.out hb8
              clear hb8
              cases v with
              | true =>
                have HXN : Hid (staysTo m (⟨⟨six, hi, lo, pn⟩, 4, peer, met, hop⟩ : OffV) (t + 1) = false) := by
                  show _ = _
                  rw [stays_succ HTK3.out, ← HX.out]
                  unfold overO; rw [HV.out, HD5.out]; simp
                go_wp2
                go_roundw
                case rel => exact ⟨t + 1, _, by omega, by go_num, rfl, HXN.out.symm, HB8⟩
                case measure => simp [intOf]; omega
              | false =>
                have HXN : Hid (staysTo m (⟨⟨six, hi, lo, pn⟩, 4, peer, met, hop⟩ : OffV) (t + 1) = X) := by
                  show _ = _
                  rw [stays_succ HTK3.out, ← HX.out]
                  unfold overO; rw [HV.out]; simp
                go_wp2
                go_roundw
                case rel => exact ⟨t + 1, _, by omega, by go_num, rfl, HXN.out.symm, HB8⟩
                case measure => simp [intOf]; omega
          · have hd4 : (src == 4) = false := by simpa using hs4
            have HD4 := Lib.hid (decide_eq_false hs4)
            have HXN : Hid (staysTo m (⟨⟨six, hi, lo, pn⟩, src, peer, met, hop⟩ : OffV) (t + 1) = X) := by
              show _ = _
              rw [stays_succ HTK3.out, ← HX.out]
              rw [HD4.out]; simp
            go_wp2
            go_roundw
            case rel => exact ⟨t + 1, _, by omega, by go_num, rfl, HXN.out.symm, HB6⟩
            case measure => simp [intOf]; omega
        · obtain rfl : t = nm := by omega
          rw [stays_all (by rw [HN.out]; omega)] at HX
          have HROW5 : Hid (wq.ownsRow w1.heap.size 48 5 u6 (tabTo m k).length ((tabTo m k).flatMap RouteV.cells)) := own_below HROWP.out hb.out
          have HB5 : Hid (Below w1.heap.size w1 wq) := below_step HBP.out hb.out
          have hs5 : w1.heap.size ≤ wq.heap.size := HB5.out.size
          clear hb
          obtain ⟨hh, hhh⟩ : ∃ hh, hidB m (⟨⟨six, hi, lo, pn⟩, src, peer, met, hop⟩ : OffV) = hh := ⟨_, rfl⟩
          rw [hhh] at HX
          have HH := Lib.hid hhh
          have hx := HX.out
          subst hx
          clear hhh
          cases hh with
          | true =>
            have HO6 : Hid (wq.ownsRow w1.heap.size 48 5 u6 (tabTo m (k + 1)).length ((tabTo m (k + 1)).flatMap RouteV.cells)) := by
              show World.ownsRow _ _ _ _ _ _ _
              rw [HSU.out, HH.out, if_pos rfl, List.append_nil]
              exact HROW5.out
            go_wp2
            go_roundw
            case rel => exact ⟨k + 1, by omega, by go_num, HO6, HB5⟩
            case measure => simp [intOf]; omega
          | false =>
            go_wp2_with (at_builtin; go_loud (refine wpList_append_oneN (us := [.bool six, .int .u64 hi, .int .u64 lo, .int .i64 pn, .int .i64 hop]) rfl _ _ 26 rfl w1.heap.size _ 5 40 Try.underlying26 infoRouteO rfl (by decide) _ _ _ rfl rfl rfl HROW5.out hs5 rfl (by intro u hu; simp at hu; rcases hu with rfl | rfl | rfl | rfl | rfl <;> rfl) (by unfold maxLen; omega) (by omega) ?_))
            intro v6 w6 hown6 hb6 hs6 hk6
            have HO6 : Hid (w6.ownsRow w1.heap.size 48 5 v6 (tabTo m (k + 1)).length ((tabTo m (k + 1)).flatMap RouteV.cells)) := by
              show World.ownsRow _ _ _ _ _ _ _
              rw [HSU.out, HH.out, if_neg (by decide), List.length_append, List.flatMap_append]
              exact hown6
            have HB6 : Hid (Below w1.heap.size w1 w6) := HB5.out.trans (hb6.mono (by omega))
            clear hown6 hb6 hk6
            go_wp2
            go_roundw
            case rel => exact ⟨k + 1, by omega, by go_num, HO6, HB6⟩
            case measure => simp [intOf]; omega
    · obtain rfl : k = nm := by omega
      have HROWE : Hid (wo.ownsRow w1.heap.size 48 5 u6 (tabTo m m.length).length ((tabTo m m.length).flatMap RouteV.cells)) := by rw [HN.out]; exact HROW
      have hln : (tabTo m m.length).length = (tabTo m k).length := by rw [HN.out]
      obtain ⟨A6, c6, hv6, -, -⟩ := own_reads HROWE.out
      subst hv6
      obtain ⟨tl, htl6⟩ : ∃ tl, (tabTo m m.length).length = tl := ⟨_, rfl⟩
      rw [htl6] at HROWE ⊢
      have HTL := Lib.hid htl6
      have HBE := Lib.hid (below_step HB1.out HB.out)
      by_cases hbig : 60 < tl
      · have hdb : decide ((60 : Int) < (tl : Int)) = true := by simp; omega
        go_wp2
        (try go_ret2)
        rw [← HP.out]
        exact tabPost_full HF.out HBL.out (by rw [HTL.out]; exact hbig) HBE.out
      · have hdb : decide ((60 : Int) < (tl : Int)) = false := by simp; omega
        go_wp2
        (try go_ret2)
        rw [← HP.out]
        refine tabPost_ok HF.out HBL.out (by rw [HTL.out]; omega) ?_ HBE.out
        rw [HTL.out]
        exact own_mono HROWE.out hs1

set_option maxRecDepth 100000 in
set_option maxHeartbeats 1600000 in
theorem offerTables_core {W : World} {A : Option Addr} {n c : Nat} {l : List OffV} (hl : IsOffs W A n c l) :
    Calls Try.prog 9 #[.slice A n c] W fun e W' => e = .returned (.bool true) ∧ Below W.heap.size W W' := by
  have C1 := Lib.hid (table_any hl)
  have C2 := Lib.hid (fun (w : World) (hb : Below W.heap.size W w) => refTable_any (hl.below hb))
  have HRW := Lib.hid hl.2.2.1
  clear hl
  go_enter Try.func9, Try.ntmps9
  go_wp2_with fail
  refine C1.out.mono ?_
  rintro e w1 ⟨v1, R, f, rfl, ht1, hlen, hd1, hb1⟩
  have HD1 := Lib.hid hd1
  have HB1 := Lib.hid hb1
  clear hd1 hb1
  go_wp2_with fail
  refine (C2.out _ HB1.out).mono ?_
  rintro e w2 ⟨v2, R2, f2, rfl, ht2, _, hd2, hb2⟩
  obtain ⟨rfl, rfl⟩ := tabIs_unique HRW.out ht1 ht2
  obtain ⟨A2, c2, rfl, hc2, hr2⟩ := own_reads hd2
  obtain ⟨A1, c1, rfl, hc1, hr1⟩ := own_reads (own_below HD1.out hb2)
  have HB2 := Lib.hid (below_step HB1.out hb2)
  have CS := Lib.hid (sameRoutes_any A1 A2 R.length c1 R.length c2 R R w2 rfl rfl (by unfold maxLen; omega) (by unfold maxLen; omega) hr1 hr2)
  clear hd2 hb2 hr1 hr2 C1 C2 HD1 ht1 ht2 hc1 hc2
  go_wp2_with fail
  refine CS.out.mono ?_
  rintro e w3 ⟨rfl, hb3⟩
  have HB3 := Lib.hid (below_step HB2.out hb3)
  clear hb3 CS
  go_wp2
  go_ret
  exact ⟨by simp, HB3.out⟩

set_option maxRecDepth 100000 in
set_option maxHeartbeats 800000 in
theorem offerTables_walk {H : Type} {enc : TypeId × Value → H} (W : World) (vs : Array Value) (ds : List (DataW H)) (ps : List MemPlace) (h : ArgsOk Try.prog [24] H enc W vs.toList ds ps) :
    Calls Try.prog 9 vs W fun e W' => e = .returned (.bool true) ∧ Below W.heap.size W W' := by
  obtain ⟨hA, ⟨base, hval⟩, _, _⟩ := h
  obtain ⟨v0, d0, e0, _, h0⟩ := trodAll_one hA
  obtain ⟨a0, n, c, rfl⟩ := okWide_slice Try.underlying24 (hval 0 _ v0 rfl (by rw [e0]; rfl))
  obtain ⟨l, hr⟩ := open_offs h0
  obtain rfl : vs = #[.slice a0 n c] := by cases vs; simp_all
  exact offerTables_core hr

end Go.Proofs.Ytmljdjakbbedlaa
