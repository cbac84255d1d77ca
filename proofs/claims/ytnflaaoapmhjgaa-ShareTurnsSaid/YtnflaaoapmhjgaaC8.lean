/-
  
  
  
-/
import Derived.Test.YtnflaaoapmhjgaaChecked
import Derived.Test.YtnflaaoapmhjgaaC2
import Derived.Test.YtnflaaoapmhjgaaC7
namespace Go.Proofs.Ytnflaaoapmhjgaa
open Go.ChangeShapes Go.WideShapes Go.ChangeAt Go.RowKit

set_option maxRecDepth 100000 in
set_option maxHeartbeats 800000 in
theorem sameInts_any (A A' : Option Addr) (n c n' c' : Nat) (l l' : List Int) (w : World) (hz : l.length = n) (hz' : l'.length = n') (hm : n ≤ maxLen) (hm' : n' ≤ maxLen)
    (hr : Reads w w.heap.size 1 A n (l.map (Value.int .i64))) (hr' : Reads w w.heap.size 1 A' n' (l'.map (Value.int .i64))) :
    Calls Try.prog 36 #[.slice A n c, .slice A' n' c'] w fun e w' => e = .returned (.bool (decide (l = l'))) ∧ Below w.heap.size w w' := by
  unfold maxLen at hm hm'
  by_cases hnn : n = n'
  · subst hnn
    have HZ := Lib.hid hz
    have HZ' := Lib.hid hz'
    have HR := Lib.hid hr
    have HR' := Lib.hid hr'
    obtain ⟨d, hd⟩ : ∃ d, d = decide (l = l') := ⟨_, rfl⟩
    rw [← hd]
    have HD := Lib.hid hd
    clear hz hz' hr hr' hm' hd
    go_enter Try.func36, Try.ntmps36
    go_wp2
    go_loopw [5, 4] (fun i _ wr => ∃ k : Nat, k ≤ n ∧ i = .int .i64 k ∧ l.take k = l'.take k ∧ Below w.heap.size w wr) (fun i _ _ => n - (intOf i).toNat)
    case atStart => exact ⟨0, by omega, rfl, rfl, Below.refl _ _⟩
    case round =>
      obtain ⟨k, hk, rfl, hto, hb⟩ := hrel
      have HT := Lib.hid hto
      clear hto
      by_cases hlt : k < n
      · obtain ⟨ad, x, rfl, hcx, htx, hlx, _⟩ := HR.out.at1 hlt
        have hbx : ad.block < w.heap.size := by
          obtain ⟨ad3, ha3, hb3, _⟩ := HR.out.2 (by omega)
          injection ha3 with ha3
          subst ha3
          exact hb3
        have q0 := (hb.cell (p := ad.add k) (by rw [block_of_add]; exact hbx)).trans hcx
        obtain ⟨ad', x', rfl, hcx', htx', hlx', _⟩ := HR'.out.at1 hlt
        have hbx' : ad'.block < w.heap.size := by
          obtain ⟨ad3, ha3, hb3, _⟩ := HR'.out.2 (by omega)
          injection ha3 with ha3
          subst ha3
          exact hb3
        have q1 := (hb.cell (p := ad'.add k) (by rw [block_of_add]; exact hbx')).trans hcx'
        have HTK := Lib.hid htx
        have HL := Lib.hid hlx
        have HTK' := Lib.hid htx'
        have HL' := Lib.hid hlx'
        have HBO := Lib.hid hb
        clear hcx htx hlx hcx' htx' hlx' hb
        by_cases he : x = x'
        · have HN : Hid (l.take (k + 1) = l'.take (k + 1)) := by show _ = _; rw [HTK.out, HTK'.out, HT.out, he]
          have he1 : (x == x') = true := by simpa using he
          have he2 : (x != x') = false := by simpa using he
          clear he
          go_wp2
          go_quiet (fail)
          go_wp2
          go_roundw
          case rel => exact ⟨k + 1, by omega, by go_num, HN.out, below_drewN HBO.out _⟩
          case measure => simp [intOf]; omega
        · have he1 : (x == x') = false := by simpa using he
          have he2 : (x != x') = true := by simpa using he
          have HN : Hid (d = false) := by
            show _ = _
            rw [HD.out, decide_eq_false_iff_not]
            intro h
            subst h
            have h1 := HL'.out
            rw [HL.out] at h1
            injection h1 with h1
            exact he h1
          clear he
          go_wp2
          go_quiet (fail)
          go_wp2
          go_ret
          exact ⟨by rw [HN.out]; rfl, below_drewN HBO.out _⟩
      · obtain rfl : k = n := by omega
        have HN : Hid (d = true) := by
          show _ = _
          rw [HD.out, decide_eq_true_iff]
          have := HT.out
          rwa [List.take_of_length_le (by rw [HZ.out]; omega), List.take_of_length_le (by rw [HZ'.out]; omega)] at this
        go_wp2
        go_ret
        exact ⟨by rw [HN.out]; rfl, hb⟩
  · have hd : decide (l = l') = false := by rw [decide_eq_false_iff_not]; intro h; subst h; omega
    rw [hd]
    have hne : ¬ (n : Int) = n' := by omega
    clear hz hz' hr hr' hd
    go_enter Try.func36, Try.ntmps36
    go_wp2
    go_ret
    exact ⟨rfl, Below.refl _ _⟩

end Go.Proofs.Ytnflaaoapmhjgaa

namespace Go.Proofs.Ytnflaaoapmhjgaa
open Go.ChangeShapes Go.WideShapes Go.ChangeAt Go.RowKit

set_option maxRecDepth 100000 in
set_option maxHeartbeats 3200000 in
theorem deal_is {A : Option Addr} {n c : Nat} {l : List ShareV} {w : World} (h : IsShares w A n c l) (many : Int) :
    Calls Try.prog 37 #[.slice A n c, .int .i64 many] w (RetInts w (dealL l many) (dealE l many)) := by
  obtain ⟨post, hpost⟩ : ∃ post, RetInts w (dealL l many) (dealE l many) = post := ⟨_, rfl⟩
  have HPO := Lib.hid hpost
  rw [hpost]
  have CF := Lib.hid (sharesCheck_is h)
  have HS := Lib.hid h
  have hnc := h.2.1.1
  have hcm := h.2.1.2
  unfold maxLen at hcm
  clear hpost
  by_cases hz : sharesF l = 0
  · rw [hz] at CF
    have hok := sharesOk_of hz
    by_cases hm : many < 1 ∨ 64 < many
    · have hE : dealE l many = 2 := by unfold dealE; rw [if_neg (by simpa using hz), if_pos hm]
      have hL : dealL l many = [] := by unfold dealL; rw [if_neg (by simpa using hz), if_pos hm]
      rw [hE, hL] at HPO
      clear hE hL hz hok h
      by_cases h1 : many < 1
      · have d1 : decide (many < 1) = true := by simpa using h1
        clear hm h1
        go_enter Try.func37, Try.ntmps37
        go_wp2_with fail
        refine CF.out.mono ?_
        rintro e w1 ⟨rfl, hb⟩
        go_wp2
        rw [← HPO.out]
        exact retInts_nil hb
      · have d1 : decide (many < 1) = false := by simpa using h1
        have d2 : decide (64 < many) = true := by simp; omega
        clear hm h1
        go_enter Try.func37, Try.ntmps37
        go_wp2_with fail
        refine CF.out.mono ?_
        rintro e w1 ⟨rfl, hb⟩
        go_wp2
        rw [← HPO.out]
        exact retInts_nil hb
    · have hE : dealE l many = 0 := by unfold dealE; rw [if_neg (by simpa using hz), if_neg hm]
      have hL : dealL l many = dealTo l (partsS l many) n := by unfold dealL; rw [if_neg (by simpa using hz), if_neg hm, h.1]
      rw [hE, hL] at HPO
      have hm2 : 1 ≤ many ∧ many ≤ 64 := by omega
      have d1 : decide (many < 1) = false := by simp; omega
      have d2 : decide (64 < many) = false := by simp; omega
      have hpr := parts_range (many := many) hok hm2
      have hpl := parts_length l many
      rw [h.1] at hpl
      have hn := hok.len
      rw [h.1] at hn
      have CP := Lib.hid (fun (Y : World) (hb : Below w.heap.size w Y) => parts_any (h.below hb) hok many hm2)
      obtain ⟨ps, hps⟩ : ∃ ps, partsS l many = ps := ⟨_, rfl⟩
      unfold PartsPost at CP
      rw [hps] at hpr hpl HPO CP
      rw [h.1] at CP
      have HPR := Lib.hid hpr
      have HPL := Lib.hid hpl
      clear hE hL hz hok h hm hpr hpl hps
      go_enter Try.func37, Try.ntmps37
      go_wp2_with fail
      refine CF.out.mono ?_
      rintro e w1 ⟨rfl, hb1⟩
      have HB1 := Lib.hid hb1
      clear hb1
      go_wp2_with fail
      refine (CP.out _ HB1.out).mono ?_
      rintro e w2 ⟨v, rfl, hown, hb2⟩
      obtain ⟨ap, cp, rfl, -, hap, hcp⟩ := own_at hown (by omega)
      have HB2 := Lib.hid (below_step HB1.out hb2)
      have HCP := Lib.hid hcp
      have HR := Lib.hid (((HS.out.2.2.below HB2.out).more HB2.out.size))
      have HZ := Lib.hid HS.out.1
      clear hown hb2 hcp
      go_wp2
      go_loopw [25, 7, 8, 9] (fun i v _ _ wr => ∃ k : Nat, k ≤ n ∧ i = .int .i64 k ∧ wr.ownsRow w2.heap.size 3 1 v (dealTo l ps k).length ((dealTo l ps k).map (Value.int .i64)) ∧ Below w2.heap.size w2 wr) (fun i _ _ _ _ => n - (intOf i).toNat)
      case atStart => exact ⟨0, by omega, rfl, World.ownsRow_nil _ _ _ _, Below.refl _ _⟩
      case round =>
        obtain ⟨k, hk, rfl, hown, hb⟩ := hrel
        obtain ⟨wo, rfl⟩ : ∃ wo : World, wo = wr := ⟨_, rfl⟩
        have HO := Lib.hid hown
        have HB := Lib.hid hb
        by_cases hlt : k < n
        · have i1 : (0 : Int) ≤ (k : Int) := by omega
          have i2 : (k : Int) < (n : Int) := by omega
          have y1 := (hb.cell (p := ap.add k) (by rw [block_of_add]; exact hap)).trans (HCP.out k hlt)
          obtain ⟨N, hN⟩ : ∃ N : Nat, ps[k]?.getD 0 = (N : Int) := ⟨(ps[k]?.getD 0).toNat, by have := (HPR.out k).1; omega⟩
          have hN2 : N ≤ 1300 := by have := (HPR.out k).2; omega
          have hsucc := dealTo_succ l ps k
          rw [hN] at y1 hsucc
          have hlk : (dealTo l ps k).length ≤ 1300 * k := dealTo_len (fun i => (HPR.out i).2) k
          obtain ⟨H, hH⟩ : ∃ H, hopN l k = H := ⟨_, rfl⟩
          rw [hH] at hsucc
          obtain ⟨D, hD⟩ : ∃ D, dealTo l ps k = D := ⟨_, rfl⟩
          rw [hD] at hsucc HO hlk
          have HSU := Lib.hid hsucc
          have HH := Lib.hid hH
          clear hown hb hN hsucc hH hD
          obtain ⟨ad, ⟨hop, wt⟩, rfl, hlk2, -, -, hbk, hc0, hcj⟩ := HR.out.atS ShareV.cells_length HZ.out hlt
          have q0 := (HB.out.cell (p := ad.add (k * 2)) (by rw [block_of_add]; exact hbk)).trans (hc0 _ rfl)
          have hhop : hop = H := by rw [← HH.out]; unfold hopN; rw [hlk2]; rfl
          subst hhop
          have CR := Lib.hid (repeat_any (w := wo.alloc (.cells #[.int .i64 hop] 3)) (gx := wo.heap.size) hop N (by omega) (by rw [(Blk.new wo 3 #[.int .i64 hop]).cell]; rfl) (by simp))
          unfold RepPost at CR
          have hlk3 : D.length ≤ 30000 := by omega
          clear hlk2 hbk hc0 hcj hlk
          go_wp2_with fail
          refine CR.out.mono ?_
          rintro e w4 ⟨v4, rfl, hown4, hb4⟩
          obtain ⟨A4, c4, rfl, -, hr4⟩ := own_reads hown4
          have HX4 := Lib.hid (own_below (own_below HO.out ((Below.refl _ _).alloc (Nat.le_refl _) (.cells #[.int .i64 hop] 3))) hb4)
          have HR4 := Lib.hid hr4
          have HB4 : Hid (Below w2.heap.size w2 w4) := (HB.out.alloc HB.out.size _).trans (hb4.mono (by simp; have := HB.out.size; omega))
          clear hown4 hb4 hr4
          go_wp2_with (at_builtin; go_loud (refine wpList_append_reads rfl _ _ 33 rfl w2.heap.size 3 _ 1 8 Try.underlying33 infoInt1 rfl (by decide) _ _ _ rfl _ _ _ rfl HX4.out _ _ HR4.out ?c1 ?c2 ?c3 ?c4 ?_))
          case c1 => intro u hu; obtain ⟨_, rfl⟩ := List.mem_replicate.1 hu; rfl
          case c2 => unfold maxLen; omega
          case c3 => omega
          case c4 => exact HB4.out.size
          intro v9 w9 hown9 hb9
          have HO9 := Lib.hid hown9
          have HB9 := Lib.hid (HB4.out.trans hb9)
          clear hown9 hb9
          go_wp2
          go_roundw
          case rel =>
            refine ⟨k + 1, by omega, by go_num, ?_, HB9.out⟩
            have hlq : (D ++ List.replicate N hop).length = D.length + N := by simp
            rw [HSU.out, Int.toNat_natCast, hlq, List.map_append, List.map_replicate]
            exact HO9.out
          case measure => simp [intOf]; omega
        · obtain rfl : k = n := by omega
          go_wp2
          rw [← HPO.out]
          exact ⟨_, rfl, own_low2 HO.out HB2.out.size, below_step HB2.out HB.out⟩
  · have hE : dealE l many = sharesF l := by unfold dealE; rw [if_pos hz]
    have hL : dealL l many = [] := by unfold dealL; rw [if_pos hz]
    rw [hE, hL] at HPO
    obtain ⟨E, hEE⟩ : ∃ E, sharesF l = E := ⟨_, rfl⟩
    rw [hEE] at CF hz HPO
    have d1 : (E != 0) = true := by simpa using hz
    clear hE hL hEE hz h
    go_enter Try.func37, Try.ntmps37
    go_wp2_with fail
    refine CF.out.mono ?_
    rintro e w1 ⟨rfl, hb⟩
    go_wp2
    rw [← HPO.out]
    exact retInts_nil hb


end Go.Proofs.Ytnflaaoapmhjgaa

namespace Go.Proofs.Ytnflaaoapmhjgaa
open Go.ChangeShapes Go.WideShapes Go.ChangeAt Go.RowKit

theorem deal_len (l : List ShareV) (many : Int) : (dealL l many).length ≤ 100000 := by
  unfold dealL
  by_cases hz : sharesF l = 0
  · rw [if_neg (by simpa using hz)]
    by_cases hm : many < 1 ∨ 64 < many
    · rw [if_pos hm]; simp
    · rw [if_neg hm]
      have hok := sharesOk_of hz
      have := dealTo_len (l := l) (fun i => (parts_range (many := many) hok (by omega) i).2) l.length
      have := hok.len
      omega
  · rw [if_pos hz]; simp

set_option maxRecDepth 100000 in
set_option maxHeartbeats 800000 in
theorem shareDeals_walk {H : Type} {enc : TypeId × Value → H} (W : World) (vs : Array Value) (ds : List (DataW H)) (ps : List MemPlace) (h : ArgsOk Try.prog [66, 3] H enc W vs.toList ds ps) :
    Calls Try.prog 7 vs W fun e W' => e = .returned (.bool true) ∧ Below W.heap.size W W' := by
  obtain ⟨hA, ⟨base, hval⟩, _, _⟩ := h
  obtain ⟨v0, v1, d0, d1, p0, p1, e0, _, _, h0, h1⟩ := trodAll_two hA
  obtain ⟨a0, n, c, rfl⟩ := okWide_slice Try.underlying66 (hval 0 _ v0 rfl (by rw [e0]; rfl))
  obtain ⟨many, rfl, _, _, wh⟩ := open_int Try.underlying3 (hval 1 _ v1 rfl (by rw [e0]; rfl)) h1
  obtain ⟨l, hr⟩ := open_shares h0
  obtain rfl : vs = #[.slice a0 n c, .int .i64 many] := by cases vs; simp_all
  have C1 := Lib.hid (fun (w : World) (hb : Below W.heap.size W w) => deal_is (hr.below hb) many)
  have C2 := Lib.hid (fun (w : World) (hb : Below W.heap.size W w) => refDeal_is (hr.below hb) many)
  have hlen := deal_len l many
  unfold RetInts at C1 C2
  generalize dealL l many = L at *
  generalize dealE l many = E at *
  clear hr h0 h1 hA hval e0 wh
  go_enter Try.func7, Try.ntmps7
  go_wp2_with fail
  refine (C1.out _ (Below.refl _ _)).mono ?_
  rintro e w1 ⟨v, rfl, hown, hb1⟩
  have HB := Lib.hid hb1
  have HO1 := Lib.hid hown
  clear hb1 hown
  go_wp2_with fail
  refine (C2.out _ HB.out).mono ?_
  rintro e w2 ⟨v', rfl, hown2, hb2⟩
  have hO1 := own_below HO1.out hb2
  obtain ⟨A1, c1, rfl, -, hr1⟩ := own_reads hO1
  obtain ⟨A2, c2, rfl, -, hr2⟩ := own_reads hown2
  have HB2 := Lib.hid (below_step HB.out hb2)
  have CS := Lib.hid (fun (w' : World) (hb : Below w2.heap.size w2 w') => sameInts_any A1 A2 L.length c1 L.length c2 L L w' rfl rfl (by unfold maxLen; omega) (by unfold maxLen; omega) ((hr1.below hb).more hb.size) ((hr2.below hb).more hb.size))
  rw [decide_eq_true rfl] at CS
  clear hb2 hO1 hr1 hr2 hown2
  go_wp2_with fail
  refine (CS.out _ (Below.refl _ _)).mono ?_
  rintro e w3 ⟨rfl, hb3⟩
  have HB3 := Lib.hid (below_step HB2.out hb3)
  clear hb3
  go_wp2
  go_ret
  exact ⟨by simp, HB3.out⟩

end Go.Proofs.Ytnflaaoapmhjgaa
