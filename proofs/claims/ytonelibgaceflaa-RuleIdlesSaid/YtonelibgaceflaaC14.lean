/-
  
  
  
  
  
-/
import Derived.Test.YtonelibgaceflaaC12
import Derived.Test.YtonelibgaceflaaC9
import Derived.Test.YtonelibgaceflaaC2
import Derived.Test.YtonelibgaceflaaC8
import Derived.Test.YtonelibgaceflaaC1
import Derived.Test.YtonelibgaceflaaC3
import Derived.Test.YtonelibgaceflaaC7
namespace Go.Proofs.Ytonelibgaceflaa
open Go.ChangeShapes Go.WideShapes Go.ChangeAt Go.RowKit

theorem infoRuleF : (Try.prog.info? 125).map (fun i => (i.zero, i.size, i.bytes)) = some (some (.agg #[.bool false, .bool false, .int .u64 0, .int .u64 0, .int .i64 0, .int .i64 0, .int .i64 0]), 7, 56) := by kernel_rfl
def RuleV.p (r : RuleV) : PV := ⟨r.six, r.hi, r.lo, r.n⟩
def RuleV.at_ (r : RuleV) (wide : Int) : Bool := decide (r.least ≤ wide ∧ wide ≤ r.most)
/-- The prefixes of the rules that have a length among theirs. -/
def selR (l : List RuleV) (wide : Int) : List PV := (l.filter fun r => r.at_ wide).map RuleV.p
/-- A slice of rules that may be. -/
structure GoodR (w : World) (A : Option Addr) (n c : Nat) (l : List RuleV) : Prop where
  len : l.length = n
  few : n ≤ 30
  ok : ∀ r ∈ l, r.p.Ok ∧ r.n ≤ r.least
  reads : Reads w w.heap.size 7 A n (l.flatMap RuleV.cells)
theorem GoodR.below {w w' : World} {A : Option Addr} {n c : Nat} {l : List RuleV} (h : GoodR w A n c l) (hb : Below w.heap.size w w') : GoodR w' A n c l := ⟨h.len, h.few, h.ok, (h.reads.below hb).more hb.size⟩
/-- The rules of that length that lie below p. -/
def someR (p : PV) (wide : Int) (l : List RuleV) : List RuleV := l.filter fun r => r.at_ wide && p.over r.p
theorem someR_snoc {p : PV} {wide : Int} {l : List RuleV} {k : Nat} {r : RuleV} (h : l.take (k + 1) = l.take k ++ [r]) : someR p wide (l.take (k + 1)) = someR p wide (l.take k) ++ if (r.at_ wide && p.over r.p) = true then [r] else [] := by
  unfold someR
  rw [h, List.filter_append, List.filter_cons, List.filter_nil]
theorem someR_le (p : PV) (wide : Int) (l : List RuleV) : (someR p wide l).length ≤ l.length := List.length_filter_le _ _
theorem selR_some (p : PV) (wide : Int) (l : List RuleV) : selR (someR p wide l) wide = (someR p wide l).map RuleV.p := by
  unfold selR
  rw [List.filter_eq_self.2]
  intro r hr
  have := (List.mem_filter.1 hr).2
  rw [Bool.and_eq_true] at this
  exact this.1

/-- What the recursion hands down. -/
def FreeAt (K : Nat) : Prop :=
  ∀ (A : Option Addr) (n c : Nat) (l : List RuleV) (p : PV) (wide : Int) (w : World), p.Ok → p.k = K → GoodR w A n c l →
    Calls Try.prog 78 #[.slice A n c, p.val, .int .i64 wide] w fun e w' => e = .returned (.bool (freeB (selR l wide) p)) ∧ Below w.heap.size w w'

set_option maxRecDepth 100000 in
set_option maxHeartbeats 6400000 in
theorem free_step (K : Nat) (ih : ∀ K', K = K' + 1 → FreeAt K') : FreeAt K := by
  intro A n c l p wide w hp hk hg
  obtain ⟨res, hres⟩ : ∃ res, freeB (selR l wide) p = res := ⟨_, rfl⟩
  rw [hres]
  have HRES := Lib.hid hres
  have HOK := Lib.hid hg.ok
  have HZ := Lib.hid hg.len
  have HR := Lib.hid hg.reads
  have hn30 := hg.few
  have HP := Lib.hid hp
  have HIH := Lib.hid ih
  have HK := Lib.hid hk
  have CO := Lib.hid (fun (a b : PV) (w : World) (ha : a.Ok) (hb : b.Ok) => over_pv a b w ha hb)
  obtain ⟨ps, ph, pl, pn, hpe⟩ : ∃ ps ph pl pn, p = ⟨ps, ph, pl, pn⟩ := ⟨_, _, _, _, rfl⟩
  have hpv : p.val = .agg #[.bool ps, .int .u64 ph, .int .u64 pl, .int .i64 pn] := by rw [hpe]; rfl
  have HPE := Lib.hid hpe
  have HPV := Lib.hid hpv
  rw [hpv]
  clear hres hg hp ih hk hpe hpv
  go_enter Try.func78, Try.ntmps78
  go_wp2
  obtain ⟨X, hX⟩ : ∃ X, (w.alloc (.cells #[.bool ps, .int .u64 ph, .int .u64 pl, .int .i64 pn] 35)) = X := ⟨_, rfl⟩
  have kP : Blk X w.heap.size 35 #[.bool ps, .int .u64 ph, .int .u64 pl, .int .i64 pn] := by rw [← hX]; exact Blk.new _ _ _
  have hx0 : Below w.heap.size w X := by rw [← hX]; exact (Below.refl _ _).alloc (Nat.le_refl _) _
  have xsz : w.heap.size + 1 ≤ X.heap.size := by rw [← hX]; simp
  have HX := Lib.hid hx0
  have KP := Lib.hid kP
  rw [hX]
  clear hX kP hx0
  go_loopw [12, 7, 9] (fun i v _ wr => ∃ k : Nat, k ≤ n ∧ i = .int .i64 k ∧ (l.take k).any (fun r => r.at_ wide && r.p.over p) = false ∧ wr.ownsRow X.heap.size 125 7 v (someR p wide (l.take k)).length ((someR p wide (l.take k)).flatMap RuleV.cells) ∧ Below X.heap.size X wr) (fun i _ _ _ => n - (intOf i).toNat)
  case atStart => exact ⟨0, by omega, rfl, rfl, World.ownsRow_nil _ _ _ _, Below.refl _ _⟩
  case round =>
    obtain ⟨k, hk, rfl, hno, hown, hbx⟩ := hrel
    obtain ⟨wo, rfl⟩ : ∃ wo : World, wo = wr := ⟨_, rfl⟩
    have HNO := Lib.hid hno
    have HOW := Lib.hid hown
    have HBX := Lib.hid hbx
    have hbz := hbx.size
    have kp := KP.out.below hbx (by omega)
    clear hno hown
    by_cases hlt : k < n
    · obtain ⟨ad, ⟨ry, rs, rh, rl, rn, rle, rmo⟩, rfl, hlk, htk, hmem, hbk, hc0, hcj⟩ := HR.out.atS RuleV.cells_length HZ.out hlt
      have hb0 := HX.out.trans (hbx.mono HX.out.size)
      have q0 := (hb0.cell (p := ad.add (k * 7)) (by rw [block_of_add]; exact hbk)).trans (hc0 _ rfl)
      have q1 := (hb0.cell (p := ⟨(ad.add (k * 7)).block, (ad.add (k * 7)).off + 1, none⟩) (by rw [block_of_add]; exact hbk)).trans (hcj 1 _ rfl)
      have q2 := (hb0.cell (p := ⟨(ad.add (k * 7)).block, (ad.add (k * 7)).off + 2, none⟩) (by rw [block_of_add]; exact hbk)).trans (hcj 2 _ rfl)
      have q3 := (hb0.cell (p := ⟨(ad.add (k * 7)).block, (ad.add (k * 7)).off + 3, none⟩) (by rw [block_of_add]; exact hbk)).trans (hcj 3 _ rfl)
      have q4 := (hb0.cell (p := ⟨(ad.add (k * 7)).block, (ad.add (k * 7)).off + 4, none⟩) (by rw [block_of_add]; exact hbk)).trans (hcj 4 _ rfl)
      have q5 := (hb0.cell (p := ⟨(ad.add (k * 7)).block, (ad.add (k * 7)).off + 5, none⟩) (by rw [block_of_add]; exact hbk)).trans (hcj 5 _ rfl)
      have q6 := (hb0.cell (p := ⟨(ad.add (k * 7)).block, (ad.add (k * 7)).off + 6, none⟩) (by rw [block_of_add]; exact hbk)).trans (hcj 6 _ rfl)
      obtain ⟨o1, o2⟩ := HOK.out _ hmem
      have CF := Lib.hid (fun w => CO.out _ _ w o1 HP.out)
      have CG := Lib.hid (fun w => CO.out _ _ w HP.out o1)
      rw [HPV.out] at CF CG
      unfold PV.val RuleV.p at CF CG
      simp only at CF CG o2
      have HSM := Lib.hid (someR_snoc (p := p) (wide := wide) htk)
      have HAN : Hid ((l.take (k + 1)).any (fun r => r.at_ wide && r.p.over p) = (RuleV.at_ ⟨ry, rs, rh, rl, rn, rle, rmo⟩ wide && PV.over ⟨rs, rh, rl, rn⟩ p)) := by
        show _ = _
        rw [htk, List.any_append, HNO.out, Bool.false_or, List.any_cons, List.any_nil, Bool.or_false]
        rfl
      have HEND : Hid ((RuleV.at_ ⟨ry, rs, rh, rl, rn, rle, rmo⟩ wide && PV.over ⟨rs, rh, rl, rn⟩ p) = true → res = false) := by
        show _ → _
        intro h
        rw [Bool.and_eq_true] at h
        rw [← HRES.out]
        exact freeB_over HP.out o1 (List.mem_map.2 ⟨_, List.mem_filter.2 ⟨hmem, h.1⟩, rfl⟩) h.2
      unfold RuleV.p at HSM
      simp only at HSM
      have hle := someR_le p wide (l.take k)
      have hle2 : (l.take k).length ≤ k := List.length_take_le _ _
      have HAT : Hid (RuleV.at_ ⟨ry, rs, rh, rl, rn, rle, rmo⟩ wide = decide (rle ≤ wide ∧ wide ≤ rmo)) := rfl
      generalize RuleV.at_ ⟨ry, rs, rh, rl, rn, rle, rmo⟩ wide = at0 at *
      generalize PV.over ⟨rs, rh, rl, rn⟩ p = f at *
      generalize PV.over p ⟨rs, rh, rl, rn⟩ = g at *
      clear hlk htk hmem hbk hc0 hcj o1 hb0
      have HOWM := Lib.hid (own_below HOW.out ((Below.refl _ _).alloc (Nat.le_refl _) (.cells #[.bool ry, .bool rs, .int .u64 rh, .int .u64 rl, .int .i64 rn, .int .i64 rle, .int .i64 rmo] 125)))
      have HBM := Lib.hid (hbx.alloc hbx.size (.cells #[.bool ry, .bool rs, .int .u64 rh, .int .u64 rl, .int .i64 rn, .int .i64 rle, .int .i64 rmo] 125))
      have KPO := Lib.hid kp
      have hbxs := hbx.size
      by_cases h1 : wide < rle
      · have h0 : Hid (at0 = false) := by show _ = _; rw [HAT.out, decide_eq_false (by omega)]
        clear kp hbx
        go_wp2
        go_roundw
        case rel => exact ⟨k + 1, by omega, by go_num, by rw [HAN.out, h0.out]; rfl, by rw [HSM.out, h0.out, if_neg (by simp), List.append_nil]; exact HOWM.out, HBM.out⟩
        case measure => simp [intOf]; omega
      by_cases h2 : rmo < wide
      · have h0 : Hid (at0 = false) := by show _ = _; rw [HAT.out, decide_eq_false (by omega)]
        clear kp hbx
        go_wp2
        go_roundw
        case rel => exact ⟨k + 1, by omega, by go_num, by rw [HAN.out, h0.out]; rfl, by rw [HSM.out, h0.out, if_neg (by simp), List.append_nil]; exact HOWM.out, HBM.out⟩
        case measure => simp [intOf]; omega
      have h0 : at0 = true := by rw [HAT.out, decide_eq_true (by omega)]
      subst h0
      have h3 : rn ≤ wide := by omega
      have p0 := kp.cell 0
      have p1 := kp.cell 1
      have p2 := kp.cell 2
      have p3 := kp.cell 3
      simp at p0 p1 p2 p3
      have lp := kp.lt
      clear kp hbx
      go_wp2_with fail
      refine (CF.out _).mono ?_
      rintro e w5 ⟨rfl, hb5⟩
      have k9 := (Blk.new wo 125 #[.bool ry, .bool rs, .int .u64 rh, .int .u64 rl, .int .i64 rn, .int .i64 rle, .int .i64 rmo]).below hb5 (Blk.new wo _ _).lt
      have kp5 := (KPO.out.alloc (.cells #[.bool ry, .bool rs, .int .u64 rh, .int .u64 rl, .int .i64 rn, .int .i64 rle, .int .i64 rmo] 125)).below hb5 (KPO.out.alloc _).lt
      have HOW5 := Lib.hid (own_below HOWM.out hb5)
      have HB5 := Lib.hid (HBM.out.trans (hb5.mono HBM.out.size))
      have m0 := k9.cell 0
      have m1 := k9.cell 1
      have m2 := k9.cell 2
      have m3 := k9.cell 3
      have m4 := k9.cell 4
      have m5 := k9.cell 5
      have m6 := k9.cell 6
      have u0 := kp5.cell 0
      have u1 := kp5.cell 1
      have u2 := kp5.cell 2
      have u3 := kp5.cell 3
      simp at m0 m1 m2 m3 m4 m5 m6 u0 u1 u2 u3
      have l9 := k9.lt
      have l5 := kp5.lt
      have K9 := Lib.hid k9
      clear hb5 kp5 k9 p0 p1 p2 p3 q0 q1 q2 q3 q4 q5 q6
      cases f with
      | true =>
        have hr := HEND.out rfl
        have HRT := Lib.hid hr
        clear hr
        go_wp2
        go_ret
        exact ⟨ret_bool HRT.out.symm, HX.out.trans (HB5.out.mono HX.out.size)⟩
      | false =>
        go_wp2_with fail
        refine (CG.out _).mono ?_
        rintro e w6 ⟨rfl, hb6⟩
        have k96 := K9.out.below hb6 l9
        have n0 := k96.cell 0
        have n1 := k96.cell 1
        have n2 := k96.cell 2
        have n3 := k96.cell 3
        have n4 := k96.cell 4
        have n5 := k96.cell 5
        have n6 := k96.cell 6
        simp at n0 n1 n2 n3 n4 n5 n6
        have l96 := k96.lt
        have HOW6 := Lib.hid (own_below HOW5.out hb6)
        have HB6 := Lib.hid (below_step HB5.out hb6)
        have z6 := HB6.out.size
        clear hb6 k96
        cases g with
        | false =>
          go_wp2
          go_roundw
          case rel => exact ⟨k + 1, by omega, by go_num, HAN.out.trans rfl, by rw [HSM.out, if_neg (by simp), List.append_nil]; exact HOW6.out, HB6.out⟩
          case measure => simp [intOf]; omega
        | true =>
          go_wp2_with (at_builtin; go_loud (refine wpList_append_oneN rfl _ _ 43 rfl X.heap.size (.agg #[.bool false, .bool false, .int .u64 0, .int .u64 0, .int .i64 0, .int .i64 0, .int .i64 0]) 7 56 Try.underlying43 infoRuleF rfl (by decide) _ _ _ rfl rfl ?d0 HOW6.out ?d1 rfl ?d2 ?d3 ?d4 ?_))
          case d0 => (try simp); done
          case d1 => omega
          case d2 => first | (intro u hu; simp at hu; (rcases hu with rfl | rfl | rfl | rfl | rfl | rfl | rfl <;> rfl); done) | exact ⟨rfl, rfl, rfl, rfl, rfl, rfl, rfl⟩
          case d3 => unfold maxLen; omega
          case d4 => omega
          intro v' w' hown' hb' hs' _
          have HOW2 : Hid (w'.ownsRow X.heap.size 125 7 v' (someR p wide (l.take (k + 1))).length ((someR p wide (l.take (k + 1))).flatMap RuleV.cells)) := by
            show World.ownsRow _ _ _ _ _ _ _
            rw [HSM.out, if_pos (by decide), List.length_append, List.flatMap_append]
            exact hown'
          have HB2 := Lib.hid (HB6.out.trans hb')
          clear hown' hb'
          go_wp2
          go_roundw
          case rel => exact ⟨k + 1, by omega, by go_num, HAN.out.trans rfl, HOW2.out, HB2.out⟩
          case measure => simp [intOf]; omega
    · obtain rfl : k = n := by omega
      have hno := HNO.out
      have hown := HOW.out
      rw [List.take_of_length_le (by rw [HZ.out]; omega)] at hno hown
      obtain ⟨A5, c5, rfl, hc5, hr5⟩ := own_reads hown
      have hle := someR_le p wide l
      rw [HZ.out] at hle
      have hqs : ∀ q ∈ selR l wide, q.Ok := by
        intro q hq
        obtain ⟨r, hr, rfl⟩ := List.mem_map.1 hq
        exact (HOK.out r (List.mem_filter.1 hr).1).1
      have hq1 : ∀ q ∈ selR l wide, q.over p = false := by
        intro q hq
        obtain ⟨r, hr, rfl⟩ := List.mem_map.1 hq
        obtain ⟨h1, h2⟩ := List.mem_filter.1 hr
        have h3 := List.any_eq_false.1 hno r h1
        cases hv : r.p.over p with
        | false => rfl
        | true => exact absurd (by rw [h2, hv]; rfl) h3
      have hsome : ∀ q, q ∈ (someR p wide l).map RuleV.p ↔ q ∈ selR l wide ∧ p.over q = true := by
        intro q
        constructor
        · intro hq
          obtain ⟨r, hr, rfl⟩ := List.mem_map.1 hq
          obtain ⟨h1, h2⟩ := List.mem_filter.1 hr
          rw [Bool.and_eq_true] at h2
          exact ⟨List.mem_map.2 ⟨r, List.mem_filter.2 ⟨h1, h2.1⟩, rfl⟩, h2.2⟩
        · rintro ⟨hq, h2⟩
          obtain ⟨r, hr, rfl⟩ := List.mem_map.1 hq
          obtain ⟨h1, h3⟩ := List.mem_filter.1 hr
          exact List.mem_map.2 ⟨r, List.mem_filter.2 ⟨h1, by rw [h3, h2]; rfl⟩, rfl⟩
      have hsel := selR_some p wide l
      have hsub : ∀ r ∈ someR p wide l, r ∈ l ∧ p.over r.p = true ∧ r.p ∈ selR l wide := fun r hr => by
        obtain ⟨h1, h2⟩ := List.mem_filter.1 hr
        rw [Bool.and_eq_true] at h2
        exact ⟨h1, h2.2, List.mem_map.2 ⟨r, List.mem_filter.2 ⟨h1, h2.1⟩, rfl⟩⟩
      have HB0 := Lib.hid (HX.out.trans (HBX.out.mono HX.out.size))
      generalize someR p wide l = S at *
      by_cases hS : S = []
      · subst hS
        have hr : Hid (res = true) := by
          show _ = _
          rw [← HRES.out]
          refine freeB_none HP.out hqs hq1 fun q hq => ?_
          cases hv : p.over q with
          | false => rfl
          | true => exact absurd ((hsome q).2 ⟨hq, hv⟩) (by simp)
        clear hno hown hr5 hqs hq1 hsome hsel hsub kp hbx
        go_wp2
        go_ret
        exact ⟨ret_bool hr.out.symm, HB0.out⟩
      · have hpos : 0 < S.length := List.length_pos_iff.2 hS
        have hgood : GoodR wo A5 S.length c5 S := ⟨rfl, by omega, fun r hr => HOK.out r (hsub r hr).1, hr5⟩
        have HG7 := Lib.hid hgood
        have hlt0 : ((S.length : Int) == 0) = false := by simp; exact hS
        have hroom : p.n < wideI p.six := by
          obtain ⟨r, hr⟩ := List.exists_mem_of_ne_nil S hS
          obtain ⟨h1, h2, h3⟩ := hsub r hr
          have o1 := (HOK.out r h1).1
          exact longer_room HP.out o1 h2 (over_longer HP.out o1 h2 (by rw [hq1 _ h3]; simp))
        obtain ⟨l1, _, l3⟩ := low_num HP.out hroom
        obtain ⟨g1, _, g3⟩ := high_num HP.out hroom
        have hKK := HK.out
        obtain ⟨K', rfl⟩ : ∃ K', K = K' + 1 := ⟨K - 1, by omega⟩
        have hl : Hid (res = (freeB (S.map RuleV.p) p.low || freeB (S.map RuleV.p) p.high)) := by show _ = _; rw [← HRES.out]; exact freeB_split HP.out hroom hqs hq1 hsome
        have CH0 := Lib.hid (fun w => half_low_pv p w HP.out)
        have CH1 := Lib.hid (fun w => half_high_pv p w HP.out hroom)
        have IW1 := Lib.hid (fun (w' : World) (hb : Below wo.heap.size wo w') => HIH.out K' rfl A5 S.length c5 S p.low wide w' l1 (by omega) (HG7.out.below hb))
        have IW2 := Lib.hid (fun (w' : World) (hb : Below wo.heap.size wo w') => HIH.out K' rfl A5 S.length c5 S p.high wide w' g1 (by omega) (HG7.out.below hb))
        rw [hsel] at IW1 IW2
        obtain ⟨sh, hsh⟩ : ∃ sh, setHi p.six p.hi p.n.toNat = sh := ⟨_, rfl⟩
        obtain ⟨sl, hsl⟩ : ∃ sl, setLo p.six p.lo p.n.toNat = sl := ⟨_, rfl⟩
        have hlv : p.low.val = .agg #[.bool ps, .int .u64 ph, .int .u64 pl, .int .i64 (pn + 1)] := by rw [HPE.out]; rfl
        have hhv : p.high.val = .agg #[.bool ps, .int .u64 sh, .int .u64 sl, .int .i64 (pn + 1)] := by rw [← hsh, ← hsl, HPE.out]; rfl
        rw [HPV.out, hlv] at CH0
        rw [HPV.out, hhv] at CH1
        rw [hlv] at IW1
        rw [hhv] at IW2
        generalize freeB (S.map RuleV.p) p.low = x at *
        generalize freeB (S.map RuleV.p) p.high = y at *
        have p0 := kp.cell 0
        have p1 := kp.cell 1
        have p2 := kp.cell 2
        have p3 := kp.cell 3
        simp at p0 p1 p2 p3
        have lp := kp.lt
        clear hno hown hr5 hqs hq1 hsome hsel hsub kp hbx hgood hroom l1 l3 g1 g3 hsh hsl hlv hhv hKK hS
        cases x with
        | true =>
          have hres : Hid (res = true) := by show _ = _; rw [hl.out]; rfl
          clear hl
          go_wp2_with fail
          refine (CH0.out _).mono ?_
          rintro e wb1 ⟨rfl, hb⟩
          obtain ⟨fcwb1, zwb1, HBwb1⟩ := keep1 (w1 := wo) ⟨fun _ _ _ => rfl, Nat.le_refl _, Below.refl _ _⟩ hb
          clear hb
          go_wp2_with fail
          refine (IW1.out _ HBwb1.out).mono ?_
          rintro e wb2 ⟨rfl, hb⟩
          obtain ⟨fcwb2, zwb2, HBwb2⟩ := keep1 (w1 := wo) ⟨fcwb1, zwb1, HBwb1⟩ hb
          clear hb
          go_wp2
          go_ret
          exact ⟨ret_bool hres.out.symm, HB0.out.trans (HBwb2.out.mono HB0.out.size)⟩
        | false =>
          have hres : Hid (res = y) := by show _ = _; rw [hl.out, Bool.false_or]
          clear hl
          go_wp2_with fail
          refine (CH0.out _).mono ?_
          rintro e wb1 ⟨rfl, hb⟩
          obtain ⟨fcwb1, zwb1, HBwb1⟩ := keep1 (w1 := wo) ⟨fun _ _ _ => rfl, Nat.le_refl _, Below.refl _ _⟩ hb
          clear hb
          go_wp2_with fail
          refine (IW1.out _ HBwb1.out).mono ?_
          rintro e wb2 ⟨rfl, hb⟩
          obtain ⟨fcwb2, zwb2, HBwb2⟩ := keep1 (w1 := wo) ⟨fcwb1, zwb1, HBwb1⟩ hb
          clear hb
          go_wp2_with fail
          refine (CH1.out _).mono ?_
          rintro e wb3 ⟨rfl, hb⟩
          obtain ⟨fcwb3, zwb3, HBwb3⟩ := keep1 (w1 := wo) ⟨fcwb2, zwb2, HBwb2⟩ hb
          clear hb
          go_wp2_with fail
          refine (IW2.out _ HBwb3.out).mono ?_
          rintro e wb4 ⟨rfl, hb⟩
          obtain ⟨fcwb4, zwb4, HBwb4⟩ := keep1 (w1 := wo) ⟨fcwb3, zwb3, HBwb3⟩ hb
          clear hb
          go_wp2
          go_ret
          exact ⟨ret_bool hres.out.symm, HB0.out.trans (HBwb4.out.mono HB0.out.size)⟩
theorem free_all : ∀ K, FreeAt K
  | 0 => free_step 0 (fun K' h => by omega)
  | K + 1 => free_step (K + 1) (fun K' h => by obtain rfl : K = K' := by omega
                                               exact free_all K)

end Go.Proofs.Ytonelibgaceflaa

namespace Go.Proofs.Ytonelibgaceflaa
open Go.ChangeShapes Go.WideShapes Go.ChangeAt Go.RowKit

theorem infoPreW : (Try.prog.info? 35).map (fun i => (i.zero, i.size, i.bytes)) = some (some (.agg #[.bool false, .int .u64 0, .int .u64 0, .int .i64 0]), 4, 32) := by kernel_rfl
theorem own_oneX {w : World} {base : Nat} {X : List PV} {v : Value} (h : w.ownsRow base 35 4 v X.length (X.flatMap PV.cells)) (h1 : X.length = 1) : ∃ g c x, v = .slice (some ⟨g, 0, none⟩) X.length c ∧ X = [x] ∧ (∀ j u, x.cells[j]? = some u → w.cell? ⟨g, j, none⟩ = some u) ∧ g < w.heap.size := by
  obtain ⟨x, hx⟩ := List.length_eq_one_iff.1 h1
  have hr : ∃ A c, v = .slice A X.length c ∧ Reads w w.heap.size 4 A X.length (X.flatMap PV.cells) := by
    obtain ⟨A, c, hv, _, hr⟩ := own_reads h
    exact ⟨A, c, hv, hr⟩
  obtain ⟨A, c, hv, hr⟩ := hr
  rcases h.2 with ⟨rfl, h2⟩ | ⟨g, cap, cur, rfl, hg, hh, _⟩
  · injection hv with _ hz _
    omega
  · injection hv with h1' h2 h3
    subst h1'
    obtain ⟨ad, had, hb, hc⟩ := hr.2 (by omega)
    injection had with had
    subst had
    refine ⟨g, cap, x, rfl, hx, fun j u hj => ?_, hb⟩
    have := hc j u (by rw [hx]; simpa using hj)
    have e1 : (⟨g, 0, none⟩ : Addr).add j = ⟨g, j, none⟩ := by unfold Addr.add; split <;> simp_all
    rwa [e1] at this

set_option maxRecDepth 100000 in
set_option maxHeartbeats 6400000 in
theorem walked_split {A A' : Option Addr} {n c n' c' : Nat} {l m : List PV} {f : Bool → Bool → Bool} {fid : FuncId} {caps : Array Value} (hl : ∀ q ∈ l, q.Ok) (hm : ∀ q ∈ m, q.Ok) (hn1 : n ≤ 200) (hn2 : n' ≤ 200)
    (K : Nat) (ih : WalkedAt A A' n c n' c' l m f fid caps K) (p : PV) (w : World) (hp : p.Ok) (hk : p.k = K + 1) (h1 : IsPres w A n c l) (h2 : IsPres w A' n' c' m) (hsome : ¬ (0 ≤ withinI l p ∧ 0 ≤ withinI m p)) :
    Calls Try.prog 200 #[p.val, .slice A n c, .slice A' n' c', .func (.func fid) #[] caps] w (Walked (walkL f l m p) w) := by
  have hn : p.n < wideI p.six := by
    rcases within_three l p with h | h | h <;> rcases within_three m p with h' | h' | h' <;> first | exact within_some hl hp h | exact within_some hm hp h' | (exfalso; omega)
  have hW := walkL_split (f := f) (l := l) (m := m) hp hn
  obtain ⟨l1, l2, l3⟩ := low_num hp hn
  obtain ⟨g1, g2, g3⟩ := high_num hp hn
  have len1 := walkL_few (f := f) hl hm (by rw [h1.1]; exact hn1) (by rw [h2.1]; exact hn2) l1
  have len2 := walkL_few (f := f) hl hm (by rw [h1.1]; exact hn1) (by rw [h2.1]; exact hn2) g1
  have I1 := Lib.hid (fun (w' : World) (hb : Below w.heap.size w w') => ih p.low w' l1 (by omega) (h1.below hb) (h2.below hb))
  have I2 := Lib.hid (fun (w' : World) (hb : Below w.heap.size w w') => ih p.high w' g1 (by omega) (h1.below hb) (h2.below hb))
  have CW1 := Lib.hid (fun (w' : World) (hb : Below w.heap.size w w') => within_any A n c l p w' (h1.below hb) hl hp)
  have CW2 := Lib.hid (fun (w' : World) (hb : Below w.heap.size w w') => within_any A' n' c' m p w' (h2.below hb) hm hp)
  have CH := Lib.hid (fun w => refHalves_pv p w hp hn)
  have hab : withinI l p = -1 ∨ (0 ≤ withinI l p ∧ withinI m p = -1) := by
    rcases within_three l p with h | h | h <;> rcases within_three m p with h' | h' | h' <;> omega
  generalize withinI l p = a0 at *
  generalize withinI m p = b0 at *
  rw [hW]
  generalize walkL f l m p.low = X at *
  generalize walkL f l m p.high = Y at *
  have hlow : p.low = ⟨p.six, p.hi, p.lo, p.n + 1⟩ := rfl
  obtain ⟨sh, hsh⟩ : ∃ sh, setHi p.six p.hi p.n.toNat = sh := ⟨_, rfl⟩
  obtain ⟨sl, hsl⟩ : ∃ sl, setLo p.six p.lo p.n.toNat = sl := ⟨_, rfl⟩
  have hhigh : p.high = ⟨p.six, sh, sl, p.n + 1⟩ := by rw [← hsh, ← hsl]; rfl
  rw [hlow, hhigh] at CH
  rw [hlow] at I1
  rw [hhigh] at I2
  rw [hlow, hhigh]
  obtain ⟨six, hi, lo, pn⟩ := p
  unfold PV.val at CW1 CW2 CH I1 I2
  unfold PV.val
  unfold Walked at I1 I2
  unfold Walked
  simp only at CW1 CW2 CH I1 I2 ⊢
  clear hW ih hl hm hp h1 h2 hn l1 l2 l3 g1 g2 g3 hsh hsl hlow hhigh hsome hk
  obtain ⟨R, hR⟩ : ∃ R, (if X = [(⟨six, hi, lo, pn + 1⟩ : PV)] ∧ Y = [(⟨six, sh, sl, pn + 1⟩ : PV)] then [(⟨six, hi, lo, pn⟩ : PV)] else X ++ Y) = R := ⟨_, rfl⟩
  rw [hR]
  have HRR := Lib.hid hR
  clear hR
  rcases hab with rfl | ⟨ha, rfl⟩
  · go_enter Try.func200, Try.ntmps200
    go_wp2_with fail
    refine (CW1.out _ ((Below.refl _ _).alloc (Nat.le_refl _) _)).mono ?_
    rintro e w1 ⟨rfl, hb1⟩
    have kp1 := (Blk.new w 35 #[.bool six, .int .u64 hi, .int .u64 lo, .int .i64 pn]).below hb1 (Blk.new w _ _).lt
    have HB1 := Lib.hid (balloc1 hb1)
    have e0 := kp1.cell 0
    have e1 := kp1.cell 1
    have e2 := kp1.cell 2
    have e3 := kp1.cell 3
    simp at e0 e1 e2 e3
    have KP1 := Lib.hid kp1
    have s1 := kp1.lt
    clear hb1 kp1
    go_wp2_with fail
    refine (CW2.out _ HB1.out).mono ?_
    rintro e w2 ⟨rfl, hb2⟩
    have kp2 := KP1.out.below hb2 s1
    have HB2 := Lib.hid (below_step HB1.out hb2)
    have d0 := kp2.cell 0
    have d1 := kp2.cell 1
    have d2 := kp2.cell 2
    have d3 := kp2.cell 3
    simp at d0 d1 d2 d3
    have KP2 := Lib.hid kp2
    have s2 := kp2.lt
    clear hb2 kp2 e0 e1 e2 e3
    go_wp2_with fail
    refine (CH.out _).mono ?_
    rintro e w3 ⟨rfl, hb3⟩
    have HB3 := Lib.hid (below_step HB2.out hb3)
    have KP3 := Lib.hid (KP2.out.below hb3 s2)
    clear hb3 d0 d1 d2 d3
    go_wp2_with fail
    obtain ⟨Z, hZ⟩ : ∃ Z, ((w3.alloc (.cells #[.bool six, .int .u64 hi, .int .u64 lo, .int .i64 (pn + 1)] 35)).alloc (.cells #[.bool six, .int .u64 sh, .int .u64 sl, .int .i64 (pn + 1)] 35)) = Z := ⟨_, rfl⟩
    have HBZ : Hid (Below w.heap.size w Z) := by rw [← hZ]; exact (HB3.out.alloc HB3.out.size _).alloc (by have := HB3.out.size; simp; omega) _
    have K11 : Hid (Blk Z w3.heap.size 35 #[.bool six, .int .u64 hi, .int .u64 lo, .int .i64 (pn + 1)]) := by rw [← hZ]; exact (Blk.new _ _ _).alloc _
    have K12 : Hid (Blk Z (w3.heap.size + 1) 35 #[.bool six, .int .u64 sh, .int .u64 sl, .int .i64 (pn + 1)]) := by
      show Blk _ _ _ _
      rw [← hZ]
      have := Blk.new (w3.alloc (.cells #[.bool six, .int .u64 hi, .int .u64 lo, .int .i64 (pn + 1)] 35)) 35 #[.bool six, .int .u64 sh, .int .u64 sl, .int .i64 (pn + 1)]
      simpa using this
    have KPZ : Hid (Blk Z w.heap.size 35 #[.bool six, .int .u64 hi, .int .u64 lo, .int .i64 pn]) := by rw [← hZ]; exact (KP3.out.alloc _).alloc _
    rw [hZ]
    clear hZ KP3 KP2 KP1
    refine (I1.out _ HBZ.out).mono ?_
    rintro e w5 ⟨v5, rfl, ho5, hb5⟩
    have HB5 := Lib.hid (below_step HBZ.out hb5)
    have K115 := Lib.hid (K11.out.below hb5 K11.out.lt)
    have k125 := K12.out.below hb5 K12.out.lt
    have K125 := Lib.hid k125
    have KP5 := Lib.hid (KPZ.out.below hb5 KPZ.out.lt)
    have HO5 := Lib.hid ho5
    have g0 := k125.cell 0
    have g1 := k125.cell 1
    have g2 := k125.cell 2
    have g3 := k125.cell 3
    simp at g0 g1 g2 g3
    clear hb5 ho5 k125 K11 K12 KPZ
    go_wp2_with fail
    refine (I2.out _ HB5.out).mono ?_
    rintro e w6 ⟨v6, rfl, ho6, hb6⟩
    have HB6 := Lib.hid (below_step HB5.out hb6)
    have k11 := K115.out.below hb6 K115.out.lt
    have k12 := K125.out.below hb6 K125.out.lt
    have kp := KP5.out.below hb6 KP5.out.lt
    have ho5 := own_below HO5.out hb6
    have a0' := k11.cell 0
    have a1' := k11.cell 1
    have a2' := k11.cell 2
    have a3' := k11.cell 3
    have b0' := k12.cell 0
    have b1' := k12.cell 1
    have b2' := k12.cell 2
    have b3' := k12.cell 3
    have p0 := kp.cell 0
    have p1 := kp.cell 1
    have p2 := kp.cell 2
    have p3 := kp.cell 3
    simp at a0' a1' a2' a3' b0' b1' b2' b3' p0 p1 p2 p3
    have z6 := HB6.out.size
    have HOW5 := Lib.hid (own_mono ho5 (base' := w.heap.size) HBZ.out.size)
    have HOW6 := Lib.hid (own_mono ho6 (base' := w.heap.size) HB5.out.size)
    have HE1 := Lib.hid (fun (q : PV) w => eqPV q ⟨six, hi, lo, pn + 1⟩ w)
    have HE2 := Lib.hid (fun (q : PV) w => eqPV q ⟨six, sh, sl, pn + 1⟩ w)
    clear hb6 k11 k12 kp K115 K125 KP5 g0 g1 g2 g3 HO5
    by_cases hx1 : X.length = 1
    · by_cases hy1 : Y.length = 1
      · obtain ⟨gx, cx, x, rfl, hX1, hcx, hxl⟩ := own_oneX ho5 hx1
        obtain ⟨gy, cy, y, rfl, hY1, hcy, hyl⟩ := own_oneX ho6 hy1
        have hl1 : ((X.length : Int) == 1) = true := by simp; omega
        have hl2 : ((Y.length : Int) == 1) = true := by simp; omega
        have hp1 : 0 < X.length := by omega
        have hp2 : 0 < Y.length := by omega
        have hq1 : (0 : Int) < X.length := by omega
        have hq2 : (0 : Int) < Y.length := by omega
        obtain ⟨xs, xh, xl, xn⟩ := x
        obtain ⟨ys, yh, yl, yn⟩ := y
        have x0 := hcx 0 _ rfl
        have x1 := hcx 1 _ rfl
        have x2 := hcx 2 _ rfl
        have x3 := hcx 3 _ rfl
        have y0 := hcy 0 _ rfl
        have y1 := hcy 1 _ rfl
        have y2 := hcy 2 _ rfl
        have y3 := hcy 3 _ rfl
        have he1 := fun w => HE1.out ⟨xs, xh, xl, xn⟩ w
        have he2 := fun w => HE2.out ⟨ys, yh, yl, yn⟩ w
        unfold PV.val at he1 he2
        simp only at he1 he2
        by_cases hxe : (⟨xs, xh, xl, xn⟩ : PV) = ⟨six, hi, lo, pn + 1⟩
        · rw [decide_eq_true hxe] at he1
          by_cases hye : (⟨ys, yh, yl, yn⟩ : PV) = ⟨six, sh, sl, pn + 1⟩
          · rw [decide_eq_true hye] at he2
            have HRE : Hid (R = [⟨six, hi, lo, pn⟩]) := by show _ = _; rw [← HRR.out, hX1, hY1, hxe, hye, if_pos ⟨rfl, rfl⟩]
            clear hxe hye hcx hcy ho5 ho6 hx1 hy1 hX1 hY1
            go_wp2_with fail
            go_quiet (fail)
            go_wp2
            go_ret
            exact ⟨_, rfl, by rw [HRE.out]; exact own_lit _ _ _ _ _ (by simpa using z6), (below_drewN HB6.out _).alloc (by simpa using z6) _⟩
          · rw [decide_eq_false hye] at he2
            have HRE : Hid (R = X ++ Y) := by show _ = _; rw [← HRR.out, if_neg (fun h => hye (by have := hY1.symm.trans h.2; simpa using this))]
            clear hxe hye hcx hcy ho5 ho6 hx1 hy1 hX1 hY1
            go_wp2_with fail
            go_quiet (fail)
            obtain ⟨A9, c9, hv9, hc9, hr9⟩ := own_reads (own_below HOW6.out (below_drewN (Below.refl _ _) 1))
            injection hv9 with hv9a _ hv9c
            subst hv9a
            subst hv9c
            have HR9 := Lib.hid hr9
            have HO9 := Lib.hid (own_below HOW5.out (below_drewN (Below.refl _ _) 1))
            have HCE : Hid (∀ u ∈ (Y).flatMap PV.cells, u.oneCell' = true) := by
              show ∀ u ∈ (Y).flatMap PV.cells, u.oneCell' = true
              intro u hu
              obtain ⟨r, _, hr⟩ := List.mem_flatMap.1 hu
              simp [PV.cells] at hr
              rcases hr with rfl | rfl | rfl | rfl <;> rfl
            clear hr9 hc9
            go_wp2_with (at_builtin; go_loud (refine wpList_append_reads rfl _ _ 30 rfl w.heap.size 35 (.agg #[.bool false, .int .u64 0, .int .u64 0, .int .i64 0]) 4 32 Try.underlying30 infoPreW rfl (by decide) _ _ _ rfl _ _ _ rfl HO9.out _ _ HR9.out HCE.out ?pa0 ?pa1 ?pa2 ?_))
            case pa0 => unfold maxLen; first | omega | (simp only [List.length_cons, List.length_nil]; omega)
            case pa1 => first | omega | (simp only [List.length_cons, List.length_nil]; omega)
            (try (case pa2 => first | exact z6 | (simpa using z6)))
            intro v' w' hown' hb'
            have HOWN : Hid (w'.ownsRow w.heap.size 35 4 v' R.length (R.flatMap PV.cells)) := by
              show World.ownsRow _ _ _ _ _ _ _
              rw [HRE.out, List.length_append, List.flatMap_append]
              exact hown'
            have HBN := Lib.hid ((below_drewN HB6.out _).trans hb')
            clear hown' hb'
            go_wp2
            go_ret
            exact ⟨_, rfl, HOWN.out, HBN.out⟩
        · rw [decide_eq_false hxe] at he1
          have HRE : Hid (R = X ++ Y) := by show _ = _; rw [← HRR.out, if_neg (fun h => hxe (by have := hX1.symm.trans h.1; simpa using this))]
          clear hxe hcx hcy ho5 ho6 hx1 hy1 hX1 hY1
          go_wp2_with fail
          go_quiet (fail)
          obtain ⟨A9, c9, hv9, hc9, hr9⟩ := own_reads (own_below HOW6.out (below_drewN (Below.refl _ _) 1))
          injection hv9 with hv9a _ hv9c
          subst hv9a
          subst hv9c
          have HR9 := Lib.hid hr9
          have HO9 := Lib.hid (own_below HOW5.out (below_drewN (Below.refl _ _) 1))
          have HCE : Hid (∀ u ∈ (Y).flatMap PV.cells, u.oneCell' = true) := by
            show ∀ u ∈ (Y).flatMap PV.cells, u.oneCell' = true
            intro u hu
            obtain ⟨r, _, hr⟩ := List.mem_flatMap.1 hu
            simp [PV.cells] at hr
            rcases hr with rfl | rfl | rfl | rfl <;> rfl
          clear hr9 hc9
          go_wp2_with (at_builtin; go_loud (refine wpList_append_reads rfl _ _ 30 rfl w.heap.size 35 (.agg #[.bool false, .int .u64 0, .int .u64 0, .int .i64 0]) 4 32 Try.underlying30 infoPreW rfl (by decide) _ _ _ rfl _ _ _ rfl HO9.out _ _ HR9.out HCE.out ?pb0 ?pb1 ?pb2 ?_))
          case pb0 => unfold maxLen; first | omega | (simp only [List.length_cons, List.length_nil]; omega)
          case pb1 => first | omega | (simp only [List.length_cons, List.length_nil]; omega)
          (try (case pb2 => first | exact z6 | (simpa using z6)))
          intro v' w' hown' hb'
          have HOWN : Hid (w'.ownsRow w.heap.size 35 4 v' R.length (R.flatMap PV.cells)) := by
            show World.ownsRow _ _ _ _ _ _ _
            rw [HRE.out, List.length_append, List.flatMap_append]
            exact hown'
          have HBN := Lib.hid ((below_drewN HB6.out _).trans hb')
          clear hown' hb'
          go_wp2
          go_ret
          exact ⟨_, rfl, HOWN.out, HBN.out⟩
      · have hl1 : ((X.length : Int) == 1) = true := by simp; omega
        have hl2 : ((Y.length : Int) == 1) = false := by simp; omega
        have HRE : Hid (R = X ++ Y) := by show _ = _; rw [← HRR.out, if_neg (fun h => hy1 (by rw [h.2]; rfl))]
        obtain ⟨A5, c5, rfl, hc5, hr5⟩ := own_reads ho5
        obtain ⟨A6, c6, rfl, hc6, hr6⟩ := own_reads ho6
        clear hx1 hy1 hr5 hr6 hc5 hc6 ho5 ho6
        go_wp2_with fail
        go_quiet (fail)
        obtain ⟨A9, c9, hv9, hc9, hr9⟩ := own_reads (own_below HOW6.out (below_drewN (Below.refl _ _) 1))
        injection hv9 with hv9a _ hv9c
        subst hv9a
        subst hv9c
        have HR9 := Lib.hid hr9
        have HO9 := Lib.hid (own_below HOW5.out (below_drewN (Below.refl _ _) 1))
        have HCE : Hid (∀ u ∈ (Y).flatMap PV.cells, u.oneCell' = true) := by
          show ∀ u ∈ (Y).flatMap PV.cells, u.oneCell' = true
          intro u hu
          obtain ⟨r, _, hr⟩ := List.mem_flatMap.1 hu
          simp [PV.cells] at hr
          rcases hr with rfl | rfl | rfl | rfl <;> rfl
        clear hr9 hc9
        go_wp2_with (at_builtin; go_loud (refine wpList_append_reads rfl _ _ 30 rfl w.heap.size 35 (.agg #[.bool false, .int .u64 0, .int .u64 0, .int .i64 0]) 4 32 Try.underlying30 infoPreW rfl (by decide) _ _ _ rfl _ _ _ rfl HO9.out _ _ HR9.out HCE.out ?pc0 ?pc1 ?pc2 ?_))
        case pc0 => unfold maxLen; first | omega | (simp only [List.length_cons, List.length_nil]; omega)
        case pc1 => first | omega | (simp only [List.length_cons, List.length_nil]; omega)
        (try (case pc2 => first | exact z6 | (simpa using z6)))
        intro v' w' hown' hb'
        have HOWN : Hid (w'.ownsRow w.heap.size 35 4 v' R.length (R.flatMap PV.cells)) := by
          show World.ownsRow _ _ _ _ _ _ _
          rw [HRE.out, List.length_append, List.flatMap_append]
          exact hown'
        have HBN := Lib.hid ((below_drewN HB6.out _).trans hb')
        clear hown' hb'
        go_wp2
        go_ret
        exact ⟨_, rfl, HOWN.out, HBN.out⟩
    · have hl1 : ((X.length : Int) == 1) = false := by simp; omega
      have HRE : Hid (R = X ++ Y) := by show _ = _; rw [← HRR.out, if_neg (fun h => hx1 (by rw [h.1]; rfl))]
      obtain ⟨A5, c5, rfl, hc5, hr5⟩ := own_reads ho5
      obtain ⟨A6, c6, rfl, hc6, hr6⟩ := own_reads ho6
      clear hx1 hr5 hr6 hc5 hc6 ho5 ho6
      go_wp2_with fail
      go_quiet (fail)
      obtain ⟨A9, c9, hv9, hc9, hr9⟩ := own_reads (own_below HOW6.out (below_drewN (Below.refl _ _) 1))
      injection hv9 with hv9a _ hv9c
      subst hv9a
      subst hv9c
      have HR9 := Lib.hid hr9
      have HO9 := Lib.hid (own_below HOW5.out (below_drewN (Below.refl _ _) 1))
      have HCE : Hid (∀ u ∈ (Y).flatMap PV.cells, u.oneCell' = true) := by
        show ∀ u ∈ (Y).flatMap PV.cells, u.oneCell' = true
        intro u hu
        obtain ⟨r, _, hr⟩ := List.mem_flatMap.1 hu
        simp [PV.cells] at hr
        rcases hr with rfl | rfl | rfl | rfl <;> rfl
      clear hr9 hc9
      go_wp2_with (at_builtin; go_loud (refine wpList_append_reads rfl _ _ 30 rfl w.heap.size 35 (.agg #[.bool false, .int .u64 0, .int .u64 0, .int .i64 0]) 4 32 Try.underlying30 infoPreW rfl (by decide) _ _ _ rfl _ _ _ rfl HO9.out _ _ HR9.out HCE.out ?pd0 ?pd1 ?pd2 ?_))
      case pd0 => unfold maxLen; first | omega | (simp only [List.length_cons, List.length_nil]; omega)
      case pd1 => first | omega | (simp only [List.length_cons, List.length_nil]; omega)
      (try (case pd2 => first | exact z6 | (simpa using z6)))
      intro v' w' hown' hb'
      have HOWN : Hid (w'.ownsRow w.heap.size 35 4 v' R.length (R.flatMap PV.cells)) := by
        show World.ownsRow _ _ _ _ _ _ _
        rw [HRE.out, List.length_append, List.flatMap_append]
        exact hown'
      have HBN := Lib.hid ((below_drewN HB6.out _).trans hb')
      clear hown' hb'
      go_wp2
      go_ret
      exact ⟨_, rfl, HOWN.out, HBN.out⟩

  · go_enter Try.func200, Try.ntmps200
    go_wp2_with fail
    refine (CW1.out _ ((Below.refl _ _).alloc (Nat.le_refl _) _)).mono ?_
    rintro e w1 ⟨rfl, hb1⟩
    have kp1 := (Blk.new w 35 #[.bool six, .int .u64 hi, .int .u64 lo, .int .i64 pn]).below hb1 (Blk.new w _ _).lt
    have HB1 := Lib.hid (balloc1 hb1)
    have e0 := kp1.cell 0
    have e1 := kp1.cell 1
    have e2 := kp1.cell 2
    have e3 := kp1.cell 3
    simp at e0 e1 e2 e3
    have KP1 := Lib.hid kp1
    have s1 := kp1.lt
    clear hb1 kp1
    go_wp2_with fail
    refine (CW2.out _ HB1.out).mono ?_
    rintro e w2 ⟨rfl, hb2⟩
    have kp2 := KP1.out.below hb2 s1
    have HB2 := Lib.hid (below_step HB1.out hb2)
    have d0 := kp2.cell 0
    have d1 := kp2.cell 1
    have d2 := kp2.cell 2
    have d3 := kp2.cell 3
    simp at d0 d1 d2 d3
    have KP2 := Lib.hid kp2
    have s2 := kp2.lt
    clear hb2 kp2 e0 e1 e2 e3
    go_wp2_with fail
    refine (CH.out _).mono ?_
    rintro e w3 ⟨rfl, hb3⟩
    have HB3 := Lib.hid (below_step HB2.out hb3)
    have KP3 := Lib.hid (KP2.out.below hb3 s2)
    clear hb3 d0 d1 d2 d3
    go_wp2_with fail
    obtain ⟨Z, hZ⟩ : ∃ Z, ((w3.alloc (.cells #[.bool six, .int .u64 hi, .int .u64 lo, .int .i64 (pn + 1)] 35)).alloc (.cells #[.bool six, .int .u64 sh, .int .u64 sl, .int .i64 (pn + 1)] 35)) = Z := ⟨_, rfl⟩
    have HBZ : Hid (Below w.heap.size w Z) := by rw [← hZ]; exact (HB3.out.alloc HB3.out.size _).alloc (by have := HB3.out.size; simp; omega) _
    have K11 : Hid (Blk Z w3.heap.size 35 #[.bool six, .int .u64 hi, .int .u64 lo, .int .i64 (pn + 1)]) := by rw [← hZ]; exact (Blk.new _ _ _).alloc _
    have K12 : Hid (Blk Z (w3.heap.size + 1) 35 #[.bool six, .int .u64 sh, .int .u64 sl, .int .i64 (pn + 1)]) := by
      show Blk _ _ _ _
      rw [← hZ]
      have := Blk.new (w3.alloc (.cells #[.bool six, .int .u64 hi, .int .u64 lo, .int .i64 (pn + 1)] 35)) 35 #[.bool six, .int .u64 sh, .int .u64 sl, .int .i64 (pn + 1)]
      simpa using this
    have KPZ : Hid (Blk Z w.heap.size 35 #[.bool six, .int .u64 hi, .int .u64 lo, .int .i64 pn]) := by rw [← hZ]; exact (KP3.out.alloc _).alloc _
    rw [hZ]
    clear hZ KP3 KP2 KP1
    refine (I1.out _ HBZ.out).mono ?_
    rintro e w5 ⟨v5, rfl, ho5, hb5⟩
    have HB5 := Lib.hid (below_step HBZ.out hb5)
    have K115 := Lib.hid (K11.out.below hb5 K11.out.lt)
    have k125 := K12.out.below hb5 K12.out.lt
    have K125 := Lib.hid k125
    have KP5 := Lib.hid (KPZ.out.below hb5 KPZ.out.lt)
    have HO5 := Lib.hid ho5
    have g0 := k125.cell 0
    have g1 := k125.cell 1
    have g2 := k125.cell 2
    have g3 := k125.cell 3
    simp at g0 g1 g2 g3
    clear hb5 ho5 k125 K11 K12 KPZ
    go_wp2_with fail
    refine (I2.out _ HB5.out).mono ?_
    rintro e w6 ⟨v6, rfl, ho6, hb6⟩
    have HB6 := Lib.hid (below_step HB5.out hb6)
    have k11 := K115.out.below hb6 K115.out.lt
    have k12 := K125.out.below hb6 K125.out.lt
    have kp := KP5.out.below hb6 KP5.out.lt
    have ho5 := own_below HO5.out hb6
    have a0' := k11.cell 0
    have a1' := k11.cell 1
    have a2' := k11.cell 2
    have a3' := k11.cell 3
    have b0' := k12.cell 0
    have b1' := k12.cell 1
    have b2' := k12.cell 2
    have b3' := k12.cell 3
    have p0 := kp.cell 0
    have p1 := kp.cell 1
    have p2 := kp.cell 2
    have p3 := kp.cell 3
    simp at a0' a1' a2' a3' b0' b1' b2' b3' p0 p1 p2 p3
    have z6 := HB6.out.size
    have HOW5 := Lib.hid (own_mono ho5 (base' := w.heap.size) HBZ.out.size)
    have HOW6 := Lib.hid (own_mono ho6 (base' := w.heap.size) HB5.out.size)
    have HE1 := Lib.hid (fun (q : PV) w => eqPV q ⟨six, hi, lo, pn + 1⟩ w)
    have HE2 := Lib.hid (fun (q : PV) w => eqPV q ⟨six, sh, sl, pn + 1⟩ w)
    clear hb6 k11 k12 kp K115 K125 KP5 g0 g1 g2 g3 HO5
    by_cases hx1 : X.length = 1
    · by_cases hy1 : Y.length = 1
      · obtain ⟨gx, cx, x, rfl, hX1, hcx, hxl⟩ := own_oneX ho5 hx1
        obtain ⟨gy, cy, y, rfl, hY1, hcy, hyl⟩ := own_oneX ho6 hy1
        have hl1 : ((X.length : Int) == 1) = true := by simp; omega
        have hl2 : ((Y.length : Int) == 1) = true := by simp; omega
        have hp1 : 0 < X.length := by omega
        have hp2 : 0 < Y.length := by omega
        have hq1 : (0 : Int) < X.length := by omega
        have hq2 : (0 : Int) < Y.length := by omega
        obtain ⟨xs, xh, xl, xn⟩ := x
        obtain ⟨ys, yh, yl, yn⟩ := y
        have x0 := hcx 0 _ rfl
        have x1 := hcx 1 _ rfl
        have x2 := hcx 2 _ rfl
        have x3 := hcx 3 _ rfl
        have y0 := hcy 0 _ rfl
        have y1 := hcy 1 _ rfl
        have y2 := hcy 2 _ rfl
        have y3 := hcy 3 _ rfl
        have he1 := fun w => HE1.out ⟨xs, xh, xl, xn⟩ w
        have he2 := fun w => HE2.out ⟨ys, yh, yl, yn⟩ w
        unfold PV.val at he1 he2
        simp only at he1 he2
        by_cases hxe : (⟨xs, xh, xl, xn⟩ : PV) = ⟨six, hi, lo, pn + 1⟩
        · rw [decide_eq_true hxe] at he1
          by_cases hye : (⟨ys, yh, yl, yn⟩ : PV) = ⟨six, sh, sl, pn + 1⟩
          · rw [decide_eq_true hye] at he2
            have HRE : Hid (R = [⟨six, hi, lo, pn⟩]) := by show _ = _; rw [← HRR.out, hX1, hY1, hxe, hye, if_pos ⟨rfl, rfl⟩]
            clear hxe hye hcx hcy ho5 ho6 hx1 hy1 hX1 hY1
            go_wp2_with fail
            go_quiet (fail)
            go_wp2
            go_ret
            exact ⟨_, rfl, by rw [HRE.out]; exact own_lit _ _ _ _ _ (by simpa using z6), (below_drewN HB6.out _).alloc (by simpa using z6) _⟩
          · rw [decide_eq_false hye] at he2
            have HRE : Hid (R = X ++ Y) := by show _ = _; rw [← HRR.out, if_neg (fun h => hye (by have := hY1.symm.trans h.2; simpa using this))]
            clear hxe hye hcx hcy ho5 ho6 hx1 hy1 hX1 hY1
            go_wp2_with fail
            go_quiet (fail)
            obtain ⟨A9, c9, hv9, hc9, hr9⟩ := own_reads (own_below HOW6.out (below_drewN (Below.refl _ _) 1))
            injection hv9 with hv9a _ hv9c
            subst hv9a
            subst hv9c
            have HR9 := Lib.hid hr9
            have HO9 := Lib.hid (own_below HOW5.out (below_drewN (Below.refl _ _) 1))
            have HCE : Hid (∀ u ∈ (Y).flatMap PV.cells, u.oneCell' = true) := by
              show ∀ u ∈ (Y).flatMap PV.cells, u.oneCell' = true
              intro u hu
              obtain ⟨r, _, hr⟩ := List.mem_flatMap.1 hu
              simp [PV.cells] at hr
              rcases hr with rfl | rfl | rfl | rfl <;> rfl
            clear hr9 hc9
            go_wp2_with (at_builtin; go_loud (refine wpList_append_reads rfl _ _ 30 rfl w.heap.size 35 (.agg #[.bool false, .int .u64 0, .int .u64 0, .int .i64 0]) 4 32 Try.underlying30 infoPreW rfl (by decide) _ _ _ rfl _ _ _ rfl HO9.out _ _ HR9.out HCE.out ?qa0 ?qa1 ?qa2 ?_))
            case qa0 => unfold maxLen; first | omega | (simp only [List.length_cons, List.length_nil]; omega)
            case qa1 => first | omega | (simp only [List.length_cons, List.length_nil]; omega)
            (try (case qa2 => first | exact z6 | (simpa using z6)))
            intro v' w' hown' hb'
            have HOWN : Hid (w'.ownsRow w.heap.size 35 4 v' R.length (R.flatMap PV.cells)) := by
              show World.ownsRow _ _ _ _ _ _ _
              rw [HRE.out, List.length_append, List.flatMap_append]
              exact hown'
            have HBN := Lib.hid ((below_drewN HB6.out _).trans hb')
            clear hown' hb'
            go_wp2
            go_ret
            exact ⟨_, rfl, HOWN.out, HBN.out⟩
        · rw [decide_eq_false hxe] at he1
          have HRE : Hid (R = X ++ Y) := by show _ = _; rw [← HRR.out, if_neg (fun h => hxe (by have := hX1.symm.trans h.1; simpa using this))]
          clear hxe hcx hcy ho5 ho6 hx1 hy1 hX1 hY1
          go_wp2_with fail
          go_quiet (fail)
          obtain ⟨A9, c9, hv9, hc9, hr9⟩ := own_reads (own_below HOW6.out (below_drewN (Below.refl _ _) 1))
          injection hv9 with hv9a _ hv9c
          subst hv9a
          subst hv9c
          have HR9 := Lib.hid hr9
          have HO9 := Lib.hid (own_below HOW5.out (below_drewN (Below.refl _ _) 1))
          have HCE : Hid (∀ u ∈ (Y).flatMap PV.cells, u.oneCell' = true) := by
            show ∀ u ∈ (Y).flatMap PV.cells, u.oneCell' = true
            intro u hu
            obtain ⟨r, _, hr⟩ := List.mem_flatMap.1 hu
            simp [PV.cells] at hr
            rcases hr with rfl | rfl | rfl | rfl <;> rfl
          clear hr9 hc9
          go_wp2_with (at_builtin; go_loud (refine wpList_append_reads rfl _ _ 30 rfl w.heap.size 35 (.agg #[.bool false, .int .u64 0, .int .u64 0, .int .i64 0]) 4 32 Try.underlying30 infoPreW rfl (by decide) _ _ _ rfl _ _ _ rfl HO9.out _ _ HR9.out HCE.out ?qb0 ?qb1 ?qb2 ?_))
          case qb0 => unfold maxLen; first | omega | (simp only [List.length_cons, List.length_nil]; omega)
          case qb1 => first | omega | (simp only [List.length_cons, List.length_nil]; omega)
          (try (case qb2 => first | exact z6 | (simpa using z6)))
          intro v' w' hown' hb'
          have HOWN : Hid (w'.ownsRow w.heap.size 35 4 v' R.length (R.flatMap PV.cells)) := by
            show World.ownsRow _ _ _ _ _ _ _
            rw [HRE.out, List.length_append, List.flatMap_append]
            exact hown'
          have HBN := Lib.hid ((below_drewN HB6.out _).trans hb')
          clear hown' hb'
          go_wp2
          go_ret
          exact ⟨_, rfl, HOWN.out, HBN.out⟩
      · have hl1 : ((X.length : Int) == 1) = true := by simp; omega
        have hl2 : ((Y.length : Int) == 1) = false := by simp; omega
        have HRE : Hid (R = X ++ Y) := by show _ = _; rw [← HRR.out, if_neg (fun h => hy1 (by rw [h.2]; rfl))]
        obtain ⟨A5, c5, rfl, hc5, hr5⟩ := own_reads ho5
        obtain ⟨A6, c6, rfl, hc6, hr6⟩ := own_reads ho6
        clear hx1 hy1 hr5 hr6 hc5 hc6 ho5 ho6
        go_wp2_with fail
        go_quiet (fail)
        obtain ⟨A9, c9, hv9, hc9, hr9⟩ := own_reads (own_below HOW6.out (below_drewN (Below.refl _ _) 1))
        injection hv9 with hv9a _ hv9c
        subst hv9a
        subst hv9c
        have HR9 := Lib.hid hr9
        have HO9 := Lib.hid (own_below HOW5.out (below_drewN (Below.refl _ _) 1))
        have HCE : Hid (∀ u ∈ (Y).flatMap PV.cells, u.oneCell' = true) := by
          show ∀ u ∈ (Y).flatMap PV.cells, u.oneCell' = true
          intro u hu
          obtain ⟨r, _, hr⟩ := List.mem_flatMap.1 hu
          simp [PV.cells] at hr
          rcases hr with rfl | rfl | rfl | rfl <;> rfl
        clear hr9 hc9
        go_wp2_with (at_builtin; go_loud (refine wpList_append_reads rfl _ _ 30 rfl w.heap.size 35 (.agg #[.bool false, .int .u64 0, .int .u64 0, .int .i64 0]) 4 32 Try.underlying30 infoPreW rfl (by decide) _ _ _ rfl _ _ _ rfl HO9.out _ _ HR9.out HCE.out ?qc0 ?qc1 ?qc2 ?_))
        case qc0 => unfold maxLen; first | omega | (simp only [List.length_cons, List.length_nil]; omega)
        case qc1 => first | omega | (simp only [List.length_cons, List.length_nil]; omega)
        (try (case qc2 => first | exact z6 | (simpa using z6)))
        intro v' w' hown' hb'
        have HOWN : Hid (w'.ownsRow w.heap.size 35 4 v' R.length (R.flatMap PV.cells)) := by
          show World.ownsRow _ _ _ _ _ _ _
          rw [HRE.out, List.length_append, List.flatMap_append]
          exact hown'
        have HBN := Lib.hid ((below_drewN HB6.out _).trans hb')
        clear hown' hb'
        go_wp2
        go_ret
        exact ⟨_, rfl, HOWN.out, HBN.out⟩
    · have hl1 : ((X.length : Int) == 1) = false := by simp; omega
      have HRE : Hid (R = X ++ Y) := by show _ = _; rw [← HRR.out, if_neg (fun h => hx1 (by rw [h.1]; rfl))]
      obtain ⟨A5, c5, rfl, hc5, hr5⟩ := own_reads ho5
      obtain ⟨A6, c6, rfl, hc6, hr6⟩ := own_reads ho6
      clear hx1 hr5 hr6 hc5 hc6 ho5 ho6
      go_wp2_with fail
      go_quiet (fail)
      obtain ⟨A9, c9, hv9, hc9, hr9⟩ := own_reads (own_below HOW6.out (below_drewN (Below.refl _ _) 1))
      injection hv9 with hv9a _ hv9c
      subst hv9a
      subst hv9c
      have HR9 := Lib.hid hr9
      have HO9 := Lib.hid (own_below HOW5.out (below_drewN (Below.refl _ _) 1))
      have HCE : Hid (∀ u ∈ (Y).flatMap PV.cells, u.oneCell' = true) := by
        show ∀ u ∈ (Y).flatMap PV.cells, u.oneCell' = true
        intro u hu
        obtain ⟨r, _, hr⟩ := List.mem_flatMap.1 hu
        simp [PV.cells] at hr
        rcases hr with rfl | rfl | rfl | rfl <;> rfl
      clear hr9 hc9
      go_wp2_with (at_builtin; go_loud (refine wpList_append_reads rfl _ _ 30 rfl w.heap.size 35 (.agg #[.bool false, .int .u64 0, .int .u64 0, .int .i64 0]) 4 32 Try.underlying30 infoPreW rfl (by decide) _ _ _ rfl _ _ _ rfl HO9.out _ _ HR9.out HCE.out ?qd0 ?qd1 ?qd2 ?_))
      case qd0 => unfold maxLen; first | omega | (simp only [List.length_cons, List.length_nil]; omega)
      case qd1 => first | omega | (simp only [List.length_cons, List.length_nil]; omega)
      (try (case qd2 => first | exact z6 | (simpa using z6)))
      intro v' w' hown' hb'
      have HOWN : Hid (w'.ownsRow w.heap.size 35 4 v' R.length (R.flatMap PV.cells)) := by
        show World.ownsRow _ _ _ _ _ _ _
        rw [HRE.out, List.length_append, List.flatMap_append]
        exact hown'
      have HBN := Lib.hid ((below_drewN HB6.out _).trans hb')
      clear hown' hb'
      go_wp2
      go_ret
      exact ⟨_, rfl, HOWN.out, HBN.out⟩

theorem walked_any {A A' : Option Addr} {n c n' c' : Nat} {l m : List PV} {f : Bool → Bool → Bool} {fid : FuncId} {caps : Array Value} (hf : RuleFn fid caps f) (hl : ∀ q ∈ l, q.Ok) (hm : ∀ q ∈ m, q.Ok) (hn1 : n ≤ 200) (hn2 : n' ≤ 200) : ∀ K, WalkedAt A A' n c n' c' l m f fid caps K
  | 0 => fun p w hp hk h1 h2 => by
    by_cases hs : 0 ≤ withinI l p ∧ 0 ≤ withinI m p
    · exact walked_end hf hl hm p w hp h1 h2 hs.1 hs.2
    · exfalso
      have hn : p.n < wideI p.six := by
        rcases within_three l p with h | h | h <;> rcases within_three m p with h' | h' | h' <;> first | exact within_some hl hp h | exact within_some hm hp h' | (exfalso; omega)
      have := (low_num hp hn).2.2
      omega
  | K + 1 => fun p w hp hk h1 h2 => by
    by_cases hs : 0 ≤ withinI l p ∧ 0 ≤ withinI m p
    · exact walked_end hf hl hm p w hp h1 h2 hs.1 hs.2
    · exact walked_split hl hm hn1 hn2 K (walked_any hf hl hm hn1 hn2 K) p w hp hk h1 h2 hs

end Go.Proofs.Ytonelibgaceflaa

namespace Go.Proofs.Ytonelibgaceflaa
open Go.ChangeShapes Go.WideShapes Go.ChangeAt Go.RowKit

/-- A prefix as data: its words are words. -/
def PV.Raw (p : PV) : Prop := (0 ≤ p.hi ∧ p.hi < 18446744073709551616) ∧ (0 ≤ p.lo ∧ p.lo < 18446744073709551616)
def chkP (p : PV) : Int := chk p.six p.hi p.lo p.n
theorem chkP_ok {p : PV} (h : p.Raw) (hc : chkP p = 0) : p.Ok := chk_zero h.1 h.2 hc
theorem chkP_of {p : PV} (h : p.Ok) : chkP p = 0 := (chk_num h.addr (ok_n h)).2 (PV.dvd h)
theorem PV.Ok.raw {p : PV} (h : p.Ok) : p.Raw := ⟨Pfx.rhi h, Pfx.rlo h⟩
/-- What is refused of two lists. -/
def presE (l m : List PV) : Int := if 80 < l.length then 1 else if 80 < m.length then 1 else if firstF chkP l = 0 then firstF chkP m else firstF chkP l
theorem firstF_all {l : List PV} (h : firstF chkP l = 0) : ∀ q ∈ l, chkP q = 0 := by
  induction l with
  | nil => intro q hq; cases hq
  | cons x l ih =>
    unfold firstF at h
    by_cases hx : chkP x = 0
    · rw [if_pos hx] at h
      intro q hq
      rcases List.mem_cons.1 hq with rfl | hq
      · exact hx
      · exact ih h q hq
    · rw [if_neg hx] at h
      exact absurd h hx
theorem firstF_noneP {l : List PV} (h : ∀ q ∈ l, chkP q = 0) : firstF chkP l = 0 := by
  induction l with
  | nil => rfl
  | cons x l ih =>
    unfold firstF
    rw [if_pos (h x (by simp))]
    exact ih (fun q hq => h q (by simp [hq]))
theorem presE_zero {l m : List PV} (hl : ∀ q ∈ l, q.Raw) (hm : ∀ q ∈ m, q.Raw) (h : presE l m = 0) : l.length ≤ 80 ∧ m.length ≤ 80 ∧ (∀ q ∈ l, q.Ok) ∧ ∀ q ∈ m, q.Ok := by
  unfold presE at h
  by_cases h1 : 80 < l.length
  · rw [if_pos h1] at h; omega
  rw [if_neg h1] at h
  by_cases h2 : 80 < m.length
  · rw [if_pos h2] at h; omega
  rw [if_neg h2] at h
  by_cases h3 : firstF chkP l = 0
  · rw [if_pos h3] at h
    exact ⟨by omega, by omega, fun q hq => chkP_ok (hl q hq) (firstF_all h3 q hq), fun q hq => chkP_ok (hm q hq) (firstF_all h q hq)⟩
  · rw [if_neg h3] at h
    exact absurd h h3

set_option maxRecDepth 100000 in
set_option maxHeartbeats 3200000 in
theorem presFault_any {A A' : Option Addr} {n c n' c' : Nat} {l m : List PV} {w : World} {b : Nat} (h : IsPres w A n c l) (h' : IsPres w A' n' c' m) (hl : ∀ q ∈ l, q.Raw) (hm : ∀ q ∈ m, q.Raw) (hk : Blk w b 30 #[.slice A n c, .slice A' n' c']) :
    Calls Try.prog 199 #[.slice (some ⟨b, 0, none⟩) 2 2] w fun e w' => e = .returned (.int .i64 (presE l m)) ∧ Below w.heap.size w w' := by
  have HZ1 := Lib.hid h.1
  have HZ2 := Lib.hid h'.1
  have HR1 := Lib.hid h.2.2
  have HR2 := Lib.hid h'.2.2
  have HL := Lib.hid hl
  have HM := Lib.hid hm
  have HK := Lib.hid hk
  have lb := hk.lt
  have hc1 := h.2.1
  have hc2 := h'.2.1
  unfold maxLen at hc1 hc2
  have g0 := hk.cell 0
  have g1 := hk.cell 1
  simp at g0 g1
  obtain ⟨res, hres⟩ : ∃ res, presE l m = res := ⟨_, rfl⟩
  rw [hres]
  have HRES := Lib.hid hres
  clear h h' hl hm hk hres
  by_cases hn : 80 < n
  · have hr : res = 1 := by rw [← HRES.out]; unfold presE; rw [if_pos (by rw [HZ1.out]; exact hn)]
    subst hr
    go_enter Try.func199, Try.ntmps199
    go_wp2
    go_loop [12, 4] (fun i _ => i = .int .i64 0) (fun i _ => 2 - (intOf i).toNat)
    case atStart => rfl
    case round =>
      obtain rfl := hrel
      go_wp2
      go_ret
      exact ⟨rfl, Below.refl _ _⟩
  by_cases hn' : 80 < n'
  · have hr : res = 1 := by rw [← HRES.out]; unfold presE; rw [if_neg (by rw [HZ1.out]; omega), if_pos (by rw [HZ2.out]; exact hn')]
    subst hr
    go_enter Try.func199, Try.ntmps199
    go_wp2
    go_loop [12, 4] (fun i _ => i = .int .i64 0 ∨ i = .int .i64 1) (fun i _ => 2 - (intOf i).toNat)
    case atStart => exact .inl rfl
    case round =>
      rcases hrel with rfl | rfl
      · go_wp2
        go_round
        case rel => exact .inr (by go_num)
        case measure => simp [intOf]
      · go_wp2
        go_ret
        exact ⟨rfl, Below.refl _ _⟩
  · have hr : res = if firstF chkP l = 0 then firstF chkP m else firstF chkP l := by rw [← HRES.out]; unfold presE; rw [if_neg (by rw [HZ1.out]; omega), if_neg (by rw [HZ2.out]; omega)]
    have HR := Lib.hid hr
    clear hr HRES
    go_enter Try.func199, Try.ntmps199
    go_wp2
    go_loop [12, 4] (fun i _ => i = .int .i64 0 ∨ i = .int .i64 1 ∨ i = .int .i64 2) (fun i _ => 2 - (intOf i).toNat)
    case atStart => exact .inl rfl
    case round =>
      rcases hrel with rfl | rfl | rfl
      · go_wp2
        go_round
        case rel => exact .inr (.inl (by go_num))
        case measure => simp [intOf]
      · go_wp2
        go_round
        case rel => exact .inr (.inr (by go_num))
        case measure => simp [intOf]
      · go_wp2
        go_loopw [22, 6, 8, 9] (fun i _ _ _ wr => ((i = .int .i64 0) ∨ (i = .int .i64 1 ∧ firstF chkP l = 0) ∨ (i = .int .i64 2 ∧ firstF chkP l = 0 ∧ firstF chkP m = 0)) ∧ Below w.heap.size w wr) (fun i _ _ _ _ => 2 - (intOf i).toNat)
        case atStart => exact ⟨.inl rfl, Below.refl _ _⟩
        case round =>
          obtain ⟨hj, hb⟩ := hrel
          obtain ⟨wo, rfl⟩ : ∃ wo : World, wo = wr := ⟨_, rfl⟩
          have HB := Lib.hid hb
          have kk := HK.out.below hb lb
          have f0 := kk.cell 0
          have f1 := kk.cell 1
          simp at f0 f1
          clear kk hb
          rcases hj with rfl | ⟨rfl, h1⟩ | ⟨rfl, h1, h2⟩
          · go_wp2
            go_loopw [28, 8, 9] (fun i _ _ wr => ∃ k : Nat, k ≤ n ∧ i = .int .i64 k ∧ NoneTo chkP l k ∧ Below w.heap.size w wr) (fun i _ _ _ => n - (intOf i).toNat)
            case atStart => exact ⟨0, by omega, rfl, rfl, HB.out⟩
            case round =>
              obtain ⟨k, hk, rfl, hto, hb⟩ := hrel
              have HT := Lib.hid hto
              clear hto
              by_cases hlt : k < n
              · obtain ⟨ad, ⟨qs, qh, ql, qn⟩, rfl, hlk, htk, hmem, hbk, hc0, hcj⟩ := HR1.out.atS PV.cells_length HZ1.out hlt
                have q0 := (hb.cell (p := ad.add (k * 4)) (by rw [block_of_add]; exact hbk)).trans (hc0 _ rfl)
                have q1 := (hb.cell (p := ⟨(ad.add (k * 4)).block, (ad.add (k * 4)).off + 1, none⟩) (by rw [block_of_add]; exact hbk)).trans (hcj 1 _ rfl)
                have q2 := (hb.cell (p := ⟨(ad.add (k * 4)).block, (ad.add (k * 4)).off + 2, none⟩) (by rw [block_of_add]; exact hbk)).trans (hcj 2 _ rfl)
                have q3 := (hb.cell (p := ⟨(ad.add (k * 4)).block, (ad.add (k * 4)).off + 3, none⟩) (by rw [block_of_add]; exact hbk)).trans (hcj 3 _ rfl)
                obtain ⟨r1, r2⟩ := HL.out _ hmem
                have CP := Lib.hid (fun w => preFault_any qs qh ql qn w r1 r2)
                have hcv : chkP ⟨qs, qh, ql, qn⟩ = chk qs qh ql qn := rfl
                have HBK := Lib.hid hb
                have hszb := hb.size
                obtain ⟨cv, hcve⟩ : ∃ cv, chk qs qh ql qn = cv := ⟨_, rfl⟩
                rw [hcve] at CP hcv
                clear hcve
                by_cases hcz : cv = 0
                · subst hcz
                  have HT2 := Lib.hid (noneTo_succ HT.out htk hcv)
                  clear hlk htk hmem hbk hc0 hcj hb r1 r2 hcv
                  go_wp2_with fail
                  refine (CP.out _).mono ?_
                  rintro e w4 ⟨rfl, hb4⟩
                  have HB4 := Lib.hid (below_step HBK.out (balloc1 hb4))
                  clear hb4
                  go_wp2
                  go_roundw
                  case rel => exact ⟨k + 1, by omega, by go_num, HT2.out, HB4.out⟩
                  case measure => simp [intOf]; omega
                · have HF := Lib.hid (firstF_at HT.out hlk (by rw [hcv]; exact hcz))
                  have HF : Hid (firstF chkP l = cv) := HF.out.trans hcv
                  have hcb : (cv != 0) = true := by simpa using hcz
                  clear hlk htk hmem hbk hc0 hcj hb r1 r2 hcv
                  go_wp2_with fail
                  refine (CP.out _).mono ?_
                  rintro e w4 ⟨rfl, hb4⟩
                  have HB4 := Lib.hid (below_step HBK.out (balloc1 hb4))
                  clear hb4
                  go_wp2
                  go_ret
                  exact ⟨ret_int (by rw [HR.out, if_neg (by rw [HF.out]; exact hcz), HF.out]), HB4.out⟩
              · obtain rfl : k = n := by omega
                have HE := Lib.hid (firstF_end HT.out HZ1.out)
                go_wp2
                go_roundw
                case rel => exact ⟨.inr (.inl ⟨by go_num, HE.out⟩), hb⟩
                case measure => simp [intOf]
          · have H1 := Lib.hid h1
            clear h1
            go_wp2
            go_loopw [28, 8, 9] (fun i _ _ wr => ∃ k : Nat, k ≤ n' ∧ i = .int .i64 k ∧ NoneTo chkP m k ∧ Below w.heap.size w wr) (fun i _ _ _ => n' - (intOf i).toNat)
            case atStart => exact ⟨0, by omega, rfl, rfl, HB.out⟩
            case round =>
              obtain ⟨k, hk, rfl, hto, hb⟩ := hrel
              have HT := Lib.hid hto
              clear hto
              by_cases hlt : k < n'
              · obtain ⟨ad, ⟨qs, qh, ql, qn⟩, rfl, hlk, htk, hmem, hbk, hc0, hcj⟩ := HR2.out.atS PV.cells_length HZ2.out hlt
                have q0 := (hb.cell (p := ad.add (k * 4)) (by rw [block_of_add]; exact hbk)).trans (hc0 _ rfl)
                have q1 := (hb.cell (p := ⟨(ad.add (k * 4)).block, (ad.add (k * 4)).off + 1, none⟩) (by rw [block_of_add]; exact hbk)).trans (hcj 1 _ rfl)
                have q2 := (hb.cell (p := ⟨(ad.add (k * 4)).block, (ad.add (k * 4)).off + 2, none⟩) (by rw [block_of_add]; exact hbk)).trans (hcj 2 _ rfl)
                have q3 := (hb.cell (p := ⟨(ad.add (k * 4)).block, (ad.add (k * 4)).off + 3, none⟩) (by rw [block_of_add]; exact hbk)).trans (hcj 3 _ rfl)
                obtain ⟨r1, r2⟩ := HM.out _ hmem
                have CP := Lib.hid (fun w => preFault_any qs qh ql qn w r1 r2)
                have hcv : chkP ⟨qs, qh, ql, qn⟩ = chk qs qh ql qn := rfl
                have HBK := Lib.hid hb
                have hszb := hb.size
                obtain ⟨cv, hcve⟩ : ∃ cv, chk qs qh ql qn = cv := ⟨_, rfl⟩
                rw [hcve] at CP hcv
                clear hcve
                by_cases hcz : cv = 0
                · subst hcz
                  have HT2 := Lib.hid (noneTo_succ HT.out htk hcv)
                  clear hlk htk hmem hbk hc0 hcj hb r1 r2 hcv
                  go_wp2_with fail
                  refine (CP.out _).mono ?_
                  rintro e w4 ⟨rfl, hb4⟩
                  have HB4 := Lib.hid (below_step HBK.out (balloc1 hb4))
                  clear hb4
                  go_wp2
                  go_roundw
                  case rel => exact ⟨k + 1, by omega, by go_num, HT2.out, HB4.out⟩
                  case measure => simp [intOf]; omega
                · have HF := Lib.hid (firstF_at HT.out hlk (by rw [hcv]; exact hcz))
                  have HF : Hid (firstF chkP m = cv) := HF.out.trans hcv
                  have hcb : (cv != 0) = true := by simpa using hcz
                  clear hlk htk hmem hbk hc0 hcj hb r1 r2 hcv
                  go_wp2_with fail
                  refine (CP.out _).mono ?_
                  rintro e w4 ⟨rfl, hb4⟩
                  have HB4 := Lib.hid (below_step HBK.out (balloc1 hb4))
                  clear hb4
                  go_wp2
                  go_ret
                  exact ⟨ret_int (by rw [HR.out, if_pos H1.out, HF.out]), HB4.out⟩
              · obtain rfl : k = n' := by omega
                have HE := Lib.hid (firstF_end HT.out HZ2.out)
                go_wp2
                go_roundw
                case rel => exact ⟨.inr (.inr ⟨by go_num, H1.out, HE.out⟩), hb⟩
                case measure => simp [intOf]
          · go_wp2
            go_ret
            exact ⟨ret_int (by rw [HR.out, if_pos h1, h2]), HB.out⟩

end Go.Proofs.Ytonelibgaceflaa

namespace Go.Proofs.Ytonelibgaceflaa
open Go.ChangeShapes Go.WideShapes Go.ChangeAt Go.RowKit

/-- The prefixes of the set that a rule makes of two lists. -/
noncomputable def setL (f : Bool → Bool → Bool) (l m : List PV) : List PV := walkL f l m ⟨false, 0, 0, 0⟩ ++ walkL f l m ⟨true, 0, 0, 0⟩
noncomputable def setO (f : Bool → Bool → Bool) (l m : List PV) : List PV := if presE l m = 0 then setL f l m else []
/-- A list of prefixes and an error. -/
def RetPres (w : World) (L : List PV) (E : Int) (e : Ending) (w' : World) : Prop :=
  ∃ v, e = .returned (.tuple #[v, .int .i64 E]) ∧ w'.ownsRow w.heap.size 35 4 v L.length (L.flatMap PV.cells) ∧ Below w.heap.size w w'
theorem pcells_one (L : List PV) : ∀ u ∈ L.flatMap PV.cells, u.oneCell' = true := by
  intro u hu
  obtain ⟨r, _, hr⟩ := List.mem_flatMap.1 hu
  simp [PV.cells] at hr
  rcases hr with rfl | rfl | rfl | rfl <;> rfl
theorem setL_len {f : Bool → Bool → Bool} {l m : List PV} (h : presE l m = 0) (hl : ∀ q ∈ l, q.Raw) (hm : ∀ q ∈ m, q.Raw) : (setL f l m).length ≤ 120000 := by
  obtain ⟨h1, h2, h3, h4⟩ := presE_zero hl hm h
  have a := walkL_few (f := f) h3 h4 (by omega) (by omega) (top_ok false)
  have b := walkL_few (f := f) h3 h4 (by omega) (by omega) (top_ok true)
  unfold setL
  rw [List.length_append]
  omega
theorem setO_len {f : Bool → Bool → Bool} {l m : List PV} (hl : ∀ q ∈ l, q.Raw) (hm : ∀ q ∈ m, q.Raw) : (setO f l m).length ≤ 120000 := by
  unfold setO
  split
  · exact setL_len ‹_› hl hm
  · simp

set_option maxRecDepth 100000 in
set_option maxHeartbeats 3200000 in
theorem cidrSet_is {A A' : Option Addr} {n c n' c' : Nat} {l m : List PV} {f : Bool → Bool → Bool} {fid : FuncId} {caps : Array Value} {w : World} (hf : RuleFn fid caps f) (h : IsPres w A n c l) (h' : IsPres w A' n' c' m) (hl : ∀ q ∈ l, q.Raw) (hm : ∀ q ∈ m, q.Raw) :
    Calls Try.prog 142 #[.slice A n c, .slice A' n' c', .func (.func fid) #[] caps] w (RetPres w (setO f l m) (presE l m)) := by
  have hb0 : Below w.heap.size w (w.alloc (.cells #[.slice A n c, .slice A' n' c'] 30)) := (Below.refl _ _).alloc (Nat.le_refl _) _
  have CP := Lib.hid (presFault_any (h.below hb0) (h'.below hb0) hl hm (Blk.new w 30 #[.slice A n c, .slice A' n' c']))
  unfold RetPres
  by_cases hz : presE l m = 0
  · have hO : setO f l m = setL f l m := by unfold setO; rw [if_pos hz]
    obtain ⟨z1, z2, z3, z4⟩ := presE_zero hl hm hz
    rw [hO, hz]
    rw [hz] at CP
    have CT := Lib.hid (fun six w => top_any six w)
    have len1 := walkL_few (f := f) z3 z4 (by omega) (by omega) (top_ok false)
    have len2 := walkL_few (f := f) z3 z4 (by omega) (by omega) (top_ok true)
    have W1 := Lib.hid (fun (w' : World) (hb : Below w.heap.size w w') => walked_any hf z3 z4 (by rw [← h.1]; omega) (by rw [← h'.1]; omega) _ ⟨false, 0, 0, 0⟩ w' (top_ok false) rfl (h.below hb) (h'.below hb))
    have W2 := Lib.hid (fun (w' : World) (hb : Below w.heap.size w w') => walked_any hf z3 z4 (by rw [← h.1]; omega) (by rw [← h'.1]; omega) _ ⟨true, 0, 0, 0⟩ w' (top_ok true) rfl (h.below hb) (h'.below hb))
    unfold Walked PV.val at W1 W2
    simp only at W1 W2
    unfold setL
    generalize walkL f l m ⟨false, 0, 0, 0⟩ = X at *
    generalize walkL f l m ⟨true, 0, 0, 0⟩ = Y at *
    clear hO hz hf h h' hl hm z1 z2 z3 z4 hb0
    go_enter Try.func142, Try.ntmps142
    go_wp2_with fail
    refine CP.out.mono ?_
    rintro e w1 ⟨rfl, hb1⟩
    have HB1 := Lib.hid (balloc1 hb1)
    clear hb1
    go_wp2_with fail
    refine (CT.out false _).mono ?_
    rintro e w2 ⟨rfl, hb2⟩
    have HB2 := Lib.hid (below_step HB1.out hb2)
    clear hb2
    go_wp2_with fail
    refine (W1.out _ HB2.out).mono ?_
    rintro e w3 ⟨v3, rfl, ho3, hb3⟩
    have HB3 := Lib.hid (below_step HB2.out hb3)
    have HO3 := Lib.hid (own_mono ho3 (base' := w.heap.size) HB2.out.size)
    clear ho3 hb3
    go_wp2_with fail
    refine (CT.out true _).mono ?_
    rintro e w4 ⟨rfl, hb4⟩
    have HB4 := Lib.hid (below_step HB3.out hb4)
    have HO4 := Lib.hid (own_below HO3.out hb4)
    clear hb4
    go_wp2_with fail
    refine (W2.out _ HB4.out).mono ?_
    rintro e w5 ⟨v5, rfl, ho5, hb5⟩
    have HB5 := Lib.hid (below_step HB4.out hb5)
    have HO5 := Lib.hid (own_below HO4.out hb5)
    obtain ⟨A9, c9, rfl, hc9, hr9⟩ := own_reads ho5
    have HR9 := Lib.hid hr9
    have z5 := HB5.out.size
    have HCE := Lib.hid (pcells_one Y)
    clear ho5 hb5 hr9 hc9
    go_wp2_with (at_builtin; go_loud (refine wpList_append_reads rfl _ _ 30 rfl w.heap.size 35 (.agg #[.bool false, .int .u64 0, .int .u64 0, .int .i64 0]) 4 32 Try.underlying30 infoPreW rfl (by decide) _ _ _ rfl _ _ _ rfl HO5.out _ _ HR9.out HCE.out ?d0 ?d1 ?d2 ?_))
    case d0 => unfold maxLen; omega
    case d1 => omega
    (try (case d2 => exact z5))
    intro v' w' hown' hb'
    have HOWN : Hid (w'.ownsRow w.heap.size 35 4 v' (X ++ Y).length ((X ++ Y).flatMap PV.cells)) := by
      show World.ownsRow _ _ _ _ _ _ _
      rw [List.length_append, List.flatMap_append]
      exact hown'
    have HBN := Lib.hid (HB5.out.trans hb')
    clear hown' hb'
    go_wp2
    go_ret2
    exact ⟨_, rfl, HOWN.out, HBN.out⟩
  · have hO : setO f l m = [] := by unfold setO; rw [if_neg hz]
    rw [hO]
    obtain ⟨E, hE⟩ : ∃ E, presE l m = E := ⟨_, rfl⟩
    rw [hE] at hz CP ⊢
    have hzb : (E != 0) = true := by simpa using hz
    clear hO hz hf h h' hl hm hb0 hE
    go_enter Try.func142, Try.ntmps142
    go_wp2_with fail
    refine CP.out.mono ?_
    rintro e w1 ⟨rfl, hb1⟩
    have HB1 := Lib.hid (balloc1 hb1)
    clear hb1
    go_wp2
    go_ret2
    exact ⟨_, rfl, World.ownsRow_nil _ _ _ _, HB1.out⟩

theorem isPres_nil (w : World) : IsPres w none 0 0 [] := ⟨rfl, ⟨Nat.le_refl _, by unfold maxLen; omega⟩, Reads.none_⟩

set_option maxRecDepth 100000 in
set_option maxHeartbeats 800000 in
theorem refMergeFn : RuleFn 143 #[] (fun a _ => a) := by
  refine ⟨fun args w => by kernel_rfl, fun a b w => ?_⟩
  show Calls _ _ #[.bool a, .bool b] _ _
  cases a <;> cases b <;>
  · go_enter Try.func143, Try.ntmps143
    go_wp2
    go_ret
    exact ⟨rfl, Below.refl _ _⟩
set_option maxRecDepth 100000 in
set_option maxHeartbeats 800000 in
theorem refMerge_is {A : Option Addr} {n c : Nat} {l : List PV} {w : World} (h : IsPres w A n c l) (hl : ∀ q ∈ l, q.Raw) :
    Calls Try.prog 66 #[.slice A n c] w (RetPres w (setO (fun a _ => a) l []) (presE l [])) := by
  have CS := Lib.hid (fun (w' : World) (hb : Below w.heap.size w w') => cidrSet_is refMergeFn (h.below hb) (isPres_nil w') hl (fun q hq => by cases hq))
  generalize setO (fun a _ => a) l [] = L at *
  generalize presE l [] = E at *
  unfold RetPres at CS ⊢
  clear h hl
  go_enter Try.func66, Try.ntmps66
  go_wp2_with fail
  refine (CS.out _ (Below.refl _ _)).mono ?_
  rintro e w1 ⟨v, rfl, ho, hb⟩
  have HO := Lib.hid ho
  have HB := Lib.hid hb
  clear ho hb
  go_wp2
  go_ret2
  exact ⟨_, rfl, HO.out, HB.out⟩

set_option maxRecDepth 100000 in
set_option maxHeartbeats 800000 in
theorem refMinusFn : RuleFn 147 #[] (fun a b => a && !b) := by
  refine ⟨fun args w => by kernel_rfl, fun a b w => ?_⟩
  show Calls _ _ #[.bool a, .bool b] _ _
  cases a <;> cases b <;>
  · go_enter Try.func147, Try.ntmps147
    go_wp2
    go_ret
    exact ⟨rfl, Below.refl _ _⟩
set_option maxRecDepth 100000 in
set_option maxHeartbeats 800000 in
theorem refMinus_is {A A' : Option Addr} {n c n' c' : Nat} {l m : List PV} {w : World} (h : IsPres w A n c l) (h' : IsPres w A' n' c' m) (hl : ∀ q ∈ l, q.Raw) (hm : ∀ q ∈ m, q.Raw) :
    Calls Try.prog 70 #[.slice A n c, .slice A' n' c'] w (RetPres w (setO (fun a b => a && !b) l m) (presE l m)) := by
  have CS := Lib.hid (fun (w' : World) (hb : Below w.heap.size w w') => cidrSet_is refMinusFn (h.below hb) (h'.below hb) hl hm)
  generalize setO (fun a b => a && !b) l m = L at *
  generalize presE l m = E at *
  unfold RetPres at CS ⊢
  clear h h' hl hm
  go_enter Try.func70, Try.ntmps70
  go_wp2_with fail
  refine (CS.out _ (Below.refl _ _)).mono ?_
  rintro e w1 ⟨v, rfl, ho, hb⟩
  have HO := Lib.hid ho
  have HB := Lib.hid hb
  clear ho hb
  go_wp2
  go_ret2
  exact ⟨_, rfl, HO.out, HB.out⟩

set_option maxRecDepth 100000 in
set_option maxHeartbeats 800000 in
theorem refBothFn : RuleFn 145 #[] (fun a b => a && b) := by
  refine ⟨fun args w => by kernel_rfl, fun a b w => ?_⟩
  show Calls _ _ #[.bool a, .bool b] _ _
  cases a <;> cases b <;>
  · go_enter Try.func145, Try.ntmps145
    go_wp2
    go_ret
    exact ⟨rfl, Below.refl _ _⟩
set_option maxRecDepth 100000 in
set_option maxHeartbeats 800000 in
theorem refBoth_is {A A' : Option Addr} {n c n' c' : Nat} {l m : List PV} {w : World} (h : IsPres w A n c l) (h' : IsPres w A' n' c' m) (hl : ∀ q ∈ l, q.Raw) (hm : ∀ q ∈ m, q.Raw) :
    Calls Try.prog 68 #[.slice A n c, .slice A' n' c'] w (RetPres w (setO (fun a b => a && b) l m) (presE l m)) := by
  have CS := Lib.hid (fun (w' : World) (hb : Below w.heap.size w w') => cidrSet_is refBothFn (h.below hb) (h'.below hb) hl hm)
  generalize setO (fun a b => a && b) l m = L at *
  generalize presE l m = E at *
  unfold RetPres at CS ⊢
  clear h h' hl hm
  go_enter Try.func68, Try.ntmps68
  go_wp2_with fail
  refine (CS.out _ (Below.refl _ _)).mono ?_
  rintro e w1 ⟨v, rfl, ho, hb⟩
  have HO := Lib.hid ho
  have HB := Lib.hid hb
  clear ho hb
  go_wp2
  go_ret2
  exact ⟨_, rfl, HO.out, HB.out⟩

end Go.Proofs.Ytonelibgaceflaa

namespace Go.Proofs.Ytonelibgaceflaa
open Go.ChangeShapes Go.WideShapes Go.ChangeAt Go.RowKit

theorem infoIntI : (Try.prog.info? 3).map (fun i => (i.zero, i.size, i.bytes)) = some (some (.int .i64 0), 1, 8) := by kernel_rfl
theorem top_has (six : Bool) (x : Nat) : PV.has ⟨six, 0, 0, 0⟩ six x ↔ x < 2 ^ widN six := by
  unfold PV.has
  rw [(top_num six).1, (top_num six).2]
  constructor
  · rintro ⟨_, _, h⟩; omega
  · intro h; exact ⟨rfl, by omega, by omega⟩
/-- Nothing is left of a prefix just if no address of it is free. -/
theorem minus_nil {p : PV} {qs : List PV} (hp : p.Ok) (_hq : ∀ q ∈ qs, q.Ok) : setL (fun a b => a && !b) [p] qs = [] ↔ freeB qs p = false := by
  unfold setL
  rw [List.append_eq_nil_iff, walkL_nil, walkL_nil]
  have key : ∀ six x, setOf (fun a b => a && !b) [p] qs six x ↔ (p.has six x ∧ ∀ q ∈ qs, ¬ q.has six x) := by
    intro six x
    unfold setOf hasL
    simp
  unfold freeB
  rw [decide_eq_false_iff_not]
  constructor
  · rintro ⟨h1, h2⟩ ⟨x, hx, hn⟩
    have hlt := has_lt hp hx
    cases h6 : p.six with
    | false =>
      rw [h6] at hx hn hlt
      exact h1 x ((top_has false x).2 hlt) ((key false x).2 ⟨hx, hn⟩)
    | true =>
      rw [h6] at hx hn hlt
      exact h2 x ((top_has true x).2 hlt) ((key true x).2 ⟨hx, hn⟩)
  · intro h
    constructor
    · intro x _ hs
      obtain ⟨a, b⟩ := (key false x).1 hs
      exact h ⟨x, by rw [a.1]; exact a, by rw [a.1]; exact b⟩
    · intro x _ hs
      obtain ⟨a, b⟩ := (key true x).1 hs
      exact h ⟨x, by rw [a.1]; exact a, by rw [a.1]; exact b⟩

/-- Is the rule at a place idle? -/
noncomputable def idleAt (l : List RuleV) (i : Nat) : Bool := match l[i]? with
  | some r => open Classical in decide (∀ t : Int, r.least ≤ t → t ≤ r.most → freeB (selR (l.take i) t) r.p = false)
  | none => false
noncomputable def idleTo (l : List RuleV) (k : Nat) : List Int := ((List.range k).filter (idleAt l)).map fun i : Nat => (i : Int)
theorem idleTo_succ (l : List RuleV) (k : Nat) : idleTo l (k + 1) = idleTo l k ++ if idleAt l k = true then [(k : Int)] else [] := by
  unfold idleTo
  rw [List.range_succ, List.filter_append, List.filter_cons, List.filter_nil, List.map_append]
  split <;> rfl
theorem idleTo_len (l : List RuleV) (k : Nat) : (idleTo l k).length ≤ k := by
  unfold idleTo
  rw [List.length_map]
  exact Nat.le_trans (List.length_filter_le _ _) (by simp)
theorem idleAt_true {l : List RuleV} {k : Nat} {r : RuleV} (h : l[k]? = some r) (hall : ∀ t : Int, r.least ≤ t → t ≤ r.most → freeB (selR (l.take k) t) r.p = false) : idleAt l k = true := by
  unfold idleAt
  rw [h]
  simp only
  exact @decide_eq_true _ (Classical.propDecidable _) hall
theorem idleAt_false {l : List RuleV} {k : Nat} {r : RuleV} (h : l[k]? = some r) (hex : ∃ t : Int, r.least ≤ t ∧ t ≤ r.most ∧ freeB (selR (l.take k) t) r.p = true) : idleAt l k = false := by
  unfold idleAt
  rw [h]
  simp only
  refine @decide_eq_false _ (Classical.propDecidable _) fun hall => ?_
  obtain ⟨t, h1, h2, h3⟩ := hex
  rw [hall t h1 h2] at h3
  cases h3
theorem goodR_of {w : World} {A : Option Addr} {n c : Nat} {l : List RuleV} (h : IsRules w A n l) (hz : rulesF l = 0) : GoodR w A n c l ∧ ∀ r ∈ l, 0 ≤ r.least ∧ r.least ≤ r.most ∧ r.most ≤ 128 := by
  have hlen : l.length ≤ 30 := by
    unfold rulesF at hz
    by_cases hn : 30 < l.length
    · rw [if_pos hn] at hz; omega
    · omega
  have hall := rulesF_all hz
  have key : ∀ r ∈ l, r.p.Ok ∧ r.n ≤ r.least ∧ r.least ≤ r.most ∧ r.most ≤ wideI r.six := by
    intro r hr
    have hf := hall r hr
    have ho := h.2.2.1 r hr
    unfold RuleV.fault at hf
    by_cases hc : chk r.six r.hi r.lo r.n = 0
    · rw [if_neg (by simp [hc])] at hf
      by_cases hx : r.least < r.n ∨ r.most < r.least ∨ wideI r.six < r.most
      · rw [if_pos hx] at hf; omega
      · exact ⟨chk_zero ho.1 ho.2 hc, by omega, by omega, by omega⟩
    · rw [if_pos hc] at hf; exact absurd hf hc
  refine ⟨⟨h.1, by rw [← h.1]; exact hlen, fun r hr => ⟨(key r hr).1, (key r hr).2.1⟩, h.2.2.2⟩, fun r hr => ?_⟩
  obtain ⟨a, b, c', d⟩ := key r hr
  have hn := (ok_n a).1
  have hn : 0 ≤ r.n := hn
  have hw : wideI r.six ≤ 128 := by unfold wideI; split <;> omega
  exact ⟨by omega, c', by omega⟩
theorem selR_take {l : List RuleV} {t : Int} {j : Nat} {x : RuleV} (h : l.take (j + 1) = l.take j ++ [x]) : selR (l.take (j + 1)) t = selR (l.take j) t ++ if x.at_ t = true then [x.p] else [] := by
  unfold selR
  rw [h, List.filter_append, List.filter_cons, List.filter_nil, List.map_append]
  split <;> rfl
theorem selR_le (l : List RuleV) (t : Int) : (selR l t).length ≤ l.length := by
  unfold selR
  rw [List.length_map]
  exact List.length_filter_le _ _
def PlacesI (w : World) (L : List Int) (E : Int) (e : Ending) (w' : World) : Prop :=
  ∃ v, e = .returned (.tuple #[v, .int .i64 E]) ∧ w'.ownsRow w.heap.size 3 1 v L.length (L.map (Value.int .i64)) ∧ Below w.heap.size w w'

set_option maxRecDepth 100000 in
set_option maxHeartbeats 6400000 in
theorem idle_ok {A : Option Addr} {n c : Nat} {l : List RuleV} {w : World} (h : IsRules w A n l) (hnc : n ≤ c) (hcm : c ≤ maxLen) (hz : rulesF l = 0) :
    Calls Try.prog 29 #[.slice A n c] w (PlacesI w (idleTo l n) 0) := by
  have HBC := (fun (w' : World) (hb : Below w.heap.size w w') => rulesCheck_is (h.below hb) c)
  rw [hz] at HBC
  have C0 := Lib.hid HBC
  obtain ⟨hg, hgb⟩ := goodR_of (c := c) h hz
  have HGM := Lib.hid hg
  have HGB := Lib.hid hgb
  have hn30 := hg.few
  have HZ := Lib.hid hg.len
  have HR := Lib.hid hg.reads
  have HOK := Lib.hid hg.ok
  unfold PlacesI
  unfold maxLen at hcm
  clear HBC h hz hg hgb
  go_enter Try.func29, Try.ntmps29
  go_wp2_with fail
  refine (C0.out _ (Below.refl _ _)).mono ?_
  rintro e w0 ⟨rfl, hb0⟩
  have HB0 := Lib.hid hb0
  clear hb0
  go_wp2
  go_loopw [17, 5, 6, 7, 8, 9] (fun i v _ _ _ _ wr => ∃ k : Nat, k ≤ n ∧ i = .int .i64 k ∧ wr.ownsRow w.heap.size 3 1 v (idleTo l k).length ((idleTo l k).map (Value.int .i64)) ∧ Below w.heap.size w wr) (fun i _ _ _ _ _ _ => n - (intOf i).toNat)
  case atStart => exact ⟨0, by omega, rfl, World.ownsRow_nil _ _ _ _, HB0.out⟩
  case round =>
    obtain ⟨k, hk, rfl, hown, hb⟩ := hrel
    obtain ⟨wo, rfl⟩ : ∃ wo : World, wo = wr := ⟨_, rfl⟩
    have HOW := Lib.hid hown
    have HB := Lib.hid hb
    have hszb := hb.size
    clear hown
    by_cases hlt : k < n
    · obtain ⟨ad, ⟨ry, rs, rh, rl, rn, rle, rmo⟩, rfl, hlk, htk, hmem, hbk, hc0, hcj⟩ := HR.out.atS RuleV.cells_length HZ.out hlt
      have q0 := (hb.cell (p := ad.add (k * 7)) (by rw [block_of_add]; exact hbk)).trans (hc0 _ rfl)
      have q1 := (hb.cell (p := ⟨(ad.add (k * 7)).block, (ad.add (k * 7)).off + 1, none⟩) (by rw [block_of_add]; exact hbk)).trans (hcj 1 _ rfl)
      have q2 := (hb.cell (p := ⟨(ad.add (k * 7)).block, (ad.add (k * 7)).off + 2, none⟩) (by rw [block_of_add]; exact hbk)).trans (hcj 2 _ rfl)
      have q3 := (hb.cell (p := ⟨(ad.add (k * 7)).block, (ad.add (k * 7)).off + 3, none⟩) (by rw [block_of_add]; exact hbk)).trans (hcj 3 _ rfl)
      have q4 := (hb.cell (p := ⟨(ad.add (k * 7)).block, (ad.add (k * 7)).off + 4, none⟩) (by rw [block_of_add]; exact hbk)).trans (hcj 4 _ rfl)
      have q5 := (hb.cell (p := ⟨(ad.add (k * 7)).block, (ad.add (k * 7)).off + 5, none⟩) (by rw [block_of_add]; exact hbk)).trans (hcj 5 _ rfl)
      have q6 := (hb.cell (p := ⟨(ad.add (k * 7)).block, (ad.add (k * 7)).off + 6, none⟩) (by rw [block_of_add]; exact hbk)).trans (hcj 6 _ rfl)
      obtain ⟨o1, o2⟩ := HOK.out _ hmem
      obtain ⟨b1, b2, b3⟩ := HGB.out _ hmem
      simp only at b1 b2 b3
      have HIT := Lib.hid (idleAt_true hlk)
      have HIF := Lib.hid (idleAt_false hlk)
      have HSS := Lib.hid (idleTo_succ l k)
      have hlen := idleTo_len l k
      have HO1 : Hid (PV.Ok ⟨rs, rh, rl, rn⟩) := o1
      have hZK : (l.take k).length = k := by rw [List.length_take, HZ.out]; omega
      have HRK := Lib.hid (HR.out.front RuleV.cells_length HZ.out hk)
      have HOKK : Hid (∀ r ∈ l.take k, r.p.Ok ∧ r.n ≤ r.least) := fun r hr => HOK.out r (List.mem_of_mem_take hr)
      have HZK := Lib.hid hZK
      have HGK : Hid (GoodR w (some ad) k c (l.take k)) := ⟨hZK, by omega, HOKK.out, HRK.out⟩
      have hki : (0 : Int) ≤ (k : Int) := by omega
      have hkc : (k : Int) ≤ (c : Int) := by omega
      unfold RuleV.p at HIT HIF
      simp only at HIT HIF
      clear hlk htk hmem hbk hc0 hcj hb o1 o2 hZK
      generalize idleTo l k = done at *
      generalize l.take k = lk at *
      go_wp2_with fail
      obtain ⟨M, hM⟩ : ∃ M, (wo.alloc (.cells #[.bool ry, .bool rs, .int .u64 rh, .int .u64 rl, .int .i64 rn, .int .i64 rle, .int .i64 rmo] 125)) = M := ⟨_, rfl⟩
      have KM : Hid (Blk M wo.heap.size 125 #[.bool ry, .bool rs, .int .u64 rh, .int .u64 rl, .int .i64 rn, .int .i64 rle, .int .i64 rmo]) := by rw [← hM]; exact Blk.new _ _ _
      have hmb : Below wo.heap.size wo M := by rw [← hM]; exact (Below.refl _ _).alloc (Nat.le_refl _) _
      have lm := KM.out.lt
      have HOWM := Lib.hid (own_below HOW.out hmb)
      have HBM := Lib.hid (below_step HB.out hmb)
      have hmz := HBM.out.size
      rw [hM]
      clear q0 q1 q2 q3 q4 q5 q6 hM hmb HOW HB
      have m5 := KM.out.cell 5
      have m6 := KM.out.cell 6
      simp at m5 m6
      have CFR := Lib.hid (fun (t : Int) (w' : World) (hb : Below w.heap.size w w') => free_all _ (some ad) k c lk ⟨rs, rh, rl, rn⟩ t w' HO1.out rfl (HGK.out.below hb))
      unfold PV.val at CFR
      simp only at CFR
      go_wp2
      clear m5 m6
      go_loopw [9, 8] (fun i b wr => ∃ t : Int, rle ≤ t ∧ t ≤ rmo + 1 ∧ i = .int .i64 t ∧ ((b = .bool true ∧ ∀ s : Int, rle ≤ s → s < t → freeB (selR lk s) ⟨rs, rh, rl, rn⟩ = false) ∨ (b = .bool false ∧ ∃ s : Int, rle ≤ s ∧ s ≤ rmo ∧ freeB (selR lk s) ⟨rs, rh, rl, rn⟩ = true)) ∧ Below M.heap.size M wr) (fun i _ _ => (rmo + 1 - intOf i).toNat)
      case atStart => exact ⟨rle, by omega, by omega, rfl, .inl ⟨rfl, fun s h1 h2 => by omega⟩, Below.refl _ _⟩
      case round =>
        obtain ⟨t, ht1, ht2, rfl, hcase, hbt⟩ := hrel
        obtain ⟨wt, rfl⟩ : ∃ wt : World, wt = wr := ⟨_, rfl⟩
        have hbt0 := hbt
        have kmt := KM.out.below hbt lm
        have m0 := kmt.cell 0
        have m1 := kmt.cell 1
        have m2 := kmt.cell 2
        have m3 := kmt.cell 3
        have m4 := kmt.cell 4
        have m5 := kmt.cell 5
        have m6 := kmt.cell 6
        simp at m0 m1 m2 m3 m4 m5 m6
        have lmt := kmt.lt

        have hzt := hbt.size
        clear kmt
        rcases hcase with ⟨rfl, hall⟩ | ⟨rfl, hex⟩
        · by_cases hle : t ≤ rmo
          · have HBT := Lib.hid hbt
            have HALL := Lib.hid hall
            have HBW := Lib.hid (HBM.out.trans (hbt.mono HBM.out.size))
            have CF := Lib.hid (fun w' hb => CFR.out t w' hb)
            obtain ⟨fv, hfv⟩ : ∃ fv, freeB (selR lk t) ⟨rs, rh, rl, rn⟩ = fv := ⟨_, rfl⟩
            rw [hfv] at CF
            have HFV := Lib.hid hfv
            clear hall hbt hbt0 hfv
            go_wp2_with fail
            go_region_held3 (fun w' => (∀ b o, b < wt.heap.size → w'.cell? ⟨b, o, none⟩ = wt.cell? ⟨b, o, none⟩) ∧ wt.heap.size ≤ w'.heap.size ∧ Hid (Below wt.heap.size wt w'))
              ((first | assumption | exact keep0 _ | exact keep1 (by assumption) (by assumption) | exact keepD (by assumption) | exact keepB (by assumption) (by assumption) | exact keepA (by assumption) _ | exact ⟨fun _ _ _ => rfl, Nat.le_refl _, Below.refl _ _⟩))
              (first | (go_at_call 78; (with_reducible refine (CF.out _ ?hb1).mono ?_); (case hb1 => exact below_step HBW.out (keepBelow (by assumption))); rintro e w10 ⟨rfl, hb10⟩; obtain ⟨fc10, ff10⟩ := bcell hb10; have hz10 := hb10.size))
            obtain ⟨fc12, z12, HH⟩ : (∀ b o, b < wt.heap.size → w10.cell? ⟨b, o, none⟩ = wt.cell? ⟨b, o, none⟩) ∧ wt.heap.size ≤ w10.heap.size ∧ Hid (Below wt.heap.size wt w10) := by assumption
            have HBN := Lib.hid (HBT.out.trans (HH.out.mono HBT.out.size))
            cases fv with
            | false =>
              go_wp2
              go_roundw
              case rel => exact ⟨t + 1, by omega, by omega, rfl, .inl ⟨by simp, fun s h1 h2 => by
                by_cases hs : s = t
                · rw [hs]; exact HFV.out
                · exact HALL.out s h1 (by omega)⟩, HBN.out⟩
              case measure => simp [intOf]; omega
            | true =>
              go_wp2
              go_roundw
              case rel => exact ⟨t + 1, by omega, by omega, rfl, .inr ⟨by simp, t, ht1, hle, HFV.out⟩, HBN.out⟩
              case measure => simp [intOf]; omega
          · have hval : idleAt l k = true := HIT.out fun s h1 h2 => hall s h1 (by omega)
            clear hall
            have HOWX := Lib.hid (own_below HOWM.out hbt)
            have HBX := Lib.hid (below_step HBM.out hbt)
            have zx := HBX.out.size
            have HS2 : Hid (idleTo l (k + 1) = done ++ [(k : Int)]) := by show _ = _; rw [HSS.out, if_pos hval]
            clear hbt
            go_wp2_with (at_builtin; go_loud (refine wpList_append_oneN rfl _ _ 44 rfl w.heap.size (.int .i64 0) 1 8 Try.underlying44 infoIntI rfl (by decide) _ _ _ rfl rfl ?d0 HOWX.out ?d1 rfl ?d2 ?d3 ?d4 ?_))
            case d0 => (try simp); done
            (try (case d1 => omega))
            case d2 => first | (intro u hu; simp at hu; (rcases hu with rfl <;> rfl); done) | exact rfl | trivial
            case d3 => unfold maxLen; omega
            case d4 => omega
            intro v' w' hown' hb' hs' _
            have HOW2 : Hid (w'.ownsRow w.heap.size 3 1 v' (idleTo l (k + 1)).length ((idleTo l (k + 1)).map (Value.int .i64))) := by
              show World.ownsRow _ _ _ _ _ _ _
              rw [HS2.out, List.length_append, List.map_append]
              exact hown'
            have HB2 := Lib.hid (HBX.out.trans hb')
            clear hown' hb'
            go_wp2
            go_roundw
            case rel => exact ⟨k + 1, by omega, by go_num, HOW2.out, HB2.out⟩
            case measure => simp [intOf]; omega
        · have hval : idleAt l k = false := HIF.out hex
          clear hex
          by_cases hle : t ≤ rmo
          · have HOWX := Lib.hid (own_below HOWM.out hbt)
            have HBX := Lib.hid (below_step HBM.out hbt)
            have zx := HBX.out.size
            have HS2 : Hid (idleTo l (k + 1) = done) := by show _ = _; rw [HSS.out, hval, if_neg (by simp), List.append_nil]
            clear hbt
            go_wp2
            go_roundw
            case rel => exact ⟨k + 1, by omega, by go_num, by rw [HS2.out]; exact HOWX.out, HBX.out⟩
            case measure => simp [intOf]; omega
          · have HOWX := Lib.hid (own_below HOWM.out hbt)
            have HBX := Lib.hid (below_step HBM.out hbt)
            have zx := HBX.out.size
            have HS2 : Hid (idleTo l (k + 1) = done) := by show _ = _; rw [HSS.out, hval, if_neg (by simp), List.append_nil]
            clear hbt
            go_wp2
            go_roundw
            case rel => exact ⟨k + 1, by omega, by go_num, by rw [HS2.out]; exact HOWX.out, HBX.out⟩
            case measure => simp [intOf]; omega
    · obtain rfl : k = n := by omega
      go_wp2
      go_ret2
      exact ⟨_, rfl, HOW.out, HB.out⟩

set_option maxRecDepth 100000 in
set_option maxHeartbeats 6400000 in
theorem refIdle_ok {A : Option Addr} {n c : Nat} {l : List RuleV} {w : World} (h : IsRules w A n l) (hnc : n ≤ c) (hcm : c ≤ maxLen) (hz : rulesF l = 0) :
    Calls Try.prog 30 #[.slice A n c] w (PlacesI w (idleTo l n) 0) := by
  have HBC := (fun (w' : World) (hb : Below w.heap.size w w') => rulesFault_is (h.below hb) c)
  rw [hz] at HBC
  have C0 := Lib.hid HBC
  obtain ⟨hg, hgb⟩ := goodR_of (c := c) h hz
  have HGM := Lib.hid hg
  have HGB := Lib.hid hgb
  have hn30 := hg.few
  have HZ := Lib.hid hg.len
  have HR := Lib.hid hg.reads
  have HOK := Lib.hid hg.ok
  unfold PlacesI
  unfold maxLen at hcm
  clear HBC h hz hg hgb
  go_enter Try.func30, Try.ntmps30
  go_wp2_with fail
  refine (C0.out _ (Below.refl _ _)).mono ?_
  rintro e w0 ⟨rfl, hb0⟩
  have HB0 := Lib.hid hb0
  clear hb0
  go_wp2
  go_loopw [22, 5, 6, 7, 8, 9, 10, 12, 13, 14] (fun i v _ _ _ _ _ _ _ _ wr => ∃ k : Nat, k ≤ n ∧ i = .int .i64 k ∧ wr.ownsRow w.heap.size 3 1 v (idleTo l k).length ((idleTo l k).map (Value.int .i64)) ∧ Below w.heap.size w wr) (fun i _ _ _ _ _ _ _ _ _ _ => n - (intOf i).toNat)
  case atStart => exact ⟨0, by omega, rfl, World.ownsRow_nil _ _ _ _, HB0.out⟩
  case round =>
    obtain ⟨k, hk, rfl, hown, hb⟩ := hrel
    obtain ⟨wo, rfl⟩ : ∃ wo : World, wo = wr := ⟨_, rfl⟩
    have HOW := Lib.hid hown
    have HB := Lib.hid hb
    have hszb := hb.size
    clear hown
    by_cases hlt : k < n
    · obtain ⟨ad, ⟨ry, rs, rh, rl, rn, rle, rmo⟩, rfl, hlk, htk, hmem, hbk, hc0, hcj⟩ := HR.out.atS RuleV.cells_length HZ.out hlt
      have q0 := (hb.cell (p := ad.add (k * 7)) (by rw [block_of_add]; exact hbk)).trans (hc0 _ rfl)
      have q1 := (hb.cell (p := ⟨(ad.add (k * 7)).block, (ad.add (k * 7)).off + 1, none⟩) (by rw [block_of_add]; exact hbk)).trans (hcj 1 _ rfl)
      have q2 := (hb.cell (p := ⟨(ad.add (k * 7)).block, (ad.add (k * 7)).off + 2, none⟩) (by rw [block_of_add]; exact hbk)).trans (hcj 2 _ rfl)
      have q3 := (hb.cell (p := ⟨(ad.add (k * 7)).block, (ad.add (k * 7)).off + 3, none⟩) (by rw [block_of_add]; exact hbk)).trans (hcj 3 _ rfl)
      have q4 := (hb.cell (p := ⟨(ad.add (k * 7)).block, (ad.add (k * 7)).off + 4, none⟩) (by rw [block_of_add]; exact hbk)).trans (hcj 4 _ rfl)
      have q5 := (hb.cell (p := ⟨(ad.add (k * 7)).block, (ad.add (k * 7)).off + 5, none⟩) (by rw [block_of_add]; exact hbk)).trans (hcj 5 _ rfl)
      have q6 := (hb.cell (p := ⟨(ad.add (k * 7)).block, (ad.add (k * 7)).off + 6, none⟩) (by rw [block_of_add]; exact hbk)).trans (hcj 6 _ rfl)
      obtain ⟨o1, o2⟩ := HOK.out _ hmem
      obtain ⟨b1, b2, b3⟩ := HGB.out _ hmem
      simp only at b1 b2 b3
      have HIT := Lib.hid (idleAt_true hlk)
      have HIF := Lib.hid (idleAt_false hlk)
      have HSS := Lib.hid (idleTo_succ l k)
      have hlen := idleTo_len l k
      have HO1 : Hid (PV.Ok ⟨rs, rh, rl, rn⟩) := o1
      have hZK : (l.take k).length = k := by rw [List.length_take, HZ.out]; omega
      have HRK := Lib.hid (HR.out.front RuleV.cells_length HZ.out hk)
      have HOKK : Hid (∀ r ∈ l.take k, r.p.Ok ∧ r.n ≤ r.least) := fun r hr => HOK.out r (List.mem_of_mem_take hr)
      have HZK := Lib.hid hZK
      have HGK : Hid (GoodR w (some ad) k c (l.take k)) := ⟨hZK, by omega, HOKK.out, HRK.out⟩
      have hki : (0 : Int) ≤ (k : Int) := by omega
      have hkc : (k : Int) ≤ (c : Int) := by omega
      unfold RuleV.p at HIT HIF
      simp only at HIT HIF
      clear hlk htk hmem hbk hc0 hcj hb o1 o2 hZK
      generalize idleTo l k = done at *
      generalize l.take k = lk at *
      go_wp2_with fail
      obtain ⟨M, hM⟩ : ∃ M, (wo.alloc (.cells #[.bool ry, .bool rs, .int .u64 rh, .int .u64 rl, .int .i64 rn, .int .i64 rle, .int .i64 rmo] 125)) = M := ⟨_, rfl⟩
      have KM : Hid (Blk M wo.heap.size 125 #[.bool ry, .bool rs, .int .u64 rh, .int .u64 rl, .int .i64 rn, .int .i64 rle, .int .i64 rmo]) := by rw [← hM]; exact Blk.new _ _ _
      have hmb : Below wo.heap.size wo M := by rw [← hM]; exact (Below.refl _ _).alloc (Nat.le_refl _) _
      have lm := KM.out.lt
      have HOWM := Lib.hid (own_below HOW.out hmb)
      have HBM := Lib.hid (below_step HB.out hmb)
      have hmz := HBM.out.size
      rw [hM]
      clear q0 q1 q2 q3 q4 q5 q6 hM hmb HOW HB
      have m5 := KM.out.cell 5
      have m6 := KM.out.cell 6
      simp at m5 m6
      have HRK2 := Lib.hid HGK.out.reads
      go_wp2
      clear m5 m6
      go_loopw [9, 8, 10, 12, 13, 14] (fun i b _ _ _ _ wr => ∃ t : Int, rle ≤ t ∧ t ≤ rmo + 1 ∧ i = .int .i64 t ∧ ((b = .bool true ∧ ∀ s : Int, rle ≤ s → s < t → freeB (selR lk s) ⟨rs, rh, rl, rn⟩ = false) ∨ (b = .bool false ∧ ∃ s : Int, rle ≤ s ∧ s ≤ rmo ∧ freeB (selR lk s) ⟨rs, rh, rl, rn⟩ = true)) ∧ Below M.heap.size M wr) (fun i _ _ _ _ _ _ => (rmo + 1 - intOf i).toNat)
      case atStart => exact ⟨rle, by omega, by omega, rfl, .inl ⟨rfl, fun s h1 h2 => by omega⟩, Below.refl _ _⟩
      case round =>
        obtain ⟨t, ht1, ht2, rfl, hcase, hbt⟩ := hrel
        obtain ⟨wt, rfl⟩ : ∃ wt : World, wt = wr := ⟨_, rfl⟩
        have kmt := KM.out.below hbt lm
        have m0 := kmt.cell 0
        have m1 := kmt.cell 1
        have m2 := kmt.cell 2
        have m3 := kmt.cell 3
        have m4 := kmt.cell 4
        have m5 := kmt.cell 5
        have m6 := kmt.cell 6
        simp at m0 m1 m2 m3 m4 m5 m6
        have lmt := kmt.lt

        have hzt := hbt.size
        have KMT := Lib.hid kmt
        clear kmt
        by_cases hle : t ≤ rmo
        · have HBT := Lib.hid hbt
          have HCASE := Lib.hid hcase
          have HBW := Lib.hid (HBM.out.trans (hbt.mono HBM.out.size))
          clear hcase hbt
          go_wp2
          go_loopw [39, 10, 12] (fun j v _ wr => ∃ kj : Nat, kj ≤ k ∧ j = .int .i64 kj ∧ wr.ownsRow wt.heap.size 35 4 v (selR (lk.take kj) t).length ((selR (lk.take kj) t).flatMap PV.cells) ∧ Below wt.heap.size wt wr) (fun j _ _ _ => k - (intOf j).toNat)
          case atStart => exact ⟨0, by omega, rfl, World.ownsRow_nil _ _ _ _, Below.refl _ _⟩
          case round =>
            obtain ⟨kj, hkj, rfl, hownj, hbj⟩ := hrel
            obtain ⟨wj, rfl⟩ : ∃ wj : World, wj = wr := ⟨_, rfl⟩
            have HOJ := Lib.hid hownj
            have hzj := hbj.size
            have HBJ := Lib.hid hbj
            clear hownj
            by_cases hltj : kj < k
            · obtain ⟨ad2, ⟨xy, xs, xh, xl, xn, xle, xmo⟩, had, hlk2, htk2, hmem2, hbk2, hc02, hcj2⟩ := HRK2.out.atS RuleV.cells_length HZK.out hltj
              injection had with had
              subst had
              have hb02 := HBW.out.trans (hbj.mono HBW.out.size)
              have q0 := (hb02.cell (p := ad.add (kj * 7)) (by rw [block_of_add]; exact hbk2)).trans (hc02 _ rfl)
              have q1 := (hb02.cell (p := ⟨(ad.add (kj * 7)).block, (ad.add (kj * 7)).off + 1, none⟩) (by rw [block_of_add]; exact hbk2)).trans (hcj2 1 _ rfl)
              have q2 := (hb02.cell (p := ⟨(ad.add (kj * 7)).block, (ad.add (kj * 7)).off + 2, none⟩) (by rw [block_of_add]; exact hbk2)).trans (hcj2 2 _ rfl)
              have q3 := (hb02.cell (p := ⟨(ad.add (kj * 7)).block, (ad.add (kj * 7)).off + 3, none⟩) (by rw [block_of_add]; exact hbk2)).trans (hcj2 3 _ rfl)
              have q4 := (hb02.cell (p := ⟨(ad.add (kj * 7)).block, (ad.add (kj * 7)).off + 4, none⟩) (by rw [block_of_add]; exact hbk2)).trans (hcj2 4 _ rfl)
              have q5 := (hb02.cell (p := ⟨(ad.add (kj * 7)).block, (ad.add (kj * 7)).off + 5, none⟩) (by rw [block_of_add]; exact hbk2)).trans (hcj2 5 _ rfl)
              have q6 := (hb02.cell (p := ⟨(ad.add (kj * 7)).block, (ad.add (kj * 7)).off + 6, none⟩) (by rw [block_of_add]; exact hbk2)).trans (hcj2 6 _ rfl)
              have HTK := Lib.hid (selR_take (t := t) htk2)
              have hsle := selR_le (lk.take kj) t
              have hsle2 : (lk.take kj).length ≤ kj := List.length_take_le _ _
              have HAT : Hid (RuleV.at_ ⟨xy, xs, xh, xl, xn, xle, xmo⟩ t = decide (xle ≤ t ∧ t ≤ xmo)) := rfl
              have HOJ2 := Lib.hid (own_below HOJ.out ((Below.refl _ _).alloc (Nat.le_refl _) (.cells #[.bool xy, .bool xs, .int .u64 xh, .int .u64 xl, .int .i64 xn, .int .i64 xle, .int .i64 xmo] 125)))
              have HBJ2 := Lib.hid (hbj.alloc hbj.size (.cells #[.bool xy, .bool xs, .int .u64 xh, .int .u64 xl, .int .i64 xn, .int .i64 xle, .int .i64 xmo] 125))
              generalize selR (lk.take kj) t = sel at *
              clear hlk2 htk2 hmem2 hbk2 hc02 hcj2 hb02 hbj
              by_cases h1 : xle ≤ t
              · by_cases h2 : t ≤ xmo
                · have h0 : Hid (selR (lk.take (kj + 1)) t = sel ++ [⟨xs, xh, xl, xn⟩]) := by show _ = _; rw [HTK.out, HAT.out, decide_eq_true ⟨h1, h2⟩, if_pos rfl]; rfl
                  go_wp2_with (at_builtin; go_loud (refine wpList_append_oneN rfl _ _ 30 rfl wt.heap.size (.agg #[.bool false, .int .u64 0, .int .u64 0, .int .i64 0]) 4 32 Try.underlying30 infoPreW rfl (by decide) _ _ _ rfl rfl ?a0 HOJ2.out ?a1 rfl ?a2 ?a3 ?a4 ?_))
                  (try (case a0 => (try simp); done))
                  (try (case a1 => (try simp); omega))
                  case a2 => first | (intro u hu; simp at hu; (rcases hu with rfl | rfl | rfl | rfl <;> rfl); done) | exact ⟨rfl, rfl, rfl, rfl⟩
                  case a3 => unfold maxLen; omega
                  case a4 => omega
                  intro v3 w3 hown3 hb3 hs3 _
                  have HOW3 : Hid (w3.ownsRow wt.heap.size 35 4 v3 (selR (lk.take (kj + 1)) t).length ((selR (lk.take (kj + 1)) t).flatMap PV.cells)) := by
                    show World.ownsRow _ _ _ _ _ _ _
                    rw [h0.out, List.length_append, List.flatMap_append]
                    exact hown3
                  have HB3 := Lib.hid (HBJ2.out.trans hb3)
                  clear hown3 hb3
                  go_wp2
                  go_roundw
                  case rel => exact ⟨kj + 1, by omega, by go_num, HOW3.out, HB3.out⟩
                  case measure => simp [intOf]; omega
                · have h0 : Hid (selR (lk.take (kj + 1)) t = sel) := by show _ = _; rw [HTK.out, HAT.out, decide_eq_false (fun h => h2 h.2), if_neg (by simp), List.append_nil]
                  go_wp2
                  go_roundw
                  case rel => exact ⟨kj + 1, by omega, by go_num, by rw [h0.out]; exact HOJ2.out, HBJ2.out⟩
                  case measure => simp [intOf]; omega
              · have h0 : Hid (selR (lk.take (kj + 1)) t = sel) := by show _ = _; rw [HTK.out, HAT.out, decide_eq_false (fun h => h1 h.1), if_neg (by simp), List.append_nil]
                go_wp2
                go_roundw
                case rel => exact ⟨kj + 1, by omega, by go_num, by rw [h0.out]; exact HOJ2.out, HBJ2.out⟩
                case measure => simp [intOf]; omega
            · obtain rfl : kj = k := by omega
              have hownj := HOJ.out
              rw [List.take_of_length_le (by rw [HZK.out]; omega)] at hownj
              obtain ⟨A8, c8, rfl, hc8, hr8⟩ := own_reads hownj
              have hsel : ∀ q ∈ selR lk t, q.Ok := by
                intro q hq
                obtain ⟨x, hx, rfl⟩ := List.mem_map.1 hq
                exact (HOKK.out x (List.mem_filter.1 hx).1).1
              have hsl := selR_le lk t
              rw [HZK.out] at hsl
              have hE : presE [(⟨rs, rh, rl, rn⟩ : PV)] (selR lk t) = 0 := by
                unfold presE
                rw [if_neg (by simp), if_neg (by omega), if_pos (firstF_noneP (fun q hq => by obtain rfl := List.mem_singleton.1 hq; exact chkP_of HO1.out)), firstF_noneP (fun q hq => chkP_of (hsel q hq))]
              have hO : setO (fun a b => a && !b) [(⟨rs, rh, rl, rn⟩ : PV)] (selR lk t) = setL (fun a b => a && !b) [(⟨rs, rh, rl, rn⟩ : PV)] (selR lk t) := by unfold setO; rw [if_pos hE]
              have hnil := minus_nil HO1.out hsel
              have hIP : IsPres (wj.alloc (.cells #[.bool rs, .int .u64 rh, .int .u64 rl, .int .i64 rn] 35)) (some ⟨wj.heap.size, 0, none⟩) 1 1 [(⟨rs, rh, rl, rn⟩ : PV)] := by
                refine ⟨rfl, ⟨Nat.le_refl _, by unfold maxLen; omega⟩, rfl, fun _ => ⟨_, rfl, by simp, fun j u hj => ?_⟩⟩
                have e1 : (⟨wj.heap.size, 0, none⟩ : Addr).add j = ⟨wj.heap.size, j, none⟩ := by unfold Addr.add; split <;> simp_all
                rw [e1, (Blk.new wj 35 #[.bool rs, .int .u64 rh, .int .u64 rl, .int .i64 rn]).cell j]
                simpa [PV.cells] using hj
              have hIS : IsPres (wj.alloc (.cells #[.bool rs, .int .u64 rh, .int .u64 rl, .int .i64 rn] 35)) A8 (selR lk t).length c8 (selR lk t) := IsPres.below ⟨rfl, hc8, hr8⟩ ((Below.refl _ _).alloc (Nat.le_refl _) _)
              have CM := refMinus_is hIP hIS (fun q hq => by obtain rfl := List.mem_singleton.1 hq; exact HO1.out.raw) (fun q hq => (hsel q hq).raw)
              rw [hE, hO] at CM
              unfold RetPres at CM
              have HNIL := Lib.hid hnil
              generalize setL (fun a b => a && !b) [(⟨rs, rh, rl, rn⟩ : PV)] (selR lk t) = L at *
              obtain ⟨fv, hfv⟩ : ∃ fv, freeB (selR lk t) ⟨rs, rh, rl, rn⟩ = fv := ⟨_, rfl⟩
              have HFV := Lib.hid hfv
              have hln : (L.length : Int) > 0 ↔ fv = true := by
                have h1 := HNIL.out
                rw [hfv] at h1
                cases fv with
                | false =>
                  have : L = [] := h1.2 rfl
                  rw [this]; simp
                | true =>
                  have : ¬ L = [] := fun h => by have := h1.1 h; cases this
                  have := List.length_pos_iff.2 this
                  simp; omega
              have HLN := Lib.hid hln
              have CMH := Lib.hid CM
              have kmj := KMT.out.below hbj lmt
              have r1 := kmj.cell 1
              have r2 := kmj.cell 2
              have r3 := kmj.cell 3
              have r4 := kmj.cell 4
              simp at r1 r2 r3 r4
              have lmj := kmj.lt
              have HBJ3 := Lib.hid hbj
              clear hownj hc8 hr8 hsel hE hO hnil hIP hIS CM hfv hln kmj hbj HNIL m0 m1 m2 m3 m4 m5 m6
              go_wp2_with fail
              refine CMH.out.mono ?_
              rintro e w9 ⟨v9, rfl, ho9, hb9⟩
              obtain ⟨A9, c9, rfl, hc9, hr9⟩ := own_reads ho9
              have HBN := Lib.hid (HBT.out.trans ((HBJ3.out.trans ((balloc1 hb9).mono HBJ3.out.size)).mono HBT.out.size))
              clear ho9 hb9 hc9 hr9 r1 r2 r3 r4
              cases fv with
              | false =>
                have hl0 : ¬ (0 : Int) < L.length := fun h => by have := HLN.out.1 h; cases this
                rcases HCASE.out with ⟨rfl, hall⟩ | ⟨rfl, hex⟩
                · have HALL := Lib.hid hall
                  clear hall
                  go_wp2
                  go_roundw
                  case rel => exact ⟨t + 1, by omega, by omega, rfl, .inl ⟨rfl, fun s h1 h2 => by
                    by_cases hs : s = t
                    · rw [hs]; exact HFV.out
                    · exact HALL.out s h1 (by omega)⟩, HBN.out⟩
                  case measure => simp [intOf]; omega
                · have HEX := Lib.hid hex
                  clear hex
                  go_wp2
                  go_roundw
                  case rel => exact ⟨t + 1, by omega, by omega, rfl, .inr ⟨rfl, HEX.out⟩, HBN.out⟩
                  case measure => simp [intOf]; omega
              | true =>
                have hl0 : (0 : Int) < L.length := HLN.out.2 rfl
                go_wp2
                go_roundw
                case rel => exact ⟨t + 1, by omega, by omega, rfl, .inr ⟨rfl, t, ht1, hle, HFV.out⟩, HBN.out⟩
                case measure => simp [intOf]; omega
        · rcases hcase with ⟨rfl, hall⟩ | ⟨rfl, hex⟩
          · have hval : idleAt l k = true := HIT.out fun s h1 h2 => hall s h1 (by omega)
            clear hall
            have HOWX := Lib.hid (own_below HOWM.out hbt)
            have HBX := Lib.hid (below_step HBM.out hbt)
            have zx := HBX.out.size
            have HS2 : Hid (idleTo l (k + 1) = done ++ [(k : Int)]) := by show _ = _; rw [HSS.out, if_pos hval]
            clear hbt
            go_wp2_with (at_builtin; go_loud (refine wpList_append_oneN rfl _ _ 44 rfl w.heap.size (.int .i64 0) 1 8 Try.underlying44 infoIntI rfl (by decide) _ _ _ rfl rfl ?d0 HOWX.out ?d1 rfl ?d2 ?d3 ?d4 ?_))
            case d0 => (try simp); done
            (try (case d1 => omega))
            case d2 => first | (intro u hu; simp at hu; (rcases hu with rfl <;> rfl); done) | exact rfl | trivial
            case d3 => unfold maxLen; omega
            case d4 => omega
            intro v' w' hown' hb' hs' _
            have HOW2 : Hid (w'.ownsRow w.heap.size 3 1 v' (idleTo l (k + 1)).length ((idleTo l (k + 1)).map (Value.int .i64))) := by
              show World.ownsRow _ _ _ _ _ _ _
              rw [HS2.out, List.length_append, List.map_append]
              exact hown'
            have HB2 := Lib.hid (HBX.out.trans hb')
            clear hown' hb'
            go_wp2
            go_roundw
            case rel => exact ⟨k + 1, by omega, by go_num, HOW2.out, HB2.out⟩
            case measure => simp [intOf]; omega
          · have hval : idleAt l k = false := HIF.out hex
            clear hex
            have HOWX := Lib.hid (own_below HOWM.out hbt)
            have HBX := Lib.hid (below_step HBM.out hbt)
            have zx := HBX.out.size
            have HS2 : Hid (idleTo l (k + 1) = done) := by show _ = _; rw [HSS.out, hval, if_neg (by simp), List.append_nil]
            clear hbt
            go_wp2
            go_roundw
            case rel => exact ⟨k + 1, by omega, by go_num, by rw [HS2.out]; exact HOWX.out, HBX.out⟩
            case measure => simp [intOf]; omega
    · obtain rfl : k = n := by omega
      go_wp2
      go_ret2
      exact ⟨_, rfl, HOW.out, HB.out⟩

noncomputable def idleO (l : List RuleV) : List Int := if rulesF l = 0 then idleTo l l.length else []

set_option maxRecDepth 100000 in
set_option maxHeartbeats 800000 in
theorem idle_bad {A : Option Addr} {n c : Nat} {l : List RuleV} {w : World} (h : IsRules w A n l) (hz : ¬ rulesF l = 0) :
    Calls Try.prog 29 #[.slice A n c] w (PlacesI w [] (rulesF l)) := by
  have HB := rulesCheck_is h c
  obtain ⟨E, hE⟩ : ∃ E, rulesF l = E := ⟨_, rfl⟩
  rw [hE] at hz HB ⊢
  have hzb : (E != 0) = true := by simpa using hz
  have C0 := Lib.hid HB
  unfold PlacesI
  clear HB h hE hz
  go_enter Try.func29, Try.ntmps29
  go_wp2_with fail
  refine C0.out.mono ?_
  rintro e w0 ⟨rfl, hb0⟩
  have HB0 := Lib.hid hb0
  clear hb0
  go_wp2
  go_ret2
  exact ⟨_, rfl, World.ownsRow_nil _ _ _ _, HB0.out⟩
theorem idle_is {A : Option Addr} {n c : Nat} {l : List RuleV} {w : World} (h : IsRules w A n l) (hnc : n ≤ c) (hcm : c ≤ maxLen) : Calls Try.prog 29 #[.slice A n c] w (PlacesI w (idleO l) (rulesF l)) := by
  unfold idleO
  by_cases hz : rulesF l = 0
  · rw [if_pos hz, hz, h.1]; exact idle_ok h hnc hcm hz
  · rw [if_neg hz]; exact idle_bad h hz

set_option maxRecDepth 100000 in
set_option maxHeartbeats 800000 in
theorem refIdle_bad {A : Option Addr} {n c : Nat} {l : List RuleV} {w : World} (h : IsRules w A n l) (hz : ¬ rulesF l = 0) :
    Calls Try.prog 30 #[.slice A n c] w (PlacesI w [] (rulesF l)) := by
  have HB := rulesFault_is h c
  obtain ⟨E, hE⟩ : ∃ E, rulesF l = E := ⟨_, rfl⟩
  rw [hE] at hz HB ⊢
  have hzb : (E != 0) = true := by simpa using hz
  have C0 := Lib.hid HB
  unfold PlacesI
  clear HB h hE hz
  go_enter Try.func30, Try.ntmps30
  go_wp2_with fail
  refine C0.out.mono ?_
  rintro e w0 ⟨rfl, hb0⟩
  have HB0 := Lib.hid hb0
  clear hb0
  go_wp2
  go_ret2
  exact ⟨_, rfl, World.ownsRow_nil _ _ _ _, HB0.out⟩
theorem refIdle_is {A : Option Addr} {n c : Nat} {l : List RuleV} {w : World} (h : IsRules w A n l) (hnc : n ≤ c) (hcm : c ≤ maxLen) : Calls Try.prog 30 #[.slice A n c] w (PlacesI w (idleO l) (rulesF l)) := by
  unfold idleO
  by_cases hz : rulesF l = 0
  · rw [if_pos hz, hz, h.1]; exact refIdle_ok h hnc hcm hz
  · rw [if_neg hz]; exact refIdle_bad h hz

theorem idleO_len (l : List RuleV) : (idleO l).length ≤ 30 := by
  unfold idleO
  by_cases hz : rulesF l = 0
  · rw [if_pos hz]
    have h1 := idleTo_len l l.length
    have h2 : l.length ≤ 30 := by
      unfold rulesF at hz
      by_cases hn : 30 < l.length
      · rw [if_pos hn] at hz; omega
      · omega
    omega
  · rw [if_neg hz]; simp

set_option maxRecDepth 100000 in
theorem open_rulesC {H : Type} {enc : TypeId × Value → H} {W : World} {base : Nat} {sp : Nat → Bool} {held : Bool} {a0 : Option Addr} {len0 cap0 : Nat} {d : DataW H} {p : List MemPlace}
    (h : DataW.Trod enc Try.prog W base sp held 43 (.slice a0 len0 cap0) d p) : len0 ≤ cap0 ∧ cap0 ≤ maxLen := by
  have hk : flat Try.prog 9 125 = some [none, none, some .u64, some .u64, some .i64, some .i64, some .i64] := by kernel_rfl
  obtain ⟨css, hcl, hfit, hr, hl, hm⟩ := open_flats Try.underlying43 hk (by kernel_rfl) (by simp) h
  exact ⟨hl, hm⟩

set_option maxRecDepth 100000 in
set_option maxHeartbeats 800000 in
theorem ruleIdles_walk {H : Type} {enc : TypeId × Value → H} (W : World) (vs : Array Value) (ds : List (DataW H)) (ps : List MemPlace) (h : ArgsOk Try.prog [43] H enc W vs.toList ds ps) :
    Calls Try.prog 4 vs W fun e W' => e = .returned (.bool true) ∧ Below W.heap.size W W' := by
  obtain ⟨hA, ⟨base, hval⟩, _, _⟩ := h
  obtain ⟨v0, d0, e0, _, h0⟩ := trodAll_one hA
  obtain ⟨a0, n, c, rfl⟩ := okWide_slice Try.underlying43 (hval 0 _ v0 rfl (by rw [e0]; rfl))
  obtain ⟨l, hr⟩ := open_rules h0
  obtain ⟨hnc, hcm⟩ := open_rulesC h0
  obtain rfl : vs = #[.slice a0 n c] := by cases vs; simp_all
  have C1 := Lib.hid (fun (w : World) (hb : Below W.heap.size W w) => idle_is (hr.below hb) hnc hcm)
  have C2 := Lib.hid (fun (w : World) (hb : Below W.heap.size W w) => refIdle_is (hr.below hb) hnc hcm)
  have hlen := idleO_len l
  generalize idleO l = L at *
  generalize rulesF l = E at *
  unfold PlacesI at C1 C2
  clear hr h0 hA hval e0
  go_enter Try.func4, Try.ntmps4
  go_wp2_with fail
  refine (C1.out _ (Below.refl _ _)).mono ?_
  rintro e w1 ⟨v1, rfl, ho1, hb1⟩
  have HO1 := Lib.hid ho1
  have HB1 := Lib.hid hb1
  clear ho1 hb1
  go_wp2_with fail
  refine (C2.out _ HB1.out).mono ?_
  rintro e w2 ⟨v2, rfl, ho2, hb2⟩
  obtain ⟨A1, k1, rfl, hk1, hr1⟩ := own_reads (own_below HO1.out hb2)
  obtain ⟨A2, k2, rfl, hk2, hr2⟩ := own_reads ho2
  have HB2 := Lib.hid (below_step HB1.out hb2)
  have CS := Lib.hid (fun (w' : World) (hb : Below w2.heap.size w2 w') => sameInts_any A1 A2 L.length k1 L.length k2 L L w' rfl rfl (by unfold maxLen; omega) (by unfold maxLen; omega) ((hr1.below hb).more hb.size) ((hr2.below hb).more hb.size))
  rw [decide_eq_true rfl] at CS
  clear ho2 hb2 hr1 hr2 hk1 hk2 HO1
  go_wp2_with fail
  refine (CS.out _ (Below.refl _ _)).mono ?_
  rintro e w3 ⟨rfl, hb3⟩
  have HB3 := Lib.hid (below_step HB2.out hb3)
  clear hb3
  go_wp2
  go_ret
  exact ⟨by simp, HB3.out⟩

end Go.Proofs.Ytonelibgaceflaa
