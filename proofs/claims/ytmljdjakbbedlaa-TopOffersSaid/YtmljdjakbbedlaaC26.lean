/-
  
-/
import Derived.Test.YtmljdjakbbedlaaC25
import Derived.Test.YtmljdjakbbedlaaC23
import Derived.Test.YtmljdjakbbedlaaC7
namespace Go.Proofs.Ytmljdjakbbedlaa
open Go.ChangeShapes Go.WideShapes Go.ChangeAt Go.RowKit

theorem flat_oneC {α : Type} {f : α → List Value} (h : ∀ x, ∀ u ∈ f x, u.oneCell' = true) (l : List α) : ∀ u ∈ l.flatMap f, u.oneCell' = true := by
  intro u hu
  obtain ⟨x, _, hx⟩ := List.mem_flatMap.1 hu
  exact h x u hx
theorem offs_oneC (l : List OffV) : ∀ u ∈ l.flatMap OffV.cells, u.oneCell' = true := flat_oneC (fun x u hu => by
  unfold OffV.cells at hu
  simp at hu
  rcases hu with rfl | rfl | rfl | rfl | rfl | rfl | rfl | rfl <;> rfl) l
theorem rules_oneC (l : List RuleV) : ∀ u ∈ l.flatMap RuleV.cells, u.oneCell' = true := flat_oneC (fun x u hu => by
  unfold RuleV.cells at hu
  simp at hu
  rcases hu with rfl | rfl | rfl | rfl | rfl | rfl | rfl <;> rfl) l
theorem rts_oneC (l : List RouteV) : ∀ u ∈ l.flatMap RouteV.cells, u.oneCell' = true := flat_oneC (fun x u hu => by
  unfold RouteV.cells at hu
  simp at hu
  rcases hu with rfl | rfl | rfl | rfl | rfl <;> rfl) l
theorem good_raw {o : OffV} (g : o.Good) : o.Raw := ⟨Pfx.rhi g.ok, Pfx.rlo g.ok⟩
theorem valid_raw {R : List RouteV} (h : Valid R) : ∀ r ∈ R, r.Ok := fun r hr => by
  obtain ⟨h1, h2, h3⟩ := h.1 r hr
  have h4 := Pfx.len h1
  have h5 := wideI_le r.p.six
  exact ⟨Pfx.rhi h1, Pfx.rlo h1, by omega, by omega⟩
theorem has_fine (p : PV) (hp : p.Ok) (h6 : p.six = false) (lo : Int) (hlo : 0 ≤ lo ∧ lo < 4294967296) (w : World) :
    Calls Try.prog 19 #[p.val, .agg #[.bool false, .int .u64 0, .int .u64 lo]] w fun e w' => e = .returned (.tuple #[.bool (inB p.six p.hi p.lo p.n false 0 lo), .int .i64 0]) ∧ Below w.heap.size w w' := by
  have h := has_any p.six p.hi p.lo p.n false 0 lo w (Pfx.rhi hp) (Pfx.rlo hp) (by omega) (by omega)
  have hm : mayB false 0 lo = true := by unfold mayB; simp; omega
  have hc : chk p.six p.hi p.lo p.n = 0 := chk_of hp
  have e1 : hasPB p.six p.hi p.lo p.n false 0 lo = inB p.six p.hi p.lo p.n false 0 lo := by
    unfold hasPB
    rw [if_neg (by simp [hc]), if_neg (by simp [hm]), if_neg (by simp [h6])]
  have e2 : hasE p.six p.hi p.lo p.n false 0 lo = 0 := by
    unfold hasE
    rw [if_neg (by simp [hc]), if_neg (by simp [hm]), if_neg (by simp [h6])]
  rw [e1, e2] at h
  exact h
theorem keepSet {w1 X : World} {p : Addr} {v : Value} (h : (∀ b o, b < w1.heap.size → X.cell? ⟨b, o, none⟩ = w1.cell? ⟨b, o, none⟩) ∧ w1.heap.size ≤ X.heap.size ∧ Hid (Below w1.heap.size w1 X)) (hp : w1.heap.size ≤ p.block) : (∀ b o, b < w1.heap.size → (X.setCell p v).cell? ⟨b, o, none⟩ = w1.cell? ⟨b, o, none⟩) ∧ w1.heap.size ≤ (X.setCell p v).heap.size ∧ Hid (Below w1.heap.size w1 (X.setCell p v)) := by
  have hB : Below w1.heap.size w1 (X.setCell p v) := h.2.2.out.setCell hp _
  exact ⟨fun b o hb => hB.cell (p := ⟨b, o, none⟩) hb, hB.size, hB⟩
theorem keepQ {w1 X : World} {p : Addr} {v : Value} (hb : p.block < w1.heap.size) (hq : w1.cell? p = some v) (h : Below w1.heap.size w1 X) : (∀ b o, b < w1.heap.size → X.cell? ⟨b, o, none⟩ = w1.cell? ⟨b, o, none⟩) ∧ w1.heap.size ≤ X.heap.size ∧ Hid (Below w1.heap.size w1 X) ∧ X.cell? p = some v :=
  ⟨fun b o h' => h.cell (p := ⟨b, o, none⟩) h', h.size, h, (h.cell hb).trans hq⟩
theorem box_new {Z wl : World} {cs : Array Value} {t : TypeId} (h : Below (Z.alloc (.cells cs t)).heap.size (Z.alloc (.cells cs t)) wl) (j : Nat) (u : Value) (hu : cs[j]? = some u) : wl.cell? ⟨Z.heap.size, j, none⟩ = some u ∧ wl.frozen? ⟨Z.heap.size, j, none⟩ = false := by
  have hlt : Z.heap.size < (Z.alloc (.cells cs t)).heap.size := by simp
  refine ⟨(h.cell (p := ⟨Z.heap.size, j, none⟩) hlt).trans ?_, (h.frozen (p := ⟨Z.heap.size, j, none⟩) hlt).trans ?_⟩
  · have : (Z.alloc (.cells cs t)).heap[Z.heap.size]? = some (.cells cs t) := heap_alloc_new Z _
    unfold World.cell?
    simp only [this]
    exact hu
  · go_simp
theorem box_old {Z wc wl : World} {cs : Array Value} {t : TypeId} (hd : Below (Z.alloc (.cells cs t)).drew.heap.size (Z.alloc (.cells cs t)).drew wc) (h2 : Below wc.heap.size wc wl) (j : Nat) (u : Value) (hu : cs[j]? = some u) : wl.cell? ⟨Z.heap.size, j, none⟩ = some u ∧ wl.frozen? ⟨Z.heap.size, j, none⟩ = false := by
  have h : Below (Z.alloc (.cells cs t)).heap.size (Z.alloc (.cells cs t)) wc := below_step ((Below.refl _ _).drew) hd
  have hlt : Z.heap.size < wc.heap.size := by have := h.size; simp at this; omega
  exact ⟨(h2.cell (p := ⟨Z.heap.size, j, none⟩) hlt).trans (box_new h j u hu).1, (h2.frozen (p := ⟨Z.heap.size, j, none⟩) hlt).trans (box_new h j u hu).2⟩

set_option maxRecDepth 100000 in
theorem open_bids {H : Type} {enc : TypeId × Value → H} {W : World} {base : Nat} {sp : Nat → Bool} {held : Bool} {a0 : Option Addr} {len0 cap0 : Nat} {d : DataW H} {p : List MemPlace}
    (h : DataW.Trod enc Try.prog W base sp held 22 (.slice a0 len0 cap0) d p) : ∃ l : List BidV, IsBids W a0 len0 l ∧ cap0 ≤ maxLen ∧ len0 ≤ cap0 := by
  have hk : flat Try.prog 9 89 = some [some .i64, some .i64, some .i64, some .i64, some .i64] := by kernel_rfl
  obtain ⟨css, hcl, hfit, hr, hl, hm⟩ := open_flats Try.underlying22 hk (by kernel_rfl) (by simp) h
  obtain ⟨l, rfl, hz⟩ := choose_list (f := BidV.cells) (Q := BidV.Ok) css (fun cs hc => by
    have hf := hfit cs hc
    clear hr hcl hfit
    obtain ⟨a, _, rfl, wa, hf1⟩ := hf.int_inv
    obtain ⟨b, _, rfl, _, hf2⟩ := hf1.int_inv
    obtain ⟨c, _, rfl, _, hf3⟩ := hf2.int_inv
    obtain ⟨e, _, rfl, we, hf4⟩ := hf3.int_inv
    obtain ⟨f, _, rfl, _, hf5⟩ := hf4.int_inv
    obtain rfl := hf5.nil_inv
    exact ⟨⟨a, b, c, e, f⟩, ⟨bounds_i64 wa, bounds_i64 we⟩, rfl⟩)
  exact ⟨l, ⟨by simpa using hcl, by omega, hz, by rw [List.flatMap_def]; exact hr⟩, hm, hl⟩
set_option maxRecDepth 100000 in
theorem open_ints3 {H : Type} {enc : TypeId × Value → H} {W : World} {base : Nat} {sp : Nat → Bool} {held : Bool} {a0 : Option Addr} {len0 cap0 : Nat} {d : DataW H} {p : List MemPlace}
    (h : DataW.Trod enc Try.prog W base sp held 23 (.slice a0 len0 cap0) d p) : ∃ l : List Int, l.length = len0 ∧ len0 ≤ maxLen ∧ (∀ x ∈ l, -9223372036854775808 ≤ x ∧ x ≤ 9223372036854775807) ∧ Reads W W.heap.size 1 a0 len0 (l.map (Value.int .i64)) := by
  have hk : flat Try.prog 9 3 = some [some .i64] := by kernel_rfl
  obtain ⟨css, hcl, hfit, hr, hl, hm⟩ := open_flats Try.underlying23 hk (by kernel_rfl) (by simp) h
  obtain ⟨l, rfl, hz⟩ := choose_list (f := fun x : Int => [Value.int .i64 x]) (Q := fun x => -9223372036854775808 ≤ x ∧ x ≤ 9223372036854775807) css (fun cs hc => by
    have hf := hfit cs hc
    clear hr hcl hfit
    obtain ⟨x, _, rfl, wx, hf1⟩ := hf.int_inv
    obtain rfl := hf1.nil_inv
    exact ⟨x, bounds_i64 wx, rfl⟩)
  refine ⟨l, by simpa using hcl, by omega, hz, ?_⟩
  have he : (l.map fun x : Int => [Value.int .i64 x]).flatten = l.map (Value.int .i64) := by
    clear hr hcl hfit hz
    induction l with
    | nil => rfl
    | cons x l ih => simp [ih]
  rw [← he]
  exact hr

set_option maxRecDepth 100000 in
set_option maxHeartbeats 6400000 in
theorem topOffers_core {W : World} {A : Option Addr} {n c : Nat} {l : List BidV} {A' : Option Addr} {n' c' : Nat} {zs : List Int} {x : Int} (hb : IsBids W A n l) (hc : c ≤ maxLen) (hnc : n ≤ c) (hz : zs.length = n') (hm2 : n' ≤ maxLen) (hok : ∀ x ∈ zs, -9223372036854775808 ≤ x ∧ x ≤ 9223372036854775807) (hrz : Reads W W.heap.size 1 A' n' (zs.map (Value.int .i64))) :
    Calls Try.prog 3 #[.slice A n c, .slice A' n' c', .int .i64 x] W fun e W' => e = .returned (.bool true) ∧ Below W.heap.size W W' := by
  have C1 := Lib.hid (kOffers_any hb hc hnc 40 (by omega))
  have HOS : Hid ((∀ o ∈ (l.take 40).map bidV, o.Good ∧ o.p.six = false) ∧ ((l.take 40).map bidV).length ≤ 40) := ⟨fun o ho => by
    obtain ⟨b, _, rfl⟩ := List.mem_map.1 ho
    exact ⟨bidV_good b, (presV_n b.pre).2.2⟩, by rw [List.length_map, List.length_take]; omega⟩
  have CR := Lib.hid (fun (w : World) (hb : Below W.heap.size W w) => kRules_any (c := c') hz hm2 hok ((hrz.below hb).more hb.size) 15 (by omega))
  have HRZ : Hid (rulesF ((zs.take 15).map ruleK) = 0) := rules_fine zs
  have HRK : Hid ((∀ r ∈ (zs.take 15).map ruleK, r.Ok) ∧ ((zs.take 15).map ruleK).length ≤ 15) := ⟨fun r hr => by
    obtain ⟨b, _, rfl⟩ := List.mem_map.1 hr
    exact ruleK_ok b, by rw [List.length_map, List.length_take]; omega⟩
  have CN := Lib.hid (fun w => near_any x w)
  have hx := picked_range x (n := 540) (by omega)
  have hal : 0 ≤ 167772152 + pickedI x 540 ∧ 167772152 + pickedI x 540 < 4294967296 := by omega
  generalize (l.take 40).map bidV = OS at *
  generalize (zs.take 15).map ruleK = RS at *
  generalize 167772152 + pickedI x 540 = AL at *
  clear hb hc hnc hz hm2 hok hrz hx
  have hol := HOS.out.2
  have hrl := HRK.out.2
  go_enter Try.func3, Try.ntmps3
  go_wp2_with fail
  refine C1.out.mono ?_
  rintro e w1 ⟨v1, rfl, hown1, hb1⟩
  obtain ⟨A1, c1, rfl, hc1, hr1⟩ := own_reads hown1
  have HB1 := Lib.hid hb1
  have HR1 := Lib.hid hr1
  clear hown1 hb1 hr1 C1
  go_wp2_with (at_builtin; go_loud (refine wpList_append_reads rfl _ _ 24 rfl w1.heap.size 44 _ 8 64 Try.underlying24 infoOffer rfl (by decide) _ _ _ rfl _ _ _ rfl (World.ownsRow_nil _ _ _ _) _ _ HR1.out (offs_oneC _) ?c3 ?c4 ?c5 ?_))
  case c3 => unfold maxLen; omega
  case c4 => omega
  case c5 => exact Nat.le_refl _
  intro v2 w2 hown2 hb2
  obtain ⟨A2, c2, rfl, hc2, hr2⟩ := own_reads hown2
  have hbs2 := below_step HB1.out hb2
  have HB2 := Lib.hid hbs2
  have CT := Lib.hid (table_any (c := c2) (⟨rfl, hc2, fun o ho => good_raw (HOS.out.1 o ho).1, hr2⟩ : IsOffs w2 A2 OS.length c2 OS))
  clear hown2 hb2 hr2 hbs2
  go_wp2_with fail
  refine CT.out.mono ?_
  rintro e w3 ⟨v3, R, f, rfl, ht, _, hown3, hb3⟩
  have H6 : Hid (∀ r ∈ R, r.p.six = false) := tab_six (fun o ho => (HOS.out.1 o ho).2) ht
  obtain ⟨rfl, hv, hl60⟩ := tab_valid (fun o ho => (HOS.out.1 o ho).1) (by omega) ht
  have HV := Lib.hid hv
  obtain ⟨A3, c3, rfl, hc3, hr3⟩ := own_reads hown3
  have HB3 := Lib.hid (below_step HB2.out hb3)
  have HRR := Lib.hid hr3
  clear hown3 hb3 hr3 hv ht CT HB2
  go_wp2_with fail
  refine (CR.out _ HB3.out).mono ?_
  rintro e w4 ⟨v4, rfl, hown4, hb4⟩
  obtain ⟨A4, c4, rfl, hc4, hr4⟩ := own_reads hown4
  have HB34 := Lib.hid hb4
  have HB4 := Lib.hid (below_step HB3.out hb4)
  have HRR4 : Hid (Reads w4 w4.heap.size 5 A3 R.length (R.flatMap RouteV.cells)) := (HRR.out.below hb4).more hb4.size
  have HRQ := Lib.hid hr4
  clear hown4 hb4 hr4 CR
  go_wp2_with (at_builtin; go_loud (refine wpList_append_reads rfl _ _ 30 rfl w4.heap.size 97 _ 7 56 Try.underlying30 infoRuleK rfl (by decide) _ _ _ rfl _ _ _ rfl (World.ownsRow_nil _ _ _ _) _ _ HRQ.out (rules_oneC _) ?c3 ?c4 ?c5 ?_))
  case c3 => unfold maxLen; omega
  case c4 => omega
  case c5 => exact Nat.le_refl _
  intro v5 w5 hown5 hb5
  obtain ⟨A5, c5, rfl, hc5, hr5⟩ := own_reads hown5
  have HRR5 : Hid (Reads w5 w5.heap.size 5 A3 R.length (R.flatMap RouteV.cells)) := (HRR4.out.below hb5).more hb5.size
  have HIR : Hid (IsRules w5 A5 RS.length RS) := ⟨rfl, by unfold maxLen; omega, HRK.out.1, hr5⟩
  have HB45 := Lib.hid hb5
  have HB5 := Lib.hid (below_step HB4.out hb5)
  clear hown5 hb5 hr5
  go_wp2_with (at_builtin; go_loud (refine wpList_append_reads rfl _ _ 26 rfl w5.heap.size 48 _ 5 40 Try.underlying26 infoRoute rfl (by decide) _ _ _ rfl _ _ _ rfl (World.ownsRow_nil _ _ _ _) _ _ HRR5.out (rts_oneC _) ?c3 ?c4 ?c5 ?_))
  case c3 => unfold maxLen; omega
  case c4 => omega
  case c5 => exact Nat.le_refl _
  intro v6 w6 hown6 hb6
  obtain ⟨A6, c6, rfl, hc6, hr6⟩ := own_reads hown6
  have hb46 := below_step HB45.out hb6
  have HB46 := Lib.hid hb46
  have HB6 := Lib.hid (below_step HB5.out hb6)
  have CF := Lib.hid (filter_is A5 RS.length c5 RS A6 R.length c6 R w6 (HIR.out.below hb6) ⟨rfl, hc6, valid_raw HV.out, hr6⟩)
  obtain ⟨hf1, hf2⟩ := filter_fine HRZ.out HV.out hl60
  rw [hf1, hf2] at CF
  have HPV := Lib.hid (passR_valid (rs := RS) HV.out)
  have hpl : (passR RS R).length ≤ 60 := Nat.le_trans (passR_le RS R) hl60
  clear hown6 hb6 hr6 hb46 hf1 hf2 HIR
  go_wp2_with fail
  refine CF.out.mono ?_
  rintro e w7 ⟨v7, rfl, hown7, hb7⟩
  obtain ⟨A7, c7, rfl, hc7, hr7⟩ := own_reads hown7
  have HB47 := Lib.hid (below_step HB46.out hb7)
  have HB7 := Lib.hid (below_step HB6.out hb7)
  have HRP := Lib.hid hr7
  clear hown7 hb7 hr7 CF
  go_wp2_with fail
  refine (CN.out _).mono ?_
  rintro e w8 ⟨rfl, hb8⟩
  have HB48 := Lib.hid (below_step HB47.out hb8)
  have HB8 := Lib.hid (below_step HB7.out hb8)
  have HRP8 : Hid (Reads w8 w8.heap.size 5 A7 (passR RS R).length ((passR RS R).flatMap RouteV.cells)) := (HRP.out.below hb8).more hb8.size
  clear hb8 CN
  go_upto_region 6 with fail
  obtain ⟨Y, hY⟩ : ∃ Y : World, w8.alloc (.cells #[.bool false, .int .u64 0, .int .u64 AL] 35) = Y := ⟨_, rfl⟩
  have hy0 : Y.cell? ⟨w8.heap.size, 0, none⟩ = some (.bool false) := by rw [← hY]; exact alloc_cellN (j := 0) rfl
  have hy1 : Y.cell? ⟨w8.heap.size, 1, none⟩ = some (.int .u64 0) := by rw [← hY]; exact alloc_cellN (j := 1) rfl
  have hy2 : Y.cell? ⟨w8.heap.size, 2, none⟩ = some (.int .u64 AL) := by rw [← hY]; exact alloc_cellN (j := 2) rfl
  have hz8 : w8.heap.size < Y.heap.size := by rw [← hY]; simp
  have HBY : Hid (Below W.heap.size W Y) := by rw [← hY]; exact HB8.out.alloc HB8.out.size _
  have HB4Y : Hid (Below w4.heap.size w4 Y) := by rw [← hY]; exact HB48.out.alloc HB48.out.size _
  have HRPY : Hid (∀ Z, Below Y.heap.size Y Z → Reads Z Z.heap.size 5 A7 (passR RS R).length ((passR RS R).flatMap RouteV.cells)) := by
    intro Z hZ
    have : Below w8.heap.size w8 Y := by rw [← hY]; exact (Below.refl _ _).alloc (Nat.le_refl _) _
    have hq := this.trans (hZ.mono this.size)
    exact (HRP8.out.below hq).more hq.size
  have hmay : mayB false 0 AL = true := by unfold mayB; simp; omega
  obtain ⟨hk1, hk2⟩ := look_fine HPV.out hpl hmay
  have CL := Lib.hid (fun (A : Option Addr) (c : Nat) (Z : World) (hc : (passR RS R).length ≤ c ∧ c ≤ maxLen) (hr : Reads Z Z.heap.size 5 A (passR RS R).length ((passR RS R).flatMap RouteV.cells)) => tableLook_is A (passR RS R).length c (passR RS R) false 0 AL Z ⟨rfl, hc, valid_raw HPV.out, hr⟩ (by omega) (by omega))
  unfold Looked at CL
  rw [hk1, hk2] at CL
  rw [hY]
  clear hY hmay hk1 hk2
  go_cut [14, 15] (fun v14 v15 wx => ∃ g : Nat, v14 = .pointer (some ⟨g, 0, none⟩) ∧ v15 = .int .i64 0 ∧ wx.cell? ⟨g, 1, none⟩ = some (.int .i64 (bestTo (passR RS R) false 0 AL).1) ∧ g < wx.heap.size ∧ Below Y.heap.size Y wx)
  case first =>
    go_region_held3 (fun w' => (∀ b o, b < Y.heap.size → w'.cell? ⟨b, o, none⟩ = Y.cell? ⟨b, o, none⟩) ∧ Y.heap.size ≤ w'.heap.size ∧ Hid (Below Y.heap.size Y w'))
      ((first | assumption | exact keep0 _ | exact keep1 ⟨fun _ _ _ => rfl, Nat.le_refl _, Below.refl _ _⟩ (by assumption) | exact keep1 (by assumption) (by assumption) | exact keepD (by assumption) | exact keepB (by assumption) (by assumption) | exact keepA (by assumption) _ | exact ⟨fun _ _ _ => rfl, Nat.le_refl _, Below.refl _ _⟩ | (refine keepSet (keepSet (keepSet ?_ ?_) ?_) ?_ <;> first | assumption | exact keepB (by assumption) (by assumption) | exact Nat.le_refl _ | exact keepSize (by assumption)) | exact keepA hSl _ | (refine keepSet (keepSet (keepSet hSl ?_) ?_) ?_ <;> first | exact Nat.le_refl _ | exact hbc.size)))
      (first
        | (refine step_append_nilI (o := ⟨some 48, _, _, _, _, _⟩) ((passR RS R).flatMap RouteV.cells) (passR RS R).length 26 rfl rfl Y.heap.size 48 _ 5 40 Try.underlying26 infoRoute rfl (by decide) ?_ ?_ ?_ ?_ ?_ ?_ ?_; (focus rfl); (focus exact ⟨_, _, rfl, HRPY.out _ (keepBelow (by assumption))⟩); (focus exact (rts_oneC _)); (focus (unfold maxLen; omega)); (focus omega); (focus first | exact Nat.le_refl _ | exact keepSize (by assumption)); intro vc wk hownc hbc)
        | (go_at_call 18; obtain ⟨Ac, cc, rfl, hcc, -⟩ := own_reads hownc; refine (CL.out Ac cc _ hcc (by first | exact Reads.of_own hownc | exact Reads.of_own (hownc.alloc _))).mono ?_; rintro e wl ⟨rfl, hbl⟩; (first | (have n0 : wl.cell? ⟨wk.heap.size, 0, none⟩ = some (.int .i64 0) := (box_new hbl 0 _ rfl).1; have f0 : wl.frozen? ⟨wk.heap.size, 0, none⟩ = false := (box_new hbl 0 _ rfl).2; have n1 : wl.cell? ⟨wk.heap.size, 1, none⟩ = some (.int .i64 0) := (box_new hbl 1 _ rfl).1; have f1 : wl.frozen? ⟨wk.heap.size, 1, none⟩ = false := (box_new hbl 1 _ rfl).2; have n2 : wl.cell? ⟨wk.heap.size, 2, none⟩ = some (.int .i64 0) := (box_new hbl 2 _ rfl).1; have f2 : wl.frozen? ⟨wk.heap.size, 2, none⟩ = false := (box_new hbl 2 _ rfl).2; have hSl := keep1 (keepA (keep1 (keep0 Y) hbc) _) hbl) | (have n0 : wl.cell? ⟨Y.heap.size, 0, none⟩ = some (.int .i64 0) := (box_old hbc hbl 0 _ rfl).1; have f0 : wl.frozen? ⟨Y.heap.size, 0, none⟩ = false := (box_old hbc hbl 0 _ rfl).2; have n1 : wl.cell? ⟨Y.heap.size, 1, none⟩ = some (.int .i64 0) := (box_old hbc hbl 1 _ rfl).1; have f1 : wl.frozen? ⟨Y.heap.size, 1, none⟩ = false := (box_old hbc hbl 1 _ rfl).2; have n2 : wl.cell? ⟨Y.heap.size, 2, none⟩ = some (.int .i64 0) := (box_old hbc hbl 2 _ rfl).1; have f2 : wl.frozen? ⟨Y.heap.size, 2, none⟩ = false := (box_old hbc hbl 2 _ rfl).2; have hSl := keep1 (keep1 (keepD (keepA ⟨fun _ _ _ => rfl, Nat.le_refl _, Below.refl _ _⟩ _)) hbc) hbl) | (have hSl := keep1 (keep1 (keep0 Y) hbc) hbl))))
    all_goals
      go_wp2_with fail
      go_meet
      refine ⟨_, rfl, rfl, ?_, ?_, keepBelow (by assumption)⟩
      · first | exact alloc_cellN (j := 1) rfl | go_simp
      · have := hSl.2.1
        have := hbc.size
        have := hbl.size
        first
          | (simp; done)
          | (simp at *; omega)
  case rest =>
    obtain ⟨g, rfl, rfl, hg1, hgz, hbz⟩ := hcut
    have HBZ := Lib.hid hbz
    have HG1 := Lib.hid hg1
    have HYZ := Lib.hid (below_step HBY.out hbz)
    clear hbz hg1 CL HRPY HB8 HB7 HB48 HB47 HRP HRP8 HB6 HB46 HB5 HB45 HRR5 HB34 HB3 HRR HR1 HB1
    go_wp2_with fail
    refine (table_any (n := 1) (c := 1) (l := [oneO]) ⟨rfl, by unfold maxLen; omega, fun o ho => by rw [List.mem_singleton.1 ho]; exact good_raw oneO_good, reads_new (us := [oneO].flatMap OffV.cells) rfl⟩).mono ?_
    rintro e w9 ⟨v9, R1, f1, rfl, ht1, -, hown9, hb9⟩
    obtain ⟨rfl, hR1⟩ := one_len ht1
    rw [hR1] at hown9
    obtain ⟨A9, c9, rfl, hc9, hr9⟩ := own_reads hown9
    have HB9 : Hid (Below wc.heap.size wc w9) := below_step ((Below.refl _ _).alloc (Nat.le_refl _) _) hb9
    clear hown9 hb9 ht1 hr9 hc9 hR1 R1
    go_wp2
    go_loopw [20, 18, 19, 21, 22, 23, 24, 25] (fun i hop long _ _ _ _ _ wr => ∃ k : Nat, k ≤ R.length ∧ i = .int .i64 k ∧ hop = .int .i64 (bestTo (passR RS (R.take k)) false 0 AL).1 ∧ long = .int .i64 (bestTo (passR RS (R.take k)) false 0 AL).2 ∧ Hid (Below wc.heap.size wc wr)) (fun i _ _ _ _ _ _ _ _ => R.length - (intOf i).toNat)
    case atStart => exact ⟨0, by omega, rfl, rfl, rfl, HB9⟩
    case round =>
      obtain ⟨k, hk, rfl, rfl, rfl, HB⟩ := hrel
      obtain ⟨Z, rfl⟩ : ∃ Z : World, Z = wr := ⟨_, rfl⟩
      by_cases hlt : k < R.length
      · have hpos := HRR4.out.atS RouteV.cells_length rfl hlt
        obtain ⟨ad, r, rfl, hlk, htk, hmem, hbk, hc0, hcj⟩ := hpos
        have hv := (HV.out.1 r hmem).1
        have h6 := H6.out r hmem
        have CH := Lib.hid (fun w => has_fine r.p hv h6 AL hal w)
        have CP := Lib.hid (fun (A : Option Addr) (c : Nat) (w : World) (h : IsRules w A RS.length RS) => ppass_ok A RS.length c RS r.p.six r.p.hi r.p.lo r.p.n w (Pfx.rhi hv) (Pfx.rlo hv) h HRZ.out (chk_of hv))
        have HST := Lib.hid (law_step RS (R.take k) r false 0 AL)
        unfold Hid at HST
        rw [← htk] at HST
        unfold hasB at HST
        have hpn : IntKind.i64.wrap ((k : Int) + 1) = (k : Int) + 1 := IntWalk.i64_in _ (by omega)
        generalize inB r.p.six r.p.hi r.p.lo r.p.n false 0 AL = is at *
        generalize firstYes (fun q => q.fits r.p.six r.p.hi r.p.lo r.p.n) RS = yes at *
        generalize firstAt (fun q => q.fits r.p.six r.p.hi r.p.lo r.p.n) RS = at' at *
        generalize bestTo (passR RS (R.take k)) false 0 AL = B at *
        obtain ⟨bh, bl⟩ := B
        obtain ⟨⟨six, hi, lo, pn⟩, hop⟩ := r
        simp only at h6 hv HST CP CH
        have HQ : Hid (∀ X, Below wc.heap.size wc X → Below w4.heap.size w4 X ∧ X.cell? (ad.add (k * 5)) = some (.bool six) ∧ X.cell? ⟨(ad.add (k * 5)).block, (ad.add (k * 5)).off + 1, none⟩ = some (.int .u64 hi) ∧ X.cell? ⟨(ad.add (k * 5)).block, (ad.add (k * 5)).off + 2, none⟩ = some (.int .u64 lo) ∧ X.cell? ⟨(ad.add (k * 5)).block, (ad.add (k * 5)).off + 3, none⟩ = some (.int .i64 pn) ∧ X.cell? ⟨(ad.add (k * 5)).block, (ad.add (k * 5)).off + 4, none⟩ = some (.int .i64 hop) ∧ X.cell? ⟨w8.heap.size, 0, none⟩ = some (.bool false) ∧ X.cell? ⟨w8.heap.size, 1, none⟩ = some (.int .u64 0) ∧ X.cell? ⟨w8.heap.size, 2, none⟩ = some (.int .u64 AL)) := by
          intro X hX
          have hYX := below_step HBZ.out hX
          have h4X := below_step HB4Y.out hYX
          have hbb : (ad.add (k * 5)).block < w4.heap.size := by rw [block_of_add]; exact hbk
          exact ⟨h4X, (h4X.cell hbb).trans (hc0 _ rfl), (h4X.cell (p := ⟨(ad.add (k * 5)).block, (ad.add (k * 5)).off + 1, none⟩) hbb).trans (hcj 1 _ rfl), (h4X.cell (p := ⟨(ad.add (k * 5)).block, (ad.add (k * 5)).off + 2, none⟩) hbb).trans (hcj 2 _ rfl), (h4X.cell (p := ⟨(ad.add (k * 5)).block, (ad.add (k * 5)).off + 3, none⟩) hbb).trans (hcj 3 _ rfl), (h4X.cell (p := ⟨(ad.add (k * 5)).block, (ad.add (k * 5)).off + 4, none⟩) hbb).trans (hcj 4 _ rfl), (hYX.cell (p := ⟨w8.heap.size, 0, none⟩) hz8).trans hy0, (hYX.cell (p := ⟨w8.heap.size, 1, none⟩) hz8).trans hy1, (hYX.cell (p := ⟨w8.heap.size, 2, none⟩) hz8).trans hy2⟩
        clear hc0 hcj hmem hlk htk hv h6
        obtain ⟨h4z, q0, q1, q2, q3, q4, a0, a1, a2⟩ := HQ.out Z HB.out
        have hbb : (ad.add (k * 5)).block < w4.heap.size := by rw [block_of_add]; exact hbk
        have hz1 : (ad.add (k * 5)).block < Z.heap.size := by have := h4z.size; omega
        have hz2 : w8.heap.size < Z.heap.size := by have := (below_step HBZ.out HB.out).size; omega
        have hkl : (k : Int) < (R.length : Int) := by omega
        have hk0 : (0 : Int) ≤ (k : Int) := by omega
        go_upto_region 15 with fail
        go_region_held3 (fun w' => (∀ b o, b < Z.heap.size → w'.cell? ⟨b, o, none⟩ = Z.cell? ⟨b, o, none⟩) ∧ Z.heap.size ≤ w'.heap.size ∧ Hid (Below Z.heap.size Z w') ∧ w'.cell? (ad.add (k * 5)) = some (.bool six))
          ((first | assumption | exact keepQ hz1 q0 (Below.drew (Below.refl _ _)) | exact keepQ hz1 q0 (below_step (Below.drew (Below.refl _ _)) hbh)))
          (first | (go_at_call 19; refine (CH.out _).mono ?_; rintro e wh ⟨rfl, hbh⟩))
        have HBh : Hid (Below wc.heap.size wc wh) := below_step HB.out (below_step (Below.drew (Below.refl _ _)) hbh)
        obtain ⟨h4h, p0, p1, p2, p3, p4, b0, b1, b2⟩ := HQ.out wh HBh.out
        have HRQ2 : Hid (∀ X, Below wh.heap.size wh X → Reads X X.heap.size 7 A4 RS.length (RS.flatMap RuleV.cells)) := by
          intro X hX
          have := below_step h4h hX
          exact (HRQ.out.below this).more this.size
        have hz3 : (ad.add (k * 5)).block < wh.heap.size := by have := h4h.size; omega
        clear q0 q1 q2 q3 q4 a0 a1 a2 h4h h4z hbh hbk hz1 hz2
        go_upto_region 16 with fail
        go_region_held3 (fun w' => (∀ b o, b < wh.heap.size → w'.cell? ⟨b, o, none⟩ = wh.cell? ⟨b, o, none⟩) ∧ wh.heap.size ≤ w'.heap.size ∧ Hid (Below wh.heap.size wh w') ∧ w'.cell? (ad.add (k * 5)) = some (.bool six))
          ((first | assumption | exact keepQ hz3 p0 (Below.drew (Below.refl _ _)) | exact keepQ hz3 p0 (below_step (Below.drew (Below.refl _ _)) hbc) | exact keepQ hz3 p0 (below_step (below_step (Below.drew (Below.refl _ _)) hbc) hbp)))
          (first | (refine step_append_nilI (o := ⟨some 96, _, _, _, _, _⟩) (RS.flatMap RuleV.cells) RS.length 30 rfl rfl wh.heap.size 97 _ 7 56 Try.underlying30 infoRuleK rfl (by decide) ?_ ?_ ?_ ?_ ?_ ?_ ?_; (focus rfl); (focus exact ⟨_, _, rfl, HRQ2.out _ (Below.drew (Below.refl _ _))⟩); (focus exact (rules_oneC _)); (focus (unfold maxLen; omega)); (focus omega); (focus first | exact Nat.le_refl _ | exact keepSize (by assumption)); intro vc wk hownc hbc) | (go_at_call 20; obtain ⟨Ac, cc, rfl, hcc, -⟩ := own_reads hownc; refine (CP.out Ac cc _ ⟨rfl, by unfold maxLen; omega, HRK.out.1, Reads.of_own hownc⟩).mono ?_; rintro e wp ⟨rfl, hbp⟩))
        have HBp : Hid (Below wc.heap.size wc wp) := below_step HBh.out (below_step (below_step (Below.drew (Below.refl _ _)) hbc) hbp)
        clear b0 b1 b2
        have HN : Hid (bestTo (passR RS (R.take (k + 1))) false 0 AL = if is = true ∧ yes = true ∧ bl < pn then (hop, pn) else (bh, bl)) := HST
        clear HST hbc hownc hbp
        cases is
        all_goals cases yes
        all_goals by_cases hL : bl < pn
        all_goals
          go_wp2
          go_roundw
          case rel =>
            refine ⟨k + 1, by omega, by go_num, ?_, ?_, HBp⟩
            · rw [HN.out]
              simp [hL]
            · rw [HN.out]
              simp [hL]
          case measure => simp [intOf]; omega

      · have hkn : k = R.length := by omega
        have HE : Hid (passR RS (R.take k) = passR RS R) := by show _ = _; rw [hkn, List.take_length]
        have hg := (HB.out.cell (p := ⟨g, 1, none⟩) hgz).trans HG1.out
        clear hkn
        go_wp2
        (try go_ret)
        refine ⟨?_, below_step HYZ.out HB.out⟩
        rw [HE.out]
        simp

set_option maxRecDepth 100000 in
set_option maxHeartbeats 800000 in
theorem topOffers_walk {H : Type} {enc : TypeId × Value → H} (W : World) (vs : Array Value) (ds : List (DataW H)) (ps : List MemPlace) (h : ArgsOk Try.prog [22, 23, 3] H enc W vs.toList ds ps) :
    Calls Try.prog 3 vs W fun e W' => e = .returned (.bool true) ∧ Below W.heap.size W W' := by
  obtain ⟨hA, ⟨base, hval⟩, _, _⟩ := h
  obtain ⟨v0, v1, v2, d0, d1, d2, p0, p1, p2, e0, _, _, h0, h1, h2⟩ := trodAll_three hA
  obtain ⟨a0, n, c, rfl⟩ := okWide_slice Try.underlying22 (hval 0 _ v0 rfl (by rw [e0]; rfl))
  obtain ⟨a1, n1, c1, rfl⟩ := okWide_slice Try.underlying23 (hval 1 _ v1 rfl (by rw [e0]; rfl))
  obtain ⟨x, rfl, _, _, _⟩ := open_int Try.underlying3 (hval 2 _ v2 rfl (by rw [e0]; rfl)) h2
  obtain ⟨l, hr, hc, hn⟩ := open_bids h0
  obtain ⟨zs, hz, hm, hok, hrz⟩ := open_ints3 h1
  obtain rfl : vs = #[.slice a0 n c, .slice a1 n1 c1, .int .i64 x] := by cases vs; simp_all
  exact topOffers_core hr hc hn hz hm hok hrz

end Go.Proofs.Ytmljdjakbbedlaa
