/-
  
-/
import Derived.Test.YtmljdjakbbedlaaC23
import Derived.Test.YtmljdjakbbedlaaC19
namespace Go.Proofs.Ytmljdjakbbedlaa
open Go.ChangeShapes Go.WideShapes Go.ChangeAt Go.RowKit

set_option maxRecDepth 100000 in
set_option maxHeartbeats 800000 in
/-- Picked changes nothing at all. -/
theorem picked_q (a n : Int) (w : World) (hn : 0 < n) (hn2 : n ≤ 1000000) :
    Calls Try.prog 43 #[.int .i64 a, .int .i64 n] w fun e w' => e = .returned (.int .i64 (pickedI a n)) ∧ w' = w := by
  have h1 := Int.tmod_lt_of_pos a hn
  have h2 : -n < a.tmod n := by
    have := Int.tmod_lt_of_pos (-a) hn
    rw [Int.neg_tmod] at this
    omega
  have hn0 : (n == 0) = false := by simp; omega
  have hw : IntKind.i64.wrap (a.tmod n) = a.tmod n := IntWalk.i64_in _ (by omega)
  have hw2 : IntKind.i64.wrap (a.tmod n + n) = a.tmod n + n := IntWalk.i64_in _ (by omega)
  by_cases hneg : a.tmod n < 0
  · have hp : pickedI a n = a.tmod n + n := by unfold pickedI; rw [if_pos hneg]
    rw [hp]
    go_enter Try.func43, Try.ntmps43
    go_wp2
    go_ret
    exact ⟨ret_int (by first | rfl | exact hw2), rfl⟩
  · have hp : pickedI a n = a.tmod n := by unfold pickedI; rw [if_neg hneg]
    rw [hp]
    go_enter Try.func43, Try.ntmps43
    go_wp2
    go_ret
    exact ⟨ret_int (by first | rfl | exact hw), rfl⟩
theorem quo_in (x n : Int) (hx : -9223372036854775808 ≤ x ∧ x ≤ 9223372036854775807) (hn : 2 ≤ n) : IntKind.i64.wrap (x.tdiv n) = x.tdiv n := IntWalk.i64_in _ (by
  rcases Int.le_total 0 x with h | h
  · have h1 := Int.tdiv_le_self n h
    have h2 := Int.tdiv_nonneg h (by omega : (0 : Int) ≤ n)
    omega
  · have e : x = -(-x) := by omega
    rw [e, Int.neg_tdiv]
    rw [Int.tdiv_eq_ediv_of_nonneg (by omega)]
    have h1 : (-x) / n ≤ -x := Int.ediv_le_self n (by omega)
    have h2 : 0 ≤ (-x) / n := Int.ediv_nonneg (by omega) (by omega)
    have h3 : (-x) / n ≤ (-x) / 2 ∨ True := .inr trivial
    omega)

theorem keepOf {w1 X : World} (hb : Below w1.heap.size w1 X) : (∀ b o, b < w1.heap.size → X.cell? ⟨b, o, none⟩ = w1.cell? ⟨b, o, none⟩) ∧ w1.heap.size ≤ X.heap.size ∧ Hid (Below w1.heap.size w1 X) := ⟨fun b o h => hb.cell (p := ⟨b, o, none⟩) h, hb.size, hb⟩
theorem pres_at (x : Int) (hx : -9223372036854775808 ≤ x ∧ x ≤ 9223372036854775807) (w : World) (b : Nat) (hc : w.cell? ⟨b, 0, none⟩ = some (.int .i64 x)) (hb : b < w.heap.size) : Calls Try.prog 42 #[.slice (some ⟨b, 0, none⟩) 1 1, .int .i64 1] w fun e w' =>
    ∃ g cap, e = .returned (.slice (some ⟨g, 0, none⟩) 1 cap) ∧ w'.cell? ⟨g, 0, none⟩ = some (.bool (presV x).six) ∧ w'.cell? ⟨g, 1, none⟩ = some (.int .u64 (presV x).hi) ∧ w'.cell? ⟨g, 2, none⟩ = some (.int .u64 (presV x).lo) ∧ w'.cell? ⟨g, 3, none⟩ = some (.int .i64 (presV x).n) ∧ g < w'.heap.size ∧ Below w.heap.size w w' := by
  refine (pres1_any x b w hx hb hc).mono ?_
  rintro e w' ⟨v, rfl, hown, hB⟩
  rcases hown.2 with ⟨_, h0⟩ | ⟨g, cap, cur, rfl, hg, hh, _, _, _, ht⟩
  · omega
  have hlt := (Array.getElem?_eq_some_iff.1 hh).1
  have hcell : ∀ j u, (PV.cells (presV x))[j]? = some u → w'.cell? ⟨g, j, none⟩ = some u := by
    intro j u hj
    have hj4 : j < 4 := (List.getElem?_eq_some_iff.1 hj).1
    rw [← ht, List.getElem?_take_of_lt (by omega)] at hj
    unfold World.cell?
    simp only [hh]
    simpa using hj
  exact ⟨g, cap, rfl, hcell 0 _ rfl, hcell 1 _ rfl, hcell 2 _ rfl, hcell 3 _ rfl, hlt, hB⟩

structure BidV where
  pre : Int
  src : Int
  peer : Int
  met : Int
  hop : Int
def BidV.cells (b : BidV) : List Value := [.int .i64 b.pre, .int .i64 b.src, .int .i64 b.peer, .int .i64 b.met, .int .i64 b.hop]
theorem BidV.cells_length (b : BidV) : b.cells.length = 5 := rfl
structure BidV.Ok (b : BidV) : Prop where
  pre : -9223372036854775808 ≤ b.pre ∧ b.pre ≤ 9223372036854775807
  met : -9223372036854775808 ≤ b.met ∧ b.met ≤ 9223372036854775807
/-- The offer of a bid. -/
def bidV (b : BidV) : OffV := ⟨presV b.pre, 1 + pickedI b.src 4, pickedI b.peer 4, if pickedI (b.met.tdiv 5) 5 = 0 then 999 else pickedI b.met 5, 1 + pickedI b.hop 9⟩
theorem bidV_good (b : BidV) : (bidV b).Good := by
  have h1 := picked_range b.src (n := 4) (by omega)
  have h2 := picked_range b.peer (n := 4) (by omega)
  have h3 := picked_range b.met (n := 5) (by omega)
  have h4 := picked_range b.hop (n := 9) (by omega)
  unfold bidV
  refine ⟨presV_ok _, ?_, ?_, ?_, ?_⟩ <;> simp only
  · omega
  · omega
  · split <;> omega
  · omega
def IsBids (w : World) (A : Option Addr) (n : Nat) (l : List BidV) : Prop := l.length = n ∧ n ≤ maxLen ∧ (∀ r ∈ l, r.Ok) ∧ Reads w w.heap.size 5 A n (l.flatMap BidV.cells)

set_option maxRecDepth 100000 in
set_option maxHeartbeats 3200000 in
theorem kOffers_any {A : Option Addr} {n c : Nat} {l : List BidV} {w : World} (h : IsBids w A n l) (_hc : c ≤ maxLen) (_hnc : n ≤ c) (K : Nat) (hK : K ≤ 100) : Calls Try.prog 13 #[.slice A n c, .int .i64 K] w fun e w' => ∃ v, e = .returned v ∧ w'.ownsRow w.heap.size 44 8 v ((l.take K).map bidV).length (((l.take K).map bidV).flatMap OffV.cells) ∧ Below w.heap.size w w' := by
  have HZ := Lib.hid h.1
  have hnm := h.2.1
  have HOK := Lib.hid h.2.2.1
  have HR := Lib.hid h.2.2.2
  unfold maxLen at hnm _hc
  clear h
  have CQ := Lib.hid (fun a n w (h1 : 0 < n) (h2 : n ≤ 1000000) => picked_q a n w h1 h2)
  go_enter Try.func13, Try.ntmps13
  go_wp2
  go_loopw [6, 5, 7, 8] (fun i ov _ _ wr => ∃ k : Nat, k ≤ n ∧ k ≤ K ∧ i = .int .i64 k ∧ Hid (wr.ownsRow w.heap.size 44 8 ov ((l.take k).map bidV).length (((l.take k).map bidV).flatMap OffV.cells)) ∧ Hid (Below w.heap.size w wr)) (fun i _ _ _ _ => n - (intOf i).toNat)
  case atStart => exact ⟨0, by omega, by omega, rfl, World.ownsRow_nil _ _ _ _, Below.refl _ _⟩
  case round =>
    obtain ⟨k, hk, hkK, rfl, HROW, HB⟩ := hrel
    obtain ⟨wo, rfl⟩ : ∃ wo : World, wo = wr := ⟨_, rfl⟩
    have hszb := HB.out.size
    have hml : ((l.take k).map bidV).length ≤ 100 := by rw [List.length_map, List.length_take]; omega
    obtain ⟨L, hL⟩ : ∃ L, (l.take k).map bidV = L := ⟨_, rfl⟩
    rw [hL] at HROW hml
    have HL := Lib.hid hL
    clear hL
    by_cases hlt : k < n
    · by_cases hltK : k < K
      · obtain ⟨ad, ⟨pre, src, peer, met, hop⟩, rfl, hlk, htk, hmem, hbk, hc0, hcj⟩ := HR.out.atS BidV.cells_length HZ.out hlt
        have q0 := (HB.out.cell (p := ad.add (k * 5)) (by rw [block_of_add]; exact hbk)).trans (hc0 _ rfl)
        have q1 := (HB.out.cell (p := ⟨(ad.add (k * 5)).block, (ad.add (k * 5)).off + 1, none⟩) (by rw [block_of_add]; exact hbk)).trans (hcj 1 _ rfl)
        have q2 := (HB.out.cell (p := ⟨(ad.add (k * 5)).block, (ad.add (k * 5)).off + 2, none⟩) (by rw [block_of_add]; exact hbk)).trans (hcj 2 _ rfl)
        have q3 := (HB.out.cell (p := ⟨(ad.add (k * 5)).block, (ad.add (k * 5)).off + 3, none⟩) (by rw [block_of_add]; exact hbk)).trans (hcj 3 _ rfl)
        have q4 := (HB.out.cell (p := ⟨(ad.add (k * 5)).block, (ad.add (k * 5)).off + 4, none⟩) (by rw [block_of_add]; exact hbk)).trans (hcj 4 _ rfl)
        have hok := HOK.out _ hmem
        have hpr := hok.pre
        have hmr := hok.met
        simp only at hpr hmr
        have HTK := Lib.hid htk
        have hm5 := quo_in met 5 hmr (by omega)
        have CPR := Lib.hid (fun w b => pres_at pre hpr w b)
        have C1 := Lib.hid (fun w => CQ.out src 4 w (by omega) (by omega))
        have C2 := Lib.hid (fun w => CQ.out peer 4 w (by omega) (by omega))
        have C3 := Lib.hid (fun w => CQ.out met 5 w (by omega) (by omega))
        have C4 := Lib.hid (fun w => CQ.out hop 9 w (by omega) (by omega))
        have C5 := Lib.hid (fun w => CQ.out (met.tdiv 5) 5 w (by omega) (by omega))
        have r1 := picked_range src (n := 4) (by omega)
        have r2 := picked_range peer (n := 4) (by omega)
        have r3 := picked_range met (n := 5) (by omega)
        have r4 := picked_range hop (n := 9) (by omega)
        have HBV : Hid (bidV ⟨pre, src, peer, met, hop⟩ = ⟨presV pre, 1 + pickedI src 4, pickedI peer 4, if pickedI (met.tdiv 5) 5 = 0 then 999 else pickedI met 5, 1 + pickedI hop 9⟩) := rfl
        generalize presV pre = pv at *
        generalize pickedI src 4 = a1 at *
        generalize pickedI peer 4 = a2 at *
        generalize pickedI met 5 = a3 at *
        generalize pickedI hop 9 = a4 at *
        generalize pickedI (met.tdiv 5) 5 = a5 at *
        have e1 : IntKind.i64.wrap (1 + a1) = 1 + a1 := IntWalk.i64_in _ (by omega)
        have e4 : IntKind.i64.wrap (1 + a4) = 1 + a4 := IntWalk.i64_in _ (by omega)
        obtain ⟨six, hi, lo, pn⟩ := pv
        simp only at CPR
        clear hbk hc0 hcj hmem hlk htk hok
        go_wp2_with fail
        obtain ⟨wp, hwp⟩ : ∃ wn : World, wo.alloc (.cells #[.int .i64 pre, .int .i64 src, .int .i64 peer, .int .i64 met, .int .i64 hop] 89) = wn := ⟨_, rfl⟩
        have p0 : wp.cell? ⟨wo.heap.size, 0, none⟩ = some (.int .i64 pre) := by rw [← hwp]; exact alloc_cellN (j := 0) rfl
        have p1 : wp.cell? ⟨wo.heap.size, 1, none⟩ = some (.int .i64 src) := by rw [← hwp]; exact alloc_cellN (j := 1) rfl
        have p2 : wp.cell? ⟨wo.heap.size, 2, none⟩ = some (.int .i64 peer) := by rw [← hwp]; exact alloc_cellN (j := 2) rfl
        have p3 : wp.cell? ⟨wo.heap.size, 3, none⟩ = some (.int .i64 met) := by rw [← hwp]; exact alloc_cellN (j := 3) rfl
        have p4 : wp.cell? ⟨wo.heap.size, 4, none⟩ = some (.int .i64 hop) := by rw [← hwp]; exact alloc_cellN (j := 4) rfl
        have hzp : wo.heap.size < wp.heap.size := by rw [← hwp]; simp
        have HBP : Hid (Below w.heap.size w wp) := by rw [← hwp]; exact HB.out.alloc hszb _
        have HROWP : Hid (wp.ownsRow w.heap.size 44 8 u5 L.length (L.flatMap OffV.cells)) := by rw [← hwp]; exact HROW.out.alloc _
        rw [hwp]
        clear hwp
        refine wp_region_held_drew (S := (fun w' => (∀ b o, b < wp.heap.size → w'.cell? ⟨b, o, none⟩ = wp.cell? ⟨b, o, none⟩) ∧ wp.heap.size ≤ w'.heap.size ∧ Hid (Below wp.heap.size wp w'))) (by kernel_rfl) ?_ (fun hHeld => ?_)
        · (first | assumption | exact keep0 _ | exact keep1 (by assumption) (by assumption) | exact keep1 ⟨fun _ _ _ => rfl, Nat.le_refl _, Below.refl _ _⟩ (by assumption) | exact keepD (by assumption) | exact keepB (by assumption) (by assumption) | exact keepA (by assumption) _ | exact ⟨fun _ _ _ => rfl, Nat.le_refl _, Below.refl _ _⟩)
        refine wpAnyH_take (i := 0) (v := ?_) rfl (by kernel_rfl) (by kernel_rfl) (by kernel_rfl) (fun _ _ _ h => h) (Or.inl ⟨by rfl, ?_⟩) (by assumption) ?_
        rotate_left
        · (intro w hSw; (try dsimp only at hSw); go_simp <;> with_reducible rfl)
        (try simp only [Act.put, List.getElem_toArray, List.getElem_cons_zero, List.setIfInBounds_toArray, List.set_cons_zero, List.set_cons_succ])
        refine wpAnyH_take (i := 1) (v := ?_) rfl (by kernel_rfl) (by kernel_rfl) (by kernel_rfl) (fun _ _ _ h => h) (Or.inl ⟨by rfl, ?_⟩) (by assumption) ?_
        rotate_left
        · (intro w hSw; (try dsimp only at hSw); go_simp <;> with_reducible rfl)
        (try simp only [Act.put, List.getElem_toArray, List.getElem_cons_succ, List.getElem_cons_zero, List.setIfInBounds_toArray, List.set_cons_zero, List.set_cons_succ])
        refine wpAnyH_take (i := 6) (v := ?_) rfl (by kernel_rfl) (by kernel_rfl) (by kernel_rfl) (fun _ _ _ h => h) (Or.inl ⟨by rfl, ?_⟩) (by assumption) ?_
        rotate_left
        · (intro w hSw; (try dsimp only at hSw); go_simp <;> with_reducible rfl)
        (try simp only [Act.put, List.getElem_toArray, List.getElem_cons_succ, List.getElem_cons_zero, List.setIfInBounds_toArray, List.set_cons_zero, List.set_cons_succ])
        refine wpAnyH_take (i := 7) (v := ?_) rfl (by kernel_rfl) (by kernel_rfl) (by kernel_rfl) (fun _ _ _ h => h) (Or.inl ⟨by rfl, ?_⟩) (by assumption) ?_
        rotate_left
        · (intro w hSw; (try dsimp only at hSw); go_simp <;> with_reducible rfl)
        (try simp only [Act.put, List.getElem_toArray, List.getElem_cons_succ, List.getElem_cons_zero, List.setIfInBounds_toArray, List.set_cons_zero, List.set_cons_succ])
        refine wpAnyH_take (i := 10) (v := ?_) rfl (by kernel_rfl) (by kernel_rfl) (by kernel_rfl) (fun _ _ _ h => h) (Or.inl ⟨by rfl, ?_⟩) (by assumption) ?_
        rotate_left
        · (intro w hSw; (try dsimp only at hSw); go_simp <;> with_reducible rfl)
        (try simp only [Act.put, List.getElem_toArray, List.getElem_cons_succ, List.getElem_cons_zero, List.setIfInBounds_toArray, List.set_cons_zero, List.set_cons_succ])
        refine wpAnyH_take (i := 11) (v := ?_) rfl (by kernel_rfl) (by kernel_rfl) (by kernel_rfl) (fun _ _ _ h => h) (Or.inl ⟨by rfl, ?_⟩) (by assumption) ?_
        rotate_left
        · (intro w hSw; (try dsimp only at hSw); go_simp <;> with_reducible rfl)
        (try simp only [Act.put, List.getElem_toArray, List.getElem_cons_succ, List.getElem_cons_zero, List.setIfInBounds_toArray, List.set_cons_zero, List.set_cons_succ])
        refine wpAnyH_take (i := 13) (v := ?_) rfl (by kernel_rfl) (by kernel_rfl) (by kernel_rfl) (fun _ _ _ h => h) (Or.inl ⟨by rfl, ?_⟩) (by assumption) ?_
        rotate_left
        · (intro w hSw; (try dsimp only at hSw); go_simp <;> with_reducible rfl)
        (try simp only [Act.put, List.getElem_toArray, List.getElem_cons_succ, List.getElem_cons_zero, List.setIfInBounds_toArray, List.set_cons_zero, List.set_cons_succ])
        refine wpAnyH_take (i := 14) (v := ?_) rfl (by kernel_rfl) (by kernel_rfl) (by kernel_rfl) (fun _ _ _ h => h) (Or.inl ⟨by rfl, ?_⟩) (by assumption) ?_
        rotate_left
        · (intro w hSw; (try dsimp only at hSw); go_simp <;> with_reducible rfl)
        (try simp only [Act.put, List.getElem_toArray, List.getElem_cons_succ, List.getElem_cons_zero, List.setIfInBounds_toArray, List.set_cons_zero, List.set_cons_succ])
        refine wpAnyH_take (i := 16) (v := ?_) rfl (by kernel_rfl) (by kernel_rfl) (by kernel_rfl) (fun _ _ _ h => h) (Or.inl ⟨by rfl, ?_⟩) (by assumption) ?_
        rotate_left
        · (intro w hSw; (try dsimp only at hSw); go_simp <;> with_reducible rfl)
        (try simp only [Act.put, List.getElem_toArray, List.getElem_cons_succ, List.getElem_cons_zero, List.setIfInBounds_toArray, List.set_cons_zero, List.set_cons_succ])
        refine wpAnyH_take (i := 17) (v := ?_) rfl (by kernel_rfl) (by kernel_rfl) (by kernel_rfl) (fun _ _ _ h => h) (Or.inl ⟨by rfl, ?_⟩) (by assumption) ?_
        rotate_left
        · (intro w hSw; (try dsimp only at hSw); go_simp <;> with_reducible rfl)
        (try simp only [Act.put, List.getElem_toArray, List.getElem_cons_succ, List.getElem_cons_zero, List.setIfInBounds_toArray, List.set_cons_zero, List.set_cons_succ])
        refine wpAnyH_ready (rs := [2, 21]) (by kernel_rfl) (by simp) ?_
        refine AllReadyH.cons rfl (fun K hK => ?_) (AllReadyH.cons rfl (fun K hK => ?_) AllReadyH.nil)
        · go_simp
          (try simp only [Act.put, List.getElem_toArray, List.getElem_cons_succ, List.getElem_cons_zero, List.setIfInBounds_toArray, List.set_cons_zero, List.set_cons_succ])
          first
            | refine hK.out _ _ ?_ (fun hHeld => ?_)
            | (go_wp2_with fail; refine hK.out _ _ ?_ (fun hHeld => ?_))
          · (first | assumption | exact keep0 _ | exact keep1 (by assumption) (by assumption) | exact keep1 ⟨fun _ _ _ => rfl, Nat.le_refl _, Below.refl _ _⟩ (by assumption) | exact keepD (by assumption) | exact keepB (by assumption) (by assumption) | exact keepA (by assumption) _ | exact ⟨fun _ _ _ => rfl, Nat.le_refl _, Below.refl _ _⟩)
          clear hK K
          (try simp only [Act.put, List.getElem_toArray, List.getElem_cons_succ, List.getElem_cons_zero, List.setIfInBounds_toArray, List.set_cons_zero, List.set_cons_succ])
          refine wpAnyH_ready (rs := [3, 21]) (by kernel_rfl) (by simp) ?_
          refine AllReadyH.cons rfl (fun K hK => ?_) (AllReadyH.cons rfl (fun K hK => ?_) AllReadyH.nil)
          · go_simp
            (try simp only [Act.put, List.getElem_toArray, List.getElem_cons_succ, List.getElem_cons_zero, List.setIfInBounds_toArray, List.set_cons_zero, List.set_cons_succ])
            refine (CPR.out _ _ ?_ ?_).mono ?_
            · go_simp
            · (simp; try omega)
            rintro e w8 ⟨g8, c8, rfl, y0, y1, y2, y3, hg8, hb8⟩
            first
              | refine hK.out _ _ ?_ (fun hHeld => ?_)
              | (go_wp2_with fail; refine hK.out _ _ ?_ (fun hHeld => ?_))
            · (first | assumption | exact keep0 _ | exact keep1 (by assumption) (by assumption) | exact keep1 ⟨fun _ _ _ => rfl, Nat.le_refl _, Below.refl _ _⟩ (by assumption) | exact keepD (by assumption) | exact keepB (by assumption) (by assumption) | exact keepA (by assumption) _ | exact ⟨fun _ _ _ => rfl, Nat.le_refl _, Below.refl _ _⟩)
            clear hK K
            (try simp only [Act.put, List.getElem_toArray, List.getElem_cons_succ, List.getElem_cons_zero, List.setIfInBounds_toArray, List.set_cons_zero, List.set_cons_succ])
            have HB8 : Hid (Below wp.heap.size wp w8) := hHeld.2.2
            refine wpAnyH_take (i := 4) (v := ?_) rfl (by kernel_rfl) (by kernel_rfl) (by kernel_rfl) (fun _ _ _ h => h) (Or.inl ⟨by rfl, ?_⟩) (by assumption) ?_
            rotate_left
            · (intro w hSw; (try dsimp only at hSw); go_simp <;> with_reducible rfl)
            (try simp only [Act.put, List.getElem_toArray, List.getElem_cons_succ, List.getElem_cons_zero, List.setIfInBounds_toArray, List.set_cons_zero, List.set_cons_succ])
            refine wpAnyH_call (i := 8) (v := .int .i64 a1) rfl (by kernel_rfl) (by kernel_rfl) (by kernel_rfl) (fun _ _ _ h => h) ⟨by rfl, fun W _ => ⟨43, #[.int .i64 src, .int .i64 4], ?_, C1.out W⟩⟩ (by assumption) ?_
            · first | rfl | kernel_rfl | (go_simp; done)
            (try simp only [Act.put, List.getElem_toArray, List.getElem_cons_succ, List.getElem_cons_zero, List.setIfInBounds_toArray, List.set_cons_zero, List.set_cons_succ])
            refine wpAnyH_take (i := 9) (v := ?_) rfl (by kernel_rfl) (by kernel_rfl) (by kernel_rfl) (fun _ _ _ h => h) (Or.inl ⟨by rfl, ?_⟩) (by assumption) ?_
            rotate_left
            · (intro w hSw; (try dsimp only at hSw); go_simp <;> with_reducible rfl)
            (try simp only [Act.put, List.getElem_toArray, List.getElem_cons_succ, List.getElem_cons_zero, List.setIfInBounds_toArray, List.set_cons_zero, List.set_cons_succ])
            refine wpAnyH_call (i := 12) (v := .int .i64 a2) rfl (by kernel_rfl) (by kernel_rfl) (by kernel_rfl) (fun _ _ _ h => h) ⟨by rfl, fun W _ => ⟨43, #[.int .i64 peer, .int .i64 4], ?_, C2.out W⟩⟩ (by assumption) ?_
            · first | rfl | kernel_rfl | (go_simp; done)
            (try simp only [Act.put, List.getElem_toArray, List.getElem_cons_succ, List.getElem_cons_zero, List.setIfInBounds_toArray, List.set_cons_zero, List.set_cons_succ])
            refine wpAnyH_call (i := 15) (v := .int .i64 a3) rfl (by kernel_rfl) (by kernel_rfl) (by kernel_rfl) (fun _ _ _ h => h) ⟨by rfl, fun W _ => ⟨43, #[.int .i64 met, .int .i64 5], ?_, C3.out W⟩⟩ (by assumption) ?_
            · first | rfl | kernel_rfl | (go_simp; done)
            (try simp only [Act.put, List.getElem_toArray, List.getElem_cons_succ, List.getElem_cons_zero, List.setIfInBounds_toArray, List.set_cons_zero, List.set_cons_succ])
            refine wpAnyH_call (i := 18) (v := .int .i64 a4) rfl (by kernel_rfl) (by kernel_rfl) (by kernel_rfl) (fun _ _ _ h => h) ⟨by rfl, fun W _ => ⟨43, #[.int .i64 hop, .int .i64 9], ?_, C4.out W⟩⟩ (by assumption) ?_
            · first | rfl | kernel_rfl | (go_simp; done)
            (try simp only [Act.put, List.getElem_toArray, List.getElem_cons_succ, List.getElem_cons_zero, List.setIfInBounds_toArray, List.set_cons_zero, List.set_cons_succ])
            refine wpAnyH_take (i := 19) (v := ?_) rfl (by kernel_rfl) (by kernel_rfl) (by kernel_rfl) (fun _ _ _ h => h) (Or.inl ⟨by rfl, ?_⟩) (by assumption) ?_
            rotate_left
            · (intro w hSw; (try dsimp only at hSw); go_simp <;> with_reducible rfl)
            (try simp only [Act.put, List.getElem_toArray, List.getElem_cons_succ, List.getElem_cons_zero, List.setIfInBounds_toArray, List.set_cons_zero, List.set_cons_succ])
            refine wpAnyH_ready (rs := [5, 21]) (by kernel_rfl) (by simp) ?_
            refine AllReadyH.cons rfl (fun K hK => ?_) (AllReadyH.cons rfl (fun K hK => ?_) AllReadyH.nil)
            · go_simp
              (try simp only [Act.put, List.getElem_toArray, List.getElem_cons_succ, List.getElem_cons_zero, List.setIfInBounds_toArray, List.set_cons_zero, List.set_cons_succ])
              first
                | refine hK.out _ _ ?_ (fun hHeld => ?_)
                | (go_wp2_with fail; refine hK.out _ _ ?_ (fun hHeld => ?_))
              · (first | assumption | exact keep0 _ | exact keep1 (by assumption) (by assumption) | exact keep1 ⟨fun _ _ _ => rfl, Nat.le_refl _, Below.refl _ _⟩ (by assumption) | exact keepD (by assumption) | exact keepB (by assumption) (by assumption) | exact keepA (by assumption) _ | exact ⟨fun _ _ _ => rfl, Nat.le_refl _, Below.refl _ _⟩)
              clear hK K
              (try simp only [Act.put, List.getElem_toArray, List.getElem_cons_succ, List.getElem_cons_zero, List.setIfInBounds_toArray, List.set_cons_zero, List.set_cons_succ])
              refine wpAnyH_take (i := 20) (v := ?_) rfl (by kernel_rfl) (by kernel_rfl) (by kernel_rfl) (fun _ _ _ h => h) (Or.inl ⟨by rfl, ?_⟩) (by assumption) ?_
              rotate_left
              · (intro w hSw; (try dsimp only at hSw); go_simp <;> with_reducible rfl)
              (try simp only [Act.put, List.getElem_toArray, List.getElem_cons_succ, List.getElem_cons_zero, List.setIfInBounds_toArray, List.set_cons_zero, List.set_cons_succ])
              refine wpAnyH_ready (rs := [21]) (by kernel_rfl) (by simp) ?_
              refine AllReadyH.cons rfl (fun K hK => ?_) AllReadyH.nil
              go_simp
              (try simp only [Act.put, List.getElem_toArray, List.getElem_cons_succ, List.getElem_cons_zero, List.setIfInBounds_toArray, List.set_cons_zero, List.set_cons_succ])
              first
                | refine hK.out _ _ ?_ (fun hHeld => ?_)
                | (go_wp2_with fail; refine hK.out _ _ ?_ (fun hHeld => ?_))
              · (first | assumption | exact keep0 _ | exact keep1 (by assumption) (by assumption) | exact keep1 ⟨fun _ _ _ => rfl, Nat.le_refl _, Below.refl _ _⟩ (by assumption) | exact keepD (by assumption) | exact keepB (by assumption) (by assumption) | exact keepA (by assumption) _ | exact ⟨fun _ _ _ => rfl, Nat.le_refl _, Below.refl _ _⟩)
              clear hK K
              (try simp only [Act.put, List.getElem_toArray, List.getElem_cons_succ, List.getElem_cons_zero, List.setIfInBounds_toArray, List.set_cons_zero, List.set_cons_succ])
              refine wpAnyH_ready (rs := [22]) (by kernel_rfl) (by simp) ?_
              refine AllReadyH.cons rfl (fun K hK => ?_) AllReadyH.nil
              go_simp
              (try simp only [Act.put, List.getElem_toArray, List.getElem_cons_succ, List.getElem_cons_zero, List.setIfInBounds_toArray, List.set_cons_zero, List.set_cons_succ])
              first
                | refine hK.out _ _ ?_ (fun hHeld => ?_)
                | (go_wp2_with fail; refine hK.out _ _ ?_ (fun hHeld => ?_))
              · exact keepOf (by (repeat' first | with_reducible exact hHeld.2.2.out | with_reducible exact HB8.out | with_reducible exact Below.refl _ _ | with_reducible refine Below.drew ?_ | with_reducible refine Below.setCell ?_ ?_ _ | with_reducible refine Below.alloc ?_ ?_ _ | (simp; done) | (simp; omega) | omega | (have := hHeld.2.1; simp; omega)))
              clear hK K
              (try simp only [Act.put, List.getElem_toArray, List.getElem_cons_succ, List.getElem_cons_zero, List.setIfInBounds_toArray, List.set_cons_zero, List.set_cons_succ])
              refine wpAnyH_done (by kernel_rfl) ?_ _
              obtain ⟨wf, hS, hwf⟩ : ∃ wf : World, ((∀ b o, b < wp.heap.size → wf.cell? ⟨b, o, none⟩ = wp.cell? ⟨b, o, none⟩) ∧ wp.heap.size ≤ wf.heap.size ∧ Hid (Below wp.heap.size wp wf)) ∧ wf = _ := ⟨_, hHeld, rfl⟩
              have z0 : wf.cell? ⟨w8.heap.size, 0, none⟩ = some (.bool six) := by rw [hwf]; go_simp
              have z1 : wf.cell? ⟨w8.heap.size, 1, none⟩ = some (.int .u64 hi) := by rw [hwf]; go_simp
              have z2 : wf.cell? ⟨w8.heap.size, 2, none⟩ = some (.int .u64 lo) := by rw [hwf]; go_simp
              have z3 : wf.cell? ⟨w8.heap.size, 3, none⟩ = some (.int .i64 pn) := by rw [hwf]; go_simp
              have z4 : wf.cell? ⟨w8.heap.size, 4, none⟩ = some (.int .i64 (1 + a1)) := by rw [hwf]; go_simp
              have z5 : wf.cell? ⟨w8.heap.size, 5, none⟩ = some (.int .i64 a2) := by rw [hwf]; go_simp
              have z6 : wf.cell? ⟨w8.heap.size, 6, none⟩ = some (.int .i64 a3) := by rw [hwf]; go_simp
              have z7 : wf.cell? ⟨w8.heap.size, 7, none⟩ = some (.int .i64 (1 + a4)) := by rw [hwf]; go_simp
              have fz : wf.frozen? ⟨w8.heap.size, 6, none⟩ = false := by rw [hwf]; go_simp
              have hnz : w8.heap.size < wf.heap.size := World.block_lt_of_cell? wf ⟨w8.heap.size, 0, none⟩ z0
              rw [← hwf]
              clear hwf
              have hnb : wp.heap.size ≤ w8.heap.size := by have := HB8.out.size; omega
              have m3 := (hS.1 wo.heap.size 3 hzp).trans p3
              have HSB : Hid (Below wp.heap.size wp wf) := hS.2.2
              by_cases h5 : a5 = 0
              · subst h5
                have HROWF : Hid ((wf.setCell ⟨w8.heap.size, 6, none⟩ (.int .i64 999)).ownsRow w.heap.size 44 8 u5 L.length (L.flatMap OffV.cells)) := own_below HROWP.out (HSB.out.setCell hnb _)
                have HBF : Hid (Below w.heap.size w (wf.setCell ⟨w8.heap.size, 6, none⟩ (.int .i64 999))) := below_step HBP.out (HSB.out.setCell hnb _)
                have hsF : w.heap.size ≤ (wf.setCell ⟨w8.heap.size, 6, none⟩ (.int .i64 999)).heap.size := HBF.out.size
                have HSU : Hid ((l.take (k + 1)).map bidV = L ++ [(⟨⟨six, hi, lo, pn⟩, 1 + a1, a2, 999, 1 + a4⟩ : OffV)]) := by
                  show _ = _
                  rw [HTK.out, List.map_append, List.map_cons, List.map_nil, HBV.out, HL.out]
                  rfl
                go_wp2_with fail
                refine (C5.out _).mono ?_
                rintro e w' ⟨rfl, rfl⟩
                go_wp2_with (at_builtin; go_loud (refine wpList_append_oneN (us := [.bool six, .int .u64 hi, .int .u64 lo, .int .i64 pn, .int .i64 (1 + a1), .int .i64 a2, .int .i64 999, .int .i64 (1 + a4)]) rfl _ _ 24 rfl w.heap.size _ 8 64 Try.underlying24 infoOffer rfl (by decide) _ _ _ rfl rfl (by simp) HROWF.out hsF rfl (by intro u hu; simp at hu; rcases hu with rfl | rfl | rfl | rfl | rfl | rfl | rfl | rfl <;> rfl) (by unfold maxLen; omega) (by omega) ?_))
                intro v9 w9 hown9 hb9 hs9 hk9
                have HO9 : Hid (w9.ownsRow w.heap.size 44 8 v9 ((l.take (k + 1)).map bidV).length (((l.take (k + 1)).map bidV).flatMap OffV.cells)) := by
                  show World.ownsRow _ _ _ _ _ _ _
                  rw [HSU.out, List.length_append, List.flatMap_append]
                  exact hown9
                have HB9 : Hid (Below w.heap.size w w9) := HBF.out.trans (hb9.mono (by omega))
                clear hown9 hb9 hk9
                go_wp2
                go_roundw
                case rel => exact ⟨k + 1, by omega, by omega, by go_num, HO9, HB9⟩
                case measure => simp [intOf]; omega
              · have d5 : (a5 == 0) = false := by simpa using h5
                have HROWF : Hid (wf.ownsRow w.heap.size 44 8 u5 L.length (L.flatMap OffV.cells)) := own_below HROWP.out HSB.out
                have HBF : Hid (Below w.heap.size w wf) := below_step HBP.out HSB.out
                have hsF : w.heap.size ≤ wf.heap.size := HBF.out.size
                have HSU : Hid ((l.take (k + 1)).map bidV = L ++ [(⟨⟨six, hi, lo, pn⟩, 1 + a1, a2, a3, 1 + a4⟩ : OffV)]) := by
                  show _ = _
                  rw [HTK.out, List.map_append, List.map_cons, List.map_nil, HBV.out, HL.out]
                  rw [if_neg h5]
                go_wp2_with fail
                refine (C5.out _).mono ?_
                rintro e w' ⟨rfl, rfl⟩
                go_wp2_with (at_builtin; go_loud (refine wpList_append_oneN (us := [.bool six, .int .u64 hi, .int .u64 lo, .int .i64 pn, .int .i64 (1 + a1), .int .i64 a2, .int .i64 a3, .int .i64 (1 + a4)]) rfl _ _ 24 rfl w.heap.size _ 8 64 Try.underlying24 infoOffer rfl (by decide) _ _ _ rfl rfl (by simp) HROWF.out hsF rfl (by intro u hu; simp at hu; rcases hu with rfl | rfl | rfl | rfl | rfl | rfl | rfl | rfl <;> rfl) (by unfold maxLen; omega) (by omega) ?_))
                intro v9 w9 hown9 hb9 hs9 hk9
                have HO9 : Hid (w9.ownsRow w.heap.size 44 8 v9 ((l.take (k + 1)).map bidV).length (((l.take (k + 1)).map bidV).flatMap OffV.cells)) := by
                  show World.ownsRow _ _ _ _ _ _ _
                  rw [HSU.out, List.length_append, List.flatMap_append]
                  exact hown9
                have HB9 : Hid (Below w.heap.size w w9) := HBF.out.trans (hb9.mono (by omega))
                clear hown9 hb9 hk9
                go_wp2
                go_roundw
                case rel => exact ⟨k + 1, by omega, by omega, by go_num, HO9, HB9⟩
                case measure => simp [intOf]; omega
            · go_simp
              (try simp only [Act.put, List.getElem_toArray, List.getElem_cons_succ, List.getElem_cons_zero, List.setIfInBounds_toArray, List.set_cons_zero, List.set_cons_succ])
              first
                | refine hK.out _ _ ?_ (fun hHeld => ?_)
                | (go_wp2_with fail; refine hK.out _ _ ?_ (fun hHeld => ?_))
              · (first | assumption | exact keep0 _ | exact keep1 (by assumption) (by assumption) | exact keep1 ⟨fun _ _ _ => rfl, Nat.le_refl _, Below.refl _ _⟩ (by assumption) | exact keepD (by assumption) | exact keepB (by assumption) (by assumption) | exact keepA (by assumption) _ | exact ⟨fun _ _ _ => rfl, Nat.le_refl _, Below.refl _ _⟩)
              clear hK K
              (try simp only [Act.put, List.getElem_toArray, List.getElem_cons_succ, List.getElem_cons_zero, List.setIfInBounds_toArray, List.set_cons_zero, List.set_cons_succ])
              refine wpAnyH_ready (rs := [5]) (by kernel_rfl) (by simp) ?_
              refine AllReadyH.cons rfl (fun K hK => ?_) AllReadyH.nil
              go_simp
              (try simp only [Act.put, List.getElem_toArray, List.getElem_cons_succ, List.getElem_cons_zero, List.setIfInBounds_toArray, List.set_cons_zero, List.set_cons_succ])
              first
                | refine hK.out _ _ ?_ (fun hHeld => ?_)
                | (go_wp2_with fail; refine hK.out _ _ ?_ (fun hHeld => ?_))
              · (first | assumption | exact keep0 _ | exact keep1 (by assumption) (by assumption) | exact keep1 ⟨fun _ _ _ => rfl, Nat.le_refl _, Below.refl _ _⟩ (by assumption) | exact keepD (by assumption) | exact keepB (by assumption) (by assumption) | exact keepA (by assumption) _ | exact ⟨fun _ _ _ => rfl, Nat.le_refl _, Below.refl _ _⟩)
              clear hK K
              (try simp only [Act.put, List.getElem_toArray, List.getElem_cons_succ, List.getElem_cons_zero, List.setIfInBounds_toArray, List.set_cons_zero, List.set_cons_succ])
              refine wpAnyH_take (i := 20) (v := ?_) rfl (by kernel_rfl) (by kernel_rfl) (by kernel_rfl) (fun _ _ _ h => h) (Or.inl ⟨by rfl, ?_⟩) (by assumption) ?_
              rotate_left
              · (intro w hSw; (try dsimp only at hSw); go_simp <;> with_reducible rfl)
              (try simp only [Act.put, List.getElem_toArray, List.getElem_cons_succ, List.getElem_cons_zero, List.setIfInBounds_toArray, List.set_cons_zero, List.set_cons_succ])
              refine wpAnyH_ready (rs := [22]) (by kernel_rfl) (by simp) ?_
              refine AllReadyH.cons rfl (fun K hK => ?_) AllReadyH.nil
              go_simp
              (try simp only [Act.put, List.getElem_toArray, List.getElem_cons_succ, List.getElem_cons_zero, List.setIfInBounds_toArray, List.set_cons_zero, List.set_cons_succ])
              first
                | refine hK.out _ _ ?_ (fun hHeld => ?_)
                | (go_wp2_with fail; refine hK.out _ _ ?_ (fun hHeld => ?_))
              · exact keepOf (by (repeat' first | with_reducible exact hHeld.2.2.out | with_reducible exact HB8.out | with_reducible exact Below.refl _ _ | with_reducible refine Below.drew ?_ | with_reducible refine Below.setCell ?_ ?_ _ | with_reducible refine Below.alloc ?_ ?_ _ | (simp; done) | (simp; omega) | omega | (have := hHeld.2.1; simp; omega)))
              clear hK K
              (try simp only [Act.put, List.getElem_toArray, List.getElem_cons_succ, List.getElem_cons_zero, List.setIfInBounds_toArray, List.set_cons_zero, List.set_cons_succ])
              refine wpAnyH_done (by kernel_rfl) ?_ _
              obtain ⟨wf, hS, hwf⟩ : ∃ wf : World, ((∀ b o, b < wp.heap.size → wf.cell? ⟨b, o, none⟩ = wp.cell? ⟨b, o, none⟩) ∧ wp.heap.size ≤ wf.heap.size ∧ Hid (Below wp.heap.size wp wf)) ∧ wf = _ := ⟨_, hHeld, rfl⟩
              have z0 : wf.cell? ⟨w8.heap.size, 0, none⟩ = some (.bool six) := by rw [hwf]; go_simp
              have z1 : wf.cell? ⟨w8.heap.size, 1, none⟩ = some (.int .u64 hi) := by rw [hwf]; go_simp
              have z2 : wf.cell? ⟨w8.heap.size, 2, none⟩ = some (.int .u64 lo) := by rw [hwf]; go_simp
              have z3 : wf.cell? ⟨w8.heap.size, 3, none⟩ = some (.int .i64 pn) := by rw [hwf]; go_simp
              have z4 : wf.cell? ⟨w8.heap.size, 4, none⟩ = some (.int .i64 (1 + a1)) := by rw [hwf]; go_simp
              have z5 : wf.cell? ⟨w8.heap.size, 5, none⟩ = some (.int .i64 a2) := by rw [hwf]; go_simp
              have z6 : wf.cell? ⟨w8.heap.size, 6, none⟩ = some (.int .i64 a3) := by rw [hwf]; go_simp
              have z7 : wf.cell? ⟨w8.heap.size, 7, none⟩ = some (.int .i64 (1 + a4)) := by rw [hwf]; go_simp
              have fz : wf.frozen? ⟨w8.heap.size, 6, none⟩ = false := by rw [hwf]; go_simp
              have hnz : w8.heap.size < wf.heap.size := World.block_lt_of_cell? wf ⟨w8.heap.size, 0, none⟩ z0
              rw [← hwf]
              clear hwf
              have hnb : wp.heap.size ≤ w8.heap.size := by have := HB8.out.size; omega
              have m3 := (hS.1 wo.heap.size 3 hzp).trans p3
              have HSB : Hid (Below wp.heap.size wp wf) := hS.2.2
              by_cases h5 : a5 = 0
              · subst h5
                have HROWF : Hid ((wf.setCell ⟨w8.heap.size, 6, none⟩ (.int .i64 999)).ownsRow w.heap.size 44 8 u5 L.length (L.flatMap OffV.cells)) := own_below HROWP.out (HSB.out.setCell hnb _)
                have HBF : Hid (Below w.heap.size w (wf.setCell ⟨w8.heap.size, 6, none⟩ (.int .i64 999))) := below_step HBP.out (HSB.out.setCell hnb _)
                have hsF : w.heap.size ≤ (wf.setCell ⟨w8.heap.size, 6, none⟩ (.int .i64 999)).heap.size := HBF.out.size
                have HSU : Hid ((l.take (k + 1)).map bidV = L ++ [(⟨⟨six, hi, lo, pn⟩, 1 + a1, a2, 999, 1 + a4⟩ : OffV)]) := by
                  show _ = _
                  rw [HTK.out, List.map_append, List.map_cons, List.map_nil, HBV.out, HL.out]
                  rfl
                go_wp2_with fail
                refine (C5.out _).mono ?_
                rintro e w' ⟨rfl, rfl⟩
                go_wp2_with (at_builtin; go_loud (refine wpList_append_oneN (us := [.bool six, .int .u64 hi, .int .u64 lo, .int .i64 pn, .int .i64 (1 + a1), .int .i64 a2, .int .i64 999, .int .i64 (1 + a4)]) rfl _ _ 24 rfl w.heap.size _ 8 64 Try.underlying24 infoOffer rfl (by decide) _ _ _ rfl rfl (by simp) HROWF.out hsF rfl (by intro u hu; simp at hu; rcases hu with rfl | rfl | rfl | rfl | rfl | rfl | rfl | rfl <;> rfl) (by unfold maxLen; omega) (by omega) ?_))
                intro v9 w9 hown9 hb9 hs9 hk9
                have HO9 : Hid (w9.ownsRow w.heap.size 44 8 v9 ((l.take (k + 1)).map bidV).length (((l.take (k + 1)).map bidV).flatMap OffV.cells)) := by
                  show World.ownsRow _ _ _ _ _ _ _
                  rw [HSU.out, List.length_append, List.flatMap_append]
                  exact hown9
                have HB9 : Hid (Below w.heap.size w w9) := HBF.out.trans (hb9.mono (by omega))
                clear hown9 hb9 hk9
                go_wp2
                go_roundw
                case rel => exact ⟨k + 1, by omega, by omega, by go_num, HO9, HB9⟩
                case measure => simp [intOf]; omega
              · have d5 : (a5 == 0) = false := by simpa using h5
                have HROWF : Hid (wf.ownsRow w.heap.size 44 8 u5 L.length (L.flatMap OffV.cells)) := own_below HROWP.out HSB.out
                have HBF : Hid (Below w.heap.size w wf) := below_step HBP.out HSB.out
                have hsF : w.heap.size ≤ wf.heap.size := HBF.out.size
                have HSU : Hid ((l.take (k + 1)).map bidV = L ++ [(⟨⟨six, hi, lo, pn⟩, 1 + a1, a2, a3, 1 + a4⟩ : OffV)]) := by
                  show _ = _
                  rw [HTK.out, List.map_append, List.map_cons, List.map_nil, HBV.out, HL.out]
                  rw [if_neg h5]
                go_wp2_with fail
                refine (C5.out _).mono ?_
                rintro e w' ⟨rfl, rfl⟩
                go_wp2_with (at_builtin; go_loud (refine wpList_append_oneN (us := [.bool six, .int .u64 hi, .int .u64 lo, .int .i64 pn, .int .i64 (1 + a1), .int .i64 a2, .int .i64 a3, .int .i64 (1 + a4)]) rfl _ _ 24 rfl w.heap.size _ 8 64 Try.underlying24 infoOffer rfl (by decide) _ _ _ rfl rfl (by simp) HROWF.out hsF rfl (by intro u hu; simp at hu; rcases hu with rfl | rfl | rfl | rfl | rfl | rfl | rfl | rfl <;> rfl) (by unfold maxLen; omega) (by omega) ?_))
                intro v9 w9 hown9 hb9 hs9 hk9
                have HO9 : Hid (w9.ownsRow w.heap.size 44 8 v9 ((l.take (k + 1)).map bidV).length (((l.take (k + 1)).map bidV).flatMap OffV.cells)) := by
                  show World.ownsRow _ _ _ _ _ _ _
                  rw [HSU.out, List.length_append, List.flatMap_append]
                  exact hown9
                have HB9 : Hid (Below w.heap.size w w9) := HBF.out.trans (hb9.mono (by omega))
                clear hown9 hb9 hk9
                go_wp2
                go_roundw
                case rel => exact ⟨k + 1, by omega, by omega, by go_num, HO9, HB9⟩
                case measure => simp [intOf]; omega
          · go_simp
            (try simp only [Act.put, List.getElem_toArray, List.getElem_cons_succ, List.getElem_cons_zero, List.setIfInBounds_toArray, List.set_cons_zero, List.set_cons_succ])
            first
              | refine hK.out _ _ ?_ (fun hHeld => ?_)
              | (go_wp2_with fail; refine hK.out _ _ ?_ (fun hHeld => ?_))
            · (first | assumption | exact keep0 _ | exact keep1 (by assumption) (by assumption) | exact keep1 ⟨fun _ _ _ => rfl, Nat.le_refl _, Below.refl _ _⟩ (by assumption) | exact keepD (by assumption) | exact keepB (by assumption) (by assumption) | exact keepA (by assumption) _ | exact ⟨fun _ _ _ => rfl, Nat.le_refl _, Below.refl _ _⟩)
            clear hK K
            (try simp only [Act.put, List.getElem_toArray, List.getElem_cons_succ, List.getElem_cons_zero, List.setIfInBounds_toArray, List.set_cons_zero, List.set_cons_succ])
            refine wpAnyH_ready (rs := [3]) (by kernel_rfl) (by simp) ?_
            refine AllReadyH.cons rfl (fun K hK => ?_) AllReadyH.nil
            go_simp
            (try simp only [Act.put, List.getElem_toArray, List.getElem_cons_succ, List.getElem_cons_zero, List.setIfInBounds_toArray, List.set_cons_zero, List.set_cons_succ])
            refine (CPR.out _ _ ?_ ?_).mono ?_
            · go_simp
            · (simp; try omega)
            rintro e w8 ⟨g8, c8, rfl, y0, y1, y2, y3, hg8, hb8⟩
            have n0 : w8.cell? ⟨wp.heap.size + 1, 0, none⟩ = some (.bool false) := (hb8.cell (p := ⟨wp.heap.size + 1, 0, none⟩) (by simp; try omega)).trans (by go_simp)
            have f0 : w8.frozen? ⟨wp.heap.size + 1, 0, none⟩ = false := (hb8.frozen (p := ⟨wp.heap.size + 1, 0, none⟩) (by simp; try omega)).trans (by go_simp)
            have n1 : w8.cell? ⟨wp.heap.size + 1, 1, none⟩ = some (.int .u64 0) := (hb8.cell (p := ⟨wp.heap.size + 1, 1, none⟩) (by simp; try omega)).trans (by go_simp)
            have f1 : w8.frozen? ⟨wp.heap.size + 1, 1, none⟩ = false := (hb8.frozen (p := ⟨wp.heap.size + 1, 1, none⟩) (by simp; try omega)).trans (by go_simp)
            have n2 : w8.cell? ⟨wp.heap.size + 1, 2, none⟩ = some (.int .u64 0) := (hb8.cell (p := ⟨wp.heap.size + 1, 2, none⟩) (by simp; try omega)).trans (by go_simp)
            have f2 : w8.frozen? ⟨wp.heap.size + 1, 2, none⟩ = false := (hb8.frozen (p := ⟨wp.heap.size + 1, 2, none⟩) (by simp; try omega)).trans (by go_simp)
            have n3 : w8.cell? ⟨wp.heap.size + 1, 3, none⟩ = some (.int .i64 0) := (hb8.cell (p := ⟨wp.heap.size + 1, 3, none⟩) (by simp; try omega)).trans (by go_simp)
            have f3 : w8.frozen? ⟨wp.heap.size + 1, 3, none⟩ = false := (hb8.frozen (p := ⟨wp.heap.size + 1, 3, none⟩) (by simp; try omega)).trans (by go_simp)
            have n4 : w8.cell? ⟨wp.heap.size + 1, 4, none⟩ = some (.int .i64 0) := (hb8.cell (p := ⟨wp.heap.size + 1, 4, none⟩) (by simp; try omega)).trans (by go_simp)
            have f4 : w8.frozen? ⟨wp.heap.size + 1, 4, none⟩ = false := (hb8.frozen (p := ⟨wp.heap.size + 1, 4, none⟩) (by simp; try omega)).trans (by go_simp)
            have n5 : w8.cell? ⟨wp.heap.size + 1, 5, none⟩ = some (.int .i64 0) := (hb8.cell (p := ⟨wp.heap.size + 1, 5, none⟩) (by simp; try omega)).trans (by go_simp)
            have f5 : w8.frozen? ⟨wp.heap.size + 1, 5, none⟩ = false := (hb8.frozen (p := ⟨wp.heap.size + 1, 5, none⟩) (by simp; try omega)).trans (by go_simp)
            have n6 : w8.cell? ⟨wp.heap.size + 1, 6, none⟩ = some (.int .i64 0) := (hb8.cell (p := ⟨wp.heap.size + 1, 6, none⟩) (by simp; try omega)).trans (by go_simp)
            have f6 : w8.frozen? ⟨wp.heap.size + 1, 6, none⟩ = false := (hb8.frozen (p := ⟨wp.heap.size + 1, 6, none⟩) (by simp; try omega)).trans (by go_simp)
            have n7 : w8.cell? ⟨wp.heap.size + 1, 7, none⟩ = some (.int .i64 0) := (hb8.cell (p := ⟨wp.heap.size + 1, 7, none⟩) (by simp; try omega)).trans (by go_simp)
            have f7 : w8.frozen? ⟨wp.heap.size + 1, 7, none⟩ = false := (hb8.frozen (p := ⟨wp.heap.size + 1, 7, none⟩) (by simp; try omega)).trans (by go_simp)
            first
              | refine hK.out _ _ ?_ (fun hHeld => ?_)
              | (go_wp2_with fail; refine hK.out _ _ ?_ (fun hHeld => ?_))
            · (first | assumption | exact keep0 _ | exact keep1 (by assumption) (by assumption) | exact keep1 ⟨fun _ _ _ => rfl, Nat.le_refl _, Below.refl _ _⟩ (by assumption) | exact keepD (by assumption) | exact keepB (by assumption) (by assumption) | exact keepA (by assumption) _ | exact ⟨fun _ _ _ => rfl, Nat.le_refl _, Below.refl _ _⟩)
            clear hK K
            (try simp only [Act.put, List.getElem_toArray, List.getElem_cons_succ, List.getElem_cons_zero, List.setIfInBounds_toArray, List.set_cons_zero, List.set_cons_succ])
            have HB8 : Hid (Below wp.heap.size wp w8) := hHeld.2.2
            refine wpAnyH_take (i := 4) (v := ?_) rfl (by kernel_rfl) (by kernel_rfl) (by kernel_rfl) (fun _ _ _ h => h) (Or.inl ⟨by rfl, ?_⟩) (by assumption) ?_
            rotate_left
            · (intro w hSw; (try dsimp only at hSw); go_simp <;> with_reducible rfl)
            (try simp only [Act.put, List.getElem_toArray, List.getElem_cons_succ, List.getElem_cons_zero, List.setIfInBounds_toArray, List.set_cons_zero, List.set_cons_succ])
            refine wpAnyH_call (i := 8) (v := .int .i64 a1) rfl (by kernel_rfl) (by kernel_rfl) (by kernel_rfl) (fun _ _ _ h => h) ⟨by rfl, fun W _ => ⟨43, #[.int .i64 src, .int .i64 4], ?_, C1.out W⟩⟩ (by assumption) ?_
            · first | rfl | kernel_rfl | (go_simp; done)
            (try simp only [Act.put, List.getElem_toArray, List.getElem_cons_succ, List.getElem_cons_zero, List.setIfInBounds_toArray, List.set_cons_zero, List.set_cons_succ])
            refine wpAnyH_take (i := 9) (v := ?_) rfl (by kernel_rfl) (by kernel_rfl) (by kernel_rfl) (fun _ _ _ h => h) (Or.inl ⟨by rfl, ?_⟩) (by assumption) ?_
            rotate_left
            · (intro w hSw; (try dsimp only at hSw); go_simp <;> with_reducible rfl)
            (try simp only [Act.put, List.getElem_toArray, List.getElem_cons_succ, List.getElem_cons_zero, List.setIfInBounds_toArray, List.set_cons_zero, List.set_cons_succ])
            refine wpAnyH_call (i := 12) (v := .int .i64 a2) rfl (by kernel_rfl) (by kernel_rfl) (by kernel_rfl) (fun _ _ _ h => h) ⟨by rfl, fun W _ => ⟨43, #[.int .i64 peer, .int .i64 4], ?_, C2.out W⟩⟩ (by assumption) ?_
            · first | rfl | kernel_rfl | (go_simp; done)
            (try simp only [Act.put, List.getElem_toArray, List.getElem_cons_succ, List.getElem_cons_zero, List.setIfInBounds_toArray, List.set_cons_zero, List.set_cons_succ])
            refine wpAnyH_call (i := 15) (v := .int .i64 a3) rfl (by kernel_rfl) (by kernel_rfl) (by kernel_rfl) (fun _ _ _ h => h) ⟨by rfl, fun W _ => ⟨43, #[.int .i64 met, .int .i64 5], ?_, C3.out W⟩⟩ (by assumption) ?_
            · first | rfl | kernel_rfl | (go_simp; done)
            (try simp only [Act.put, List.getElem_toArray, List.getElem_cons_succ, List.getElem_cons_zero, List.setIfInBounds_toArray, List.set_cons_zero, List.set_cons_succ])
            refine wpAnyH_call (i := 18) (v := .int .i64 a4) rfl (by kernel_rfl) (by kernel_rfl) (by kernel_rfl) (fun _ _ _ h => h) ⟨by rfl, fun W _ => ⟨43, #[.int .i64 hop, .int .i64 9], ?_, C4.out W⟩⟩ (by assumption) ?_
            · first | rfl | kernel_rfl | (go_simp; done)
            (try simp only [Act.put, List.getElem_toArray, List.getElem_cons_succ, List.getElem_cons_zero, List.setIfInBounds_toArray, List.set_cons_zero, List.set_cons_succ])
            refine wpAnyH_take (i := 19) (v := ?_) rfl (by kernel_rfl) (by kernel_rfl) (by kernel_rfl) (fun _ _ _ h => h) (Or.inl ⟨by rfl, ?_⟩) (by assumption) ?_
            rotate_left
            · (intro w hSw; (try dsimp only at hSw); go_simp <;> with_reducible rfl)
            (try simp only [Act.put, List.getElem_toArray, List.getElem_cons_succ, List.getElem_cons_zero, List.setIfInBounds_toArray, List.set_cons_zero, List.set_cons_succ])
            refine wpAnyH_ready (rs := [5]) (by kernel_rfl) (by simp) ?_
            refine AllReadyH.cons rfl (fun K hK => ?_) AllReadyH.nil
            go_simp
            (try simp only [Act.put, List.getElem_toArray, List.getElem_cons_succ, List.getElem_cons_zero, List.setIfInBounds_toArray, List.set_cons_zero, List.set_cons_succ])
            first
              | refine hK.out _ _ ?_ (fun hHeld => ?_)
              | (go_wp2_with fail; refine hK.out _ _ ?_ (fun hHeld => ?_))
            · (first | assumption | exact keep0 _ | exact keep1 (by assumption) (by assumption) | exact keep1 ⟨fun _ _ _ => rfl, Nat.le_refl _, Below.refl _ _⟩ (by assumption) | exact keepD (by assumption) | exact keepB (by assumption) (by assumption) | exact keepA (by assumption) _ | exact ⟨fun _ _ _ => rfl, Nat.le_refl _, Below.refl _ _⟩)
            clear hK K
            (try simp only [Act.put, List.getElem_toArray, List.getElem_cons_succ, List.getElem_cons_zero, List.setIfInBounds_toArray, List.set_cons_zero, List.set_cons_succ])
            refine wpAnyH_take (i := 20) (v := ?_) rfl (by kernel_rfl) (by kernel_rfl) (by kernel_rfl) (fun _ _ _ h => h) (Or.inl ⟨by rfl, ?_⟩) (by assumption) ?_
            rotate_left
            · (intro w hSw; (try dsimp only at hSw); go_simp <;> with_reducible rfl)
            (try simp only [Act.put, List.getElem_toArray, List.getElem_cons_succ, List.getElem_cons_zero, List.setIfInBounds_toArray, List.set_cons_zero, List.set_cons_succ])
            refine wpAnyH_ready (rs := [22]) (by kernel_rfl) (by simp) ?_
            refine AllReadyH.cons rfl (fun K hK => ?_) AllReadyH.nil
            go_simp
            (try simp only [Act.put, List.getElem_toArray, List.getElem_cons_succ, List.getElem_cons_zero, List.setIfInBounds_toArray, List.set_cons_zero, List.set_cons_succ])
            first
              | refine hK.out _ _ ?_ (fun hHeld => ?_)
              | (go_wp2_with fail; refine hK.out _ _ ?_ (fun hHeld => ?_))
            · exact keepOf (by (repeat' first | with_reducible exact hHeld.2.2.out | with_reducible exact HB8.out | with_reducible exact Below.refl _ _ | with_reducible refine Below.drew ?_ | with_reducible refine Below.setCell ?_ ?_ _ | with_reducible refine Below.alloc ?_ ?_ _ | (simp; done) | (simp; omega) | omega | (have := hHeld.2.1; simp; omega)))
            clear hK K
            (try simp only [Act.put, List.getElem_toArray, List.getElem_cons_succ, List.getElem_cons_zero, List.setIfInBounds_toArray, List.set_cons_zero, List.set_cons_succ])
            refine wpAnyH_done (by kernel_rfl) ?_ _
            obtain ⟨wf, hS, hwf⟩ : ∃ wf : World, ((∀ b o, b < wp.heap.size → wf.cell? ⟨b, o, none⟩ = wp.cell? ⟨b, o, none⟩) ∧ wp.heap.size ≤ wf.heap.size ∧ Hid (Below wp.heap.size wp wf)) ∧ wf = _ := ⟨_, hHeld, rfl⟩
            have z0 : wf.cell? ⟨wp.heap.size + 1, 0, none⟩ = some (.bool six) := by rw [hwf]; go_simp
            have z1 : wf.cell? ⟨wp.heap.size + 1, 1, none⟩ = some (.int .u64 hi) := by rw [hwf]; go_simp
            have z2 : wf.cell? ⟨wp.heap.size + 1, 2, none⟩ = some (.int .u64 lo) := by rw [hwf]; go_simp
            have z3 : wf.cell? ⟨wp.heap.size + 1, 3, none⟩ = some (.int .i64 pn) := by rw [hwf]; go_simp
            have z4 : wf.cell? ⟨wp.heap.size + 1, 4, none⟩ = some (.int .i64 (1 + a1)) := by rw [hwf]; go_simp
            have z5 : wf.cell? ⟨wp.heap.size + 1, 5, none⟩ = some (.int .i64 a2) := by rw [hwf]; go_simp
            have z6 : wf.cell? ⟨wp.heap.size + 1, 6, none⟩ = some (.int .i64 a3) := by rw [hwf]; go_simp
            have z7 : wf.cell? ⟨wp.heap.size + 1, 7, none⟩ = some (.int .i64 (1 + a4)) := by rw [hwf]; go_simp
            have fz : wf.frozen? ⟨wp.heap.size + 1, 6, none⟩ = false := by rw [hwf]; go_simp
            have hnz : wp.heap.size + 1 < wf.heap.size := World.block_lt_of_cell? wf ⟨wp.heap.size + 1, 0, none⟩ z0
            rw [← hwf]
            clear hwf
            have hnb : wp.heap.size ≤ wp.heap.size + 1 := by have := HB8.out.size; omega
            have m3 := (hS.1 wo.heap.size 3 hzp).trans p3
            have HSB : Hid (Below wp.heap.size wp wf) := hS.2.2
            by_cases h5 : a5 = 0
            · subst h5
              have HROWF : Hid ((wf.setCell ⟨wp.heap.size + 1, 6, none⟩ (.int .i64 999)).ownsRow w.heap.size 44 8 u5 L.length (L.flatMap OffV.cells)) := own_below HROWP.out (HSB.out.setCell hnb _)
              have HBF : Hid (Below w.heap.size w (wf.setCell ⟨wp.heap.size + 1, 6, none⟩ (.int .i64 999))) := below_step HBP.out (HSB.out.setCell hnb _)
              have hsF : w.heap.size ≤ (wf.setCell ⟨wp.heap.size + 1, 6, none⟩ (.int .i64 999)).heap.size := HBF.out.size
              have HSU : Hid ((l.take (k + 1)).map bidV = L ++ [(⟨⟨six, hi, lo, pn⟩, 1 + a1, a2, 999, 1 + a4⟩ : OffV)]) := by
                show _ = _
                rw [HTK.out, List.map_append, List.map_cons, List.map_nil, HBV.out, HL.out]
                rfl
              go_wp2_with fail
              refine (C5.out _).mono ?_
              rintro e w' ⟨rfl, rfl⟩
              go_wp2_with (at_builtin; go_loud (refine wpList_append_oneN (us := [.bool six, .int .u64 hi, .int .u64 lo, .int .i64 pn, .int .i64 (1 + a1), .int .i64 a2, .int .i64 999, .int .i64 (1 + a4)]) rfl _ _ 24 rfl w.heap.size _ 8 64 Try.underlying24 infoOffer rfl (by decide) _ _ _ rfl rfl (by simp) HROWF.out hsF rfl (by intro u hu; simp at hu; rcases hu with rfl | rfl | rfl | rfl | rfl | rfl | rfl | rfl <;> rfl) (by unfold maxLen; omega) (by omega) ?_))
              intro v9 w9 hown9 hb9 hs9 hk9
              have HO9 : Hid (w9.ownsRow w.heap.size 44 8 v9 ((l.take (k + 1)).map bidV).length (((l.take (k + 1)).map bidV).flatMap OffV.cells)) := by
                show World.ownsRow _ _ _ _ _ _ _
                rw [HSU.out, List.length_append, List.flatMap_append]
                exact hown9
              have HB9 : Hid (Below w.heap.size w w9) := HBF.out.trans (hb9.mono (by omega))
              clear hown9 hb9 hk9
              go_wp2
              go_roundw
              case rel => exact ⟨k + 1, by omega, by omega, by go_num, HO9, HB9⟩
              case measure => simp [intOf]; omega
            · have d5 : (a5 == 0) = false := by simpa using h5
              have HROWF : Hid (wf.ownsRow w.heap.size 44 8 u5 L.length (L.flatMap OffV.cells)) := own_below HROWP.out HSB.out
              have HBF : Hid (Below w.heap.size w wf) := below_step HBP.out HSB.out
              have hsF : w.heap.size ≤ wf.heap.size := HBF.out.size
              have HSU : Hid ((l.take (k + 1)).map bidV = L ++ [(⟨⟨six, hi, lo, pn⟩, 1 + a1, a2, a3, 1 + a4⟩ : OffV)]) := by
                show _ = _
                rw [HTK.out, List.map_append, List.map_cons, List.map_nil, HBV.out, HL.out]
                rw [if_neg h5]
              go_wp2_with fail
              refine (C5.out _).mono ?_
              rintro e w' ⟨rfl, rfl⟩
              go_wp2_with (at_builtin; go_loud (refine wpList_append_oneN (us := [.bool six, .int .u64 hi, .int .u64 lo, .int .i64 pn, .int .i64 (1 + a1), .int .i64 a2, .int .i64 a3, .int .i64 (1 + a4)]) rfl _ _ 24 rfl w.heap.size _ 8 64 Try.underlying24 infoOffer rfl (by decide) _ _ _ rfl rfl (by simp) HROWF.out hsF rfl (by intro u hu; simp at hu; rcases hu with rfl | rfl | rfl | rfl | rfl | rfl | rfl | rfl <;> rfl) (by unfold maxLen; omega) (by omega) ?_))
              intro v9 w9 hown9 hb9 hs9 hk9
              have HO9 : Hid (w9.ownsRow w.heap.size 44 8 v9 ((l.take (k + 1)).map bidV).length (((l.take (k + 1)).map bidV).flatMap OffV.cells)) := by
                show World.ownsRow _ _ _ _ _ _ _
                rw [HSU.out, List.length_append, List.flatMap_append]
                exact hown9
              have HB9 : Hid (Below w.heap.size w w9) := HBF.out.trans (hb9.mono (by omega))
              clear hown9 hb9 hk9
              go_wp2
              go_roundw
              case rel => exact ⟨k + 1, by omega, by omega, by go_num, HO9, HB9⟩
              case measure => simp [intOf]; omega
        · go_simp
          (try simp only [Act.put, List.getElem_toArray, List.getElem_cons_succ, List.getElem_cons_zero, List.setIfInBounds_toArray, List.set_cons_zero, List.set_cons_succ])
          first
            | refine hK.out _ _ ?_ (fun hHeld => ?_)
            | (go_wp2_with fail; refine hK.out _ _ ?_ (fun hHeld => ?_))
          · (first | assumption | exact keep0 _ | exact keep1 (by assumption) (by assumption) | exact keep1 ⟨fun _ _ _ => rfl, Nat.le_refl _, Below.refl _ _⟩ (by assumption) | exact keepD (by assumption) | exact keepB (by assumption) (by assumption) | exact keepA (by assumption) _ | exact ⟨fun _ _ _ => rfl, Nat.le_refl _, Below.refl _ _⟩)
          clear hK K
          (try simp only [Act.put, List.getElem_toArray, List.getElem_cons_succ, List.getElem_cons_zero, List.setIfInBounds_toArray, List.set_cons_zero, List.set_cons_succ])
          refine wpAnyH_ready (rs := [2]) (by kernel_rfl) (by simp) ?_
          refine AllReadyH.cons rfl (fun K hK => ?_) AllReadyH.nil
          go_simp
          (try simp only [Act.put, List.getElem_toArray, List.getElem_cons_succ, List.getElem_cons_zero, List.setIfInBounds_toArray, List.set_cons_zero, List.set_cons_succ])
          first
            | refine hK.out _ _ ?_ (fun hHeld => ?_)
            | (go_wp2_with fail; refine hK.out _ _ ?_ (fun hHeld => ?_))
          · (first | assumption | exact keep0 _ | exact keep1 (by assumption) (by assumption) | exact keep1 ⟨fun _ _ _ => rfl, Nat.le_refl _, Below.refl _ _⟩ (by assumption) | exact keepD (by assumption) | exact keepB (by assumption) (by assumption) | exact keepA (by assumption) _ | exact ⟨fun _ _ _ => rfl, Nat.le_refl _, Below.refl _ _⟩)
          clear hK K
          (try simp only [Act.put, List.getElem_toArray, List.getElem_cons_succ, List.getElem_cons_zero, List.setIfInBounds_toArray, List.set_cons_zero, List.set_cons_succ])
          refine wpAnyH_ready (rs := [3]) (by kernel_rfl) (by simp) ?_
          refine AllReadyH.cons rfl (fun K hK => ?_) AllReadyH.nil
          go_simp
          (try simp only [Act.put, List.getElem_toArray, List.getElem_cons_succ, List.getElem_cons_zero, List.setIfInBounds_toArray, List.set_cons_zero, List.set_cons_succ])
          refine (CPR.out _ _ ?_ ?_).mono ?_
          · go_simp
          · (simp; try omega)
          rintro e w8 ⟨g8, c8, rfl, y0, y1, y2, y3, hg8, hb8⟩
          have n0 : w8.cell? ⟨wp.heap.size, 0, none⟩ = some (.bool false) := (hb8.cell (p := ⟨wp.heap.size, 0, none⟩) (by simp; try omega)).trans (by go_simp)
          have f0 : w8.frozen? ⟨wp.heap.size, 0, none⟩ = false := (hb8.frozen (p := ⟨wp.heap.size, 0, none⟩) (by simp; try omega)).trans (by go_simp)
          have n1 : w8.cell? ⟨wp.heap.size, 1, none⟩ = some (.int .u64 0) := (hb8.cell (p := ⟨wp.heap.size, 1, none⟩) (by simp; try omega)).trans (by go_simp)
          have f1 : w8.frozen? ⟨wp.heap.size, 1, none⟩ = false := (hb8.frozen (p := ⟨wp.heap.size, 1, none⟩) (by simp; try omega)).trans (by go_simp)
          have n2 : w8.cell? ⟨wp.heap.size, 2, none⟩ = some (.int .u64 0) := (hb8.cell (p := ⟨wp.heap.size, 2, none⟩) (by simp; try omega)).trans (by go_simp)
          have f2 : w8.frozen? ⟨wp.heap.size, 2, none⟩ = false := (hb8.frozen (p := ⟨wp.heap.size, 2, none⟩) (by simp; try omega)).trans (by go_simp)
          have n3 : w8.cell? ⟨wp.heap.size, 3, none⟩ = some (.int .i64 0) := (hb8.cell (p := ⟨wp.heap.size, 3, none⟩) (by simp; try omega)).trans (by go_simp)
          have f3 : w8.frozen? ⟨wp.heap.size, 3, none⟩ = false := (hb8.frozen (p := ⟨wp.heap.size, 3, none⟩) (by simp; try omega)).trans (by go_simp)
          have n4 : w8.cell? ⟨wp.heap.size, 4, none⟩ = some (.int .i64 0) := (hb8.cell (p := ⟨wp.heap.size, 4, none⟩) (by simp; try omega)).trans (by go_simp)
          have f4 : w8.frozen? ⟨wp.heap.size, 4, none⟩ = false := (hb8.frozen (p := ⟨wp.heap.size, 4, none⟩) (by simp; try omega)).trans (by go_simp)
          have n5 : w8.cell? ⟨wp.heap.size, 5, none⟩ = some (.int .i64 0) := (hb8.cell (p := ⟨wp.heap.size, 5, none⟩) (by simp; try omega)).trans (by go_simp)
          have f5 : w8.frozen? ⟨wp.heap.size, 5, none⟩ = false := (hb8.frozen (p := ⟨wp.heap.size, 5, none⟩) (by simp; try omega)).trans (by go_simp)
          have n6 : w8.cell? ⟨wp.heap.size, 6, none⟩ = some (.int .i64 0) := (hb8.cell (p := ⟨wp.heap.size, 6, none⟩) (by simp; try omega)).trans (by go_simp)
          have f6 : w8.frozen? ⟨wp.heap.size, 6, none⟩ = false := (hb8.frozen (p := ⟨wp.heap.size, 6, none⟩) (by simp; try omega)).trans (by go_simp)
          have n7 : w8.cell? ⟨wp.heap.size, 7, none⟩ = some (.int .i64 0) := (hb8.cell (p := ⟨wp.heap.size, 7, none⟩) (by simp; try omega)).trans (by go_simp)
          have f7 : w8.frozen? ⟨wp.heap.size, 7, none⟩ = false := (hb8.frozen (p := ⟨wp.heap.size, 7, none⟩) (by simp; try omega)).trans (by go_simp)
          first
            | refine hK.out _ _ ?_ (fun hHeld => ?_)
            | (go_wp2_with fail; refine hK.out _ _ ?_ (fun hHeld => ?_))
          · (first | assumption | exact keep0 _ | exact keep1 (by assumption) (by assumption) | exact keep1 ⟨fun _ _ _ => rfl, Nat.le_refl _, Below.refl _ _⟩ (by assumption) | exact keepD (by assumption) | exact keepB (by assumption) (by assumption) | exact keepA (by assumption) _ | exact ⟨fun _ _ _ => rfl, Nat.le_refl _, Below.refl _ _⟩)
          clear hK K
          (try simp only [Act.put, List.getElem_toArray, List.getElem_cons_succ, List.getElem_cons_zero, List.setIfInBounds_toArray, List.set_cons_zero, List.set_cons_succ])
          have HB8 : Hid (Below wp.heap.size wp w8) := hHeld.2.2
          refine wpAnyH_take (i := 4) (v := ?_) rfl (by kernel_rfl) (by kernel_rfl) (by kernel_rfl) (fun _ _ _ h => h) (Or.inl ⟨by rfl, ?_⟩) (by assumption) ?_
          rotate_left
          · (intro w hSw; (try dsimp only at hSw); go_simp <;> with_reducible rfl)
          (try simp only [Act.put, List.getElem_toArray, List.getElem_cons_succ, List.getElem_cons_zero, List.setIfInBounds_toArray, List.set_cons_zero, List.set_cons_succ])
          refine wpAnyH_call (i := 8) (v := .int .i64 a1) rfl (by kernel_rfl) (by kernel_rfl) (by kernel_rfl) (fun _ _ _ h => h) ⟨by rfl, fun W _ => ⟨43, #[.int .i64 src, .int .i64 4], ?_, C1.out W⟩⟩ (by assumption) ?_
          · first | rfl | kernel_rfl | (go_simp; done)
          (try simp only [Act.put, List.getElem_toArray, List.getElem_cons_succ, List.getElem_cons_zero, List.setIfInBounds_toArray, List.set_cons_zero, List.set_cons_succ])
          refine wpAnyH_take (i := 9) (v := ?_) rfl (by kernel_rfl) (by kernel_rfl) (by kernel_rfl) (fun _ _ _ h => h) (Or.inl ⟨by rfl, ?_⟩) (by assumption) ?_
          rotate_left
          · (intro w hSw; (try dsimp only at hSw); go_simp <;> with_reducible rfl)
          (try simp only [Act.put, List.getElem_toArray, List.getElem_cons_succ, List.getElem_cons_zero, List.setIfInBounds_toArray, List.set_cons_zero, List.set_cons_succ])
          refine wpAnyH_call (i := 12) (v := .int .i64 a2) rfl (by kernel_rfl) (by kernel_rfl) (by kernel_rfl) (fun _ _ _ h => h) ⟨by rfl, fun W _ => ⟨43, #[.int .i64 peer, .int .i64 4], ?_, C2.out W⟩⟩ (by assumption) ?_
          · first | rfl | kernel_rfl | (go_simp; done)
          (try simp only [Act.put, List.getElem_toArray, List.getElem_cons_succ, List.getElem_cons_zero, List.setIfInBounds_toArray, List.set_cons_zero, List.set_cons_succ])
          refine wpAnyH_call (i := 15) (v := .int .i64 a3) rfl (by kernel_rfl) (by kernel_rfl) (by kernel_rfl) (fun _ _ _ h => h) ⟨by rfl, fun W _ => ⟨43, #[.int .i64 met, .int .i64 5], ?_, C3.out W⟩⟩ (by assumption) ?_
          · first | rfl | kernel_rfl | (go_simp; done)
          (try simp only [Act.put, List.getElem_toArray, List.getElem_cons_succ, List.getElem_cons_zero, List.setIfInBounds_toArray, List.set_cons_zero, List.set_cons_succ])
          refine wpAnyH_call (i := 18) (v := .int .i64 a4) rfl (by kernel_rfl) (by kernel_rfl) (by kernel_rfl) (fun _ _ _ h => h) ⟨by rfl, fun W _ => ⟨43, #[.int .i64 hop, .int .i64 9], ?_, C4.out W⟩⟩ (by assumption) ?_
          · first | rfl | kernel_rfl | (go_simp; done)
          (try simp only [Act.put, List.getElem_toArray, List.getElem_cons_succ, List.getElem_cons_zero, List.setIfInBounds_toArray, List.set_cons_zero, List.set_cons_succ])
          refine wpAnyH_take (i := 19) (v := ?_) rfl (by kernel_rfl) (by kernel_rfl) (by kernel_rfl) (fun _ _ _ h => h) (Or.inl ⟨by rfl, ?_⟩) (by assumption) ?_
          rotate_left
          · (intro w hSw; (try dsimp only at hSw); go_simp <;> with_reducible rfl)
          (try simp only [Act.put, List.getElem_toArray, List.getElem_cons_succ, List.getElem_cons_zero, List.setIfInBounds_toArray, List.set_cons_zero, List.set_cons_succ])
          refine wpAnyH_ready (rs := [5]) (by kernel_rfl) (by simp) ?_
          refine AllReadyH.cons rfl (fun K hK => ?_) AllReadyH.nil
          go_simp
          (try simp only [Act.put, List.getElem_toArray, List.getElem_cons_succ, List.getElem_cons_zero, List.setIfInBounds_toArray, List.set_cons_zero, List.set_cons_succ])
          first
            | refine hK.out _ _ ?_ (fun hHeld => ?_)
            | (go_wp2_with fail; refine hK.out _ _ ?_ (fun hHeld => ?_))
          · (first | assumption | exact keep0 _ | exact keep1 (by assumption) (by assumption) | exact keep1 ⟨fun _ _ _ => rfl, Nat.le_refl _, Below.refl _ _⟩ (by assumption) | exact keepD (by assumption) | exact keepB (by assumption) (by assumption) | exact keepA (by assumption) _ | exact ⟨fun _ _ _ => rfl, Nat.le_refl _, Below.refl _ _⟩)
          clear hK K
          (try simp only [Act.put, List.getElem_toArray, List.getElem_cons_succ, List.getElem_cons_zero, List.setIfInBounds_toArray, List.set_cons_zero, List.set_cons_succ])
          refine wpAnyH_take (i := 20) (v := ?_) rfl (by kernel_rfl) (by kernel_rfl) (by kernel_rfl) (fun _ _ _ h => h) (Or.inl ⟨by rfl, ?_⟩) (by assumption) ?_
          rotate_left
          · (intro w hSw; (try dsimp only at hSw); go_simp <;> with_reducible rfl)
          (try simp only [Act.put, List.getElem_toArray, List.getElem_cons_succ, List.getElem_cons_zero, List.setIfInBounds_toArray, List.set_cons_zero, List.set_cons_succ])
          refine wpAnyH_ready (rs := [22]) (by kernel_rfl) (by simp) ?_
          refine AllReadyH.cons rfl (fun K hK => ?_) AllReadyH.nil
          go_simp
          (try simp only [Act.put, List.getElem_toArray, List.getElem_cons_succ, List.getElem_cons_zero, List.setIfInBounds_toArray, List.set_cons_zero, List.set_cons_succ])
          first
            | refine hK.out _ _ ?_ (fun hHeld => ?_)
            | (go_wp2_with fail; refine hK.out _ _ ?_ (fun hHeld => ?_))
          · exact keepOf (by (repeat' first | with_reducible exact hHeld.2.2.out | with_reducible exact HB8.out | with_reducible exact Below.refl _ _ | with_reducible refine Below.drew ?_ | with_reducible refine Below.setCell ?_ ?_ _ | with_reducible refine Below.alloc ?_ ?_ _ | (simp; done) | (simp; omega) | omega | (have := hHeld.2.1; simp; omega)))
          clear hK K
          (try simp only [Act.put, List.getElem_toArray, List.getElem_cons_succ, List.getElem_cons_zero, List.setIfInBounds_toArray, List.set_cons_zero, List.set_cons_succ])
          refine wpAnyH_done (by kernel_rfl) ?_ _
          obtain ⟨wf, hS, hwf⟩ : ∃ wf : World, ((∀ b o, b < wp.heap.size → wf.cell? ⟨b, o, none⟩ = wp.cell? ⟨b, o, none⟩) ∧ wp.heap.size ≤ wf.heap.size ∧ Hid (Below wp.heap.size wp wf)) ∧ wf = _ := ⟨_, hHeld, rfl⟩
          have z0 : wf.cell? ⟨wp.heap.size, 0, none⟩ = some (.bool six) := by rw [hwf]; go_simp
          have z1 : wf.cell? ⟨wp.heap.size, 1, none⟩ = some (.int .u64 hi) := by rw [hwf]; go_simp
          have z2 : wf.cell? ⟨wp.heap.size, 2, none⟩ = some (.int .u64 lo) := by rw [hwf]; go_simp
          have z3 : wf.cell? ⟨wp.heap.size, 3, none⟩ = some (.int .i64 pn) := by rw [hwf]; go_simp
          have z4 : wf.cell? ⟨wp.heap.size, 4, none⟩ = some (.int .i64 (1 + a1)) := by rw [hwf]; go_simp
          have z5 : wf.cell? ⟨wp.heap.size, 5, none⟩ = some (.int .i64 a2) := by rw [hwf]; go_simp
          have z6 : wf.cell? ⟨wp.heap.size, 6, none⟩ = some (.int .i64 a3) := by rw [hwf]; go_simp
          have z7 : wf.cell? ⟨wp.heap.size, 7, none⟩ = some (.int .i64 (1 + a4)) := by rw [hwf]; go_simp
          have fz : wf.frozen? ⟨wp.heap.size, 6, none⟩ = false := by rw [hwf]; go_simp
          have hnz : wp.heap.size < wf.heap.size := World.block_lt_of_cell? wf ⟨wp.heap.size, 0, none⟩ z0
          rw [← hwf]
          clear hwf
          have hnb : wp.heap.size ≤ wp.heap.size := by have := HB8.out.size; omega
          have m3 := (hS.1 wo.heap.size 3 hzp).trans p3
          have HSB : Hid (Below wp.heap.size wp wf) := hS.2.2
          by_cases h5 : a5 = 0
          · subst h5
            have HROWF : Hid ((wf.setCell ⟨wp.heap.size, 6, none⟩ (.int .i64 999)).ownsRow w.heap.size 44 8 u5 L.length (L.flatMap OffV.cells)) := own_below HROWP.out (HSB.out.setCell hnb _)
            have HBF : Hid (Below w.heap.size w (wf.setCell ⟨wp.heap.size, 6, none⟩ (.int .i64 999))) := below_step HBP.out (HSB.out.setCell hnb _)
            have hsF : w.heap.size ≤ (wf.setCell ⟨wp.heap.size, 6, none⟩ (.int .i64 999)).heap.size := HBF.out.size
            have HSU : Hid ((l.take (k + 1)).map bidV = L ++ [(⟨⟨six, hi, lo, pn⟩, 1 + a1, a2, 999, 1 + a4⟩ : OffV)]) := by
              show _ = _
              rw [HTK.out, List.map_append, List.map_cons, List.map_nil, HBV.out, HL.out]
              rfl
            go_wp2_with fail
            refine (C5.out _).mono ?_
            rintro e w' ⟨rfl, rfl⟩
            go_wp2_with (at_builtin; go_loud (refine wpList_append_oneN (us := [.bool six, .int .u64 hi, .int .u64 lo, .int .i64 pn, .int .i64 (1 + a1), .int .i64 a2, .int .i64 999, .int .i64 (1 + a4)]) rfl _ _ 24 rfl w.heap.size _ 8 64 Try.underlying24 infoOffer rfl (by decide) _ _ _ rfl rfl (by simp) HROWF.out hsF rfl (by intro u hu; simp at hu; rcases hu with rfl | rfl | rfl | rfl | rfl | rfl | rfl | rfl <;> rfl) (by unfold maxLen; omega) (by omega) ?_))
            intro v9 w9 hown9 hb9 hs9 hk9
            have HO9 : Hid (w9.ownsRow w.heap.size 44 8 v9 ((l.take (k + 1)).map bidV).length (((l.take (k + 1)).map bidV).flatMap OffV.cells)) := by
              show World.ownsRow _ _ _ _ _ _ _
              rw [HSU.out, List.length_append, List.flatMap_append]
              exact hown9
            have HB9 : Hid (Below w.heap.size w w9) := HBF.out.trans (hb9.mono (by omega))
            clear hown9 hb9 hk9
            go_wp2
            go_roundw
            case rel => exact ⟨k + 1, by omega, by omega, by go_num, HO9, HB9⟩
            case measure => simp [intOf]; omega
          · have d5 : (a5 == 0) = false := by simpa using h5
            have HROWF : Hid (wf.ownsRow w.heap.size 44 8 u5 L.length (L.flatMap OffV.cells)) := own_below HROWP.out HSB.out
            have HBF : Hid (Below w.heap.size w wf) := below_step HBP.out HSB.out
            have hsF : w.heap.size ≤ wf.heap.size := HBF.out.size
            have HSU : Hid ((l.take (k + 1)).map bidV = L ++ [(⟨⟨six, hi, lo, pn⟩, 1 + a1, a2, a3, 1 + a4⟩ : OffV)]) := by
              show _ = _
              rw [HTK.out, List.map_append, List.map_cons, List.map_nil, HBV.out, HL.out]
              rw [if_neg h5]
            go_wp2_with fail
            refine (C5.out _).mono ?_
            rintro e w' ⟨rfl, rfl⟩
            go_wp2_with (at_builtin; go_loud (refine wpList_append_oneN (us := [.bool six, .int .u64 hi, .int .u64 lo, .int .i64 pn, .int .i64 (1 + a1), .int .i64 a2, .int .i64 a3, .int .i64 (1 + a4)]) rfl _ _ 24 rfl w.heap.size _ 8 64 Try.underlying24 infoOffer rfl (by decide) _ _ _ rfl rfl (by simp) HROWF.out hsF rfl (by intro u hu; simp at hu; rcases hu with rfl | rfl | rfl | rfl | rfl | rfl | rfl | rfl <;> rfl) (by unfold maxLen; omega) (by omega) ?_))
            intro v9 w9 hown9 hb9 hs9 hk9
            have HO9 : Hid (w9.ownsRow w.heap.size 44 8 v9 ((l.take (k + 1)).map bidV).length (((l.take (k + 1)).map bidV).flatMap OffV.cells)) := by
              show World.ownsRow _ _ _ _ _ _ _
              rw [HSU.out, List.length_append, List.flatMap_append]
              exact hown9
            have HB9 : Hid (Below w.heap.size w w9) := HBF.out.trans (hb9.mono (by omega))
            clear hown9 hb9 hk9
            go_wp2
            go_roundw
            case rel => exact ⟨k + 1, by omega, by omega, by go_num, HO9, HB9⟩
            case measure => simp [intOf]; omega
      · have hkK2 : k = K := by omega
        have HE : Hid ((l.take K).map bidV = L) := by show _ = _; rw [← HL.out, hkK2]
        clear hkK2
        go_wp2
        (try go_ret)
        exact ⟨_, rfl, by rw [HE.out]; exact HROW.out, HB.out⟩
    · have hkn : k = n := by omega
      have HE : Hid ((l.take K).map bidV = L) := by
        show _ = _
        rw [← HL.out, List.take_of_length_le (by have := HZ.out; omega), List.take_of_length_le (by have := HZ.out; omega)]
      clear hkn
      go_wp2
      (try go_ret)
      exact ⟨_, rfl, by rw [HE.out]; exact HROW.out, HB.out⟩

end Go.Proofs.Ytmljdjakbbedlaa
