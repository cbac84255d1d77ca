/-
  
-/
import Derived.Test.YtmljdjakbbedlaaC20
import Derived.Test.YtmljdjakbbedlaaC19
namespace Go.Proofs.Ytmljdjakbbedlaa
open Go.ChangeShapes Go.WideShapes Go.ChangeAt Go.RowKit

set_option maxRecDepth 100000 in
set_option maxHeartbeats 400000 in
theorem refBest_big (A : Option Addr) (n c : Nat) (w : World) (hn : 100 < n) (hm : n ≤ maxLen) :
    Calls Try.prog 30 #[.slice A n c] w fun e w' => e = .returned (.tuple #[.slice none 0 0, .int .i64 1]) ∧ Below w.heap.size w w' := by
  unfold maxLen at hm
  go_enter Try.func30, Try.ntmps30
  go_wp2
  go_ret2
  exact ⟨rfl, Below.refl _ _⟩
theorem refBest_is {A : Option Addr} {n c : Nat} {l : List OffV} {w : World} (h : IsOffs w A n c l) : Calls Try.prog 30 #[.slice A n c] w (BestPost w l) := by
  have h1 := h.1
  by_cases hn : 100 < l.length
  · have hf : offsF l = 1 := by unfold offsF; rw [if_pos hn]
    refine (refBest_big A n c w (by omega) (by have := h.2.1; omega)).mono ?_
    rintro e w' ⟨rfl, hb⟩
    have := bestPost_bad (l := l) (by omega) hb
    rw [hf] at this
    exact this
  · exact refBest_any h (by omega)
set_option maxRecDepth 100000 in
theorem eqOffer_self (six : Bool) (hi lo n src peer met hop : Int) (w : World) : (Op.equalIn 10000 44 (.agg #[.bool six, .int .u64 hi, .int .u64 lo, .int .i64 n, .int .i64 src, .int .i64 peer, .int .i64 met, .int .i64 hop]) (.agg #[.bool six, .int .u64 hi, .int .u64 lo, .int .i64 n, .int .i64 src, .int .i64 peer, .int .i64 met, .int .i64 hop])).run Try.prog w = .ok true w := by
  have hS : Try.prog.underlying 44 = some (.struct (Try.prog.fieldsOf 44)) := by kernel_rfl
  have hp : Try.prog.stoodInHeld 44 = false := by kernel_rfl
  have inner := fun w => eqPVd 9996 ⟨six, hi, lo, n⟩ ⟨six, hi, lo, n⟩ w
  simp only [decide_true, PV.val] at inner
  rw [run_equalIn_agg w 9999 44 _ _ hS hp]
  clear hS hp
  have a1 := Try.isAgg3
  have z1 := Try.sizeOf3
  have a2 := Try.isAgg42
  have z2 := Try.sizeOf42
  simp only [Program.fieldsOf, Try.underlying44]
  go_simp

set_option maxRecDepth 100000 in
set_option maxHeartbeats 1600000 in
theorem offerBests_core {W : World} {A : Option Addr} {n c : Nat} {l : List OffV} (hl : IsOffs W A n c l) :
    Calls Try.prog 8 #[.slice A n c] W fun e W' => e = .returned (.bool true) ∧ Below W.heap.size W W' := by
  have C1 := Lib.hid (best_any hl)
  have C2 := Lib.hid (fun (w : World) (hb : Below W.heap.size W w) => refBest_is (hl.below hb))
  have HRW := Lib.hid hl.2.2.1
  clear hl
  go_enter Try.func8, Try.ntmps8
  go_wp2_with fail
  refine C1.out.mono ?_
  rintro e w1 ⟨v1, L, rfl, hL1, hlen, hd1, hb1⟩
  have HD1 := Lib.hid hd1
  have HB1 := Lib.hid hb1
  clear hd1 hb1
  go_wp2_with fail
  refine (C2.out _ HB1.out).mono ?_
  rintro e w2 ⟨v2, L2, rfl, hL2, _, hd2, hb2⟩
  obtain rfl := bestL_unique HRW.out hL1 hL2
  obtain ⟨A2, c2, rfl, hc2, hr2⟩ := own_reads hd2
  obtain ⟨A1, c1, rfl, hc1, hr1⟩ := own_reads (own_below HD1.out hb2)
  have HB2 := Lib.hid (below_step HB1.out hb2)
  obtain ⟨m, hm⟩ : ∃ m, L.length = m := ⟨_, rfl⟩
  rw [hm] at hr1 hr2 hlen hc1 hc2 ⊢
  have HR1 := Lib.hid hr1
  have HR2 := Lib.hid hr2
  have HM := Lib.hid hm
  generalize offsF l = f at *
  clear hd2 hb2 hr1 hr2 C1 C2 HD1 hm hL1 hL2
  go_wp2
  go_loopw [7] (fun i wr => ∃ k : Nat, k ≤ m ∧ i = .int .i64 k ∧ Hid (Below w2.heap.size w2 wr)) (fun i _ => m - (intOf i).toNat)
  case atStart => exact ⟨0, by omega, rfl, Below.refl _ _⟩
  case round =>
    obtain ⟨k, hk, rfl, hb⟩ := hrel
    by_cases hlt : k < m
    · obtain ⟨ad, ⟨⟨six, hi, lo, pn⟩, src, peer, met, hop⟩, rfl, hlk, htk, hmem, hbk, hc0, hcj⟩ := HR1.out.atS OffV.cells_length HM.out hlt
      have q0 := (hb.out.cell (p := ad.add (k * 8)) (by rw [block_of_add]; exact hbk)).trans (hc0 _ rfl)
      have q1 := (hb.out.cell (p := ⟨(ad.add (k * 8)).block, (ad.add (k * 8)).off + 1, none⟩) (by rw [block_of_add]; exact hbk)).trans (hcj 1 _ rfl)
      have q2 := (hb.out.cell (p := ⟨(ad.add (k * 8)).block, (ad.add (k * 8)).off + 2, none⟩) (by rw [block_of_add]; exact hbk)).trans (hcj 2 _ rfl)
      have q3 := (hb.out.cell (p := ⟨(ad.add (k * 8)).block, (ad.add (k * 8)).off + 3, none⟩) (by rw [block_of_add]; exact hbk)).trans (hcj 3 _ rfl)
      have q4 := (hb.out.cell (p := ⟨(ad.add (k * 8)).block, (ad.add (k * 8)).off + 4, none⟩) (by rw [block_of_add]; exact hbk)).trans (hcj 4 _ rfl)
      have q5 := (hb.out.cell (p := ⟨(ad.add (k * 8)).block, (ad.add (k * 8)).off + 5, none⟩) (by rw [block_of_add]; exact hbk)).trans (hcj 5 _ rfl)
      have q6 := (hb.out.cell (p := ⟨(ad.add (k * 8)).block, (ad.add (k * 8)).off + 6, none⟩) (by rw [block_of_add]; exact hbk)).trans (hcj 6 _ rfl)
      have q7 := (hb.out.cell (p := ⟨(ad.add (k * 8)).block, (ad.add (k * 8)).off + 7, none⟩) (by rw [block_of_add]; exact hbk)).trans (hcj 7 _ rfl)
      clear htk hmem hc0 hcj
      obtain ⟨ad', ⟨⟨six', hi', lo', pn'⟩, src', peer', met', hop'⟩, rfl, hlk', htk, hmem, hbk', hc0, hcj⟩ := HR2.out.atS OffV.cells_length HM.out hlt
      rw [hlk] at hlk'
      injection hlk' with hlk'
      injection hlk' with e0 e1 e2 e3 e4
      injection e0 with f1 f2 f3 f4
      subst e1 e2 e3 e4 f1 f2 f3 f4
      have x0 := (hb.out.cell (p := ad'.add (k * 8)) (by rw [block_of_add]; exact hbk')).trans (hc0 _ rfl)
      have x1 := (hb.out.cell (p := ⟨(ad'.add (k * 8)).block, (ad'.add (k * 8)).off + 1, none⟩) (by rw [block_of_add]; exact hbk')).trans (hcj 1 _ rfl)
      have x2 := (hb.out.cell (p := ⟨(ad'.add (k * 8)).block, (ad'.add (k * 8)).off + 2, none⟩) (by rw [block_of_add]; exact hbk')).trans (hcj 2 _ rfl)
      have x3 := (hb.out.cell (p := ⟨(ad'.add (k * 8)).block, (ad'.add (k * 8)).off + 3, none⟩) (by rw [block_of_add]; exact hbk')).trans (hcj 3 _ rfl)
      have x4 := (hb.out.cell (p := ⟨(ad'.add (k * 8)).block, (ad'.add (k * 8)).off + 4, none⟩) (by rw [block_of_add]; exact hbk')).trans (hcj 4 _ rfl)
      have x5 := (hb.out.cell (p := ⟨(ad'.add (k * 8)).block, (ad'.add (k * 8)).off + 5, none⟩) (by rw [block_of_add]; exact hbk')).trans (hcj 5 _ rfl)
      have x6 := (hb.out.cell (p := ⟨(ad'.add (k * 8)).block, (ad'.add (k * 8)).off + 6, none⟩) (by rw [block_of_add]; exact hbk')).trans (hcj 6 _ rfl)
      have x7 := (hb.out.cell (p := ⟨(ad'.add (k * 8)).block, (ad'.add (k * 8)).off + 7, none⟩) (by rw [block_of_add]; exact hbk')).trans (hcj 7 _ rfl)
      clear htk hmem hc0 hcj hlk hbk hbk'
      have HEQ := fun w => eqOffer_self six hi lo pn src peer met hop w
      go_wp2
      go_quiet (fail)
      go_wp2
      go_roundw
      case rel => exact ⟨k + 1, by omega, by go_num, below_drewN hb.out _⟩
      case measure => simp [intOf]; omega
    · obtain rfl : k = m := by omega
      go_wp2
      go_ret
      exact ⟨rfl, below_step HB2.out hb.out⟩

set_option maxRecDepth 100000 in
set_option maxHeartbeats 800000 in
theorem offerBests_walk {H : Type} {enc : TypeId × Value → H} (W : World) (vs : Array Value) (ds : List (DataW H)) (ps : List MemPlace) (h : ArgsOk Try.prog [24] H enc W vs.toList ds ps) :
    Calls Try.prog 8 vs W fun e W' => e = .returned (.bool true) ∧ Below W.heap.size W W' := by
  obtain ⟨hA, ⟨base, hval⟩, _, _⟩ := h
  obtain ⟨v0, d0, e0, _, h0⟩ := trodAll_one hA
  obtain ⟨a0, n, c, rfl⟩ := okWide_slice Try.underlying24 (hval 0 _ v0 rfl (by rw [e0]; rfl))
  obtain ⟨l, hr⟩ := open_offs h0
  obtain rfl : vs = #[.slice a0 n c] := by cases vs; simp_all
  exact offerBests_core hr

end Go.Proofs.Ytmljdjakbbedlaa
