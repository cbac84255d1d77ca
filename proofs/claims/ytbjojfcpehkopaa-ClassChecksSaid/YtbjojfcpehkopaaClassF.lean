/-
  Proved here: the contract of the reference's ClassFault, up to its size test.
-/
import Derived.Test.YtbjojfcpehkopaaClassC
namespace Go.Proofs.Ytbjojfcpehkopaa
open Go.ChangeShapes Go.WideShapes Go.ChangeAt Go.RowKit

theorem bcell {W w1 : World} (hb : Below W.heap.size W w1) : (∀ b o, b < W.heap.size → w1.cell? ⟨b, o, none⟩ = W.cell? ⟨b, o, none⟩) ∧ (∀ b o, b < W.heap.size → w1.frozen? ⟨b, o, none⟩ = W.frozen? ⟨b, o, none⟩) :=
  ⟨fun b o h => hb.cell (p := ⟨b, o, none⟩) h, fun b o h => hb.frozen (p := ⟨b, o, none⟩) h⟩

theorem fault_here {α : Type} {f : α → Int} {l : List α} {k : Nat} {x : α} {v u r : Int} (h : NoneTo f l k) (hk : l[k]? = some x) (hf : f x = u) (hr : r = firstF f l) (hu : u = v) (hv : ¬ v = 0) : v = r := by
  rw [hr, firstF_at h hk (by rw [hf, hu]; exact hv), hf, hu]

set_option maxRecDepth 100000 in
set_option maxHeartbeats 1600000 in
theorem classFault_any (A : Option Addr) (n0 c : Nat) (l : List MatchV) (w : World) (hn : n0 ≤ 30) (hz : l.length = n0) (hw : ∀ r ∈ l, r.Ok) (hr : Reads w w.heap.size 9 A n0 (l.flatMap MatchV.cells)) :
    Calls Try.prog 22 #[.slice A n0 c] w fun e w' => e = .returned (.int .i64 (firstF MatchV.fault l)) ∧ Below w.heap.size w w' := by
  have HZ := Lib.hid hz
  have HR := Lib.hid hr
  have HW := Lib.hid hw
  obtain ⟨r, hr0⟩ : ∃ r, r = firstF MatchV.fault l := ⟨_, rfl⟩
  rw [← hr0]
  have H0 := Lib.hid hr0
  clear hz hr hw hr0
  go_enter Try.func22, Try.ntmps22
  go_wp2
  go_loopw [11, 4, 5] (fun i _ _ wr => ∃ k : Nat, k ≤ n0 ∧ i = .int .i64 k ∧ NoneTo MatchV.fault l k ∧ Below w.heap.size w wr) (fun i _ _ _ => n0 - (intOf i).toNat)
  case atStart => exact ⟨0, by omega, rfl, rfl, Below.refl _ _⟩
  case round =>
    obtain ⟨k, hk, rfl, hto, hb⟩ := hrel
    have HT := Lib.hid hto
    clear hto
    by_cases hlt : k < n0
    · obtain ⟨ad, ⟨six, hi, lo, n, six2, hi2, lo2, n2, cl⟩, rfl, hlk, htk, hmem, hbk, hc0, hcj⟩ := HR.out.atS MatchV.cells_length HZ.out hlt
      have q0 := (hb.cell (p := ad.add (k * 9)) (by rw [block_of_add]; exact hbk)).trans (hc0 _ rfl)
      have q1 := (hb.cell (p := ⟨(ad.add (k * 9)).block, (ad.add (k * 9)).off + 1, none⟩) (by rw [block_of_add]; exact hbk)).trans (hcj 1 _ rfl)
      have q2 := (hb.cell (p := ⟨(ad.add (k * 9)).block, (ad.add (k * 9)).off + 2, none⟩) (by rw [block_of_add]; exact hbk)).trans (hcj 2 _ rfl)
      have q3 := (hb.cell (p := ⟨(ad.add (k * 9)).block, (ad.add (k * 9)).off + 3, none⟩) (by rw [block_of_add]; exact hbk)).trans (hcj 3 _ rfl)
      have q4 := (hb.cell (p := ⟨(ad.add (k * 9)).block, (ad.add (k * 9)).off + 4, none⟩) (by rw [block_of_add]; exact hbk)).trans (hcj 4 _ rfl)
      have q5 := (hb.cell (p := ⟨(ad.add (k * 9)).block, (ad.add (k * 9)).off + 5, none⟩) (by rw [block_of_add]; exact hbk)).trans (hcj 5 _ rfl)
      have q6 := (hb.cell (p := ⟨(ad.add (k * 9)).block, (ad.add (k * 9)).off + 6, none⟩) (by rw [block_of_add]; exact hbk)).trans (hcj 6 _ rfl)
      have q7 := (hb.cell (p := ⟨(ad.add (k * 9)).block, (ad.add (k * 9)).off + 7, none⟩) (by rw [block_of_add]; exact hbk)).trans (hcj 7 _ rfl)
      have q8 := (hb.cell (p := ⟨(ad.add (k * 9)).block, (ad.add (k * 9)).off + 8, none⟩) (by rw [block_of_add]; exact hbk)).trans (hcj 8 _ rfl)
      obtain ⟨r1, r2, r3, r4⟩ := HW.out _ hmem
      simp only at r1 r2 r3 r4
      have hfd : MatchV.fault ⟨six, hi, lo, n, six2, hi2, lo2, n2, cl⟩ = classF (chk six hi lo n) (chk six2 hi2 lo2 n2) six six2 cl := rfl
      clear hc0 hcj hmem hbk
      have HF := Lib.hid hfd
      have HL := Lib.hid hlk
      have HK := Lib.hid htk
      have c1 := fun w => preFault_any six hi lo n w r1 r2
      have c2 := fun w => preFault_any six2 hi2 lo2 n2 w r3 r4
      clear hfd hlk htk
      generalize chk six hi lo n = x1 at *
      generalize chk six2 hi2 lo2 n2 = x2 at *
      have C1 := Lib.hid c1
      have C2 := Lib.hid c2
      clear c1 c2
      go_wp2_with fail
      refine (C1.out _).mono ?_
      rintro e w1 ⟨rfl, hbw⟩
      obtain ⟨fc, ff⟩ := bcell hbw
      have hs : wr.heap.size < w1.heap.size := by have := hbw.size; simp at this; omega
      go_wp2_with fail
      · refine (C2.out _).mono ?_
        rintro e w2 ⟨rfl, hbw2⟩
        obtain ⟨fc2, ff2⟩ := bcell hbw2
        have hs2 := hbw2.size
        have HB := Lib.hid (hb.trans ((below_step ((Below.refl _ _).alloc (Nat.le_refl _) _) hbw).mono hb.size))
        have HB2 := Lib.hid (below_step HB.out hbw2)
        clear hbw hbw2
        go_wp2
        all_goals clear fc ff fc2 ff2 q0 q1 q2 q3 q4 q5 q6 q7 q8
        any_goals (go_ret; exact ⟨ret_int (fault_here HT.out HL.out HF.out H0.out (by unfold classF; repeat' split; all_goals first | rfl | omega | (simp_all; done) | (simp_all; omega)) (by simp_all)), HB2.out⟩)
        go_roundw
        case rel =>
          refine ⟨k + 1, by omega, by go_num, noneTo_succ HT.out HK.out (HF.out.trans ?_), HB2.out⟩
          clear C1 C2
          unfold classF
          repeat' split
          all_goals first | rfl | omega | (simp_all; done) | (simp_all; omega)
        case measure => simp [intOf]; omega
      · go_ret
        exact ⟨ret_int (fault_here HT.out HL.out HF.out H0.out (by unfold classF; repeat' split; all_goals first | rfl | omega | (simp_all; done) | (simp_all; omega)) (by simp_all)), hb.trans ((below_step ((Below.refl _ _).alloc (Nat.le_refl _) _) hbw).mono hb.size)⟩
    · obtain rfl : k = n0 := by omega
      have HR2 := Lib.hid (firstF_end HT.out HZ.out)
      go_wp2
      go_ret
      exact ⟨ret_int (HR2.out.symm.trans H0.out.symm), hb⟩

end Go.Proofs.Ytbjojfcpehkopaa
