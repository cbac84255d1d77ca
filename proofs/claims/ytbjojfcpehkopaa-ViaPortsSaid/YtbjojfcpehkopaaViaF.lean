/-
  Proved here: the contract of the reference's ViaFault.
-/
import Derived.Test.YtbjojfcpehkopaaViaV
namespace Go.Proofs.Ytbjojfcpehkopaa
open Go.ChangeShapes Go.WideShapes Go.ChangeAt Go.RowKit

set_option maxRecDepth 100000 in
set_option maxHeartbeats 1600000 in
theorem viaFault_any (A : Option Addr) (n c : Nat) (l : List ViaV) (w : World) (hn2 : n ≤ 60) (hnc : n ≤ c) (hcm : c ≤ maxLen) (hz : l.length = n) (ho : ∀ r ∈ l, r.Ok) (hr : Reads w w.heap.size 3 A n (l.flatMap ViaV.cells)) :
    Calls Try.prog 69 #[.slice A n c] w fun e w' => e = .returned (.int .i64 (viasE l)) ∧ Below w.heap.size w w' := by
  have HZ := Lib.hid hz
  have HR := Lib.hid hr
  have HOK := Lib.hid ho
  unfold maxLen at hcm
  obtain ⟨r, hr0⟩ : ∃ r, r = firstF (viaAt l) (List.range n) := ⟨_, rfl⟩
  rw [show viasE l = firstF (viaAt l) (List.range n) from by unfold viasE; rw [hz], ← hr0]
  have H0 := Lib.hid hr0
  clear hz hr hr0 ho
  go_enter Try.func69, Try.ntmps69
  go_wp2
  go_loopw [12, 3, 4, 6] (fun i _ _ _ wr => ∃ k : Nat, k ≤ n ∧ i = .int .i64 k ∧ NoneTo (viaAt l) (List.range n) k ∧ Below w.heap.size w wr) (fun i _ _ _ _ => n - (intOf i).toNat)
  case atStart => exact ⟨0, by omega, rfl, rfl, Below.refl _ _⟩
  case round =>
    obtain ⟨k, hk, rfl, hto, hb⟩ := hrel
    have HT := Lib.hid hto
    clear hto
    by_cases hlt : k < n
    · obtain ⟨ad, ⟨hop, port, next⟩, rfl, hlk, htk, hmem, hbk, hc0, hcj⟩ := HR.out.atS ViaV.cells_length HZ.out hlt
      have q0 := (hb.cell (p := ad.add (k * 3)) (by rw [block_of_add]; exact hbk)).trans (hc0 _ rfl)
      have q1 := (hb.cell (p := ⟨(ad.add (k * 3)).block, (ad.add (k * 3)).off + 1, none⟩) (by rw [block_of_add]; exact hbk)).trans (hcj 1 _ rfl)
      have q2 := (hb.cell (p := ⟨(ad.add (k * 3)).block, (ad.add (k * 3)).off + 2, none⟩) (by rw [block_of_add]; exact hbk)).trans (hcj 2 _ rfl)
      have hok := HOK.out _ hmem
      obtain ⟨r1, r2, r3⟩ := hok
      simp only at r1 r2 r3
      have hfd : viaAt l k = viaF (l.take k) hop port next := by unfold viaAt; rw [hlk]
      have HF := Lib.hid hfd
      have HL := Lib.hid (range_at (n := n) hlt)
      have HK := Lib.hid (range_take (n := n) hlt)
      have HLK := Lib.hid hlk
      have HTK := Lib.hid htk
      have hkc : (k : Int) ≤ (c : Int) := by omega
      have hkc2 : (k : Int) ≤ 60 := by omega
      clear hlk htk hmem hbk hc0 hcj hfd
      by_cases c1 : hop < 1 ∨ 999 < hop
      · have HF2 : Hid (viaF (l.take k) hop port next = 2) := by show _ = _; unfold viaF; rw [if_pos c1]
        go_wp2
        all_goals first
          | (go_ret; exact ⟨ret_int (fault_here HT.out HL.out HF.out H0.out HF2.out (by omega)), hb.alloc hb.size _⟩)
          | (exfalso; omega)
      · have hh1 : ¬ hop < 1 := by omega
        have hh2 : ¬ 999 < hop := by omega
        have d1 : decide (hop < 1) = false := decide_eq_false hh1
        have d2 : decide (999 < hop) = false := decide_eq_false hh2
        by_cases c2 : (port = 0 ↔ next = 0)
        · have HF2 : Hid (viaF (l.take k) hop port next = 4) := by show _ = _; unfold viaF; rw [if_neg c1, if_pos c2]
          clear c1
          by_cases p0 : port = 0
          · have n0 : next = 0 := c2.1 p0
            subst p0
            subst n0
            clear c2
            go_wp2
            go_ret
            exact ⟨ret_int (fault_here HT.out HL.out HF.out H0.out HF2.out (by omega)), hb.alloc hb.size _⟩
          · have n0 : ¬ next = 0 := fun h => p0 (c2.2 h)
            have e1 : (port == 0) = false := by simpa using p0
            have e2 : (next == 0) = false := by simpa using n0
            have e3 : (port != 0) = true := by simpa using p0
            have e4 : (next != 0) = true := by simpa using n0
            clear c2
            go_wp2
            go_ret
            exact ⟨ret_int (fault_here HT.out HL.out HF.out H0.out HF2.out (by omega)), hb.alloc hb.size _⟩
        · by_cases c3 : port < 0 ∨ 999 < port ∨ next < 0 ∨ 999 < next
          · have HF2 : Hid (viaF (l.take k) hop port next = 2) := by show _ = _; unfold viaF; rw [if_neg c1, if_neg c2, if_pos c3]
            clear c1
            by_cases p0 : port = 0
            · have n0 : ¬ next = 0 := fun h => c2 ⟨fun _ => h, fun _ => p0⟩
              subst p0
              have e2 : (next == 0) = false := by simpa using n0
              have e4 : (next != 0) = true := by simpa using n0
              clear c2
              go_wp2
              all_goals first
                | (go_ret; exact ⟨ret_int (fault_here HT.out HL.out HF.out H0.out HF2.out (by omega)), hb.alloc hb.size _⟩)
                | (exfalso; omega)
            · have n0 : next = 0 := by
                by_cases h : next = 0
                · exact h
                · exact absurd ⟨fun h' => absurd h' p0, fun h' => absurd h' h⟩ c2
              subst n0
              have e1 : (port == 0) = false := by simpa using p0
              have e3 : (port != 0) = true := by simpa using p0
              clear c2
              go_wp2
              all_goals first
                | (go_ret; exact ⟨ret_int (fault_here HT.out HL.out HF.out H0.out HF2.out (by omega)), hb.alloc hb.size _⟩)
                | (exfalso; omega)
          · have HF2 : Hid (viaF (l.take k) hop port next = if (l.take k).any (fun t => t.hop == hop) = true then 8 else 0) := by show _ = _; unfold viaF; rw [if_neg c1, if_neg c2, if_neg c3]
            have x1 : ¬ port < 0 := by omega
            have x2 : ¬ 999 < port := by omega
            have x3 : ¬ next < 0 := by omega
            have x4 : ¬ 999 < next := by omega
            have f1 : decide (port < 0) = false := decide_eq_false x1
            have f2 : decide (999 < port) = false := decide_eq_false x2
            have f3 : decide (next < 0) = false := decide_eq_false x3
            have f4 : decide (999 < next) = false := decide_eq_false x4
            have e5 : ((port == 0) && (next == 0)) = false := by
              by_cases p0 : port = 0
              · have n0 : ¬ next = 0 := fun h => c2 ⟨fun _ => h, fun _ => p0⟩
                simp [n0]
              · simp [p0]
            have e6 : ((port != 0) && (next != 0)) = false := by
              by_cases p0 : port = 0
              · simp [p0]
              · have n0 : next = 0 := by
                  by_cases h : next = 0
                  · exact h
                  · exact absurd ⟨fun h' => absurd h' p0, fun h' => absurd h' h⟩ c2
                simp [n0]
            clear c1 c3
            obtain ⟨wo, rfl⟩ : ∃ wo : World, wo = wr := ⟨_, rfl⟩
            have HRK := Lib.hid (HR.out.takeV ViaV.cells_length HZ.out (by omega : k ≤ n))
            have HZK : Hid ((l.take k).length = k) := by show _ = _; rw [List.length_take, HZ.out]; omega
            have HBO := Lib.hid hb
            have hsz := hb.size
            have HP2 := Lib.hid c2
            clear hb c2
            generalize hlk0 : l.take k = lk at *
            clear hlk0
            have fin : ∀ (b1 b2 : Bool), b1 = (port == 0) → b2 = (next == 0) → True := fun _ _ _ _ => trivial
            clear fin
            by_cases p0 : port = 0
            · have n0 : ¬ next = 0 := fun h => HP2.out ⟨fun _ => h, fun _ => p0⟩
              subst p0
              have g1 : (next == 0) = false := by simpa using n0
              have g2 : (next != 0) = true := by simpa using n0
              clear n0 e5 e6
              go_wp2_with fail
              go_loopw [65, 6] (fun i _ wr => ∃ j : Nat, j ≤ k ∧ i = .int .i64 j ∧ NoneYet (fun t : ViaV => t.hop == hop) lk j ∧ Below (wo.alloc (.cells #[.int .i64 hop, .int .i64 0, .int .i64 next] 155)).heap.size (wo.alloc (.cells #[.int .i64 hop, .int .i64 0, .int .i64 next] 155)) wr) (fun i _ _ => k - (intOf i).toNat)
              case atStart => exact ⟨0, by omega, rfl, noneYet_zero _ _, Below.refl _ _⟩
              case round =>
                obtain ⟨j, hj, rfl, hno, hbr⟩ := hrel
                have HN := Lib.hid hno
                have HB := Lib.hid (below_step (HBO.out.alloc hsz _) hbr)
                have hb := HB.out
                obtain ⟨fc, ff⟩ := bcell hbr
                have s1 := bsize1 hbr
                have HBR := Lib.hid hbr
                clear hno hbr q0 q1 q2
                by_cases hlt2 : j < k
                · obtain ⟨ad', ⟨th, tp, tn⟩, hadd, hlk, htk, hmem, hbk, hc0, hcj⟩ := HRK.out.atS ViaV.cells_length HZK.out hlt2
                  injection hadd with hadd
                  subst hadd
                  have q0 := (hb.cell (p := ad.add (j * 3)) (by rw [block_of_add]; exact hbk)).trans (hc0 _ rfl)
                  have q1 := (hb.cell (p := ⟨(ad.add (j * 3)).block, (ad.add (j * 3)).off + 1, none⟩) (by rw [block_of_add]; exact hbk)).trans (hcj 1 _ rfl)
                  have q2 := (hb.cell (p := ⟨(ad.add (j * 3)).block, (ad.add (j * 3)).off + 2, none⟩) (by rw [block_of_add]; exact hbk)).trans (hcj 2 _ rfl)
                  have HLK2 := Lib.hid hlk
                  have HTK2 := Lib.hid htk
                  clear hlk htk hmem hbk hc0 hcj hb
                  by_cases he : th = hop
                  · subst he
                    have HV : Hid (lk.any (fun t => t.hop == th) = true) := by
                      show _ = _
                      rw [List.any_eq_true]
                      exact ⟨_, List.mem_of_getElem? HLK2.out, by simp⟩
                    go_wp2
                    go_ret
                    exact ⟨ret_int (fault_here HT.out HL.out HF.out H0.out (HF2.out.trans (by rw [HV.out, if_pos rfl])) (by omega)), HB.out.alloc HB.out.size _⟩
                  · have he2 : (th == hop) = false := by simpa using he
                    have HNE : Hid ((th == hop) = false) := he2
                    have HN2 := Lib.hid (noneYet_succ HN.out HTK2.out HNE.out)
                    clear he
                    go_wp2
                    go_roundw
                    case rel => exact ⟨j + 1, by omega, by go_num, HN2.out, HBR.out.alloc HBR.out.size _⟩
                    case measure => simp [intOf]; omega
                · obtain rfl : j = k := by omega
                  have HV : Hid (lk.any (fun t => t.hop == hop) = false) := by
                    show _ = _
                    rw [List.any_eq_false]
                    intro x hx
                    have := HN.out x (by rw [List.take_of_length_le (by rw [HZK.out]; omega)]; exact hx)
                    simp only at this
                    simp [this]
                  clear hb
                  go_wp2
                  go_roundw
                  case rel => exact ⟨j + 1, by omega, by go_num, noneTo_succ HT.out HK.out (HF.out.trans (HF2.out.trans (by rw [HV.out, if_neg (by simp)]))), HB.out⟩
                  case measure => simp [intOf]; omega
            · have n0 : next = 0 := by
                by_cases h : next = 0
                · exact h
                · exact absurd ⟨fun h' => absurd h' p0, fun h' => absurd h' h⟩ HP2.out
              subst n0
              have g1 : (port == 0) = false := by simpa using p0
              have g2 : (port != 0) = true := by simpa using p0
              clear p0 e5 e6
              go_wp2_with fail
              go_loopw [65, 6] (fun i _ wr => ∃ j : Nat, j ≤ k ∧ i = .int .i64 j ∧ NoneYet (fun t : ViaV => t.hop == hop) lk j ∧ Below (wo.alloc (.cells #[.int .i64 hop, .int .i64 port, .int .i64 0] 155)).heap.size (wo.alloc (.cells #[.int .i64 hop, .int .i64 port, .int .i64 0] 155)) wr) (fun i _ _ => k - (intOf i).toNat)
              case atStart => exact ⟨0, by omega, rfl, noneYet_zero _ _, Below.refl _ _⟩
              case round =>
                obtain ⟨j, hj, rfl, hno, hbr⟩ := hrel
                have HN := Lib.hid hno
                have HB := Lib.hid (below_step (HBO.out.alloc hsz _) hbr)
                have hb := HB.out
                obtain ⟨fc, ff⟩ := bcell hbr
                have s1 := bsize1 hbr
                have HBR := Lib.hid hbr
                clear hno hbr q0 q1 q2
                by_cases hlt2 : j < k
                · obtain ⟨ad', ⟨th, tp, tn⟩, hadd, hlk, htk, hmem, hbk, hc0, hcj⟩ := HRK.out.atS ViaV.cells_length HZK.out hlt2
                  injection hadd with hadd
                  subst hadd
                  have q0 := (hb.cell (p := ad.add (j * 3)) (by rw [block_of_add]; exact hbk)).trans (hc0 _ rfl)
                  have q1 := (hb.cell (p := ⟨(ad.add (j * 3)).block, (ad.add (j * 3)).off + 1, none⟩) (by rw [block_of_add]; exact hbk)).trans (hcj 1 _ rfl)
                  have q2 := (hb.cell (p := ⟨(ad.add (j * 3)).block, (ad.add (j * 3)).off + 2, none⟩) (by rw [block_of_add]; exact hbk)).trans (hcj 2 _ rfl)
                  have HLK2 := Lib.hid hlk
                  have HTK2 := Lib.hid htk
                  clear hlk htk hmem hbk hc0 hcj hb
                  by_cases he : th = hop
                  · subst he
                    have HV : Hid (lk.any (fun t => t.hop == th) = true) := by
                      show _ = _
                      rw [List.any_eq_true]
                      exact ⟨_, List.mem_of_getElem? HLK2.out, by simp⟩
                    go_wp2
                    go_ret
                    exact ⟨ret_int (fault_here HT.out HL.out HF.out H0.out (HF2.out.trans (by rw [HV.out, if_pos rfl])) (by omega)), HB.out.alloc HB.out.size _⟩
                  · have he2 : (th == hop) = false := by simpa using he
                    have HNE : Hid ((th == hop) = false) := he2
                    have HN2 := Lib.hid (noneYet_succ HN.out HTK2.out HNE.out)
                    clear he
                    go_wp2
                    go_roundw
                    case rel => exact ⟨j + 1, by omega, by go_num, HN2.out, HBR.out.alloc HBR.out.size _⟩
                    case measure => simp [intOf]; omega
                · obtain rfl : j = k := by omega
                  have HV : Hid (lk.any (fun t => t.hop == hop) = false) := by
                    show _ = _
                    rw [List.any_eq_false]
                    intro x hx
                    have := HN.out x (by rw [List.take_of_length_le (by rw [HZK.out]; omega)]; exact hx)
                    simp only at this
                    simp [this]
                  clear hb
                  go_wp2
                  go_roundw
                  case rel => exact ⟨j + 1, by omega, by go_num, noneTo_succ HT.out HK.out (HF.out.trans (HF2.out.trans (by rw [HV.out, if_neg (by simp)]))), HB.out⟩
                  case measure => simp [intOf]; omega
    · obtain rfl : k = n := by omega
      have HR2 := Lib.hid (firstF_end HT.out (by simp))
      go_wp2
      go_ret
      exact ⟨ret_int (HR2.out.symm.trans H0.out.symm), hb⟩

set_option maxHeartbeats 400000 in
theorem viaFault_big (A : Option Addr) (n c : Nat) (w : World) (hn : 60 < n) (hm : n ≤ maxLen) :
    Calls Try.prog 69 #[.slice A n c] w fun e w' => e = .returned (.int .i64 1) ∧ Below w.heap.size w w' := by
  unfold maxLen at hm
  go_enter Try.func69, Try.ntmps69
  go_wp2
  go_ret
  exact ⟨rfl, Below.refl _ _⟩
theorem viaFault_is {A : Option Addr} {n c : Nat} {l : List ViaV} {w : World} (h : IsVias w A n c l) :
    Calls Try.prog 69 #[.slice A n c] w fun e w' => e = .returned (.int .i64 (viasF l)) ∧ Below w.heap.size w w' := by
  unfold viasF
  have h1 := h.1
  by_cases hn : 60 < l.length
  · rw [if_pos hn]
    exact viaFault_big A n c w (by omega) (by have := h.2.1; omega)
  · rw [if_neg hn]
    exact viaFault_any A n c l w (by omega) h.2.1.1 h.2.1.2 h1 h.2.2.1 h.2.2.2

end Go.Proofs.Ytbjojfcpehkopaa
