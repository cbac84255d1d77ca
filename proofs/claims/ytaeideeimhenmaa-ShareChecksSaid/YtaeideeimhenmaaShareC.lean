/-
  Proved here: the contracts of shares.Check and of the reference's SharesFault; the walk of the law ShareChecks.
-/
import Derived.Test.YtaeideeimhenmaaShareFuncs
import Derived.Test.YtaeideeimhenmaaFaults
namespace Go.Proofs.Ytaeideeimhenmaa
open Go.ChangeShapes Go.WideShapes Go.ChangeAt Go.RowKit

/-- The fault of a share behind some others. -/
def shareF (before : List ShareV) (hop weight : Int) : Int :=
  if hop < 1 ∨ 999 < hop ∨ weight < 1 ∨ 20 < weight then 2 else if before.any (fun t => hop == t.hop) = true then 8 else 0
def shareAt (l : List ShareV) (i : Nat) : Int := match l[i]? with
  | some s => shareF (l.take i) s.hop s.weight
  | none => 0
/-- The first fault of a list of shares. -/
def sharesE (l : List ShareV) : Int := firstF (shareAt l) (List.range l.length)
def sharesF (l : List ShareV) : Int := if l.length < 1 ∨ 16 < l.length then 1 else sharesE l

theorem Reads.takeS {w : World} {B n k size : Nat} {A : Option Addr} {α : Type} {l : List α} {f : α → List Value} (hf : ∀ x, (f x).length = size) (hz : l.length = n) (hk : k ≤ n) (h : Reads w B size A n (l.flatMap f)) :
    Reads w B size A k ((l.take k).flatMap f) := by
  have hlen : ∀ (l : List α), (l.flatMap f).length = l.length * size := by
    intro l
    induction l with
    | nil => simp
    | cons x l ih => rw [List.flatMap_cons, List.length_append, hf, ih, List.length_cons, Nat.succ_mul]; omega
  refine ⟨by rw [hlen, List.length_take]; congr 1; omega, fun hk0 => ?_⟩
  obtain ⟨ad, rfl, hb, hc⟩ := h.2 (by omega)
  refine ⟨ad, rfl, hb, fun j u hj => hc j u ?_⟩
  have : l = l.take k ++ l.drop k := (List.take_append_drop k l).symm
  rw [this, List.flatMap_append, List.getElem?_append_left (by have := (List.getElem?_eq_some_iff.1 hj).1; exact this)]
  exact hj

set_option maxRecDepth 100000 in
set_option maxHeartbeats 400000 in
theorem shareClosure_any (hop : Int) (r : ShareV) (b : Nat) (w : World) (c0 : w.cell? ⟨b, 0, none⟩ = some (.int .i64 hop)) (hb : b < w.heap.size) :
    Calls Try.prog 42 #[.agg r.cells.toArray, .pointer (some ⟨b, 0, none⟩)] w fun e w' => e = .returned (.bool (hop == r.hop)) ∧ Below w.heap.size w w' := by
  obtain ⟨h, wt⟩ := r
  show Calls _ _ #[.agg #[.int .i64 h, .int .i64 wt], .pointer (some ⟨b, 0, none⟩)] _ _
  go_enter Try.func42, Try.ntmps42
  go_wp2
  go_ret
  exact ⟨rfl, (Below.refl _ _).alloc (Nat.le_refl _) _⟩

theorem shareEnters (args : Array Value) (w : World) : (callFunc 42 args).run Try.prog w = .ok (.enter 42 args) w := by kernel_rfl

set_option maxRecDepth 100000 in
set_option maxHeartbeats 1600000 in
theorem sharesCheck_any (A : Option Addr) (n c : Nat) (l : List ShareV) (w : World) (hn : 1 ≤ n) (hn2 : n ≤ 16) (hnc : n ≤ c) (hcm : c ≤ maxLen) (hz : l.length = n) (hr : Reads w w.heap.size 2 A n (l.flatMap ShareV.cells)) :
    Calls Try.prog 21 #[.slice A n c] w fun e w' => e = .returned (.int .i64 (sharesE l)) ∧ Below w.heap.size w w' := by
  have HZ := Lib.hid hz
  have HR := Lib.hid hr
  unfold maxLen at hcm
  obtain ⟨r, hr0⟩ : ∃ r, r = firstF (shareAt l) (List.range n) := ⟨_, rfl⟩
  rw [show sharesE l = firstF (shareAt l) (List.range n) from by unfold sharesE; rw [hz], ← hr0]
  have H0 := Lib.hid hr0
  have hd1 : decide ((n : Int) < 1) = false := by simp; omega
  clear hz hr hr0
  go_enter Try.func21, Try.ntmps21
  go_wp2
  go_loopw [15, 3, 4] (fun i _ _ wr => ∃ k : Nat, k ≤ n ∧ i = .int .i64 k ∧ NoneTo (shareAt l) (List.range n) k ∧ Below w.heap.size w wr) (fun i _ _ _ => n - (intOf i).toNat)
  case atStart => exact ⟨0, by omega, rfl, rfl, Below.refl _ _⟩
  case round =>
    obtain ⟨k, hk, rfl, hto, hb⟩ := hrel
    have HT := Lib.hid hto
    clear hto
    by_cases hlt : k < n
    · obtain ⟨ad, ⟨hop, weight⟩, rfl, hlk, htk, hmem, hbk, hc0, hcj⟩ := HR.out.atS ShareV.cells_length HZ.out hlt
      have q0 := (hb.cell (p := ad.add (k * 2)) (by rw [block_of_add]; exact hbk)).trans (hc0 _ rfl)
      have q1 := (hb.cell (p := ⟨(ad.add (k * 2)).block, (ad.add (k * 2)).off + 1, none⟩) (by rw [block_of_add]; exact hbk)).trans (hcj 1 _ rfl)
      have hfd : shareAt l k = shareF (l.take k) hop weight := by unfold shareAt; rw [hlk]
      have HF := Lib.hid hfd
      have HL := Lib.hid (range_at (n := n) hlt)
      have HK := Lib.hid (range_take (n := n) hlt)
      have hkc : (k : Int) ≤ (c : Int) := by omega
      have hkc2 : (k : Int) ≤ 16 := by omega
      clear hlk htk hmem hbk hc0 hcj hfd
      have HH : Hid (∀ (t : TypeId), Calls Try.prog 41 #[.slice (some ad) k c, .func (.func 42) #[] #[.pointer (some ⟨wr.heap.size, 0, none⟩)]] (wr.alloc (.cells #[.int .i64 hop, .int .i64 weight] t)) fun e w' => e = .returned (.bool ((l.take k).any (fun t => hop == t.hop))) ∧ Below (wr.alloc (.cells #[.int .i64 hop, .int .i64 weight] t)).heap.size (wr.alloc (.cells #[.int .i64 hop, .int .i64 weight] t)) w') := by
        show ∀ _, _
        intro t
        refine hasShare_any (some ad) k c (l.take k) (fun t => hop == t.hop) _ _ _ shareEnters (by rw [List.length_take, HZ.out]; omega) (by unfold maxLen; omega) ?_ ?_
        · have hba := hb.alloc hb.size (.cells #[.int .i64 hop, .int .i64 weight] t)
          exact ((HR.out.below hba).more hba.size).takeS ShareV.cells_length HZ.out (by omega)
        · intro r _ w' hbw
          obtain ⟨D1, S1, F⟩ := box1 (cs := [.int .i64 hop, .int .i64 weight]) hbw
          exact shareClosure_any hop r wr.heap.size w' (F 0 _ rfl) S1
      go_wp2_with fail
      any_goals (go_ret; exact ⟨ret_int (fault_here HT.out HL.out HF.out H0.out (by unfold shareF; rw [if_pos (by omega)]) (by omega)), hb.alloc hb.size _⟩)
      have hrange : ¬ (hop < 1 ∨ 999 < hop ∨ weight < 1 ∨ 20 < weight) := by omega
      have HRG := Lib.hid hrange
      clear hrange
      refine (HH.out _).mono ?_
      rintro e w1 ⟨rfl, hb1⟩
      have HB := Lib.hid (below_step (hb.alloc hb.size _) hb1)
      clear hb1
      generalize hv : (l.take k).any (fun t => hop == t.hop) = v at *
      have HV := Lib.hid hv
      clear hv
      cases v
      · go_wp2
        go_roundw
        case rel => exact ⟨k + 1, by omega, by go_num, noneTo_succ HT.out HK.out (HF.out.trans (by unfold shareF; rw [if_neg HRG.out, HV.out, if_neg (by simp)])), HB.out⟩
        case measure => simp [intOf]; omega
      · go_wp2
        go_ret
        exact ⟨ret_int (fault_here HT.out HL.out HF.out H0.out (by unfold shareF; rw [if_neg HRG.out, HV.out, if_pos rfl]) (by omega)), HB.out⟩
    · obtain rfl : k = n := by omega
      have HR2 := Lib.hid (firstF_end HT.out (by simp))
      go_wp2
      go_ret
      exact ⟨ret_int (HR2.out.symm.trans H0.out.symm), hb⟩

set_option maxRecDepth 100000 in
set_option maxHeartbeats 1600000 in
theorem sharesFault_any (A : Option Addr) (n c : Nat) (l : List ShareV) (w : World) (hn : 1 ≤ n) (hn2 : n ≤ 16) (hnc : n ≤ c) (hcm : c ≤ maxLen) (hz : l.length = n) (hr : Reads w w.heap.size 2 A n (l.flatMap ShareV.cells)) :
    Calls Try.prog 22 #[.slice A n c] w fun e w' => e = .returned (.int .i64 (sharesE l)) ∧ Below w.heap.size w w' := by
  have HZ := Lib.hid hz
  have HR := Lib.hid hr
  unfold maxLen at hcm
  obtain ⟨r, hr0⟩ : ∃ r, r = firstF (shareAt l) (List.range n) := ⟨_, rfl⟩
  rw [show sharesE l = firstF (shareAt l) (List.range n) from by unfold sharesE; rw [hz], ← hr0]
  have H0 := Lib.hid hr0
  have hd1 : ((n : Int) == 0) = false := by simp; omega
  clear hz hr hr0
  go_enter Try.func22, Try.ntmps22
  go_wp2
  go_loopw [17, 3, 4, 6] (fun i _ _ _ wr => ∃ k : Nat, k ≤ n ∧ i = .int .i64 k ∧ NoneTo (shareAt l) (List.range n) k ∧ Below w.heap.size w wr) (fun i _ _ _ _ => n - (intOf i).toNat)
  case atStart => exact ⟨0, by omega, rfl, rfl, Below.refl _ _⟩
  case round =>
    obtain ⟨k, hk, rfl, hto, hb⟩ := hrel
    have HT := Lib.hid hto
    clear hto
    by_cases hlt : k < n
    · obtain ⟨ad, ⟨hop, weight⟩, rfl, hlk, htk, hmem, hbk, hc0, hcj⟩ := HR.out.atS ShareV.cells_length HZ.out hlt
      have q0 := (hb.cell (p := ad.add (k * 2)) (by rw [block_of_add]; exact hbk)).trans (hc0 _ rfl)
      have q1 := (hb.cell (p := ⟨(ad.add (k * 2)).block, (ad.add (k * 2)).off + 1, none⟩) (by rw [block_of_add]; exact hbk)).trans (hcj 1 _ rfl)
      have hfd : shareAt l k = shareF (l.take k) hop weight := by unfold shareAt; rw [hlk]
      have HF := Lib.hid hfd
      have HL := Lib.hid (range_at (n := n) hlt)
      have HK := Lib.hid (range_take (n := n) hlt)
      have hkc : (k : Int) ≤ (c : Int) := by omega
      have hkc2 : (k : Int) ≤ 16 := by omega
      clear hlk htk hmem hbk hc0 hcj hfd
      go_wp2_with fail
      any_goals (go_ret; exact ⟨ret_int (fault_here HT.out HL.out HF.out H0.out (by unfold shareF; rw [if_pos (by omega)]) (by omega)), hb.alloc hb.size _⟩)
      have hrange : ¬ (hop < 1 ∨ 999 < hop ∨ weight < 1 ∨ 20 < weight) := by omega
      have HRG := Lib.hid hrange
      clear hrange
      obtain ⟨wo, rfl⟩ : ∃ wo : World, wo = wr := ⟨_, rfl⟩
      have HRK := Lib.hid (HR.out.takeS ShareV.cells_length HZ.out (by omega : k ≤ n))
      have HZK : Hid ((l.take k).length = k) := by show _ = _; rw [List.length_take, HZ.out]; omega
      have HBO := Lib.hid hb
      have hsz := hb.size
      clear hb q0 q1
      generalize hlk0 : l.take k = lk at *
      clear hlk0
      go_loopw [44, 6] (fun i _ wr => ∃ j : Nat, j ≤ k ∧ i = .int .i64 j ∧ NoneYet (fun t : ShareV => hop == t.hop) lk j ∧ Below (wo.alloc (.cells #[.int .i64 hop, .int .i64 weight] 68)).heap.size (wo.alloc (.cells #[.int .i64 hop, .int .i64 weight] 68)) wr) (fun i _ _ => k - (intOf i).toNat)
      case atStart => exact ⟨0, by omega, rfl, noneYet_zero _ _, Below.refl _ _⟩
      case round =>
        obtain ⟨j, hj, rfl, hno, hbr⟩ := hrel
        have HN := Lib.hid hno
        have HB := Lib.hid (below_step (HBO.out.alloc hsz _) hbr)
        have hb := HB.out
        obtain ⟨fc, ff⟩ := bcell hbr
        have s1 := bsize1 hbr
        have HBR := Lib.hid hbr
        clear hno hbr
        by_cases hlt2 : j < k
        · obtain ⟨ad', ⟨th, tw⟩, hadd, hlk, htk, hmem, hbk, hc0, hcj⟩ := HRK.out.atS ShareV.cells_length HZK.out hlt2
          injection hadd with hadd
          subst hadd
          have q0 := (hb.cell (p := ad.add (j * 2)) (by rw [block_of_add]; exact hbk)).trans (hc0 _ rfl)
          have q1 := (hb.cell (p := ⟨(ad.add (j * 2)).block, (ad.add (j * 2)).off + 1, none⟩) (by rw [block_of_add]; exact hbk)).trans (hcj 1 _ rfl)
          have HLK := Lib.hid hlk
          have HTK := Lib.hid htk
          clear hlk htk hmem hbk hc0 hcj hb
          by_cases he : th = hop
          · subst he
            have HV : Hid (lk.any (fun t => th == t.hop) = true) := by
              show _ = _
              rw [List.any_eq_true]
              exact ⟨_, List.mem_of_getElem? HLK.out, by simp⟩
            go_wp2
            go_ret
            exact ⟨ret_int (fault_here HT.out HL.out HF.out H0.out (by unfold shareF; rw [if_neg HRG.out, HV.out, if_pos rfl]) (by omega)), HB.out.alloc HB.out.size _⟩
          · have HNE : Hid ((hop == th) = false) := by show _ = _; simpa using fun h => he h.symm
            have he2 : (th == hop) = false := by simpa using he
            have HN2 := Lib.hid (noneYet_succ HN.out HTK.out HNE.out)
            clear he
            go_wp2
            go_roundw
            case rel => exact ⟨j + 1, by omega, by go_num, HN2.out, HBR.out.alloc HBR.out.size _⟩
            case measure => simp [intOf]; omega
        · obtain rfl : j = k := by omega
          have HV : Hid (lk.any (fun t => hop == t.hop) = false) := by
            show _ = _
            rw [List.any_eq_false]
            intro x hx
            have := HN.out x (by rw [List.take_of_length_le (by rw [HZK.out]; omega)]; exact hx)
            simp only at this
            simp [this]
          clear hb
          go_wp2
          go_roundw
          case rel => exact ⟨j + 1, by omega, by go_num, noneTo_succ HT.out HK.out (HF.out.trans (by unfold shareF; rw [if_neg HRG.out, HV.out, if_neg (by simp)])), HB.out⟩
          case measure => simp [intOf]; omega
    · obtain rfl : k = n := by omega
      have HR2 := Lib.hid (firstF_end HT.out (by simp))
      go_wp2
      go_ret
      exact ⟨ret_int (HR2.out.symm.trans H0.out.symm), hb⟩

set_option maxHeartbeats 400000 in
theorem sharesCheck_big (A : Option Addr) (n c : Nat) (w : World) (hn : n < 1 ∨ 16 < n) (hm : n ≤ maxLen) :
    Calls Try.prog 21 #[.slice A n c] w fun e w' => e = .returned (.int .i64 1) ∧ Below w.heap.size w w' := by
  unfold maxLen at hm
  rcases hn with hn | hn
  · obtain rfl : n = 0 := by omega
    go_enter Try.func21, Try.ntmps21
    go_wp2
    go_ret
    exact ⟨rfl, Below.refl _ _⟩
  · have hd1 : decide ((n : Int) < 1) = false := by simp; omega
    have hd2 : ((n : Int) == 0) = false := by simp; omega
    go_enter Try.func21, Try.ntmps21
    go_wp2
    go_ret
    exact ⟨rfl, Below.refl _ _⟩
theorem sharesCheck_is {A : Option Addr} {n c : Nat} {l : List ShareV} {w : World} (h : IsShares w A n c l) :
    Calls Try.prog 21 #[.slice A n c] w fun e w' => e = .returned (.int .i64 (sharesF l)) ∧ Below w.heap.size w w' := by
  unfold sharesF
  have h1 := h.1
  by_cases hn : l.length < 1 ∨ 16 < l.length
  · rw [if_pos hn]
    exact sharesCheck_big A n c w (by omega) (by have := h.2.1; omega)
  · rw [if_neg hn]
    exact sharesCheck_any A n c l w (by omega) (by omega) h.2.1.1 h.2.1.2 h1 h.2.2

set_option maxHeartbeats 400000 in
theorem sharesFault_big (A : Option Addr) (n c : Nat) (w : World) (hn : n < 1 ∨ 16 < n) (hm : n ≤ maxLen) :
    Calls Try.prog 22 #[.slice A n c] w fun e w' => e = .returned (.int .i64 1) ∧ Below w.heap.size w w' := by
  unfold maxLen at hm
  rcases hn with hn | hn
  · obtain rfl : n = 0 := by omega
    go_enter Try.func22, Try.ntmps22
    go_wp2
    go_ret
    exact ⟨rfl, Below.refl _ _⟩
  · have hd1 : decide ((n : Int) < 1) = false := by simp; omega
    have hd2 : ((n : Int) == 0) = false := by simp; omega
    go_enter Try.func22, Try.ntmps22
    go_wp2
    go_ret
    exact ⟨rfl, Below.refl _ _⟩
theorem sharesFault_is {A : Option Addr} {n c : Nat} {l : List ShareV} {w : World} (h : IsShares w A n c l) :
    Calls Try.prog 22 #[.slice A n c] w fun e w' => e = .returned (.int .i64 (sharesF l)) ∧ Below w.heap.size w w' := by
  unfold sharesF
  have h1 := h.1
  by_cases hn : l.length < 1 ∨ 16 < l.length
  · rw [if_pos hn]
    exact sharesFault_big A n c w (by omega) (by have := h.2.1; omega)
  · rw [if_neg hn]
    exact sharesFault_any A n c l w (by omega) (by omega) h.2.1.1 h.2.1.2 h1 h.2.2

set_option maxRecDepth 100000 in
set_option maxHeartbeats 400000 in
theorem shareChecks_walk {H : Type} {enc : TypeId × Value → H} (W : World) (vs : Array Value) (ds : List (DataW H)) (ps : List MemPlace) (h : ArgsOk Try.prog [36] H enc W vs.toList ds ps) :
    Calls Try.prog 7 vs W fun e W' => e = .returned (.bool true) ∧ Below W.heap.size W W' := by
  obtain ⟨hA, ⟨base, hval⟩, _, _⟩ := h
  obtain ⟨v0, d0, e0, _, h0⟩ := trodAll_one hA
  obtain ⟨a0, n, c, rfl⟩ := okWide_slice Try.underlying36 (hval 0 _ v0 rfl (by rw [e0]; rfl))
  obtain ⟨l, hr⟩ := open_shares h0
  obtain rfl : vs = #[.slice a0 n c] := by cases vs; simp_all
  generalize hg : sharesF l = r
  have C1 := Lib.hid (fun (w : World) (hb : Below W.heap.size W w) => sharesCheck_is (hr.below hb))
  have C2 := Lib.hid (fun (w : World) (hb : Below W.heap.size W w) => sharesFault_is (hr.below hb))
  rw [hg] at C1 C2
  clear hr h0 hA hval e0 hg
  go_enter Try.func7, Try.ntmps7
  go_wp2_with fail
  refine (C1.out _ (Below.refl _ _)).mono ?_
  rintro e w1 ⟨rfl, hb1⟩
  go_wp2_with fail
  refine (C2.out _ hb1).mono ?_
  rintro e w2 ⟨rfl, hb2⟩
  go_wp2
  go_ret
  exact ⟨by simp, below_step hb1 hb2⟩

end Go.Proofs.Ytaeideeimhenmaa
