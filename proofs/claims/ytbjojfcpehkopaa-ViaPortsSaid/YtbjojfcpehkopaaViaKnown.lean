/-
  Proved here: the contracts of via.out and via.known: the map of vias by their hops.
-/
import Derived.Test.YtbjojfcpehkopaaViaV
import Derived.Test.YtbjojfcpehkopaaMapF
namespace Go.Proofs.Ytbjojfcpehkopaa
open Go.ChangeShapes Go.WideShapes Go.ChangeAt Go.RowKit
open Go.Maps (Keyed)

/-- What the map of vias holds. -/
noncomputable def viaMap (l : List ViaV) : Lit → Option Value := l.foldl (fun F v => putF F (.int .i64 v.hop) v.val) (fun _ => none)
theorem viaMap_snoc (l : List ViaV) (v : ViaV) : viaMap (l ++ [v]) = putF (viaMap l) (.int .i64 v.hop) v.val := by simp [viaMap, List.foldl_append]
theorem lit_ne {a b : Int} (h : ¬ a = b) : ¬ (Lit.int .i64 a = Lit.int .i64 b) := fun he => h (by injection he)
theorem viaMap_any (h : Int) (l : List ViaV) : (viaMap l (.int .i64 h)).isSome = l.any (fun t => t.hop == h) := by
  induction hn : l.length generalizing l with
  | zero =>
    have : l = [] := List.eq_nil_of_length_eq_zero hn
    subst this
    rfl
  | succ n ih =>
    rcases List.eq_nil_or_concat l with rfl | ⟨l', v, rfl⟩
    · simp at hn
    · rw [List.concat_eq_append] at *
      rw [viaMap_snoc, List.any_append]
      have := ih l' (by simpa using hn)
      unfold putF
      by_cases he : h = v.hop
      · subst he
        rw [if_pos rfl]
        simp
      · rw [if_neg (lit_ne he), this]
        have : (v.hop == h) = false := by simpa using fun hh => he hh.symm
        simp [this]

theorem viaMap_val (l : List ViaV) (h : Int) : ∃ a b c : Int, (viaMap l (.int .i64 h)).getD (.agg #[.int .i64 0, .int .i64 0, .int .i64 0]) = .agg #[.int .i64 a, .int .i64 b, .int .i64 c] := by
  induction hn : l.length generalizing l with
  | zero =>
    have : l = [] := List.eq_nil_of_length_eq_zero hn
    subst this
    exact ⟨0, 0, 0, rfl⟩
  | succ n ih =>
    rcases List.eq_nil_or_concat l with rfl | ⟨l', v, rfl⟩
    · simp at hn
    · rw [List.concat_eq_append] at *
      rw [viaMap_snoc]
      unfold putF
      by_cases he : h = v.hop
      · subst he
        rw [if_pos rfl]
        exact ⟨_, _, _, rfl⟩
      · rw [if_neg (lit_ne he)]
        exact ih l' (by simpa using hn)

def outB (n least : Int) : Bool := decide (n < least) || decide (999 < n)
set_option maxHeartbeats 400000 in
theorem viaOut_any (n least : Int) (w : World) : Calls Try.prog 101 #[.int .i64 n, .int .i64 least] w fun e w' => e = .returned (.bool (outB n least)) ∧ w = w' := by
  by_cases h1 : n < least
  · rw [show outB n least = true from by simp [outB, h1]]
    go_enter Try.func101, Try.ntmps101
    go_wp2
    go_ret
    exact ⟨rfl, rfl⟩
  · rw [show outB n least = decide (999 < n) from by simp [outB, h1]]
    have hd : decide (n < least) = false := by simpa using h1
    go_enter Try.func101, Try.ntmps101
    go_wp2
    go_ret
    exact ⟨rfl, rfl⟩

theorem keyInt : Keyed Try.prog 3 := Maps.int_keyed Try.underlying3
theorem zeroVia (w : World) : (zeroValue 155).run Try.prog w = .ok (.agg #[.int .i64 0, .int .i64 0, .int .i64 0]) w := by kernel_rfl
theorem hopKey (h : Int) (hr : -9223372036854775808 ≤ h ∧ h ≤ 9223372036854775807) : keyOf Try.prog 3 (.int .i64 h) = some (.int .i64 h) := Maps.keyOf_int_mk Try.underlying3 (WalkArith.wf_i64 hr)
theorem makeVias (n : Nat) (w : World) : (Instr.makeMap 99 (some (.int .i64 n))).run Try.prog w = .ok (.map (some w.heap.size)) (w.alloc (.map #[] 0)) := by kernel_rfl

theorem ret_mi {m : Value} {a b : Int} (h : a = b) : Ending.returned (.tuple #[m, .int .i64 a]) = Ending.returned (.tuple #[m, .int .i64 b]) := by rw [h]

/-- What via.known returns, and what it leaves. -/
def KnownPost (l : List ViaV) (w : World) (e : Ending) (w' : World) : Prop :=
  Below w.heap.size w w' ∧ ((¬ viasE l = 0 ∧ e = .returned (.tuple #[.map none, .int .i64 (viasE l)])) ∨ (viasE l = 0 ∧ e = .returned (.tuple #[.map (some w.heap.size), .int .i64 0]) ∧ MapF w' Try.prog 3 w.heap.size l.length (viaMap l)))

set_option maxRecDepth 100000 in
set_option maxHeartbeats 1600000 in
theorem known_any (A : Option Addr) (n c : Nat) (l : List ViaV) (w : World) (hn2 : n ≤ 60) (hnc : n ≤ c) (hcm : c ≤ maxLen) (hz : l.length = n) (ho : ∀ r ∈ l, r.Ok) (hr : Reads w w.heap.size 3 A n (l.flatMap ViaV.cells)) :
    Calls Try.prog 67 #[.slice A n c] w (KnownPost l w) := by
  have HZ := Lib.hid hz
  have HR := Lib.hid hr
  have HOK := Lib.hid ho
  unfold maxLen at hcm
  have H0 : Hid (viasE l = firstF (viaAt l) (List.range n)) := by show _ = _; unfold viasE; rw [hz]
  have hmk := makeVias n
  clear hz hr ho
  go_enter Try.func67, Try.ntmps67
  go_wp2
  go_loopw [17, 6, 7, 8] (fun i _ _ _ wr => ∃ k : Nat, k ≤ n ∧ i = .int .i64 k ∧ NoneTo (viaAt l) (List.range n) k ∧ MapF wr Try.prog 3 w.heap.size k (viaMap (l.take k)) ∧ Below w.heap.size w wr) (fun i _ _ _ _ => n - (intOf i).toNat)
  case atStart => exact ⟨0, by omega, rfl, rfl, MapF.made _ _ _, (Below.refl _ _).alloc (Nat.le_refl _) _⟩
  case round =>
    obtain ⟨k, hk, rfl, hto, hmap, hb⟩ := hrel
    have HT := Lib.hid hto
    have HM := Lib.hid hmap
    have hsz := hmap.lt
    have hszb := hb.size
    have d0 : ¬ wr.heap.size = w.heap.size := by omega
    clear hto hmap
    by_cases hlt : k < n
    · obtain ⟨ad, ⟨hop, port, next⟩, rfl, hlk, htk, hmem, hbk, hc0, hcj⟩ := HR.out.atS ViaV.cells_length HZ.out hlt
      have q0 := (hb.cell (p := ad.add (k * 3)) (by rw [block_of_add]; exact hbk)).trans (hc0 _ rfl)
      have q1 := (hb.cell (p := ⟨(ad.add (k * 3)).block, (ad.add (k * 3)).off + 1, none⟩) (by rw [block_of_add]; exact hbk)).trans (hcj 1 _ rfl)
      have q2 := (hb.cell (p := ⟨(ad.add (k * 3)).block, (ad.add (k * 3)).off + 2, none⟩) (by rw [block_of_add]; exact hbk)).trans (hcj 2 _ rfl)
      have hok := HOK.out _ hmem
      obtain ⟨r1, r2, r3⟩ := hok
      simp only at r1 r2 r3
      have hfd : viaAt l k = viaF (l.take k) hop port next := by unfold viaAt; rw [hlk]
      have HF := Lib.hid hfd
      have HL := Lib.hid (range_at (n := n) hlt)
      have HK := Lib.hid (range_take (n := n) hlt)
      have HLK := Lib.hid hlk
      have HTK := Lib.hid htk
      have hkc : (k : Int) ≤ (c : Int) := by omega
      have hkc2 : (k : Int) ≤ 60 := by omega
      clear hlk htk hmem hbk hc0 hcj hfd
      have HMA : Hid (∀ (o : Obj), MapF (wr.alloc o) Try.prog 3 w.heap.size k (viaMap (l.take k))) := fun o => HM.out.alloc o
      have HBO := Lib.hid hb
      clear hb
      have HO1 := Lib.hid (fun w => viaOut_any hop 1 w)
      have HO2 := Lib.hid (fun w => viaOut_any port 0 w)
      have HO3 := Lib.hid (fun w => viaOut_any next 0 w)
      by_cases c1 : hop < 1 ∨ 999 < hop
      · have HF2 : Hid (viaF (l.take k) hop port next = 2) := by show _ = _; unfold viaF; rw [if_pos c1]
        have hv : outB hop 1 = true := by unfold outB; simpa using c1
        rw [hv] at HO1
        have HFH := Lib.hid (fault_here HT.out HL.out HF.out H0.out HF2.out (by omega))
        clear c1 hv
        go_wp2_with fail
        refine (HO1.out _).mono ?_
        rintro e w' ⟨rfl, rfl⟩
        go_wp2
        go_ret2
        exact ⟨HBO.out.alloc hszb _, .inl ⟨by rw [← HFH.out]; omega, ret_mi HFH.out⟩⟩
      · have hv : outB hop 1 = false := by unfold outB; simp; omega
        rw [hv] at HO1
        clear hv
        by_cases c2 : (port = 0 ↔ next = 0)
        · have HF2 : Hid (viaF (l.take k) hop port next = 4) := by show _ = _; unfold viaF; rw [if_neg c1, if_pos c2]
          have HFH := Lib.hid (fault_here HT.out HL.out HF.out H0.out HF2.out (by omega))
          have he : ((port == 0) == (next == 0)) = true := by
            by_cases p0 : port = 0
            · simp [p0, c2.1 p0]
            · have n0 : ¬ next = 0 := fun h => p0 (c2.2 h)
              have e1 : (port == 0) = false := by simpa using p0
              have e2 : (next == 0) = false := by simpa using n0
              rw [e1, e2]; rfl
          clear c1 c2
          go_wp2_with fail
          refine (HO1.out _).mono ?_
          rintro e w' ⟨rfl, rfl⟩
          go_wp2
          go_ret2
          exact ⟨HBO.out.alloc hszb _, .inl ⟨by rw [← HFH.out]; omega, ret_mi HFH.out⟩⟩
        · have he : ((port == 0) == (next == 0)) = false := by
            by_cases p0 : port = 0
            · have n0 : ¬ next = 0 := fun h => c2 ⟨fun _ => h, fun _ => p0⟩
              have e2 : (next == 0) = false := by simpa using n0
              rw [e2, p0]; rfl
            · have n0 : next = 0 := by
                by_cases h : next = 0
                · exact h
                · exact absurd ⟨fun h' => absurd h' p0, fun h' => absurd h' h⟩ c2
              have e1 : (port == 0) = false := by simpa using p0
              rw [e1, n0]; rfl
          by_cases c3 : port < 0 ∨ 999 < port ∨ next < 0 ∨ 999 < next
          · have HF2 : Hid (viaF (l.take k) hop port next = 2) := by show _ = _; unfold viaF; rw [if_neg c1, if_neg c2, if_pos c3]
            have HFH := Lib.hid (fault_here HT.out HL.out HF.out H0.out HF2.out (by omega))
            by_cases c4 : port < 0 ∨ 999 < port
            · have hv : outB port 0 = true := by unfold outB; simpa using c4
              rw [hv] at HO2
              clear c1 c2 c3 c4 hv
              go_wp2_with fail
              refine (HO1.out _).mono ?_
              rintro e w' ⟨rfl, rfl⟩
              go_wp2_with fail
              refine (HO2.out _).mono ?_
              rintro e w' ⟨rfl, rfl⟩
              go_wp2
              go_ret2
              exact ⟨HBO.out.alloc hszb _, .inl ⟨by rw [← HFH.out]; omega, ret_mi HFH.out⟩⟩
            · have hv : outB port 0 = false := by unfold outB; simp; omega
              have hv3 : outB next 0 = true := by unfold outB; simp; omega
              rw [hv] at HO2
              rw [hv3] at HO3
              clear c1 c2 c3 c4 hv hv3
              go_wp2_with fail
              refine (HO1.out _).mono ?_
              rintro e w' ⟨rfl, rfl⟩
              go_wp2_with fail
              refine (HO2.out _).mono ?_
              rintro e w' ⟨rfl, rfl⟩
              go_wp2_with fail
              refine (HO3.out _).mono ?_
              rintro e w' ⟨rfl, rfl⟩
              go_wp2
              go_ret2
              exact ⟨HBO.out.alloc hszb _, .inl ⟨by rw [← HFH.out]; omega, ret_mi HFH.out⟩⟩
          · have HF2 : Hid (viaF (l.take k) hop port next = if (l.take k).any (fun t => t.hop == hop) = true then 8 else 0) := by show _ = _; unfold viaF; rw [if_neg c1, if_neg c2, if_neg c3]
            have hv : outB port 0 = false := by unfold outB; simp; omega
            have hv3 : outB next 0 = false := by unfold outB; simp; omega
            rw [hv] at HO2
            rw [hv3] at HO3
            clear hv hv3 c2 c3
            have HKY := Lib.hid (hopKey hop (by omega))
            have hany := viaMap_any hop (l.take k)
            have hlook : ∀ o, (Instr.lookup 99 (.map (some w.heap.size)) (.int .i64 hop) true).run Try.prog (wr.alloc o) = .ok (.tuple #[(viaMap (l.take k) (.int .i64 hop)).getD (.agg #[.int .i64 0, .int .i64 0, .int .i64 0]), .bool ((l.take k).any (fun t => t.hop == hop))]) (wr.alloc o) := by
              intro o
              rw [← hany]
              exact (HMA.out o).look keyInt Try.underlying99 (zeroVia _) HKY.out (keyLit_int _ _)
            generalize hva : (viaMap (l.take k) (.int .i64 hop)).getD (.agg #[.int .i64 0, .int .i64 0, .int .i64 0]) = va at *
            have HVA : Hid (∃ a b c : Int, va = .agg #[.int .i64 a, .int .i64 b, .int .i64 c]) := by
              show ∃ a b c : Int, _
              rw [← hva]
              exact viaMap_val (l.take k) hop
            obtain ⟨va1, va2, va3, hva'⟩ := HVA.out
            subst hva'
            generalize hvb : (l.take k).any (fun t => t.hop == hop) = vb at *
            have HVB := Lib.hid hvb
            clear hva hvb hany HVA
            cases vb
            · have HN2 := Lib.hid (noneTo_succ HT.out HK.out (HF.out.trans (HF2.out.trans (by rw [if_neg (by simp)]))))
              have HPUT : Hid (putF (viaMap (l.take k)) (.int .i64 hop) (.agg #[.int .i64 hop, .int .i64 port, .int .i64 next]) = viaMap (l.take (k + 1))) := by
                show _ = _
                rw [HTK.out, viaMap_snoc]
                rfl
              go_wp2_with fail
              refine (HO1.out _).mono ?_
              rintro e w' ⟨rfl, rfl⟩
              go_wp2_with fail
              refine (HO2.out _).mono ?_
              rintro e w' ⟨rfl, rfl⟩
              go_wp2_with fail
              refine (HO3.out _).mono ?_
              rintro e w' ⟨rfl, rfl⟩
              go_wp2_with (at_mapUpdate; refine wpList_mapUpdate_F rfl _ _ _ 99 rfl 155 keyInt Try.underlying99 rfl ((HM.out.alloc _).alloc _) (by unfold maxLen; omega) (.int .i64 hop) (.agg #[.int .i64 hop, .int .i64 port, .int .i64 next]) (.int .i64 hop) rfl rfl HKY.out (keyLit_int _ _) ?_; intro w1 hm1 hg1)
              rw [HPUT.out] at hm1
              have HM1 := Lib.hid hm1
              have HB1 := Lib.hid (((HBO.out.alloc hszb _).alloc (by simp; omega) _).grown hg1 (by simp; omega) (fun j hj => by injection hj with hj; omega))
              clear hm1 hg1
              go_roundw
              case rel => exact ⟨k + 1, by omega, by go_num, HN2.out, HM1.out, HB1.out⟩
              case measure => simp [intOf]; omega
            · have HFH := Lib.hid (fault_here HT.out HL.out HF.out H0.out (HF2.out.trans (by rw [if_pos rfl])) (by omega))
              go_wp2_with fail
              refine (HO1.out _).mono ?_
              rintro e w' ⟨rfl, rfl⟩
              go_wp2_with fail
              refine (HO2.out _).mono ?_
              rintro e w' ⟨rfl, rfl⟩
              go_wp2_with fail
              refine (HO3.out _).mono ?_
              rintro e w' ⟨rfl, rfl⟩
              go_wp2
              go_ret2
              exact ⟨(HBO.out.alloc hszb _).alloc (by simp; omega) _, .inl ⟨by rw [← HFH.out]; omega, ret_mi HFH.out⟩⟩
    · obtain rfl : k = n := by omega
      have HR2 := Lib.hid (firstF_end HT.out (by simp))
      rw [List.take_of_length_le (by rw [HZ.out]; omega)] at HM
      go_wp2
      go_ret2
      exact ⟨hb, .inr ⟨by rw [H0.out]; exact HR2.out, rfl, by rw [HZ.out]; exact HM.out⟩⟩

set_option maxHeartbeats 400000 in
theorem known_big (A : Option Addr) (n c : Nat) (w : World) (hn : 60 < n) (hm : n ≤ maxLen) :
    Calls Try.prog 67 #[.slice A n c] w fun e w' => e = .returned (.tuple #[.map none, .int .i64 1]) ∧ Below w.heap.size w w' := by
  unfold maxLen at hm
  go_enter Try.func67, Try.ntmps67
  go_wp2
  go_ret2
  exact ⟨rfl, Below.refl _ _⟩

/-- What via.known returns, whatever the list. -/
def KnownIs (l : List ViaV) (w : World) (e : Ending) (w' : World) : Prop :=
  Below w.heap.size w w' ∧ ((¬ viasF l = 0 ∧ e = .returned (.tuple #[.map none, .int .i64 (viasF l)])) ∨ (viasF l = 0 ∧ e = .returned (.tuple #[.map (some w.heap.size), .int .i64 0]) ∧ MapF w' Try.prog 3 w.heap.size l.length (viaMap l)))

theorem known_is {A : Option Addr} {n c : Nat} {l : List ViaV} {w : World} (h : IsVias w A n c l) : Calls Try.prog 67 #[.slice A n c] w (KnownIs l w) := by
  have h1 := h.1
  by_cases hn : 60 < l.length
  · have hf : viasF l = 1 := by unfold viasF; rw [if_pos hn]
    refine (known_big A n c w (by omega) (by have := h.2.1; omega)).mono ?_
    rintro e w' ⟨rfl, hb⟩
    exact ⟨hb, .inl ⟨by omega, by rw [hf]⟩⟩
  · have hf : viasF l = viasE l := by unfold viasF; rw [if_neg hn]
    refine (known_any A n c l w (by omega) h.2.1.1 h.2.1.2 h1 h.2.2.1 h.2.2.2).mono ?_
    intro e w' he
    unfold KnownIs
    rw [hf]
    exact he

end Go.Proofs.Ytbjojfcpehkopaa
