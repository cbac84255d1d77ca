/-
  
  
  
-/
import Derived.Test.YtonelibgaceflaaC6
import Derived.Laws.EntriesVeiled
import Derived.Test.YtonelibgaceflaaC3
import Derived.Test.YtonelibgaceflaaC2
namespace Go.Proofs.Ytonelibgaceflaa
open Go.ChangeShapes Go.WideShapes Go.ChangeAt Go.RowKit

theorem LookEnv.same {X X' : World} {base bF bL bO bK : Nat} {F L : AV} {v : Value} {n : Nat} {xs : List Value} (h : LookEnv X base bF bL bO bK F L v n xs) (hX : X'.heap = X.heap) : LookEnv X' base bF bL bO bK F L v n xs :=
  ⟨by unfold Blk; rw [hX]; exact h.f, by unfold Blk; rw [hX]; exact h.l, by unfold Blk; rw [hX]; exact h.o, by unfold Blk; rw [hX]; exact h.k, by unfold World.ownsRow; rw [hX]; exact h.own, h.bo⟩

set_option maxRecDepth 100000 in
set_option maxHeartbeats 400000 in
theorem top_any (six : Bool) (w : World) : Calls Try.prog 87 #[.bool six] w fun e w' => e = .returned (.agg #[.bool six, .int .u64 0, .int .u64 0, .int .i64 0]) ∧ Below w.heap.size w w' := by
  go_enter Try.func87, Try.ntmps87
  go_wp2
  refine bodyPost_ret (v := .agg #[.bool six, .int .u64 0, .int .u64 0, .int .i64 0]) ?_ rfl ⟨rfl, ?_⟩
  · simp [results, Try.results87, go_sem]
  · (repeat' first | with_reducible exact Below.refl _ _ | with_reducible refine Below.drew ?_ | with_reducible refine Below.setCell ?_ ?_ _ | with_reducible refine Below.alloc ?_ ?_ _ | (simp; done) | (simp; omega) | omega)

set_option maxRecDepth 100000 in
set_option maxHeartbeats 1600000 in
theorem refRange_any (six : Bool) (hi lo : Int) (six' : Bool) (hi' lo' : Int) (w : World) (h1 : 0 ≤ hi ∧ hi < 18446744073709551616) (h2 : 0 ≤ lo ∧ lo < 18446744073709551616) (h3 : 0 ≤ hi' ∧ hi' < 18446744073709551616) (h4 : 0 ≤ lo' ∧ lo' < 18446744073709551616) :
    Calls Try.prog 35 #[.agg #[.bool six, .int .u64 hi, .int .u64 lo], .agg #[.bool six', .int .u64 hi', .int .u64 lo']] w (Ranged ⟨six, hi, lo⟩ ⟨six', hi', lo'⟩ w) := by
  have CM1 := Lib.hid (fun w => refMay_any six hi lo w h2.1)
  have CM2 := Lib.hid (fun w => refMay_any six' hi' lo' w h4.1)
  unfold Ranged
  cases hm1 : mayB six hi lo with
  | false =>
    have hE : rangeE ⟨six, hi, lo⟩ ⟨six', hi', lo'⟩ = 4 := by unfold rangeE; simp [hm1]
    rw [rangeO_bad (by rw [hE]; decide), hE]
    rw [hm1] at CM1
    clear hE hm1 CM2
    go_enter Try.func35, Try.ntmps35
    go_wp2_with fail
    refine (CM1.out _).mono ?_
    rintro e w1 ⟨rfl, hb1⟩
    obtain ⟨fc, ff⟩ := bcell hb1
    obtain ⟨s1, s2⟩ := bsize2 hb1
    have HB1 := Lib.hid (balloc2 hb1)
    have kF1 := ((Blk.new w 24 #[.bool six, .int .u64 hi, .int .u64 lo]).alloc (.cells #[.bool six', .int .u64 hi', .int .u64 lo'] 24)).below hb1 (by simp; omega)
    have kL1 := (Blk.new (w.alloc (.cells #[.bool six, .int .u64 hi, .int .u64 lo] 24)) 24 #[.bool six', .int .u64 hi', .int .u64 lo']).below hb1 (by simp)
    simp only [World.size_alloc] at kL1
    have HF1 := Lib.hid kF1
    have HL1 := Lib.hid kL1
    clear hb1 kF1 kL1
    go_wp2
    go_ret2
    exact ⟨_, rfl, World.ownsRow_nil _ _ _ _, HB1.out⟩
  | true =>
  rw [hm1] at CM1
  cases hm2 : mayB six' hi' lo' with
  | false =>
    have hE : rangeE ⟨six, hi, lo⟩ ⟨six', hi', lo'⟩ = 4 := by unfold rangeE; simp [hm2]
    rw [rangeO_bad (by rw [hE]; decide), hE]
    rw [hm2] at CM2
    clear hE hm1 hm2
    go_enter Try.func35, Try.ntmps35
    go_wp2_with fail
    refine (CM1.out _).mono ?_
    rintro e w1 ⟨rfl, hb1⟩
    obtain ⟨fc, ff⟩ := bcell hb1
    obtain ⟨s1, s2⟩ := bsize2 hb1
    have HB1 := Lib.hid (balloc2 hb1)
    have kF1 := ((Blk.new w 24 #[.bool six, .int .u64 hi, .int .u64 lo]).alloc (.cells #[.bool six', .int .u64 hi', .int .u64 lo'] 24)).below hb1 (by simp; omega)
    have kL1 := (Blk.new (w.alloc (.cells #[.bool six, .int .u64 hi, .int .u64 lo] 24)) 24 #[.bool six', .int .u64 hi', .int .u64 lo']).below hb1 (by simp)
    simp only [World.size_alloc] at kL1
    have HF1 := Lib.hid kF1
    have HL1 := Lib.hid kL1
    clear hb1 kF1 kL1
    go_wp2_with fail
    refine (CM2.out _).mono ?_
    rintro e w2 ⟨rfl, hb2⟩
    obtain ⟨fc2, ff2⟩ := bcell hb2
    have z2 := hb2.size
    have HB2 := Lib.hid (below_step HB1.out hb2)
    have t2a : w.heap.size < w2.heap.size := by omega
    have t2b : w.heap.size + 1 < w2.heap.size := by omega
    have HF2 := Lib.hid (HF1.out.below hb2 (by omega))
    have HL2 := Lib.hid (HL1.out.below hb2 (by omega))
    clear hb2
    go_wp2
    go_ret2
    exact ⟨_, rfl, World.ownsRow_nil _ _ _ _, HB2.out⟩
  | true =>
  rw [hm2] at CM2
  by_cases h6 : six = six'
  · subst h6
    have ha : AV.Ok ⟨six, hi, lo⟩ := ⟨h1, h2, hm1⟩
    have hb : AV.Ok ⟨six, hi', lo'⟩ := ⟨h3, h4, hm2⟩
    have hln := less_num hb ha rfl
    have CL := Lib.hid (fun w => refLess_any six hi' lo' six hi lo w hb ha)
    cases hl : lessB ⟨six, hi', lo'⟩ ⟨six, hi, lo⟩ with
    | true =>
      have hE : rangeE ⟨six, hi, lo⟩ ⟨six, hi', lo'⟩ = 2 := by unfold rangeE; simp [hm1, hm2, hl]
      rw [rangeO_bad (by rw [hE]; decide), hE]
      rw [hl] at CL
      clear hE hm1 hm2 ha hb hln hl
      go_enter Try.func35, Try.ntmps35
      go_wp2_with fail
      refine (CM1.out _).mono ?_
      rintro e w1 ⟨rfl, hb1⟩
      obtain ⟨fc, ff⟩ := bcell hb1
      obtain ⟨s1, s2⟩ := bsize2 hb1
      have HB1 := Lib.hid (balloc2 hb1)
      have kF1 := ((Blk.new w 24 #[.bool six, .int .u64 hi, .int .u64 lo]).alloc (.cells #[.bool six, .int .u64 hi', .int .u64 lo'] 24)).below hb1 (by simp; omega)
      have kL1 := (Blk.new (w.alloc (.cells #[.bool six, .int .u64 hi, .int .u64 lo] 24)) 24 #[.bool six, .int .u64 hi', .int .u64 lo']).below hb1 (by simp)
      simp only [World.size_alloc] at kL1
      have HF1 := Lib.hid kF1
      have HL1 := Lib.hid kL1
      clear hb1 kF1 kL1
      go_wp2_with fail
      refine (CM2.out _).mono ?_
      rintro e w2 ⟨rfl, hb2⟩
      obtain ⟨fc2, ff2⟩ := bcell hb2
      have z2 := hb2.size
      have HB2 := Lib.hid (below_step HB1.out hb2)
      have t2a : w.heap.size < w2.heap.size := by omega
      have t2b : w.heap.size + 1 < w2.heap.size := by omega
      have HF2 := Lib.hid (HF1.out.below hb2 (by omega))
      have HL2 := Lib.hid (HL1.out.below hb2 (by omega))
      clear hb2
      go_wp2_with fail
      refine (CL.out _).mono ?_
      rintro e w3 ⟨rfl, hb3⟩
      obtain ⟨fc3, ff3⟩ := bcell hb3
      have z3 := hb3.size
      have HB3 := Lib.hid (below_step HB2.out hb3)
      have t3a : w.heap.size < w3.heap.size := by omega
      have t3b : w.heap.size + 1 < w3.heap.size := by omega
      have HF3 := Lib.hid (HF2.out.below hb3 (by omega))
      have HL3 := Lib.hid (HL2.out.below hb3 (by omega))
      clear hb3
      go_wp2
      go_ret2
      exact ⟨_, rfl, World.ownsRow_nil _ _ _ _, HB3.out⟩
    | false =>
      have hE : rangeE ⟨six, hi, lo⟩ ⟨six, hi', lo'⟩ = 0 := by unfold rangeE; simp [hm1, hm2, hl]
      have hO : rangeO ⟨six, hi, lo⟩ ⟨six, hi', lo'⟩ = rangeL six (AV.v ⟨six, hi, lo⟩) (AV.v ⟨six, hi', lo'⟩) := by unfold rangeO; rw [if_pos hE]
      rw [hO, hE]
      rw [hl] at CL
      have hle : AV.v ⟨six, hi, lo⟩ ≤ AV.v ⟨six, hi', lo'⟩ := by
        rcases Nat.lt_or_ge (AV.v ⟨six, hi', lo'⟩) (AV.v ⟨six, hi, lo⟩) with h | h
        · have := hln.2 h; rw [hl] at this; cases this
        · exact h
      have hlen := rangeL_len six (AV.v ⟨six, hi, lo⟩) (AV.v ⟨six, hi', lo'⟩)
      have CC := Lib.hid (fun (w : World) (base bF bL bO bK : Nat) (v : Value) (he : LookEnv w base bF bL bO bK ⟨six, hi, lo⟩ ⟨six, hi', lo'⟩ v 0 []) => look_any ⟨six, hi, lo⟩ ⟨six, hi', lo'⟩ ha hb rfl hle _ ⟨six, 0, 0, 0⟩ w base bF bL bO bK v 0 [] (top_ok six) rfl rfl (by rw [canonP_top]; omega) he)
      simp only [canonP_top] at CC
      generalize rangeL six (AV.v ⟨six, hi, lo⟩) (AV.v ⟨six, hi', lo'⟩) = R at *
      unfold PV.val at CC
      simp only at CC
      have CT := Lib.hid (fun w => top_any six w)
      clear hE hO hm1 hm2 ha hb hln hl hle hlen
      have hent : ∀ (args : Array Value) (w : World), (callFunc 84 args).run Try.prog w = .ok (.enter 84 args) w := fun _ _ => by kernel_rfl
      go_enter Try.func35, Try.ntmps35
      go_wp2_with fail
      refine (CM1.out _).mono ?_
      rintro e w1 ⟨rfl, hb1⟩
      obtain ⟨fc, ff⟩ := bcell hb1
      obtain ⟨s1, s2⟩ := bsize2 hb1
      have HB1 := Lib.hid (balloc2 hb1)
      have kF1 := ((Blk.new w 24 #[.bool six, .int .u64 hi, .int .u64 lo]).alloc (.cells #[.bool six, .int .u64 hi', .int .u64 lo'] 24)).below hb1 (by simp; omega)
      have kL1 := (Blk.new (w.alloc (.cells #[.bool six, .int .u64 hi, .int .u64 lo] 24)) 24 #[.bool six, .int .u64 hi', .int .u64 lo']).below hb1 (by simp)
      simp only [World.size_alloc] at kL1
      have HF1 := Lib.hid kF1
      have HL1 := Lib.hid kL1
      clear hb1 kF1 kL1
      go_wp2_with fail
      refine (CM2.out _).mono ?_
      rintro e w2 ⟨rfl, hb2⟩
      obtain ⟨fc2, ff2⟩ := bcell hb2
      have z2 := hb2.size
      have HB2 := Lib.hid (below_step HB1.out hb2)
      have t2a : w.heap.size < w2.heap.size := by omega
      have t2b : w.heap.size + 1 < w2.heap.size := by omega
      have HF2 := Lib.hid (HF1.out.below hb2 (by omega))
      have HL2 := Lib.hid (HL1.out.below hb2 (by omega))
      clear hb2
      go_wp2_with fail
      refine (CL.out _).mono ?_
      rintro e w3 ⟨rfl, hb3⟩
      obtain ⟨fc3, ff3⟩ := bcell hb3
      have z3 := hb3.size
      have HB3 := Lib.hid (below_step HB2.out hb3)
      have t3a : w.heap.size < w3.heap.size := by omega
      have t3b : w.heap.size + 1 < w3.heap.size := by omega
      have HF3 := Lib.hid (HF2.out.below hb3 (by omega))
      have HL3 := Lib.hid (HL2.out.below hb3 (by omega))
      clear hb3
      go_wp2_with fail
      obtain ⟨X, hX⟩ : ∃ X, ((w3.alloc (.cells #[.slice none 0 0] 30)).alloc (.cells #[lookV w.heap.size (w.heap.size + 1) w3.heap.size (w3.heap.size + 1)] 137)) = X := ⟨_, rfl⟩
      have kF : Blk X w.heap.size 24 #[.bool six, .int .u64 hi, .int .u64 lo] := by rw [← hX]; exact (HF3.out.alloc _).alloc _
      have kL : Blk X (w.heap.size + 1) 24 #[.bool six, .int .u64 hi', .int .u64 lo'] := by rw [← hX]; exact (HL3.out.alloc _).alloc _
      have kO : Blk X w3.heap.size 30 #[.slice none 0 0] := by rw [← hX]; exact (Blk.new _ _ _).alloc _
      have kK : Blk X (w3.heap.size + 1) 137 #[lookV w.heap.size (w.heap.size + 1) w3.heap.size (w3.heap.size + 1)] := by
        rw [← hX]
        have := Blk.new (w3.alloc (.cells #[.slice none 0 0] 30)) 137 #[lookV w.heap.size (w.heap.size + 1) w3.heap.size (w3.heap.size + 1)]
        simpa using this
      have hXb : Below w.heap.size w X := by rw [← hX]; exact (HB3.out.alloc (by omega) _).alloc (by simp; omega) _
      have HEX : Hid (LookEnv X w.heap.size w.heap.size (w.heap.size + 1) w3.heap.size (w3.heap.size + 1) ⟨six, hi, lo⟩ ⟨six, hi', lo'⟩ (.slice none 0 0) 0 []) := ⟨kF, kL, kO, kK, World.ownsRow_nil _ _ _ _, by omega⟩
      have HXB := Lib.hid hXb
      unfold lookV at hX
      rw [hX]
      have f0 := kF.cell 0
      have k0 := kK.cell 0
      simp [lookV] at f0 k0
      have lf := kF.lt
      have lk := kK.lt
      clear hX kF kL kO kK hXb
      go_region_with (first
        | (go_at_call 87; ((with_reducible refine (CT.out _).mono ?_); rintro e w4 ⟨rfl, hb4⟩; have E4 := Lib.hid ((HEX.out.same (X' := X.drew) rfl).below hb4); have B4 := Lib.hid ((HXB.out.drew).trans (hb4.mono HXB.out.size)); have k4 := E4.out.k.cell 0; simp [lookV] at k4; clear hb4))
        | (go_at_call 84; ((with_reducible refine (CC.out _ w.heap.size w.heap.size (w.heap.size + 1) w3.heap.size (w3.heap.size + 1) (.slice none 0 0) E4.out).mono ?_); rintro e w5 ⟨rfl, v', e5, kp5, st5⟩)))
      all_goals
        have o5 := e5.o.cell 0
        simp at o5
        have HO5 := Lib.hid e5.own
        have B5 : Hid (Below w.heap.size w w5) := B4.out.trans (kp5.below (by intro k hk; simp [Value.ownBlock] at hk; omega) B4.out.size)
        clear e5 kp5 st5
        go_wp2
        go_ret2
        exact ⟨_, rfl, by simpa using HO5.out, B5.out⟩
  · have hE : rangeE ⟨six, hi, lo⟩ ⟨six', hi', lo'⟩ = 6 := by unfold rangeE; simp [hm1, hm2, h6]
    rw [rangeO_bad (by rw [hE]; decide), hE]
    have hne2 : (six == six') = false := by simpa using h6
    have hne3 : (six != six') = true := by simpa using h6
    clear hE hm1 hm2
    go_enter Try.func35, Try.ntmps35
    go_wp2_with fail
    refine (CM1.out _).mono ?_
    rintro e w1 ⟨rfl, hb1⟩
    obtain ⟨fc, ff⟩ := bcell hb1
    obtain ⟨s1, s2⟩ := bsize2 hb1
    have HB1 := Lib.hid (balloc2 hb1)
    have kF1 := ((Blk.new w 24 #[.bool six, .int .u64 hi, .int .u64 lo]).alloc (.cells #[.bool six', .int .u64 hi', .int .u64 lo'] 24)).below hb1 (by simp; omega)
    have kL1 := (Blk.new (w.alloc (.cells #[.bool six, .int .u64 hi, .int .u64 lo] 24)) 24 #[.bool six', .int .u64 hi', .int .u64 lo']).below hb1 (by simp)
    simp only [World.size_alloc] at kL1
    have HF1 := Lib.hid kF1
    have HL1 := Lib.hid kL1
    clear hb1 kF1 kL1
    go_wp2_with fail
    refine (CM2.out _).mono ?_
    rintro e w2 ⟨rfl, hb2⟩
    obtain ⟨fc2, ff2⟩ := bcell hb2
    have z2 := hb2.size
    have HB2 := Lib.hid (below_step HB1.out hb2)
    have t2a : w.heap.size < w2.heap.size := by omega
    have t2b : w.heap.size + 1 < w2.heap.size := by omega
    have HF2 := Lib.hid (HF1.out.below hb2 (by omega))
    have HL2 := Lib.hid (HL1.out.below hb2 (by omega))
    clear hb2
    go_wp2
    go_ret2
    exact ⟨_, rfl, World.ownsRow_nil _ _ _ _, HB2.out⟩

end Go.Proofs.Ytonelibgaceflaa

namespace Go.Proofs.Ytonelibgaceflaa
open Go.ChangeShapes Go.WideShapes Go.ChangeAt Go.RowKit

set_option maxRecDepth 100000 in
set_option maxHeartbeats 800000 in
theorem samePres_any (A A' : Option Addr) (n c n' c' : Nat) (l l' : List PV) (w : World) (hz : l.length = n) (hz' : l'.length = n') (hm : n ≤ maxLen) (hm' : n' ≤ maxLen)
    (hr : Reads w w.heap.size 4 A n (l.flatMap PV.cells)) (hr' : Reads w w.heap.size 4 A' n' (l'.flatMap PV.cells)) :
    Calls Try.prog 36 #[.slice A n c, .slice A' n' c'] w fun e w' => e = .returned (.bool (decide (l = l'))) ∧ Below w.heap.size w w' := by
  unfold maxLen at hm hm'
  by_cases hnn : n = n'
  · subst hnn
    have HZ := Lib.hid hz
    have HZ' := Lib.hid hz'
    have HR := Lib.hid hr
    have HR' := Lib.hid hr'
    obtain ⟨d, hd⟩ : ∃ d, d = decide (l = l') := ⟨_, rfl⟩
    rw [← hd]
    have HD := Lib.hid hd
    clear hz hz' hr hr' hm' hd
    go_enter Try.func36, Try.ntmps36
    go_wp2
    go_loopw [5, 4] (fun i _ wr => ∃ k : Nat, k ≤ n ∧ i = .int .i64 k ∧ l.take k = l'.take k ∧ Below w.heap.size w wr) (fun i _ _ => n - (intOf i).toNat)
    case atStart => exact ⟨0, by omega, rfl, rfl, Below.refl _ _⟩
    case round =>
      obtain ⟨k, hk, rfl, hto, hb⟩ := hrel
      have HT := Lib.hid hto
      clear hto
      by_cases hlt : k < n
      · obtain ⟨ad, ⟨six, hi, lo, pn⟩, rfl, hlk, htk, hmem, hbk, hc0, hcj⟩ := HR.out.atS PV.cells_length HZ.out hlt
        have q0 := (hb.cell (p := ad.add (k * 4)) (by rw [block_of_add]; exact hbk)).trans (hc0 _ rfl)
        have q1 := (hb.cell (p := ⟨(ad.add (k * 4)).block, (ad.add (k * 4)).off + 1, none⟩) (by rw [block_of_add]; exact hbk)).trans (hcj 1 _ rfl)
        have q2 := (hb.cell (p := ⟨(ad.add (k * 4)).block, (ad.add (k * 4)).off + 2, none⟩) (by rw [block_of_add]; exact hbk)).trans (hcj 2 _ rfl)
        have q3 := (hb.cell (p := ⟨(ad.add (k * 4)).block, (ad.add (k * 4)).off + 3, none⟩) (by rw [block_of_add]; exact hbk)).trans (hcj 3 _ rfl)
        have HL := Lib.hid hlk
        have HTK := Lib.hid htk
        clear hlk htk hmem hc0 hcj
        obtain ⟨ad', ⟨six', hi', lo', pn'⟩, rfl, hlk, htk, hmem, hbk', hc0, hcj⟩ := HR'.out.atS PV.cells_length HZ'.out hlt
        have x0 := (hb.cell (p := ad'.add (k * 4)) (by rw [block_of_add]; exact hbk')).trans (hc0 _ rfl)
        have x1 := (hb.cell (p := ⟨(ad'.add (k * 4)).block, (ad'.add (k * 4)).off + 1, none⟩) (by rw [block_of_add]; exact hbk')).trans (hcj 1 _ rfl)
        have x2 := (hb.cell (p := ⟨(ad'.add (k * 4)).block, (ad'.add (k * 4)).off + 2, none⟩) (by rw [block_of_add]; exact hbk')).trans (hcj 2 _ rfl)
        have x3 := (hb.cell (p := ⟨(ad'.add (k * 4)).block, (ad'.add (k * 4)).off + 3, none⟩) (by rw [block_of_add]; exact hbk')).trans (hcj 3 _ rfl)
        have HL' := Lib.hid hlk
        have HTK' := Lib.hid htk
        have HEQ := fun w => eqPV ⟨six, hi, lo, pn⟩ ⟨six', hi', lo', pn'⟩ w
        have HBO := Lib.hid hb
        clear hlk htk hmem hc0 hcj hb
        by_cases he : (⟨six, hi, lo, pn⟩ : PV) = ⟨six', hi', lo', pn'⟩
        · have HN : Hid (l.take (k + 1) = l'.take (k + 1)) := by show _ = _; rw [HTK.out, HTK'.out, HT.out, he]
          rw [decide_eq_true he] at HEQ
          unfold PV.val at HEQ
          simp only at HEQ
          clear he
          go_wp2
          go_quiet (fail)
          go_wp2
          go_roundw
          case rel => exact ⟨k + 1, by omega, by go_num, HN.out, below_drewN HBO.out _⟩
          case measure => simp [intOf]; omega
        · have HN : Hid (d = false) := by
            show _ = _
            rw [HD.out, decide_eq_false_iff_not]
            intro h
            subst h
            rw [HL.out] at HL'
            have := HL'.out
            injection this with this
            exact he this
          rw [decide_eq_false he] at HEQ
          unfold PV.val at HEQ
          simp only at HEQ
          clear he
          go_wp2
          go_quiet (fail)
          go_wp2
          go_ret
          exact ⟨by rw [HN.out]; rfl, below_drewN HBO.out _⟩
      · obtain rfl : k = n := by omega
        have HN : Hid (d = true) := by
          show _ = _
          rw [HD.out, decide_eq_true_iff]
          have := HT.out
          rwa [List.take_of_length_le (by rw [HZ.out]; omega), List.take_of_length_le (by rw [HZ'.out]; omega)] at this
        go_wp2
        go_ret
        exact ⟨by rw [HN.out]; rfl, hb⟩
  · have hd : decide (l = l') = false := by rw [decide_eq_false_iff_not]; intro h; subst h; omega
    rw [hd]
    have hne : ¬ (n : Int) = n' := by omega
    clear hz hz' hr hr' hd
    go_enter Try.func36, Try.ntmps36
    go_wp2
    go_ret
    exact ⟨rfl, Below.refl _ _⟩

end Go.Proofs.Ytonelibgaceflaa

namespace Go.Proofs.Ytonelibgaceflaa
open Go.ChangeShapes Go.WideShapes Go.ChangeAt Go.RowKit

theorem reads_row {w : World} {base : Nat} {e : TypeId} {size n : Nat} {v : Value} {xs : List Value} (h : w.ownsRow base e size v n xs) : ∃ A c, v = .slice A n c ∧ Reads w w.heap.size size A n xs := by
  rcases h.2 with ⟨rfl, rfl⟩ | ⟨g, cap, cur, rfl, _⟩
  · exact ⟨none, 0, rfl, Reads.of_own h⟩
  · exact ⟨_, cap, rfl, Reads.of_own h⟩

set_option maxRecDepth 100000 in
set_option maxHeartbeats 800000 in
theorem cidrRanges_walk {H : Type} {enc : TypeId × Value → H} (W : World) (vs : Array Value) (ds : List (DataW H)) (ps : List MemPlace) (h : ArgsOk Try.prog [24, 24] H enc W vs.toList ds ps) :
    Calls Try.prog 6 vs W fun e W' => e = .returned (.bool true) ∧ Below W.heap.size W W' := by
  obtain ⟨hA, ⟨base, hval⟩, _, _⟩ := h
  obtain ⟨v0, v1, d0, d1, p0, p1, e0, _, _, h0, h1⟩ := trodAll_two hA
  obtain ⟨six, hi, lo, rfl, b1, b2⟩ := open_addr (hval 0 _ v0 rfl (by rw [e0]; rfl)) h0
  obtain ⟨six', hi', lo', rfl, b3, b4⟩ := open_addr (hval 1 _ v1 rfl (by rw [e0]; rfl)) h1
  obtain rfl : vs = #[.agg #[.bool six, .int .u64 hi, .int .u64 lo], .agg #[.bool six', .int .u64 hi', .int .u64 lo']] := by cases vs; simp_all
  have C1 := Lib.hid (fun (w : World) => cidrRange_any six hi lo six' hi' lo' w b1 b2 b3 b4)
  have C2 := Lib.hid (fun (w : World) => refRange_any six hi lo six' hi' lo' w b1 b2 b3 b4)
  unfold Ranged at C1 C2
  have hlen : (rangeO ⟨six, hi, lo⟩ ⟨six', hi', lo'⟩).length ≤ 258 := by
    unfold rangeO
    split
    · exact rangeL_len _ _ _
    · simp
  generalize rangeO ⟨six, hi, lo⟩ ⟨six', hi', lo'⟩ = L at *
  generalize rangeE ⟨six, hi, lo⟩ ⟨six', hi', lo'⟩ = E at *
  clear h0 h1 hA hval e0
  go_enter Try.func6, Try.ntmps6
  go_wp2_with fail
  refine (C1.out _).mono ?_
  rintro e w1 ⟨v, rfl, hown, hb1⟩
  obtain ⟨fc, ff⟩ := bcell hb1
  obtain ⟨s1, s2⟩ := bsize2 hb1
  have HB := Lib.hid (balloc2 hb1)
  have HO1 := Lib.hid hown
  clear hb1 hown
  go_wp2_with fail
  refine (C2.out _).mono ?_
  rintro e w2 ⟨v', rfl, hown2, hb2⟩
  have hO1 := own_below HO1.out hb2
  obtain ⟨A1, c1, rfl, hr1⟩ := reads_row hO1
  obtain ⟨A2, c2, rfl, hr2⟩ := reads_row hown2
  obtain ⟨fc2, ff2⟩ := bcell hb2
  have HB2 := Lib.hid (below_step HB.out hb2)
  have z2 := hb2.size
  have CS := Lib.hid (fun (w' : World) (hb : Below w2.heap.size w2 w') => samePres_any A1 A2 L.length c1 L.length c2 L L w' rfl rfl (by unfold maxLen; omega) (by unfold maxLen; omega) ((hr1.below hb).more hb.size) ((hr2.below hb).more hb.size))
  rw [decide_eq_true rfl] at CS
  clear hb2 hO1 hr1 hr2 hown2
  go_wp2_with fail
  refine (CS.out _ (Below.refl _ _)).mono ?_
  rintro e w3 ⟨rfl, hb3⟩
  have HB3 := Lib.hid (below_step HB2.out hb3)
  clear hb3
  go_wp2
  go_ret
  exact ⟨by simp, HB3.out⟩

end Go.Proofs.Ytonelibgaceflaa
