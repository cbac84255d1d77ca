/-
  
  
  
  
  
  
  
  
-/
import Derived.Test.YtonelibgaceflaaC2
import Derived.Test.YtonelibgaceflaaC3
import Derived.Test.YtonelibgaceflaaC4
import Derived.Test.YtonelibgaceflaaC10
import Derived.Test.YtonelibgaceflaaC1
import Derived.Test.YtonelibgaceflaaC9
import Derived.Test.YtonelibgaceflaaC8
import Derived.Test.YtonelibgaceflaaC6
import Derived.Test.YtonelibgaceflaaChecked
namespace Go.Proofs.Ytonelibgaceflaa
open Go.ChangeShapes Go.WideShapes Go.ChangeAt Go.RowKit

set_option maxRecDepth 100000 in
theorem over_pv (p q : PV) (w : World) (hp : p.Ok) (hq : q.Ok) : Calls Try.prog 137 #[p.val, q.val] w fun e w' => e = .returned (.bool (p.over q)) ∧ Below w.heap.size w w' := by
  have hn := ok_n hp
  have hw : wideI p.six ≤ 128 := by unfold wideI; split <;> omega
  have hm := Pfx.may hq
  obtain ⟨six, hi, lo, n⟩ := p
  obtain ⟨six', hi', lo', n'⟩ := q
  simp only at hn hw hm
  refine over_any six hi lo n six' hi' lo' n' w (Pfx.rhi hq) (Pfx.rlo hq) (fun h => ?_) (by omega) (by omega)
  subst h
  unfold mayB at hm
  simp at hm
  omega
theorem half_low_pv (p : PV) (w : World) (hp : p.Ok) : Calls Try.prog 155 #[p.val, .int .i64 0] w fun e w' => e = .returned p.low.val ∧ Below w.heap.size w w' := by
  have hn := ok_n hp
  have hw : wideI p.six ≤ 128 := by unfold wideI; split <;> omega
  obtain ⟨six, hi, lo, n⟩ := p
  simp only at hn hw
  exact half_low six hi lo n w hn.1 (by omega)
theorem half_high_pv (p : PV) (w : World) (hp : p.Ok) (hn : p.n < wideI p.six) : Calls Try.prog 155 #[p.val, .int .i64 1] w fun e w' => e = .returned p.high.val ∧ Below w.heap.size w w' := by
  have hn0 := ok_n hp
  have r1 := Pfx.rhi hp
  have r2 := Pfx.rlo hp
  obtain ⟨six, hi, lo, n⟩ := p
  simp only at hn hn0 r1 r2
  obtain ⟨m, rfl⟩ : ∃ m : Nat, n = m := ⟨n.toNat, by omega⟩
  exact half_high six hi lo m w r1 r2 hn

end Go.Proofs.Ytonelibgaceflaa

namespace Go.Proofs.Ytonelibgaceflaa
open Go.ChangeShapes Go.WideShapes Go.ChangeAt Go.RowKit

/-- A test on an element, as a function value: its contract in every later world. -/
def MatchTest (w : World) (fid : FuncId) (caps : Array Value) (f : MatchV → Bool) (l : List MatchV) : Prop :=
  ∀ r ∈ l, ∀ w', Below w.heap.size w w' → Calls Try.prog fid (#[.agg r.cells.toArray] ++ caps) w' fun e w'' => e = .returned (.bool (f r)) ∧ Below w'.heap.size w' w''

set_option maxRecDepth 100000 in
set_option maxHeartbeats 1600000 in
theorem idxMatch_any (A : Option Addr) (n c : Nat) (l : List MatchV) (f : MatchV → Bool) (fid : FuncId) (caps : Array Value) (w : World) (hent : ∀ (args : Array Value) (w : World), (callFunc fid args).run Try.prog w = .ok (.enter fid args) w) (hz : l.length = n) (hm : n ≤ maxLen) (hr : Reads w w.heap.size 9 A n (l.flatMap MatchV.cells))
    (ht : MatchTest w fid caps f l) :
    Calls Try.prog 206 #[.slice A n c, .func (.func fid) #[] caps] w fun e w' => e = .returned (.int .i64 (firstAt f l)) ∧ Below w.heap.size w w' := by
  have HZ := Lib.hid hz
  have HR := Lib.hid hr
  have HT := Lib.hid ht
  unfold maxLen at hm
  obtain ⟨r, hr0⟩ : ∃ r, r = firstAt f l := ⟨_, rfl⟩
  rw [← hr0]
  have H0 := Lib.hid hr0
  clear hz hr ht hr0
  go_enter Try.func206, Try.ntmps206
  go_wp2
  go_loopw [8, 5] (fun i _ wr => ∃ k : Nat, k ≤ n ∧ i = .int .i64 k ∧ NoneYet f l k ∧ Below w.heap.size w wr) (fun i _ _ => n - (intOf i).toNat)
  case atStart => exact ⟨0, by omega, rfl, noneYet_zero f l, Below.refl _ _⟩
  case round =>
    obtain ⟨k, hk, rfl, hto, hb⟩ := hrel
    have HN := Lib.hid hto
    clear hto
    by_cases hlt : k < n
    · obtain ⟨ad, ⟨six, hi, lo, n1, six2, hi2, lo2, n2, cl⟩, rfl, hlk, htk, hmem, hbk, hc0, hcj⟩ := HR.out.atS MatchV.cells_length HZ.out hlt
      have q0 := (hb.cell (p := ad.add (k * 9)) (by rw [block_of_add]; exact hbk)).trans (hc0 _ rfl)
      have q1 := (hb.cell (p := ⟨(ad.add (k * 9)).block, (ad.add (k * 9)).off + 1, none⟩) (by rw [block_of_add]; exact hbk)).trans (hcj 1 _ rfl)
      have q2 := (hb.cell (p := ⟨(ad.add (k * 9)).block, (ad.add (k * 9)).off + 2, none⟩) (by rw [block_of_add]; exact hbk)).trans (hcj 2 _ rfl)
      have q3 := (hb.cell (p := ⟨(ad.add (k * 9)).block, (ad.add (k * 9)).off + 3, none⟩) (by rw [block_of_add]; exact hbk)).trans (hcj 3 _ rfl)
      have q4 := (hb.cell (p := ⟨(ad.add (k * 9)).block, (ad.add (k * 9)).off + 4, none⟩) (by rw [block_of_add]; exact hbk)).trans (hcj 4 _ rfl)
      have q5 := (hb.cell (p := ⟨(ad.add (k * 9)).block, (ad.add (k * 9)).off + 5, none⟩) (by rw [block_of_add]; exact hbk)).trans (hcj 5 _ rfl)
      have q6 := (hb.cell (p := ⟨(ad.add (k * 9)).block, (ad.add (k * 9)).off + 6, none⟩) (by rw [block_of_add]; exact hbk)).trans (hcj 6 _ rfl)
      have q7 := (hb.cell (p := ⟨(ad.add (k * 9)).block, (ad.add (k * 9)).off + 7, none⟩) (by rw [block_of_add]; exact hbk)).trans (hcj 7 _ rfl)
      have q8 := (hb.cell (p := ⟨(ad.add (k * 9)).block, (ad.add (k * 9)).off + 8, none⟩) (by rw [block_of_add]; exact hbk)).trans (hcj 8 _ rfl)
      have HC : Hid (Calls Try.prog fid (#[.agg #[.bool six, .int .u64 hi, .int .u64 lo, .int .i64 n1, .bool six2, .int .u64 hi2, .int .u64 lo2, .int .i64 n2, .int .i64 cl]] ++ caps) wr fun e w'' => e = .returned (.bool (f ⟨six, hi, lo, n1, six2, hi2, lo2, n2, cl⟩)) ∧ Below wr.heap.size wr w'') := HT.out _ hmem wr hb
      have HL := Lib.hid hlk
      have HK := Lib.hid htk
      clear hlk htk hmem hbk hc0 hcj
      generalize hfv : f ⟨six, hi, lo, n1, six2, hi2, lo2, n2, cl⟩ = fv at *
      have HV := Lib.hid hfv
      clear hfv
      cases fv
      · have HN2 := Lib.hid (noneYet_succ HN.out HK.out HV.out)
        go_wp2_with fail
        refine HC.out.mono ?_
        rintro e w1 ⟨rfl, hb1⟩
        have HB := Lib.hid (below_step hb hb1)
        clear hb1
        go_wp2
        go_roundw
        case rel => exact ⟨k + 1, by omega, by go_num, HN2.out, HB.out⟩
        case measure => simp [intOf]; omega
      · have HN2 := Lib.hid (firstAt_at HN.out HL.out HV.out)
        go_wp2_with fail
        refine HC.out.mono ?_
        rintro e w1 ⟨rfl, hb1⟩
        have HB := Lib.hid (below_step hb hb1)
        clear hb1
        go_wp2
        go_ret
        exact ⟨ret_int (HN2.out.symm.trans H0.out.symm), HB.out⟩
    · obtain rfl : k = n := by omega
      have HN2 := Lib.hid (firstAt_end HN.out HZ.out)
      go_wp2
      go_ret
      exact ⟨ret_int (HN2.out.symm.trans H0.out.symm), hb⟩

set_option maxRecDepth 100000 in
set_option maxHeartbeats 400000 in
theorem hasMatch_any (A : Option Addr) (n c : Nat) (l : List MatchV) (f : MatchV → Bool) (fid : FuncId) (caps : Array Value) (w : World) (hent : ∀ (args : Array Value) (w : World), (callFunc fid args).run Try.prog w = .ok (.enter fid args) w) (hz : l.length = n) (hm : n ≤ maxLen) (hr : Reads w w.heap.size 9 A n (l.flatMap MatchV.cells))
    (ht : MatchTest w fid caps f l) :
    Calls Try.prog 161 #[.slice A n c, .func (.func fid) #[] caps] w fun e w' => e = .returned (.bool (l.any f)) ∧ Below w.heap.size w w' := by
  have HI := idxMatch_any A n c l f fid caps w hent hz hm hr ht
  clear hz hm hr ht hent
  rcases firstAt_cases f l with ⟨h1, h2⟩ | ⟨k, x, h1, h2, h3⟩
  · rw [show l.any f = false from by rw [List.any_eq_false]; exact fun x hx => by rw [h2 x hx]; simp]
    rw [h1] at HI
    have HI' := Lib.hid HI
    clear HI h1 h2
    go_enter Try.func161, Try.ntmps161
    go_wp2_with fail
    refine HI'.out.mono ?_
    rintro e w1 ⟨rfl, hb⟩
    go_wp2
    go_ret
    exact ⟨rfl, hb⟩
  · rw [show l.any f = true from by rw [List.any_eq_true]; exact ⟨x, List.mem_of_getElem? h2, h3⟩]
    rw [h1] at HI
    have HI' := Lib.hid HI
    clear HI h1 h2 h3
    go_enter Try.func161, Try.ntmps161
    go_wp2_with fail
    refine HI'.out.mono ?_
    rintro e w1 ⟨rfl, hb⟩
    go_wp2
    go_ret
    exact ⟨rfl, hb⟩

end Go.Proofs.Ytonelibgaceflaa

namespace Go.Proofs.Ytonelibgaceflaa
open Go.ChangeShapes Go.WideShapes Go.ChangeAt Go.RowKit

theorem infoMatch : (Try.prog.info? 145).map (fun i => (i.zero, i.size, i.bytes)) = some (some (.agg #[.bool false, .int .u64 0, .int .u64 0, .int .i64 0, .bool false, .int .u64 0, .int .u64 0, .int .i64 0, .int .i64 0]), 9, 72) := by kernel_rfl
def MatchV.p (m : MatchV) : PV := ⟨m.six, m.hi, m.lo, m.n⟩
def MatchV.q (m : MatchV) : PV := ⟨m.six2, m.hi2, m.lo2, m.n2⟩
def MatchV.two (m : MatchV) : PV × PV := (m.p, m.q)
/-- A slice of matches that may be. -/
structure GoodM (w : World) (A : Option Addr) (n c : Nat) (l : List MatchV) : Prop where
  len : l.length = n
  few : n ≤ 30
  ok : ∀ m ∈ l, m.p.Ok ∧ m.q.Ok
  reads : Reads w w.heap.size 9 A n (l.flatMap MatchV.cells)
theorem GoodM.below {w w' : World} {A : Option Addr} {n c : Nat} {l : List MatchV} (h : GoodM w A n c l) (hb : Below w.heap.size w w') : GoodM w' A n c l := ⟨h.len, h.few, h.ok, (h.reads.below hb).more hb.size⟩
/-- The matches that meet what lies between two prefixes. -/
def someM (p q : PV) (l : List MatchV) : List MatchV := l.filter fun m => meets p q m.two
theorem someM_snoc {p q : PV} {l : List MatchV} {k : Nat} {m : MatchV} (h : l.take (k + 1) = l.take k ++ [m]) : someM p q (l.take (k + 1)) = someM p q (l.take k) ++ if ((m.p.over p || p.over m.p) && (m.q.over q || q.over m.q)) = true then [m] else [] := by
  unfold someM
  rw [h, List.filter_append, List.filter_cons, List.filter_nil]
  rfl
theorem someM_le (p q : PV) (l : List MatchV) : (someM p q l).length ≤ l.length := List.length_filter_le _ _

/-- What the recursion hands down. -/
def WholeAt (K : Nat) : Prop :=
  ∀ (A : Option Addr) (n c : Nat) (l : List MatchV) (p q : PV) (w : World), p.Ok → q.Ok → p.k + q.k = K → GoodM w A n c l →
    Calls Try.prog 89 #[.slice A n c, p.val, q.val] w fun e w' => e = .returned (.bool (wholeB (l.map MatchV.two) p q)) ∧ Below w.heap.size w w'

set_option maxRecDepth 100000 in
set_option maxHeartbeats 800000 in
theorem wholeClosure_any (m : MatchV) (b : Nat) (n : Int) (w : World) (hc : w.cell? ⟨b, 3, none⟩ = some (.int .i64 n)) (hb : b < w.heap.size) :
    Calls Try.prog 162 #[.agg m.cells.toArray, .pointer (some ⟨b, 0, none⟩)] w fun e w' => e = .returned (.bool (decide (n < m.n))) ∧ Below w.heap.size w w' := by
  obtain ⟨ms, mh, ml, mn, ms2, mh2, ml2, mn2, mc⟩ := m
  show Calls _ _ #[.agg #[.bool ms, .int .u64 mh, .int .u64 ml, .int .i64 mn, .bool ms2, .int .u64 mh2, .int .u64 ml2, .int .i64 mn2, .int .i64 mc], .pointer (some ⟨b, 0, none⟩)] _ _
  simp only
  go_enter Try.func162, Try.ntmps162
  go_wp2
  go_ret
  exact ⟨ret_bool (by first | rfl | (rw [Bool.eq_iff_iff]; simp)), (Below.refl _ _).alloc (Nat.le_refl _) _⟩

set_option maxRecDepth 100000 in
set_option maxHeartbeats 6400000 in
theorem whole_step (K : Nat) (ih : ∀ K', K = K' + 1 → WholeAt K') : WholeAt K := by
  intro A n c l p q w hp hq hk hg
  obtain ⟨res, hres⟩ : ∃ res, wholeB (l.map MatchV.two) p q = res := ⟨_, rfl⟩
  rw [hres]
  have HRES := Lib.hid hres
  have HOK := Lib.hid hg.ok
  have HZ := Lib.hid hg.len
  have HR := Lib.hid hg.reads
  have hn30 := hg.few
  have HP := Lib.hid hp
  have HQ := Lib.hid hq
  have HIH := Lib.hid ih
  have HK := Lib.hid hk
  have CO := Lib.hid (fun (a b : PV) (w : World) (ha : a.Ok) (hb : b.Ok) => over_pv a b w ha hb)
  obtain ⟨ps, ph, pl, pn, hpe⟩ : ∃ ps ph pl pn, p = ⟨ps, ph, pl, pn⟩ := ⟨_, _, _, _, rfl⟩
  obtain ⟨qs, qh, ql, qn, hqe⟩ : ∃ qs qh ql qn, q = ⟨qs, qh, ql, qn⟩ := ⟨_, _, _, _, rfl⟩
  have hpv : p.val = .agg #[.bool ps, .int .u64 ph, .int .u64 pl, .int .i64 pn] := by rw [hpe]; rfl
  have hqv : q.val = .agg #[.bool qs, .int .u64 qh, .int .u64 ql, .int .i64 qn] := by rw [hqe]; rfl
  have HPE := Lib.hid hpe
  have HQE := Lib.hid hqe
  have HPV := Lib.hid hpv
  have HQV := Lib.hid hqv
  rw [hpv, hqv]
  clear hres hg hp hq ih hk hpe hqe hpv hqv
  go_enter Try.func89, Try.ntmps89
  go_wp2
  obtain ⟨X, hX⟩ : ∃ X, ((w.alloc (.cells #[.bool ps, .int .u64 ph, .int .u64 pl, .int .i64 pn] 35)).alloc (.cells #[.bool qs, .int .u64 qh, .int .u64 ql, .int .i64 qn] 35)) = X := ⟨_, rfl⟩
  have kP : Blk X w.heap.size 35 #[.bool ps, .int .u64 ph, .int .u64 pl, .int .i64 pn] := by rw [← hX]; exact (Blk.new _ _ _).alloc _
  have kQ : Blk X (w.heap.size + 1) 35 #[.bool qs, .int .u64 qh, .int .u64 ql, .int .i64 qn] := by
    rw [← hX]
    have := Blk.new (w.alloc (.cells #[.bool ps, .int .u64 ph, .int .u64 pl, .int .i64 pn] 35)) 35 #[.bool qs, .int .u64 qh, .int .u64 ql, .int .i64 qn]
    simpa using this
  have hx0 : Below w.heap.size w X := by rw [← hX]; exact ((Below.refl _ _).alloc (Nat.le_refl _) _).alloc (by simp) _
  have xsz : w.heap.size + 2 ≤ X.heap.size := by rw [← hX]; simp
  have HX := Lib.hid hx0
  have KP := Lib.hid kP
  have KQ := Lib.hid kQ
  rw [hX]
  clear hX kP kQ hx0
  go_loopw [14, 7, 9, 10, 11] (fun i v _ _ _ wr => ∃ k : Nat, k ≤ n ∧ i = .int .i64 k ∧ (l.take k).any (fun m => m.p.over p && m.q.over q) = false ∧ wr.ownsRow X.heap.size 145 9 v (someM p q (l.take k)).length ((someM p q (l.take k)).flatMap MatchV.cells) ∧ Below X.heap.size X wr) (fun i _ _ _ _ _ => n - (intOf i).toNat)
  case atStart => exact ⟨0, by omega, rfl, rfl, World.ownsRow_nil _ _ _ _, Below.refl _ _⟩
  case round =>
    obtain ⟨k, hk, rfl, hno, hown, hbx⟩ := hrel
    obtain ⟨wo, rfl⟩ : ∃ wo : World, wo = wr := ⟨_, rfl⟩
    have HNO := Lib.hid hno
    have HOW := Lib.hid hown
    have HBX := Lib.hid hbx
    have hbz := hbx.size
    have kp := KP.out.below hbx (by omega)
    have kq := KQ.out.below hbx (by omega)
    clear hno hown
    by_cases hlt : k < n
    · obtain ⟨ad, ⟨ms, mh, ml, mn, ms2, mh2, ml2, mn2, mc⟩, rfl, hlk, htk, hmem, hbk, hc0, hcj⟩ := HR.out.atS MatchV.cells_length HZ.out hlt
      have hb0 := HX.out.trans (hbx.mono HX.out.size)
      have q0 := (hb0.cell (p := ad.add (k * 9)) (by rw [block_of_add]; exact hbk)).trans (hc0 _ rfl)
      have q1 := (hb0.cell (p := ⟨(ad.add (k * 9)).block, (ad.add (k * 9)).off + 1, none⟩) (by rw [block_of_add]; exact hbk)).trans (hcj 1 _ rfl)
      have q2 := (hb0.cell (p := ⟨(ad.add (k * 9)).block, (ad.add (k * 9)).off + 2, none⟩) (by rw [block_of_add]; exact hbk)).trans (hcj 2 _ rfl)
      have q3 := (hb0.cell (p := ⟨(ad.add (k * 9)).block, (ad.add (k * 9)).off + 3, none⟩) (by rw [block_of_add]; exact hbk)).trans (hcj 3 _ rfl)
      have q4 := (hb0.cell (p := ⟨(ad.add (k * 9)).block, (ad.add (k * 9)).off + 4, none⟩) (by rw [block_of_add]; exact hbk)).trans (hcj 4 _ rfl)
      have q5 := (hb0.cell (p := ⟨(ad.add (k * 9)).block, (ad.add (k * 9)).off + 5, none⟩) (by rw [block_of_add]; exact hbk)).trans (hcj 5 _ rfl)
      have q6 := (hb0.cell (p := ⟨(ad.add (k * 9)).block, (ad.add (k * 9)).off + 6, none⟩) (by rw [block_of_add]; exact hbk)).trans (hcj 6 _ rfl)
      have q7 := (hb0.cell (p := ⟨(ad.add (k * 9)).block, (ad.add (k * 9)).off + 7, none⟩) (by rw [block_of_add]; exact hbk)).trans (hcj 7 _ rfl)
      have q8 := (hb0.cell (p := ⟨(ad.add (k * 9)).block, (ad.add (k * 9)).off + 8, none⟩) (by rw [block_of_add]; exact hbk)).trans (hcj 8 _ rfl)
      obtain ⟨o1, o2⟩ := HOK.out _ hmem
      have CF := Lib.hid (fun w => CO.out _ _ w o1 HP.out)
      have CT := Lib.hid (fun w => CO.out _ _ w o2 HQ.out)
      have CG1 := Lib.hid (fun w => CO.out _ _ w HP.out o1)
      have CG2 := Lib.hid (fun w => CO.out _ _ w HQ.out o2)
      rw [HPV.out] at CF CG1
      rw [HQV.out] at CT CG2
      unfold PV.val MatchV.p at CF CG1
      unfold PV.val MatchV.q at CT CG2
      simp only at CF CT CG1 CG2
      have HSM := Lib.hid (someM_snoc (p := p) (q := q) htk)
      have HAN : Hid ((l.take (k + 1)).any (fun m => m.p.over p && m.q.over q) = ((PV.over ⟨ms, mh, ml, mn⟩ p) && (PV.over ⟨ms2, mh2, ml2, mn2⟩ q))) := by
        show _ = _
        rw [htk, List.any_append, HNO.out, Bool.false_or, List.any_cons, List.any_nil, Bool.or_false]
        rfl
      have HEND : Hid ((PV.over ⟨ms, mh, ml, mn⟩ p && PV.over ⟨ms2, mh2, ml2, mn2⟩ q) = true → res = true) := by
        show _ → _
        intro h
        rw [Bool.and_eq_true] at h
        rw [← HRES.out]
        exact wholeB_over HP.out HQ.out o1 o2 (List.mem_map.2 ⟨_, hmem, rfl⟩) h.1 h.2
      unfold MatchV.p MatchV.q at HSM
      simp only at HSM
      have hle := someM_le p q (l.take k)
      have hle2 : (l.take k).length ≤ k := List.length_take_le _ _
      generalize PV.over ⟨ms, mh, ml, mn⟩ p = f at *
      generalize PV.over ⟨ms2, mh2, ml2, mn2⟩ q = t at *
      generalize PV.over p ⟨ms, mh, ml, mn⟩ = g1 at *
      generalize PV.over q ⟨ms2, mh2, ml2, mn2⟩ = g2 at *
      clear hlk htk hmem hbk hc0 hcj o1 o2 hb0
      go_wp2_with fail
      obtain ⟨M, hM⟩ : ∃ M, (wo.alloc (.cells #[.bool ms, .int .u64 mh, .int .u64 ml, .int .i64 mn, .bool ms2, .int .u64 mh2, .int .u64 ml2, .int .i64 mn2, .int .i64 mc] 145)) = M := ⟨_, rfl⟩
      have hmb : Below wo.heap.size wo M := by rw [← hM]; exact (Below.refl _ _).alloc (Nat.le_refl _) _
      have kM : Blk M wo.heap.size 145 #[.bool ms, .int .u64 mh, .int .u64 ml, .int .i64 mn, .bool ms2, .int .u64 mh2, .int .u64 ml2, .int .i64 mn2, .int .i64 mc] := by rw [← hM]; exact Blk.new _ _ _
      have kPM := kp.below hmb kp.lt
      have kQM := kq.below hmb kq.lt
      have hmz : wo.heap.size + 1 ≤ M.heap.size := by rw [← hM]; simp
      have p0 := kPM.cell 0
      have p1 := kPM.cell 1
      have p2 := kPM.cell 2
      have p3 := kPM.cell 3
      have u0 := kQM.cell 0
      have u1 := kQM.cell 1
      have u2 := kQM.cell 2
      have u3 := kQM.cell 3
      have m0 := kM.cell 0
      have m1 := kM.cell 1
      have m2 := kM.cell 2
      have m3 := kM.cell 3
      have m4 := kM.cell 4
      have m5 := kM.cell 5
      have m6 := kM.cell 6
      have m7 := kM.cell 7
      have m8 := kM.cell 8
      simp at p0 p1 p2 p3 u0 u1 u2 u3 m0 m1 m2 m3 m4 m5 m6 m7 m8
      have HOWM := Lib.hid (own_below HOW.out hmb)
      have HBX2 := Lib.hid (hbx.trans (hmb.mono hbx.size))
      rw [hM]
      clear q0 q1 q2 q3 q4 q5 q6 q7 q8 hM hmb kM kPM kQM kp kq HOW HBX hbx
      have HBX := Lib.hid HBX2.out
      clear HBX2
      have lm1 : w.heap.size < M.heap.size := by omega
      have lm2 : w.heap.size + 1 < M.heap.size := by omega
      have lm3 : wo.heap.size < M.heap.size := by omega
      go_region_held3 (fun w' => (∀ b o, b < M.heap.size → w'.cell? ⟨b, o, none⟩ = M.cell? ⟨b, o, none⟩) ∧ M.heap.size ≤ w'.heap.size ∧ Hid (Below M.heap.size M w'))
        ((first | assumption | exact keep0 _ | exact keep1 (by assumption) (by assumption) | exact keepD (by assumption) | exact keepB (by assumption) (by assumption) | exact keepA (by assumption) _ | exact ⟨fun _ _ _ => rfl, Nat.le_refl _, Below.refl _ _⟩))
        (first | (go_at_call 137; (with_reducible refine (CF.out _).mono ?_); rintro e w4 ⟨rfl, hb4⟩; obtain ⟨fc4, ff4⟩ := bcell hb4; have hz4 := hb4.size) | (go_at_call 137; (with_reducible refine (CT.out _).mono ?_); rintro e w5 ⟨rfl, hb5⟩; obtain ⟨fc5, ff5⟩ := bcell hb5; have hz5 := hb5.size))
      obtain ⟨fc6, z6, HH⟩ : (∀ b o, b < M.heap.size → w5.cell? ⟨b, o, none⟩ = M.cell? ⟨b, o, none⟩) ∧ M.heap.size ≤ w5.heap.size ∧ Hid (Below M.heap.size M w5) := by assumption
      cases f with
      | false =>
        cases t with
        | false =>
          cases g1 with
          | false =>
            cases g2 with
            | false =>
              go_wp2_with fail
              refine (CG1.out _).mono ?_
              rintro e wb1 ⟨rfl, hb⟩
              obtain ⟨fcwb1, zwb1, HBwb1⟩ := keep1 ⟨fc6, z6, HH⟩ hb
              clear hb
              have HOW2 := Lib.hid (own_below HOWM.out HBwb1.out)
              have HB2 := Lib.hid (HBX.out.trans (HBwb1.out.mono HBX.out.size))
              go_wp2
              go_roundw
              case rel => exact ⟨k + 1, by omega, by go_num, HAN.out.trans rfl, by rw [HSM.out, if_neg (by simp), List.append_nil]; exact HOW2.out, HB2.out⟩
              case measure => simp [intOf]; omega
            | true =>
              go_wp2_with fail
              refine (CG1.out _).mono ?_
              rintro e wb1 ⟨rfl, hb⟩
              obtain ⟨fcwb1, zwb1, HBwb1⟩ := keep1 ⟨fc6, z6, HH⟩ hb
              clear hb
              have HOW2 := Lib.hid (own_below HOWM.out HBwb1.out)
              have HB2 := Lib.hid (HBX.out.trans (HBwb1.out.mono HBX.out.size))
              go_wp2
              go_roundw
              case rel => exact ⟨k + 1, by omega, by go_num, HAN.out.trans rfl, by rw [HSM.out, if_neg (by simp), List.append_nil]; exact HOW2.out, HB2.out⟩
              case measure => simp [intOf]; omega
          | true =>
            cases g2 with
            | false =>
              go_wp2_with fail
              refine (CG1.out _).mono ?_
              rintro e wb1 ⟨rfl, hb⟩
              obtain ⟨fcwb1, zwb1, HBwb1⟩ := keep1 ⟨fc6, z6, HH⟩ hb
              clear hb
              go_wp2_with fail
              refine (CG2.out _).mono ?_
              rintro e wb2 ⟨rfl, hb⟩
              obtain ⟨fcwb2, zwb2, HBwb2⟩ := keep1 ⟨fcwb1, zwb1, HBwb1⟩ hb
              clear hb
              have HOW2 := Lib.hid (own_below HOWM.out HBwb2.out)
              have HB2 := Lib.hid (HBX.out.trans (HBwb2.out.mono HBX.out.size))
              go_wp2
              go_roundw
              case rel => exact ⟨k + 1, by omega, by go_num, HAN.out.trans rfl, by rw [HSM.out, if_neg (by simp), List.append_nil]; exact HOW2.out, HB2.out⟩
              case measure => simp [intOf]; omega
            | true =>
              go_wp2_with fail
              refine (CG1.out _).mono ?_
              rintro e wb1 ⟨rfl, hb⟩
              obtain ⟨fcwb1, zwb1, HBwb1⟩ := keep1 ⟨fc6, z6, HH⟩ hb
              clear hb
              go_wp2_with fail
              refine (CG2.out _).mono ?_
              rintro e wb2 ⟨rfl, hb⟩
              obtain ⟨fcwb2, zwb2, HBwb2⟩ := keep1 ⟨fcwb1, zwb1, HBwb1⟩ hb
              clear hb
              have HOWX := Lib.hid (own_below HOWM.out HBwb2.out)
              have zx := HBwb2.out.size
              go_wp2_with (at_builtin; go_loud (refine wpList_append_oneN rfl _ _ 60 rfl X.heap.size (.agg #[.bool false, .int .u64 0, .int .u64 0, .int .i64 0, .bool false, .int .u64 0, .int .u64 0, .int .i64 0, .int .i64 0]) 9 72 Try.underlying60 infoMatch rfl (by decide) _ _ _ rfl rfl ?c00110 HOWX.out ?c00111 rfl ?c00112 ?c00113 ?c00114 ?_))
              case c00110 => (try simp); done
              case c00111 => omega
              case c00112 => first | (intro u hu; simp at hu; (rcases hu with rfl | rfl | rfl | rfl | rfl | rfl | rfl | rfl | rfl <;> rfl); done) | exact ⟨rfl, rfl, rfl, rfl, rfl, rfl, rfl, rfl, rfl⟩
              case c00113 => unfold maxLen; omega
              case c00114 => omega
              intro v' w' hown' hb' hs' _
              have HOW2 : Hid (w'.ownsRow X.heap.size 145 9 v' (someM p q (l.take (k + 1))).length ((someM p q (l.take (k + 1))).flatMap MatchV.cells)) := by
                show World.ownsRow _ _ _ _ _ _ _
                rw [HSM.out, if_pos (by decide), List.length_append, List.flatMap_append]
                exact hown'
              have HB2 := Lib.hid ((HBX.out.trans (HBwb2.out.mono HBX.out.size)).trans hb')
              clear hown' hb'
              go_wp2
              go_roundw
              case rel => exact ⟨k + 1, by omega, by go_num, HAN.out.trans rfl, HOW2.out, HB2.out⟩
              case measure => simp [intOf]; omega
        | true =>
          cases g1 with
          | false =>
            cases g2 with
            | false =>
              go_wp2_with fail
              refine (CG1.out _).mono ?_
              rintro e wb1 ⟨rfl, hb⟩
              obtain ⟨fcwb1, zwb1, HBwb1⟩ := keep1 ⟨fc6, z6, HH⟩ hb
              clear hb
              have HOW2 := Lib.hid (own_below HOWM.out HBwb1.out)
              have HB2 := Lib.hid (HBX.out.trans (HBwb1.out.mono HBX.out.size))
              go_wp2
              go_roundw
              case rel => exact ⟨k + 1, by omega, by go_num, HAN.out.trans rfl, by rw [HSM.out, if_neg (by simp), List.append_nil]; exact HOW2.out, HB2.out⟩
              case measure => simp [intOf]; omega
            | true =>
              go_wp2_with fail
              refine (CG1.out _).mono ?_
              rintro e wb1 ⟨rfl, hb⟩
              obtain ⟨fcwb1, zwb1, HBwb1⟩ := keep1 ⟨fc6, z6, HH⟩ hb
              clear hb
              have HOW2 := Lib.hid (own_below HOWM.out HBwb1.out)
              have HB2 := Lib.hid (HBX.out.trans (HBwb1.out.mono HBX.out.size))
              go_wp2
              go_roundw
              case rel => exact ⟨k + 1, by omega, by go_num, HAN.out.trans rfl, by rw [HSM.out, if_neg (by simp), List.append_nil]; exact HOW2.out, HB2.out⟩
              case measure => simp [intOf]; omega
          | true =>
            cases g2 with
            | false =>
              go_wp2_with fail
              refine (CG1.out _).mono ?_
              rintro e wb1 ⟨rfl, hb⟩
              obtain ⟨fcwb1, zwb1, HBwb1⟩ := keep1 ⟨fc6, z6, HH⟩ hb
              clear hb
              have HOWX := Lib.hid (own_below HOWM.out HBwb1.out)
              have zx := HBwb1.out.size
              go_wp2_with (at_builtin; go_loud (refine wpList_append_oneN rfl _ _ 60 rfl X.heap.size (.agg #[.bool false, .int .u64 0, .int .u64 0, .int .i64 0, .bool false, .int .u64 0, .int .u64 0, .int .i64 0, .int .i64 0]) 9 72 Try.underlying60 infoMatch rfl (by decide) _ _ _ rfl rfl ?c01100 HOWX.out ?c01101 rfl ?c01102 ?c01103 ?c01104 ?_))
              case c01100 => (try simp); done
              case c01101 => omega
              case c01102 => first | (intro u hu; simp at hu; (rcases hu with rfl | rfl | rfl | rfl | rfl | rfl | rfl | rfl | rfl <;> rfl); done) | exact ⟨rfl, rfl, rfl, rfl, rfl, rfl, rfl, rfl, rfl⟩
              case c01103 => unfold maxLen; omega
              case c01104 => omega
              intro v' w' hown' hb' hs' _
              have HOW2 : Hid (w'.ownsRow X.heap.size 145 9 v' (someM p q (l.take (k + 1))).length ((someM p q (l.take (k + 1))).flatMap MatchV.cells)) := by
                show World.ownsRow _ _ _ _ _ _ _
                rw [HSM.out, if_pos (by decide), List.length_append, List.flatMap_append]
                exact hown'
              have HB2 := Lib.hid ((HBX.out.trans (HBwb1.out.mono HBX.out.size)).trans hb')
              clear hown' hb'
              go_wp2
              go_roundw
              case rel => exact ⟨k + 1, by omega, by go_num, HAN.out.trans rfl, HOW2.out, HB2.out⟩
              case measure => simp [intOf]; omega
            | true =>
              go_wp2_with fail
              refine (CG1.out _).mono ?_
              rintro e wb1 ⟨rfl, hb⟩
              obtain ⟨fcwb1, zwb1, HBwb1⟩ := keep1 ⟨fc6, z6, HH⟩ hb
              clear hb
              have HOWX := Lib.hid (own_below HOWM.out HBwb1.out)
              have zx := HBwb1.out.size
              go_wp2_with (at_builtin; go_loud (refine wpList_append_oneN rfl _ _ 60 rfl X.heap.size (.agg #[.bool false, .int .u64 0, .int .u64 0, .int .i64 0, .bool false, .int .u64 0, .int .u64 0, .int .i64 0, .int .i64 0]) 9 72 Try.underlying60 infoMatch rfl (by decide) _ _ _ rfl rfl ?c01110 HOWX.out ?c01111 rfl ?c01112 ?c01113 ?c01114 ?_))
              case c01110 => (try simp); done
              case c01111 => omega
              case c01112 => first | (intro u hu; simp at hu; (rcases hu with rfl | rfl | rfl | rfl | rfl | rfl | rfl | rfl | rfl <;> rfl); done) | exact ⟨rfl, rfl, rfl, rfl, rfl, rfl, rfl, rfl, rfl⟩
              case c01113 => unfold maxLen; omega
              case c01114 => omega
              intro v' w' hown' hb' hs' _
              have HOW2 : Hid (w'.ownsRow X.heap.size 145 9 v' (someM p q (l.take (k + 1))).length ((someM p q (l.take (k + 1))).flatMap MatchV.cells)) := by
                show World.ownsRow _ _ _ _ _ _ _
                rw [HSM.out, if_pos (by decide), List.length_append, List.flatMap_append]
                exact hown'
              have HB2 := Lib.hid ((HBX.out.trans (HBwb1.out.mono HBX.out.size)).trans hb')
              clear hown' hb'
              go_wp2
              go_roundw
              case rel => exact ⟨k + 1, by omega, by go_num, HAN.out.trans rfl, HOW2.out, HB2.out⟩
              case measure => simp [intOf]; omega
      | true =>
        cases t with
        | false =>
          cases g1 with
          | false =>
            cases g2 with
            | false =>
              go_wp2_with fail
              refine (CG2.out _).mono ?_
              rintro e wb1 ⟨rfl, hb⟩
              obtain ⟨fcwb1, zwb1, HBwb1⟩ := keep1 ⟨fc6, z6, HH⟩ hb
              clear hb
              have HOW2 := Lib.hid (own_below HOWM.out HBwb1.out)
              have HB2 := Lib.hid (HBX.out.trans (HBwb1.out.mono HBX.out.size))
              go_wp2
              go_roundw
              case rel => exact ⟨k + 1, by omega, by go_num, HAN.out.trans rfl, by rw [HSM.out, if_neg (by simp), List.append_nil]; exact HOW2.out, HB2.out⟩
              case measure => simp [intOf]; omega
            | true =>
              go_wp2_with fail
              refine (CG2.out _).mono ?_
              rintro e wb1 ⟨rfl, hb⟩
              obtain ⟨fcwb1, zwb1, HBwb1⟩ := keep1 ⟨fc6, z6, HH⟩ hb
              clear hb
              have HOWX := Lib.hid (own_below HOWM.out HBwb1.out)
              have zx := HBwb1.out.size
              go_wp2_with (at_builtin; go_loud (refine wpList_append_oneN rfl _ _ 60 rfl X.heap.size (.agg #[.bool false, .int .u64 0, .int .u64 0, .int .i64 0, .bool false, .int .u64 0, .int .u64 0, .int .i64 0, .int .i64 0]) 9 72 Try.underlying60 infoMatch rfl (by decide) _ _ _ rfl rfl ?c10010 HOWX.out ?c10011 rfl ?c10012 ?c10013 ?c10014 ?_))
              case c10010 => (try simp); done
              case c10011 => omega
              case c10012 => first | (intro u hu; simp at hu; (rcases hu with rfl | rfl | rfl | rfl | rfl | rfl | rfl | rfl | rfl <;> rfl); done) | exact ⟨rfl, rfl, rfl, rfl, rfl, rfl, rfl, rfl, rfl⟩
              case c10013 => unfold maxLen; omega
              case c10014 => omega
              intro v' w' hown' hb' hs' _
              have HOW2 : Hid (w'.ownsRow X.heap.size 145 9 v' (someM p q (l.take (k + 1))).length ((someM p q (l.take (k + 1))).flatMap MatchV.cells)) := by
                show World.ownsRow _ _ _ _ _ _ _
                rw [HSM.out, if_pos (by decide), List.length_append, List.flatMap_append]
                exact hown'
              have HB2 := Lib.hid ((HBX.out.trans (HBwb1.out.mono HBX.out.size)).trans hb')
              clear hown' hb'
              go_wp2
              go_roundw
              case rel => exact ⟨k + 1, by omega, by go_num, HAN.out.trans rfl, HOW2.out, HB2.out⟩
              case measure => simp [intOf]; omega
          | true =>
            cases g2 with
            | false =>
              go_wp2_with fail
              refine (CG2.out _).mono ?_
              rintro e wb1 ⟨rfl, hb⟩
              obtain ⟨fcwb1, zwb1, HBwb1⟩ := keep1 ⟨fc6, z6, HH⟩ hb
              clear hb
              have HOW2 := Lib.hid (own_below HOWM.out HBwb1.out)
              have HB2 := Lib.hid (HBX.out.trans (HBwb1.out.mono HBX.out.size))
              go_wp2
              go_roundw
              case rel => exact ⟨k + 1, by omega, by go_num, HAN.out.trans rfl, by rw [HSM.out, if_neg (by simp), List.append_nil]; exact HOW2.out, HB2.out⟩
              case measure => simp [intOf]; omega
            | true =>
              go_wp2_with fail
              refine (CG2.out _).mono ?_
              rintro e wb1 ⟨rfl, hb⟩
              obtain ⟨fcwb1, zwb1, HBwb1⟩ := keep1 ⟨fc6, z6, HH⟩ hb
              clear hb
              have HOWX := Lib.hid (own_below HOWM.out HBwb1.out)
              have zx := HBwb1.out.size
              go_wp2_with (at_builtin; go_loud (refine wpList_append_oneN rfl _ _ 60 rfl X.heap.size (.agg #[.bool false, .int .u64 0, .int .u64 0, .int .i64 0, .bool false, .int .u64 0, .int .u64 0, .int .i64 0, .int .i64 0]) 9 72 Try.underlying60 infoMatch rfl (by decide) _ _ _ rfl rfl ?c10110 HOWX.out ?c10111 rfl ?c10112 ?c10113 ?c10114 ?_))
              case c10110 => (try simp); done
              case c10111 => omega
              case c10112 => first | (intro u hu; simp at hu; (rcases hu with rfl | rfl | rfl | rfl | rfl | rfl | rfl | rfl | rfl <;> rfl); done) | exact ⟨rfl, rfl, rfl, rfl, rfl, rfl, rfl, rfl, rfl⟩
              case c10113 => unfold maxLen; omega
              case c10114 => omega
              intro v' w' hown' hb' hs' _
              have HOW2 : Hid (w'.ownsRow X.heap.size 145 9 v' (someM p q (l.take (k + 1))).length ((someM p q (l.take (k + 1))).flatMap MatchV.cells)) := by
                show World.ownsRow _ _ _ _ _ _ _
                rw [HSM.out, if_pos (by decide), List.length_append, List.flatMap_append]
                exact hown'
              have HB2 := Lib.hid ((HBX.out.trans (HBwb1.out.mono HBX.out.size)).trans hb')
              clear hown' hb'
              go_wp2
              go_roundw
              case rel => exact ⟨k + 1, by omega, by go_num, HAN.out.trans rfl, HOW2.out, HB2.out⟩
              case measure => simp [intOf]; omega
        | true =>
          have hr := HEND.out rfl
          have HRT := Lib.hid hr
          clear hr
          go_wp2
          go_ret
          exact ⟨ret_bool HRT.out.symm, (HX.out.trans (HBX.out.mono HX.out.size)).trans (HH.out.mono (by omega))⟩
    · obtain rfl : k = n := by omega
      have hno := HNO.out
      have hown := HOW.out
      rw [List.take_of_length_le (by rw [HZ.out]; omega)] at hno hown
      obtain ⟨A5, c5, rfl, hc5, hr5⟩ := own_reads hown
      have hms : ∀ m ∈ l.map MatchV.two, m.1.Ok ∧ m.2.Ok := by
        intro m hm
        obtain ⟨m', hm', rfl⟩ := List.mem_map.1 hm
        exact HOK.out m' hm'
      have hsw := wholeB_some (some := (someM p q l).map MatchV.two) HP.out HQ.out hms (by
        intro m
        constructor
        · intro hm
          obtain ⟨m', hm', rfl⟩ := List.mem_map.1 hm
          obtain ⟨h1, h2⟩ := List.mem_filter.1 hm'
          exact ⟨List.mem_map.2 ⟨m', h1, rfl⟩, h2⟩
        · rintro ⟨hm, h2⟩
          obtain ⟨m', hm', rfl⟩ := List.mem_map.1 hm
          exact List.mem_map.2 ⟨m', List.mem_filter.2 ⟨hm', h2⟩, rfl⟩)
      rw [HRES.out] at hsw
      have hsub : ∀ m ∈ someM p q l, m ∈ l ∧ meets p q m.two = true := fun m hm => List.mem_filter.1 hm
      have hle := someM_le p q l
      rw [HZ.out] at hle
      have HB0 := Lib.hid (HX.out.trans (HBX.out.mono HX.out.size))
      generalize someM p q l = S at *
      by_cases hS : S = []
      · subst hS
        have hr : Hid (res = false) := by
          show _ = _
          rw [hsw]
          exact wholeB_none HP.out HQ.out (fun m hm => by cases hm) (fun m hm => by cases hm)
        clear hno hown hr5 hms hsw hsub kp kq hbx
        go_wp2
        go_ret
        exact ⟨ret_bool hr.out.symm, HB0.out⟩
      · have hpos : 0 < S.length := List.length_pos_iff.2 hS
        have hgood : GoodM wo A5 S.length c5 S := ⟨rfl, by omega, fun m hm => HOK.out m (hsub m hm).1, hr5⟩
        have HGOOD := Lib.hid hgood
        have hT : MatchTest wo 162 #[.pointer (some ⟨w.heap.size, 0, none⟩)] (fun m => decide (p.n < m.n)) S := by
          intro m hm w' hb'
          have h3 := (kp.below hb' kp.lt).cell 3
          rw [HPE.out]
          exact wholeClosure_any m _ _ w' (by simpa using h3) (kp.below hb' kp.lt).lt
        have CC := Lib.hid (hasMatch_any A5 S.length c5 S _ 162 _ wo (fun args w => by kernel_rfl) rfl (by unfold maxLen; omega) hr5 hT)
        have hlt0 : ((S.length : Int) == 0) = false := by simp; exact hS
        have hposI : (0 : Int) < S.length := by omega
        have KPO := Lib.hid kp
        have KQO := Lib.hid kq
        obtain ⟨anyv, hany⟩ : ∃ b, S.any (fun m => decide (p.n < m.n)) = b := ⟨_, rfl⟩
        rw [hany] at CC
        -- a match that meets, and is not over both
        have hpick : ∀ m ∈ S, (p.over m.p = true ∧ p.n < m.p.n) ∨ (q.over m.q = true ∧ q.n < m.q.n) := by
          intro m hm
          obtain ⟨h1, h2⟩ := hsub m hm
          obtain ⟨o1, o2⟩ := HOK.out m h1
          have h3 := List.any_eq_false.1 hno m h1
          have h3' : ¬ (m.p.over p = true ∧ m.q.over q = true) := fun h => h3 (by rw [h.1, h.2]; rfl)
          have h2' : ((m.p.over p || p.over m.p) && (m.q.over q || q.over m.q)) = true := h2
          rw [Bool.and_eq_true, Bool.or_eq_true, Bool.or_eq_true] at h2'
          by_cases hf : m.p.over p = true
          · have ht : ¬ m.q.over q = true := fun h => h3' ⟨hf, h⟩
            have hg : q.over m.q = true := h2'.2.resolve_left ht
            exact .inr ⟨hg, over_longer HQ.out o2 hg ht⟩
          · have hg : p.over m.p = true := h2'.1.resolve_left hf
            exact .inl ⟨hg, over_longer HP.out o1 hg hf⟩
        obtain ⟨K', rfl, hcase⟩ : ∃ K', K = K' + 1 ∧ ((anyv = true ∧ p.n < wideI p.six) ∨ (anyv = false ∧ q.n < wideI q.six)) := by
          cases anyv with
          | true =>
            obtain ⟨m, hm, hmn⟩ := List.any_eq_true.1 hany
            have hmn : p.n < m.n := by simpa using hmn
            have hmo : p.over m.p = true := by
              obtain ⟨h1, h2⟩ := hsub m hm
              obtain ⟨o1, o2⟩ := HOK.out m h1
              have h2' : ((m.p.over p || p.over m.p) && (m.q.over q || q.over m.q)) = true := h2
              rw [Bool.and_eq_true, Bool.or_eq_true, Bool.or_eq_true] at h2'
              rcases h2'.1 with h | h
              · have h4 := over_n o1 HP.out h
                have h5 : p.n < m.p.n := hmn
                omega
              · exact h
            have hroom := longer_room HP.out (HOK.out m (hsub m hm).1).1 hmo hmn
            have := (low_num HP.out hroom).2.2
            have hKK := HK.out
            exact ⟨K - 1, by omega, .inl ⟨rfl, hroom⟩⟩
          | false =>
            obtain ⟨m, hm⟩ := List.exists_mem_of_ne_nil S hS
            have h3 := List.any_eq_false.1 hany m hm
            have h3 : ¬ p.n < m.n := by simpa using h3
            rcases hpick m hm with ⟨_, h⟩ | ⟨h1, h2⟩
            · exact absurd h h3
            · have hroom := longer_room HQ.out (HOK.out m (hsub m hm).1).2 h1 h2
              have := (low_num HQ.out hroom).2.2
              have hKK := HK.out
              exact ⟨K - 1, by omega, .inr ⟨rfl, hroom⟩⟩
        have HCASE := Lib.hid hcase
        have HSW := Lib.hid hsw
        clear hno hown hr5 hms hsw hsub kp kq hbx hgood hT hpick hany hcase hS
        go_wp2_with fail
        refine CC.out.mono ?_
        rintro e w7 ⟨rfl, hb7⟩
        have kp7 := KPO.out.below hb7 KPO.out.lt
        have kq7 := KQO.out.below hb7 KQO.out.lt
        have p0 := kp7.cell 0
        have p1 := kp7.cell 1
        have p2 := kp7.cell 2
        have p3 := kp7.cell 3
        have u0 := kq7.cell 0
        have u1 := kq7.cell 1
        have u2 := kq7.cell 2
        have u3 := kq7.cell 3
        simp at p0 p1 p2 p3 u0 u1 u2 u3
        have l7a := kp7.lt
        have l7b := kq7.lt
        have HB7 := Lib.hid (below_step HB0.out hb7)
        have HG7 := Lib.hid (HGOOD.out.below hb7)
        clear hb7 kp7 kq7 CC
        rcases HCASE.out with ⟨rfl, hroom⟩ | ⟨rfl, hroom⟩
        · obtain ⟨l1, _, l3⟩ := low_num HP.out hroom
          obtain ⟨g1, _, g3⟩ := high_num HP.out hroom
          have hl : Hid (res = (wholeB (S.map MatchV.two) p.low q && wholeB (S.map MatchV.two) p.high q)) := by show _ = _; rw [HSW.out, wholeB_from HP.out hroom]
          have CH0 := Lib.hid (fun w => half_low_pv p w HP.out)
          have CH1 := Lib.hid (fun w => half_high_pv p w HP.out hroom)
          have IW1 := Lib.hid (fun (w' : World) (hb : Below w7.heap.size w7 w') => HIH.out K' rfl A5 S.length c5 S p.low q w' l1 HQ.out (by have := HK.out; omega) (HG7.out.below hb))
          have IW2 := Lib.hid (fun (w' : World) (hb : Below w7.heap.size w7 w') => HIH.out K' rfl A5 S.length c5 S p.high q w' g1 HQ.out (by have := HK.out; omega) (HG7.out.below hb))
          obtain ⟨sh, hsh⟩ : ∃ sh, setHi p.six p.hi p.n.toNat = sh := ⟨_, rfl⟩
          obtain ⟨sl, hsl⟩ : ∃ sl, setLo p.six p.lo p.n.toNat = sl := ⟨_, rfl⟩
          have hlv : p.low.val = .agg #[.bool ps, .int .u64 ph, .int .u64 pl, .int .i64 (pn + 1)] := by rw [HPE.out]; rfl
          have hhv : p.high.val = .agg #[.bool ps, .int .u64 sh, .int .u64 sl, .int .i64 (pn + 1)] := by rw [← hsh, ← hsl, HPE.out]; rfl
          rw [HPV.out, hlv] at CH0
          rw [HPV.out, hhv] at CH1
          rw [hlv, HQV.out] at IW1
          rw [hhv, HQV.out] at IW2
          generalize wholeB (S.map MatchV.two) p.low q = x at *
          generalize wholeB (S.map MatchV.two) p.high q = y at *
          clear l1 g1 l3 g3 hroom hsh hsl hlv hhv
          cases x with
          | false =>
            have hres : Hid (res = false) := by show _ = _; rw [hl.out]; rfl
            clear hl
            go_wp2_with fail
            refine wp_region_held_drew (S := (fun w' => (∀ b o, b < w7.heap.size → w'.cell? ⟨b, o, none⟩ = w7.cell? ⟨b, o, none⟩) ∧ w7.heap.size ≤ w'.heap.size ∧ Hid (Below w7.heap.size w7 w'))) (by kernel_rfl) ?_ (fun hHeld => ?_)
            · (first | assumption | exact keep0 _ | exact keep1 (by assumption) (by assumption) | exact keepD (by assumption) | exact keepB (by assumption) (by assumption) | exact keepA (by assumption) _ | exact ⟨fun _ _ _ => rfl, Nat.le_refl _, Below.refl _ _⟩)
            refine wpAnyH_take (i := 0) (v := ?_) rfl (by kernel_rfl) (by kernel_rfl) (by kernel_rfl) (fun _ _ _ h => h) (Or.inl ⟨by rfl, ?_⟩) (by assumption) ?_
            rotate_left
            · (intro w hSw; (try dsimp only at hSw); go_simp <;> with_reducible rfl)
            (try simp only [Act.put, List.getElem_toArray, List.getElem_cons_zero, List.setIfInBounds_toArray, List.set_cons_zero, List.set_cons_succ])
            refine wpAnyH_take (i := 1) (v := ?_) rfl (by kernel_rfl) (by kernel_rfl) (by kernel_rfl) (fun _ _ _ h => h) (Or.inl ⟨by rfl, ?_⟩) (by assumption) ?_
            rotate_left
            · (intro w hSw; (try dsimp only at hSw); go_simp <;> with_reducible rfl)
            (try simp only [Act.put, List.getElem_toArray, List.getElem_cons_succ, List.getElem_cons_zero, List.setIfInBounds_toArray, List.set_cons_zero, List.set_cons_succ])
            refine wpAnyH_take (i := 3) (v := ?_) rfl (by kernel_rfl) (by kernel_rfl) (by kernel_rfl) (fun _ _ _ h => h) (Or.inl ⟨by rfl, ?_⟩) (by assumption) ?_
            rotate_left
            · (intro w hSw; (try dsimp only at hSw); go_simp <;> with_reducible rfl)
            (try simp only [Act.put, List.getElem_toArray, List.getElem_cons_succ, List.getElem_cons_zero, List.setIfInBounds_toArray, List.set_cons_zero, List.set_cons_succ])
            refine wpAnyH_ready (rs := [2]) (by kernel_rfl) (by simp) ?_
            refine AllReadyH.cons rfl (fun K hK => ?_) AllReadyH.nil
            go_simp
            (go_at_call 155; (with_reducible refine (CH0.out _).mono ?_); rintro e w8 ⟨rfl, hb8⟩; obtain ⟨fc8, ff8⟩ := bcell hb8; have hz8 := hb8.size)
            first
              | refine hK.out _ _ ?_ (fun hHeld => ?_)
              | (go_wp2_with fail; refine hK.out _ _ ?_ (fun hHeld => ?_))
            · (first | assumption | exact keep0 _ | exact keep1 (by assumption) (by assumption) | exact keepD (by assumption) | exact keepB (by assumption) (by assumption) | exact keepA (by assumption) _ | exact ⟨fun _ _ _ => rfl, Nat.le_refl _, Below.refl _ _⟩)
            clear hK K
            (try simp only [Act.put, List.getElem_toArray, List.getElem_cons_succ, List.getElem_cons_zero, List.setIfInBounds_toArray, List.set_cons_zero, List.set_cons_succ])
            refine wpAnyH_ready (rs := [4]) (by kernel_rfl) (by simp) ?_
            refine AllReadyH.cons rfl (fun K hK => ?_) AllReadyH.nil
            go_simp
            (go_at_call 89; (with_reducible refine (IW1.out _ ?hb1).mono ?_); (case hb1 => exact keepBelow (by assumption)); rintro e w10 ⟨rfl, hb10⟩; obtain ⟨fc10, ff10⟩ := bcell hb10; have hz10 := hb10.size)
            first
              | refine hK.out _ _ ?_ (fun hHeld => ?_)
              | (go_wp2_with fail; refine hK.out _ _ ?_ (fun hHeld => ?_))
            · (first | assumption | exact keep0 _ | exact keep1 (by assumption) (by assumption) | exact keepD (by assumption) | exact keepB (by assumption) (by assumption) | exact keepA (by assumption) _ | exact ⟨fun _ _ _ => rfl, Nat.le_refl _, Below.refl _ _⟩)
            clear hK K
            (try simp only [Act.put, List.getElem_toArray, List.getElem_cons_succ, List.getElem_cons_zero, List.setIfInBounds_toArray, List.set_cons_zero, List.set_cons_succ])
            refine wpAnyH_take (i := 5) (v := ?_) rfl (by kernel_rfl) (by kernel_rfl) (by kernel_rfl) (fun _ _ _ h => h) (Or.inl ⟨by rfl, ?_⟩) (by assumption) ?_
            rotate_left
            · (intro w hSw; (try dsimp only at hSw); go_simp <;> with_reducible rfl)
            (try simp only [Act.put, List.getElem_toArray, List.getElem_cons_succ, List.getElem_cons_zero, List.setIfInBounds_toArray, List.set_cons_zero, List.set_cons_succ])
            refine wpAnyH_take (i := 6) (v := undef) rfl (by kernel_rfl) (by kernel_rfl) (by kernel_rfl) (fun _ _ _ h => h) (Or.inr ⟨by rfl, rfl⟩) (by assumption) ?_
            (try simp only [Act.put, List.getElem_toArray, List.getElem_cons_succ, List.getElem_cons_zero, List.setIfInBounds_toArray, List.set_cons_zero, List.set_cons_succ])
            refine wpAnyH_take (i := 7) (v := undef) rfl (by kernel_rfl) (by kernel_rfl) (by kernel_rfl) (fun _ _ _ h => h) (Or.inr ⟨by rfl, rfl⟩) (by assumption) ?_
            (try simp only [Act.put, List.getElem_toArray, List.getElem_cons_succ, List.getElem_cons_zero, List.setIfInBounds_toArray, List.set_cons_zero, List.set_cons_succ])
            refine wpAnyH_take (i := 8) (v := undef) rfl (by kernel_rfl) (by kernel_rfl) (by kernel_rfl) (fun _ _ _ h => h) (Or.inr ⟨by rfl, rfl⟩) (by assumption) ?_
            (try simp only [Act.put, List.getElem_toArray, List.getElem_cons_succ, List.getElem_cons_zero, List.setIfInBounds_toArray, List.set_cons_zero, List.set_cons_succ])
            refine wpAnyH_take (i := 9) (v := undef) rfl (by kernel_rfl) (by kernel_rfl) (by kernel_rfl) (fun _ _ _ h => h) (Or.inr ⟨by rfl, rfl⟩) (by assumption) ?_
            (try simp only [Act.put, List.getElem_toArray, List.getElem_cons_succ, List.getElem_cons_zero, List.setIfInBounds_toArray, List.set_cons_zero, List.set_cons_succ])
            refine wpAnyH_take (i := 10) (v := undef) rfl (by kernel_rfl) (by kernel_rfl) (by kernel_rfl) (fun _ _ _ h => h) (Or.inr ⟨by rfl, rfl⟩) (by assumption) ?_
            (try simp only [Act.put, List.getElem_toArray, List.getElem_cons_succ, List.getElem_cons_zero, List.setIfInBounds_toArray, List.set_cons_zero, List.set_cons_succ])
            refine wpAnyH_take (i := 11) (v := ?_) rfl (by kernel_rfl) (by kernel_rfl) (by kernel_rfl) (fun _ _ _ h => h) (Or.inl ⟨by rfl, ?_⟩) (by assumption) ?_
            rotate_left
            · (intro w hSw; (try dsimp only at hSw); go_simp <;> with_reducible rfl)
            (try simp only [Act.put, List.getElem_toArray, List.getElem_cons_succ, List.getElem_cons_zero, List.setIfInBounds_toArray, List.set_cons_zero, List.set_cons_succ])
            refine wpAnyH_take (i := 12) (v := ?_) rfl (by kernel_rfl) (by kernel_rfl) (by kernel_rfl) (fun _ _ _ h => h) (Or.inl ⟨by rfl, ?_⟩) (by assumption) ?_
            rotate_left
            · (intro w hSw; (try dsimp only at hSw); go_simp <;> with_reducible rfl)
            (try simp only [Act.put, List.getElem_toArray, List.getElem_cons_succ, List.getElem_cons_zero, List.setIfInBounds_toArray, List.set_cons_zero, List.set_cons_succ])
            refine wpAnyH_done (by kernel_rfl) ?_ _
            go_wp2
            go_ret
            exact ⟨ret_bool hres.out.symm, HB7.out.trans ((keepBelow (by assumption)).mono HB7.out.size)⟩
          | true =>
            have hres : Hid (res = y) := by show _ = _; rw [hl.out, Bool.true_and]
            clear hl
            go_wp2_with fail
            go_region_held3 (fun w' => (∀ b o, b < w7.heap.size → w'.cell? ⟨b, o, none⟩ = w7.cell? ⟨b, o, none⟩) ∧ w7.heap.size ≤ w'.heap.size ∧ Hid (Below w7.heap.size w7 w'))
              ((first | assumption | exact keep0 _ | exact keep1 (by assumption) (by assumption) | exact keepD (by assumption) | exact keepB (by assumption) (by assumption) | exact keepA (by assumption) _ | exact ⟨fun _ _ _ => rfl, Nat.le_refl _, Below.refl _ _⟩))
              (first | (go_at_call 155; (with_reducible refine (CH0.out _).mono ?_); rintro e w8 ⟨rfl, hb8⟩; obtain ⟨fc8, ff8⟩ := bcell hb8; have hz8 := hb8.size) | (go_at_call 155; (with_reducible refine (CH1.out _).mono ?_); rintro e w9 ⟨rfl, hb9⟩; obtain ⟨fc9, ff9⟩ := bcell hb9; have hz9 := hb9.size) | (go_at_call 89; (with_reducible refine (IW1.out _ ?hb1).mono ?_); (case hb1 => exact keepBelow (by assumption)); rintro e w10 ⟨rfl, hb10⟩; obtain ⟨fc10, ff10⟩ := bcell hb10; have hz10 := hb10.size) | (go_at_call 89; (with_reducible refine (IW2.out _ ?hb1).mono ?_); (case hb1 => exact keepBelow (by assumption)); rintro e w11 ⟨rfl, hb11⟩; obtain ⟨fc11, ff11⟩ := bcell hb11; have hz11 := hb11.size))
            all_goals
              go_wp2
              go_ret
              exact ⟨ret_bool hres.out.symm, HB7.out.trans ((keepBelow (by assumption)).mono HB7.out.size)⟩
        · obtain ⟨l1, _, l3⟩ := low_num HQ.out hroom
          obtain ⟨g1, _, g3⟩ := high_num HQ.out hroom
          have hl : Hid (res = (wholeB (S.map MatchV.two) p q.low && wholeB (S.map MatchV.two) p q.high)) := by show _ = _; rw [HSW.out, wholeB_to HQ.out hroom]
          have CH0 := Lib.hid (fun w => half_low_pv q w HQ.out)
          have CH1 := Lib.hid (fun w => half_high_pv q w HQ.out hroom)
          have IW1 := Lib.hid (fun (w' : World) (hb : Below w7.heap.size w7 w') => HIH.out K' rfl A5 S.length c5 S p q.low w' HP.out l1 (by have := HK.out; omega) (HG7.out.below hb))
          have IW2 := Lib.hid (fun (w' : World) (hb : Below w7.heap.size w7 w') => HIH.out K' rfl A5 S.length c5 S p q.high w' HP.out g1 (by have := HK.out; omega) (HG7.out.below hb))
          obtain ⟨sh, hsh⟩ : ∃ sh, setHi q.six q.hi q.n.toNat = sh := ⟨_, rfl⟩
          obtain ⟨sl, hsl⟩ : ∃ sl, setLo q.six q.lo q.n.toNat = sl := ⟨_, rfl⟩
          have hlv : q.low.val = .agg #[.bool qs, .int .u64 qh, .int .u64 ql, .int .i64 (qn + 1)] := by rw [HQE.out]; rfl
          have hhv : q.high.val = .agg #[.bool qs, .int .u64 sh, .int .u64 sl, .int .i64 (qn + 1)] := by rw [← hsh, ← hsl, HQE.out]; rfl
          rw [HQV.out, hlv] at CH0
          rw [HQV.out, hhv] at CH1
          rw [HPV.out, hlv] at IW1
          rw [HPV.out, hhv] at IW2
          generalize wholeB (S.map MatchV.two) p q.low = x at *
          generalize wholeB (S.map MatchV.two) p q.high = y at *
          clear l1 g1 l3 g3 hroom hsh hsl hlv hhv
          cases x with
          | false =>
            have hres : Hid (res = false) := by show _ = _; rw [hl.out]; rfl
            clear hl
            go_wp2_with fail
            refine wp_region_held_drew (S := (fun w' => (∀ b o, b < w7.heap.size → w'.cell? ⟨b, o, none⟩ = w7.cell? ⟨b, o, none⟩) ∧ w7.heap.size ≤ w'.heap.size ∧ Hid (Below w7.heap.size w7 w'))) (by kernel_rfl) ?_ (fun hHeld => ?_)
            · (first | assumption | exact keep0 _ | exact keep1 (by assumption) (by assumption) | exact keepD (by assumption) | exact keepB (by assumption) (by assumption) | exact keepA (by assumption) _ | exact ⟨fun _ _ _ => rfl, Nat.le_refl _, Below.refl _ _⟩)
            refine wpAnyH_take (i := 0) (v := ?_) rfl (by kernel_rfl) (by kernel_rfl) (by kernel_rfl) (fun _ _ _ h => h) (Or.inl ⟨by rfl, ?_⟩) (by assumption) ?_
            rotate_left
            · (intro w hSw; (try dsimp only at hSw); go_simp <;> with_reducible rfl)
            (try simp only [Act.put, List.getElem_toArray, List.getElem_cons_zero, List.setIfInBounds_toArray, List.set_cons_zero, List.set_cons_succ])
            refine wpAnyH_take (i := 1) (v := ?_) rfl (by kernel_rfl) (by kernel_rfl) (by kernel_rfl) (fun _ _ _ h => h) (Or.inl ⟨by rfl, ?_⟩) (by assumption) ?_
            rotate_left
            · (intro w hSw; (try dsimp only at hSw); go_simp <;> with_reducible rfl)
            (try simp only [Act.put, List.getElem_toArray, List.getElem_cons_succ, List.getElem_cons_zero, List.setIfInBounds_toArray, List.set_cons_zero, List.set_cons_succ])
            refine wpAnyH_take (i := 2) (v := ?_) rfl (by kernel_rfl) (by kernel_rfl) (by kernel_rfl) (fun _ _ _ h => h) (Or.inl ⟨by rfl, ?_⟩) (by assumption) ?_
            rotate_left
            · (intro w hSw; (try dsimp only at hSw); go_simp <;> with_reducible rfl)
            (try simp only [Act.put, List.getElem_toArray, List.getElem_cons_succ, List.getElem_cons_zero, List.setIfInBounds_toArray, List.set_cons_zero, List.set_cons_succ])
            refine wpAnyH_ready (rs := [3]) (by kernel_rfl) (by simp) ?_
            refine AllReadyH.cons rfl (fun K hK => ?_) AllReadyH.nil
            go_simp
            (go_at_call 155; (with_reducible refine (CH0.out _).mono ?_); rintro e w8 ⟨rfl, hb8⟩; obtain ⟨fc8, ff8⟩ := bcell hb8; have hz8 := hb8.size)
            first
              | refine hK.out _ _ ?_ (fun hHeld => ?_)
              | (go_wp2_with fail; refine hK.out _ _ ?_ (fun hHeld => ?_))
            · (first | assumption | exact keep0 _ | exact keep1 (by assumption) (by assumption) | exact keepD (by assumption) | exact keepB (by assumption) (by assumption) | exact keepA (by assumption) _ | exact ⟨fun _ _ _ => rfl, Nat.le_refl _, Below.refl _ _⟩)
            clear hK K
            (try simp only [Act.put, List.getElem_toArray, List.getElem_cons_succ, List.getElem_cons_zero, List.setIfInBounds_toArray, List.set_cons_zero, List.set_cons_succ])
            refine wpAnyH_ready (rs := [4]) (by kernel_rfl) (by simp) ?_
            refine AllReadyH.cons rfl (fun K hK => ?_) AllReadyH.nil
            go_simp
            (go_at_call 89; (with_reducible refine (IW1.out _ ?hb1).mono ?_); (case hb1 => exact keepBelow (by assumption)); rintro e w10 ⟨rfl, hb10⟩; obtain ⟨fc10, ff10⟩ := bcell hb10; have hz10 := hb10.size)
            first
              | refine hK.out _ _ ?_ (fun hHeld => ?_)
              | (go_wp2_with fail; refine hK.out _ _ ?_ (fun hHeld => ?_))
            · (first | assumption | exact keep0 _ | exact keep1 (by assumption) (by assumption) | exact keepD (by assumption) | exact keepB (by assumption) (by assumption) | exact keepA (by assumption) _ | exact ⟨fun _ _ _ => rfl, Nat.le_refl _, Below.refl _ _⟩)
            clear hK K
            (try simp only [Act.put, List.getElem_toArray, List.getElem_cons_succ, List.getElem_cons_zero, List.setIfInBounds_toArray, List.set_cons_zero, List.set_cons_succ])
            refine wpAnyH_take (i := 5) (v := ?_) rfl (by kernel_rfl) (by kernel_rfl) (by kernel_rfl) (fun _ _ _ h => h) (Or.inl ⟨by rfl, ?_⟩) (by assumption) ?_
            rotate_left
            · (intro w hSw; (try dsimp only at hSw); go_simp <;> with_reducible rfl)
            (try simp only [Act.put, List.getElem_toArray, List.getElem_cons_succ, List.getElem_cons_zero, List.setIfInBounds_toArray, List.set_cons_zero, List.set_cons_succ])
            refine wpAnyH_take (i := 6) (v := undef) rfl (by kernel_rfl) (by kernel_rfl) (by kernel_rfl) (fun _ _ _ h => h) (Or.inr ⟨by rfl, rfl⟩) (by assumption) ?_
            (try simp only [Act.put, List.getElem_toArray, List.getElem_cons_succ, List.getElem_cons_zero, List.setIfInBounds_toArray, List.set_cons_zero, List.set_cons_succ])
            refine wpAnyH_take (i := 7) (v := undef) rfl (by kernel_rfl) (by kernel_rfl) (by kernel_rfl) (fun _ _ _ h => h) (Or.inr ⟨by rfl, rfl⟩) (by assumption) ?_
            (try simp only [Act.put, List.getElem_toArray, List.getElem_cons_succ, List.getElem_cons_zero, List.setIfInBounds_toArray, List.set_cons_zero, List.set_cons_succ])
            refine wpAnyH_take (i := 8) (v := undef) rfl (by kernel_rfl) (by kernel_rfl) (by kernel_rfl) (fun _ _ _ h => h) (Or.inr ⟨by rfl, rfl⟩) (by assumption) ?_
            (try simp only [Act.put, List.getElem_toArray, List.getElem_cons_succ, List.getElem_cons_zero, List.setIfInBounds_toArray, List.set_cons_zero, List.set_cons_succ])
            refine wpAnyH_take (i := 9) (v := undef) rfl (by kernel_rfl) (by kernel_rfl) (by kernel_rfl) (fun _ _ _ h => h) (Or.inr ⟨by rfl, rfl⟩) (by assumption) ?_
            (try simp only [Act.put, List.getElem_toArray, List.getElem_cons_succ, List.getElem_cons_zero, List.setIfInBounds_toArray, List.set_cons_zero, List.set_cons_succ])
            refine wpAnyH_take (i := 10) (v := undef) rfl (by kernel_rfl) (by kernel_rfl) (by kernel_rfl) (fun _ _ _ h => h) (Or.inr ⟨by rfl, rfl⟩) (by assumption) ?_
            (try simp only [Act.put, List.getElem_toArray, List.getElem_cons_succ, List.getElem_cons_zero, List.setIfInBounds_toArray, List.set_cons_zero, List.set_cons_succ])
            refine wpAnyH_take (i := 11) (v := ?_) rfl (by kernel_rfl) (by kernel_rfl) (by kernel_rfl) (fun _ _ _ h => h) (Or.inl ⟨by rfl, ?_⟩) (by assumption) ?_
            rotate_left
            · (intro w hSw; (try dsimp only at hSw); go_simp <;> with_reducible rfl)
            (try simp only [Act.put, List.getElem_toArray, List.getElem_cons_succ, List.getElem_cons_zero, List.setIfInBounds_toArray, List.set_cons_zero, List.set_cons_succ])
            refine wpAnyH_take (i := 12) (v := ?_) rfl (by kernel_rfl) (by kernel_rfl) (by kernel_rfl) (fun _ _ _ h => h) (Or.inl ⟨by rfl, ?_⟩) (by assumption) ?_
            rotate_left
            · (intro w hSw; (try dsimp only at hSw); go_simp <;> with_reducible rfl)
            (try simp only [Act.put, List.getElem_toArray, List.getElem_cons_succ, List.getElem_cons_zero, List.setIfInBounds_toArray, List.set_cons_zero, List.set_cons_succ])
            refine wpAnyH_done (by kernel_rfl) ?_ _
            go_wp2
            go_ret
            exact ⟨ret_bool hres.out.symm, HB7.out.trans ((keepBelow (by assumption)).mono HB7.out.size)⟩
          | true =>
            have hres : Hid (res = y) := by show _ = _; rw [hl.out, Bool.true_and]
            clear hl
            go_wp2_with fail
            go_region_held3 (fun w' => (∀ b o, b < w7.heap.size → w'.cell? ⟨b, o, none⟩ = w7.cell? ⟨b, o, none⟩) ∧ w7.heap.size ≤ w'.heap.size ∧ Hid (Below w7.heap.size w7 w'))
              ((first | assumption | exact keep0 _ | exact keep1 (by assumption) (by assumption) | exact keepD (by assumption) | exact keepB (by assumption) (by assumption) | exact keepA (by assumption) _ | exact ⟨fun _ _ _ => rfl, Nat.le_refl _, Below.refl _ _⟩))
              (first | (go_at_call 155; (with_reducible refine (CH0.out _).mono ?_); rintro e w8 ⟨rfl, hb8⟩; obtain ⟨fc8, ff8⟩ := bcell hb8; have hz8 := hb8.size) | (go_at_call 155; (with_reducible refine (CH1.out _).mono ?_); rintro e w9 ⟨rfl, hb9⟩; obtain ⟨fc9, ff9⟩ := bcell hb9; have hz9 := hb9.size) | (go_at_call 89; (with_reducible refine (IW1.out _ ?hb1).mono ?_); (case hb1 => exact keepBelow (by assumption)); rintro e w10 ⟨rfl, hb10⟩; obtain ⟨fc10, ff10⟩ := bcell hb10; have hz10 := hb10.size) | (go_at_call 89; (with_reducible refine (IW2.out _ ?hb1).mono ?_); (case hb1 => exact keepBelow (by assumption)); rintro e w11 ⟨rfl, hb11⟩; obtain ⟨fc11, ff11⟩ := bcell hb11; have hz11 := hb11.size))
            all_goals
              go_wp2
              go_ret
              exact ⟨ret_bool hres.out.symm, HB7.out.trans ((keepBelow (by assumption)).mono HB7.out.size)⟩

end Go.Proofs.Ytonelibgaceflaa

namespace Go.Proofs.Ytonelibgaceflaa
open Classical
set_option linter.unusedVariables false

def inP (p : PV) (a : AV) : Bool := inB p.six p.hi p.lo p.n a.six a.hi a.lo
def eqA (a b : AV) : Bool := a.six == b.six && (a.hi == b.hi && a.lo == b.lo)
theorem eqA_iff {a b : AV} : eqA a b = true ↔ a = b := by
  obtain ⟨x, y, z⟩ := a
  obtain ⟨x', y', z'⟩ := b
  unfold eqA
  simp
/-- The address behind a prefix; whether there is one. -/
def nextOf (q : PV) : AV := if plusOk q.six q.last.hi q.last.lo 1 = true then ⟨q.six, plusHi q.last.hi q.last.lo 1, plusLo q.last.hi q.last.lo 1⟩ else ⟨false, 0, 0⟩
def nextOk (q : PV) : Bool := plusOk q.six q.last.hi q.last.lo 1
def edgeA (p q : PV) : List AV := if inP p q.a = true then [q.a] else []
def edgeB (p q : PV) : List AV := if (inP p (nextOf q) && (eqA (nextOf q) q.a || nextOk q)) = true then [nextOf q] else []
def edgesP (p : PV) (others : List PV) : List AV := p.a :: others.flatMap fun q => edgeA p q ++ edgeB p q

theorem nextOf_ok {q : PV} (hq : q.Ok) : (nextOf q).Ok ∧ (nextOk q = true → (nextOf q).six = q.six ∧ (nextOf q).v = q.v + 2 ^ q.k) := by
  have hup := up_num (PV.last_ok q)
  have hln := last_num hq
  have hpp := Nat.two_pow_pos q.k
  unfold nextOf nextOk
  split
  · rename_i h
    have h2 := hup.2 h
    refine ⟨h2.1, fun _ => ⟨rfl, ?_⟩⟩
    have : AV.v ⟨q.six, plusHi q.last.hi q.last.lo 1, plusLo q.last.hi q.last.lo 1⟩ = (q.last.plus 1).v := rfl
    rw [this, h2.2, hln]
    omega
  · rename_i h
    exact ⟨zero_ok false, fun hh => absurd hh h⟩
theorem nextOk_of {q : PV} (hq : q.Ok) (h : q.v + 2 ^ q.k < 2 ^ widN q.six) : nextOk q = true := by
  have hup := up_num (PV.last_ok q)
  have hln := last_num hq
  have hpp := Nat.two_pow_pos q.k
  unfold nextOk
  exact hup.1.2 (by rw [hln]; show q.v + 2 ^ q.k - 1 + 1 < 2 ^ widN q.six; omega)
theorem edgesP_ok {p : PV} {others : List PV} (hp : p.Ok) (ho : ∀ q ∈ others, q.Ok) : ∀ a ∈ edgesP p others, a.Ok ∧ a.six = p.six ∧ p.has p.six a.v := by
  have key : ∀ a : AV, a.Ok → inP p a = true → a.Ok ∧ a.six = p.six ∧ p.has p.six a.v := by
    intro a ha h
    have h1 := (has_in hp ha).1 h
    have h2 : p.six = a.six := h1.1
    exact ⟨ha, h2.symm, by rw [h2]; exact h1⟩
  intro a ha
  unfold edgesP at ha
  rcases List.mem_cons.1 ha with rfl | ha
  · exact ⟨hp.addr, rfl, has_self p⟩
  · obtain ⟨q, hq, ha⟩ := List.mem_flatMap.1 ha
    rcases List.mem_append.1 ha with ha | ha
    · unfold edgeA at ha
      split at ha
      · rename_i h
        obtain rfl := List.mem_singleton.1 ha
        exact key _ (ho q hq).addr h
      · cases ha
    · unfold edgeB at ha
      split at ha
      · rename_i h
        obtain rfl := List.mem_singleton.1 ha
        rw [Bool.and_eq_true] at h
        exact key _ (nextOf_ok (ho q hq)).1 h.1
      · cases ha
theorem edge_rep {p : PV} {others : List PV} (hp : p.Ok) (ho : ∀ q ∈ others, q.Ok) {x : Nat} (hx : p.has p.six x) : ∃ a ∈ edgesP p others, ∀ s ∈ others, (s.has p.six a.v ↔ s.has p.six x) := by
  obtain ⟨e, he, _, _, hs⟩ := edge_point (others.filter fun q => q.six == p.six) (fun q => (q.v, q.v + 2 ^ q.k)) ((edgesP p others).map AV.v) (lo := p.v) (x := x) (List.mem_map.2 ⟨p.a, by unfold edgesP; simp, rfl⟩) hx.2.1 (by
    intro q hq
    obtain ⟨h1, h2⟩ := List.mem_filter.1 hq
    have h2 : q.six = p.six := by simpa using h2
    have hqo := ho q h1
    have hxe := hx.2.2
    refine ⟨fun ha hb => ?_, fun ha hb => ?_⟩
    · simp only at ha hb
      have hin : inP p q.a = true := (has_in hp hqo.addr).2 ⟨h2.symm, ha, by show q.v < _; omega⟩
      exact List.mem_map.2 ⟨q.a, List.mem_cons_of_mem _ (List.mem_flatMap.2 ⟨q, h1, List.mem_append_left _ (by unfold edgeA; rw [if_pos hin]; simp)⟩), rfl⟩
    · simp only at ha hb
      have hlt : q.v + 2 ^ q.k < 2 ^ widN q.six := by
        have := PV.end_le hp
        rw [h2]
        omega
      have hok := nextOk_of hqo hlt
      obtain ⟨n1, n2⟩ := nextOf_ok hqo
      obtain ⟨n3, n4⟩ := n2 hok
      have hin : inP p (nextOf q) = true := (has_in hp n1).2 ⟨by rw [n3, h2], by rw [n4]; exact ha, by rw [n4]; omega⟩
      exact List.mem_map.2 ⟨nextOf q, List.mem_cons_of_mem _ (List.mem_flatMap.2 ⟨q, h1, List.mem_append_right _ (by unfold edgeB; rw [if_pos (by rw [hin, hok]; simp)]; simp)⟩), n4⟩)
  obtain ⟨a, ha, rfl⟩ := List.mem_map.1 he
  refine ⟨a, ha, fun s hs0 => ?_⟩
  by_cases h6 : s.six = p.six
  · have := hs s (List.mem_filter.2 ⟨hs0, by simpa using h6⟩)
    unfold PV.has
    simp only at this
    rw [this]
  · exact ⟨fun h => absurd h.1 h6, fun h => absurd h.1 h6⟩

theorem fits_inP (m : MatchV) (a b : AV) : m.fits a b = (inP m.p a && inP m.q b) := rfl
theorem first_pos {α : Type} {f : α → Bool} {l : List α} : 0 ≤ firstAt f l ↔ ∃ x ∈ l, f x = true := by
  rcases firstAt_cases f l with ⟨h1, h2⟩ | ⟨k, x, h1, h2, h3⟩
  · rw [h1]
    constructor
    · intro h; omega
    · rintro ⟨x, hx, hf⟩
      rw [h2 x hx] at hf; cases hf
  · rw [h1]
    exact ⟨fun _ => ⟨x, List.mem_of_getElem? h2, h3⟩, fun _ => by omega⟩
/-- Do all flows between the edges fit a match? -/
def allEdges (ms : List MatchV) (m : MatchV) : Bool := (edgesP m.p (ms.map MatchV.p)).all fun a => (edgesP m.q (ms.map MatchV.q)).all fun b => decide (0 ≤ firstAt (fun x => MatchV.fits x a b) ms)
theorem hidden_law {ms : List MatchV} {m : MatchV} (hm : m.p.Ok ∧ m.q.Ok) (hms : ∀ x ∈ ms, x.p.Ok ∧ x.q.Ok) : allEdges ms m = wholeB (ms.map MatchV.two) m.p m.q := by
  have h1 : ∀ q ∈ ms.map MatchV.p, q.Ok := by intro q hq; obtain ⟨x, hx, rfl⟩ := List.mem_map.1 hq; exact (hms x hx).1
  have h2 : ∀ q ∈ ms.map MatchV.q, q.Ok := by intro q hq; obtain ⟨x, hx, rfl⟩ := List.mem_map.1 hq; exact (hms x hx).2
  rw [Bool.eq_iff_iff]
  unfold allEdges wholeB
  rw [List.all_eq_true, decide_eq_true_iff]
  constructor
  · intro h x y hx hy
    obtain ⟨a, ha, has⟩ := edge_rep hm.1 h1 hx
    obtain ⟨b, hb, hbs⟩ := edge_rep hm.2 h2 hy
    obtain ⟨a1, a2, a3⟩ := edgesP_ok hm.1 h1 a ha
    obtain ⟨b1, b2, b3⟩ := edgesP_ok hm.2 h2 b hb
    have h3 := List.all_eq_true.1 (h a ha) b hb
    rw [decide_eq_true_iff, first_pos] at h3
    obtain ⟨z, hz, hf⟩ := h3
    rw [fits_inP, Bool.and_eq_true] at hf
    have i1 := (has_in (hms z hz).1 a1).1 hf.1
    have i2 := (has_in (hms z hz).2 b1).1 hf.2
    rw [a2] at i1
    rw [b2] at i2
    exact ⟨z.two, List.mem_map.2 ⟨z, hz, rfl⟩, (has z.p (List.mem_map.2 ⟨z, hz, rfl⟩)).1 i1, (hbs z.q (List.mem_map.2 ⟨z, hz, rfl⟩)).1 i2⟩
  · intro h a ha
    rw [List.all_eq_true]
    intro b hb
    obtain ⟨a1, a2, a3⟩ := edgesP_ok hm.1 h1 a ha
    obtain ⟨b1, b2, b3⟩ := edgesP_ok hm.2 h2 b hb
    rw [decide_eq_true_iff, first_pos]
    obtain ⟨t, ht, i1, i2⟩ := h a.v b.v a3 b3
    obtain ⟨z, hz, rfl⟩ := List.mem_map.1 ht
    refine ⟨z, hz, ?_⟩
    rw [fits_inP, Bool.and_eq_true]
    rw [← a2] at i1
    rw [← b2] at i2
    exact ⟨(has_in (hms z hz).1 a1).2 i1, (has_in (hms z hz).2 b1).2 i2⟩

/-- Is the match at a place hidden by those ahead? -/
noncomputable def hidAt (l : List MatchV) (i : Nat) : Bool := match l[i]? with
  | some m => wholeB ((l.take i).map MatchV.two) m.p m.q
  | none => false
noncomputable def hidTo (l : List MatchV) (k : Nat) : List Int := ((List.range k).filter (hidAt l)).map fun i : Nat => (i : Int)
theorem hidTo_succ (l : List MatchV) (k : Nat) : hidTo l (k + 1) = hidTo l k ++ if hidAt l k = true then [(k : Int)] else [] := by
  unfold hidTo
  rw [List.range_succ, List.filter_append, List.filter_cons, List.filter_nil, List.map_append]
  split <;> rfl
theorem hidTo_len (l : List MatchV) (k : Nat) : (hidTo l k).length ≤ k := by
  unfold hidTo
  rw [List.length_map]
  exact Nat.le_trans (List.length_filter_le _ _) (by simp)
theorem hidAt_of {l : List MatchV} {k : Nat} {m : MatchV} (h : l[k]? = some m) : hidAt l k = wholeB ((l.take k).map MatchV.two) m.p m.q := by unfold hidAt; rw [h]
theorem goodM_of {w : World} {A : Option Addr} {n c : Nat} {l : List MatchV} (h : IsMatches w A n l) (hz : matchesF l = 0) : GoodM w A n c l := by
  obtain ⟨h1, h2⟩ := matchesF_good hz
  refine ⟨h.1, by rw [← h.1]; exact h1, fun m hm => ?_, h.2.2.2⟩
  obtain ⟨c1, c2, _⟩ := h2 m hm
  have ho := h.2.2.1 m hm
  exact ⟨chk_zero ho.a ho.b c1, chk_zero ho.c ho.d c2⟩
theorem whole_all : ∀ K, WholeAt K
  | 0 => whole_step 0 (fun K' h => by omega)
  | K + 1 => whole_step (K + 1) (fun K' h => by obtain rfl : K = K' := by omega
                                                exact whole_all K)

end Go.Proofs.Ytonelibgaceflaa

namespace Go.Proofs.Ytonelibgaceflaa
open Go.ChangeShapes Go.WideShapes Go.ChangeAt Go.RowKit

theorem Reads.front {w : World} {B size : Nat} {A : Option Addr} {n k : Nat} {α : Type} {f : α → List Value} {l : List α} (hf : ∀ x, (f x).length = size) (h : Reads w B size A n (l.flatMap f)) (hz : l.length = n) (hk : k ≤ n) : Reads w B size A k ((l.take k).flatMap f) := by
  have hlen : ∀ l : List α, (l.flatMap f).length = l.length * size := by
    intro l
    induction l with
    | nil => simp
    | cons x l ih => rw [List.flatMap_cons, List.length_append, hf, ih, List.length_cons, Nat.add_mul]; omega
  refine ⟨by rw [hlen, List.length_take, hz, Nat.min_eq_left hk], fun h0 => ?_⟩
  obtain ⟨ad, rfl, hb, hc⟩ := h.2 (by omega)
  refine ⟨ad, rfl, hb, fun j u hu => hc j u ?_⟩
  have e : l.flatMap f = (l.take k).flatMap f ++ (l.drop k).flatMap f := by rw [← List.flatMap_append, List.take_append_drop]
  rw [e]
  rw [List.getElem?_append_left]
  · exact hu
  · exact (List.getElem?_eq_some_iff.1 hu).1

end Go.Proofs.Ytonelibgaceflaa

namespace Go.Proofs.Ytonelibgaceflaa
open Go.ChangeShapes Go.WideShapes Go.ChangeAt Go.RowKit

theorem infoIntC : (Try.prog.info? 3).map (fun i => (i.zero, i.size, i.bytes)) = some (some (.int .i64 0), 1, 8) := by kernel_rfl
/-- What a list of places and an error are. -/
def Places (w : World) (L : List Int) (E : Int) (e : Ending) (w' : World) : Prop :=
  ∃ v, e = .returned (.tuple #[v, .int .i64 E]) ∧ w'.ownsRow w.heap.size 3 1 v L.length (L.map (Value.int .i64)) ∧ Below w.heap.size w w'

set_option maxRecDepth 100000 in
set_option maxHeartbeats 3200000 in
theorem hidden_ok {A : Option Addr} {n c : Nat} {l : List MatchV} {w : World} (h : IsMatches w A n l) (hnc : n ≤ c) (hcm : c ≤ maxLen) (hz : matchesF l = 0) :
    Calls Try.prog 37 #[.slice A n c] w (Places w (hidTo l n) 0) := by
  have HBC := (fun (w' : World) (hb : Below w.heap.size w w') => classCheck_is (h.below hb) c)
  rw [hz] at HBC
  have C0 := Lib.hid HBC
  have hg : GoodM w A n c l := goodM_of h hz
  have HGM := Lib.hid hg
  have hn30 := hg.few
  have HZ := Lib.hid hg.len
  have HR := Lib.hid hg.reads
  have HOK := Lib.hid hg.ok
  unfold Places
  unfold maxLen at hcm
  clear HBC h hz hg
  go_enter Try.func37, Try.ntmps37
  go_wp2_with fail
  refine (C0.out _ (Below.refl _ _)).mono ?_
  rintro e w0 ⟨rfl, hb0⟩
  have HB0 := Lib.hid hb0
  clear hb0
  go_wp2
  go_loopw [15, 5, 6, 7] (fun i v _ _ wr => ∃ k : Nat, k ≤ n ∧ i = .int .i64 k ∧ wr.ownsRow w.heap.size 3 1 v (hidTo l k).length ((hidTo l k).map (Value.int .i64)) ∧ Below w.heap.size w wr) (fun i _ _ _ _ => n - (intOf i).toNat)
  case atStart => exact ⟨0, by omega, rfl, World.ownsRow_nil _ _ _ _, HB0.out⟩
  case round =>
    obtain ⟨k, hk, rfl, hown, hb⟩ := hrel
    have HOW := Lib.hid hown
    have HB := Lib.hid hb
    have hszb := hb.size
    clear hown
    by_cases hlt : k < n
    · obtain ⟨ad, ⟨ms, mh, ml, mn, ms2, mh2, ml2, mn2, mc⟩, rfl, hlk, htk, hmem, hbk, hc0, hcj⟩ := HR.out.atS MatchV.cells_length HZ.out hlt
      have q0 := (hb.cell (p := ad.add (k * 9)) (by rw [block_of_add]; exact hbk)).trans (hc0 _ rfl)
      have q1 := (hb.cell (p := ⟨(ad.add (k * 9)).block, (ad.add (k * 9)).off + 1, none⟩) (by rw [block_of_add]; exact hbk)).trans (hcj 1 _ rfl)
      have q2 := (hb.cell (p := ⟨(ad.add (k * 9)).block, (ad.add (k * 9)).off + 2, none⟩) (by rw [block_of_add]; exact hbk)).trans (hcj 2 _ rfl)
      have q3 := (hb.cell (p := ⟨(ad.add (k * 9)).block, (ad.add (k * 9)).off + 3, none⟩) (by rw [block_of_add]; exact hbk)).trans (hcj 3 _ rfl)
      have q4 := (hb.cell (p := ⟨(ad.add (k * 9)).block, (ad.add (k * 9)).off + 4, none⟩) (by rw [block_of_add]; exact hbk)).trans (hcj 4 _ rfl)
      have q5 := (hb.cell (p := ⟨(ad.add (k * 9)).block, (ad.add (k * 9)).off + 5, none⟩) (by rw [block_of_add]; exact hbk)).trans (hcj 5 _ rfl)
      have q6 := (hb.cell (p := ⟨(ad.add (k * 9)).block, (ad.add (k * 9)).off + 6, none⟩) (by rw [block_of_add]; exact hbk)).trans (hcj 6 _ rfl)
      have q7 := (hb.cell (p := ⟨(ad.add (k * 9)).block, (ad.add (k * 9)).off + 7, none⟩) (by rw [block_of_add]; exact hbk)).trans (hcj 7 _ rfl)
      have q8 := (hb.cell (p := ⟨(ad.add (k * 9)).block, (ad.add (k * 9)).off + 8, none⟩) (by rw [block_of_add]; exact hbk)).trans (hcj 8 _ rfl)
      obtain ⟨o1, o2⟩ := HOK.out _ hmem
      have hHA := hidAt_of hlk
      have hSS := hidTo_succ l k
      have hlen := hidTo_len l k
      have hGk : ∀ w', Below w.heap.size w w' → GoodM w' (some ad) k c (l.take k) := by
        intro w' hb'
        have hgw := HGM.out.below hb'
        exact ⟨by rw [List.length_take, HZ.out]; omega, by omega, fun m hm => HOK.out m (List.mem_of_mem_take hm), hgw.reads.front MatchV.cells_length HZ.out (by omega)⟩
      have CW := Lib.hid (fun (w' : World) (hb' : Below w.heap.size w w') => whole_all _ (some ad) k c (l.take k) ⟨ms, mh, ml, mn⟩ ⟨ms2, mh2, ml2, mn2⟩ w' o1 o2 rfl (hGk w' hb'))
      have hHA2 : hidAt l k = wholeB ((l.take k).map MatchV.two) ⟨ms, mh, ml, mn⟩ ⟨ms2, mh2, ml2, mn2⟩ := hHA
      rw [← hHA2] at CW
      unfold PV.val at CW
      simp only at CW
      have HSS := Lib.hid hSS
      generalize hidAt l k = hv at *
      generalize hidTo l k = done at *
      have hki : (0 : Int) ≤ (k : Int) := by omega
      have hkc : (k : Int) ≤ (c : Int) := by omega
      clear hlk htk hmem hbk hc0 hcj hb o1 o2 hHA hHA2 hSS hGk
      go_wp2_with fail
      obtain ⟨M, hM⟩ : ∃ M, (wr.alloc (.cells #[.bool ms, .int .u64 mh, .int .u64 ml, .int .i64 mn, .bool ms2, .int .u64 mh2, .int .u64 ml2, .int .i64 mn2, .int .i64 mc] 145)) = M := ⟨_, rfl⟩
      have kM : Blk M wr.heap.size 145 #[.bool ms, .int .u64 mh, .int .u64 ml, .int .i64 mn, .bool ms2, .int .u64 mh2, .int .u64 ml2, .int .i64 mn2, .int .i64 mc] := by rw [← hM]; exact Blk.new _ _ _
      have hmb : Below wr.heap.size wr M := by rw [← hM]; exact (Below.refl _ _).alloc (Nat.le_refl _) _
      have m0 := kM.cell 0
      have m1 := kM.cell 1
      have m2 := kM.cell 2
      have m3 := kM.cell 3
      have m4 := kM.cell 4
      have m5 := kM.cell 5
      have m6 := kM.cell 6
      have m7 := kM.cell 7
      simp at m0 m1 m2 m3 m4 m5 m6 m7
      have lm := kM.lt
      have HOWM := Lib.hid (own_below HOW.out hmb)
      have HBM := Lib.hid (below_step HB.out hmb)
      rw [hM]
      clear q0 q1 q2 q3 q4 q5 q6 q7 q8 hM kM hmb
      go_region_held3 (fun w' => (∀ b o, b < M.heap.size → w'.cell? ⟨b, o, none⟩ = M.cell? ⟨b, o, none⟩) ∧ M.heap.size ≤ w'.heap.size ∧ Hid (Below M.heap.size M w'))
        ((first | assumption | exact keep0 _ | exact keep1 (by assumption) (by assumption) | exact keepD (by assumption) | exact keepB (by assumption) (by assumption) | exact keepA (by assumption) _ | exact ⟨fun _ _ _ => rfl, Nat.le_refl _, Below.refl _ _⟩))
        (first | (go_at_call 89; (with_reducible refine (CW.out _ ?hb1).mono ?_); (case hb1 => exact below_step HBM.out (keepBelow (by assumption))); rintro e w5 ⟨rfl, hb5⟩; obtain ⟨fc5, ff5⟩ := bcell hb5; have hz5 := hb5.size))
      obtain ⟨fc6, z6, HH⟩ : (∀ b o, b < M.heap.size → w5.cell? ⟨b, o, none⟩ = M.cell? ⟨b, o, none⟩) ∧ M.heap.size ≤ w5.heap.size ∧ Hid (Below M.heap.size M w5) := by assumption
      have HOWX := Lib.hid (own_below HOWM.out HH.out)
      have HBX := Lib.hid (below_step HBM.out HH.out)
      have zx := HBX.out.size
      cases hv with
      | false =>
        have HS2 : Hid (hidTo l (k + 1) = done) := by show _ = _; rw [HSS.out, if_neg (by simp), List.append_nil]
        go_wp2
        go_roundw
        case rel => exact ⟨k + 1, by omega, by go_num, by rw [HS2.out]; exact HOWX.out, HBX.out⟩
        case measure => simp [intOf]; omega
      | true =>
        have HS2 : Hid (hidTo l (k + 1) = done ++ [(k : Int)]) := by show _ = _; rw [HSS.out, if_pos rfl]
        go_wp2_with (at_builtin; go_loud (refine wpList_append_oneN rfl _ _ 44 rfl w.heap.size (.int .i64 0) 1 8 Try.underlying44 infoIntC rfl (by decide) _ _ _ rfl rfl ?d0 HOWX.out ?d1 rfl ?d2 ?d3 ?d4 ?_))
        case d0 => (try simp); done
        case d2 => first | (intro u hu; simp at hu; (rcases hu with rfl <;> rfl); done) | exact rfl | trivial
        case d3 => unfold maxLen; omega
        case d4 => omega
        intro v' w' hown' hb' hs' _
        have HOW2 : Hid (w'.ownsRow w.heap.size 3 1 v' (hidTo l (k + 1)).length ((hidTo l (k + 1)).map (Value.int .i64))) := by
          show World.ownsRow _ _ _ _ _ _ _
          rw [HS2.out, List.length_append, List.map_append]
          exact hown'
        have HB2 := Lib.hid (HBX.out.trans hb')
        clear hown' hb'
        go_wp2
        go_roundw
        case rel => exact ⟨k + 1, by omega, by go_num, HOW2.out, HB2.out⟩
        case measure => simp [intOf]; omega
    · obtain rfl : k = n := by omega
      go_wp2
      go_ret2
      exact ⟨_, rfl, HOW.out, HB.out⟩

end Go.Proofs.Ytonelibgaceflaa

namespace Go.Proofs.Ytonelibgaceflaa
open Go.ChangeShapes Go.WideShapes Go.ChangeAt Go.RowKit

theorem infoAddrE : (Try.prog.info? 24).map (fun i => (i.zero, i.size, i.bytes)) = some (some (.agg #[.bool false, .int .u64 0, .int .u64 0]), 3, 24) := by kernel_rfl
def AV.val (a : AV) : Value := .agg #[.bool a.six, .int .u64 a.hi, .int .u64 a.lo]
theorem preIn_pv (p : PV) (a : AV) (w : World) (hp : p.Ok) (ha : a.Ok) : Calls Try.prog 95 #[p.val, a.val] w fun e w' => e = .returned (.bool (inP p a)) ∧ Below w.heap.size w w' := by
  obtain ⟨six, hi, lo, n⟩ := p
  have hn0 : 0 ≤ n := (ok_n hp).1
  obtain ⟨m, rfl⟩ : ∃ m : Nat, n = m := ⟨n.toNat, by omega⟩
  exact preIn_any six hi lo m a.six a.hi a.lo w hp ha.rhi ha.rlo ha.may
theorem next_pv (q : PV) (w : World) : Calls Try.prog 163 #[q.last.val, .int .i64 1] w fun e w' => e = .returned (.tuple #[(nextOf q).val, .int .i64 (if nextOk q = true then 0 else 2)]) ∧ Below w.heap.size w w' := by
  have hl := PV.last_ok q
  refine (refNext_sum q.six q.last.hi q.last.lo 1 w hl.rhi hl.rlo hl.may (by omega)).mono ?_
  rintro e w' ⟨rfl, hb⟩
  refine ⟨?_, hb⟩
  unfold nextOf nextOk
  split <;> rfl
theorem RowAt.trans {w3 wi wr : World} {G G' base : Nat} {e : TypeId} {size n n' : Nat} {v v' : Value} {xs xs' : List Value} (h : RowAt w3 G base e size wi v n xs) (hG : ∀ k, G' = k → (k = G ∨ w3.heap.size ≤ k)) (h' : RowAt wi G' base e size wr v' n' xs') : RowAt w3 G base e size wr v' n' xs' := by
  have hz := h.below.size
  refine ⟨h'.own, fun k hk => ?_, h.below.trans h'.below, fun k hk hne => ?_, h.le⟩
  · rcases h'.blk k hk with h1 | h1
    · exact hG k h1.symm
    · exact .inr (Nat.le_trans hz h1)
  · have hne' : k ≠ G' := by
      intro he
      rcases hG k he.symm with h1 | h1 <;> omega
    exact (h'.kept k (by omega) hne').trans (h.kept k hk hne)

set_option maxRecDepth 100000 in
set_option maxHeartbeats 6400000 in
theorem edges_any {A : Option Addr} {n c : Nat} {l : List PV} {w : World} (h : IsPres w A n c l) (hl : ∀ q ∈ l, q.Ok) (hn : n ≤ 30) (p : PV) (hp : p.Ok) :
    Calls Try.prog 91 #[p.val, .slice A n c] w fun e w' => ∃ v, e = .returned v ∧ w'.ownsRow w.heap.size 24 3 v (edgesP p l).length ((edgesP p l).flatMap AV.cells) ∧ Below w.heap.size w w' := by
  have HZ := Lib.hid h.1
  have HR := Lib.hid h.2.2
  have HOK := Lib.hid hl
  have HP := Lib.hid hp
  obtain ⟨ps, ph, pl, pn, hpe⟩ : ∃ ps ph pl pn, p = ⟨ps, ph, pl, pn⟩ := ⟨_, _, _, _, rfl⟩
  have hpv : p.val = .agg #[.bool ps, .int .u64 ph, .int .u64 pl, .int .i64 pn] := by rw [hpe]; rfl
  have hpa : p.a = ⟨ps, ph, pl⟩ := by rw [hpe]; rfl
  have HPV := Lib.hid hpv
  have HPA := Lib.hid hpa
  rw [hpv]
  clear h hl hp hpe hpv hpa
  go_enter Try.func91, Try.ntmps91
  go_wp2
  obtain ⟨X, hX⟩ : ∃ X, (w.alloc (.cells #[.bool ps, .int .u64 ph, .int .u64 pl, .int .i64 pn] 35)) = X := ⟨_, rfl⟩
  have kP : Blk X w.heap.size 35 #[.bool ps, .int .u64 ph, .int .u64 pl, .int .i64 pn] := by rw [← hX]; exact Blk.new _ _ _
  have hxz : w.heap.size + 1 ≤ X.heap.size := by rw [← hX]; simp
  have KP := Lib.hid kP
  have HX : Hid (Below w.heap.size w X) := by rw [← hX]; exact (Below.refl _ _).alloc (Nat.le_refl _) _
  have hXeq : X.heap.size = w.heap.size + 1 := by rw [← hX]; simp
  obtain ⟨w3, hw3⟩ : ∃ w3, (X.alloc (.cells #[.bool ps, .int .u64 ph, .int .u64 pl] 24)) = w3 := ⟨_, rfl⟩
  have h3z : w.heap.size + 1 < w3.heap.size := by rw [← hw3]; simp; omega
  have HROW : Hid (RowAt w3 (w.heap.size + 1) (w.heap.size + 1) 24 3 w3 (.slice (some ⟨w.heap.size + 1, 0, none⟩) 1 1) (edgesP p (l.take 0)).length ((edgesP p (l.take 0)).flatMap AV.cells)) := by
    refine ⟨?_, fun k hk => ?_, Below.refl _ _, fun _ _ _ => rfl, by omega⟩
    · rw [← hw3]
      have := World.ownsRow_lit (base := X.heap.size) (e := 24) (size := 3) X #[.bool ps, .int .u64 ph, .int .u64 pl] 1 (by simp) (by unfold maxLen; omega) rfl
      rw [hXeq] at this
      simpa [edgesP, AV.cells, HPA.out] using this
    · simp [Value.ownBlock] at hk
      exact .inl hk.symm
  have HX : Hid (Below w.heap.size w X) := by rw [← hX]; exact (Below.refl _ _).alloc (Nat.le_refl _) _
  have HX3 : Hid (Below w.heap.size w w3) := by rw [← hw3]; exact HX.out.alloc HX.out.size _
  have KP3 : Hid (Blk w3 w.heap.size 35 #[.bool ps, .int .u64 ph, .int .u64 pl, .int .i64 pn]) := by rw [← hw3]; exact kP.alloc _
  rw [hX, hw3]
  clear hX hw3 kP hXeq hxz HX
  go_loopw [20, 5, 7, 8, 9, 10, 11, 12, 14] (fun i v _ _ _ _ _ _ _ wr => ∃ k : Nat, k ≤ n ∧ i = .int .i64 k ∧ RowAt w3 (w.heap.size + 1) (w.heap.size + 1) 24 3 wr v (edgesP p (l.take k)).length ((edgesP p (l.take k)).flatMap AV.cells)) (fun i _ _ _ _ _ _ _ _ _ => n - (intOf i).toNat)
  case atStart => exact ⟨0, by omega, rfl, HROW.out⟩
  case round =>
    obtain ⟨k, hk, rfl, hrow⟩ := hrel
    obtain ⟨wo, rfl⟩ : ∃ wo : World, wo = wr := ⟨_, rfl⟩
    have HRW := Lib.hid hrow
    clear hrow
    by_cases hlt : k < n
    · obtain ⟨ad, q, rfl, hlk, htk, hmem, hbk, hc0, hcj⟩ := HR.out.atS PV.cells_length HZ.out hlt
      have hqo := HOK.out q hmem
      have hbz := HRW.out.below.size
      have hc03 := (HX3.out.cell (p := ad.add (k * 4)) (by rw [block_of_add]; exact hbk)).trans (hc0 _ rfl)
      have hcj3 := fun j u h => (HX3.out.cell (p := ⟨(ad.add (k * 4)).block, (ad.add (k * 4)).off + j, none⟩) (by rw [block_of_add]; exact hbk)).trans (hcj j u h)
      have hblk := HRW.out.kept ad.block (by omega) (by omega)
      have CS := Lib.hid (fun w => refSpan_pv q w hqo)
      have CN := Lib.hid (fun w => next_pv q w)
      have CA := Lib.hid (fun w => preIn_pv p q.a w HP.out hqo.addr)
      have CB := Lib.hid (fun w => preIn_pv p (nextOf q) w HP.out (nextOf_ok hqo).1)
      have HT : Hid (edgesP p (l.take (k + 1)) = edgesP p (l.take k) ++ edgeA p q ++ edgeB p q) := by
        show _ = _
        rw [htk]
        unfold edgesP
        rw [List.flatMap_append]
        simp
      have hlen : (edgesP p (l.take k)).length ≤ 2 * k + 1 := by
        have key : ∀ l : List PV, (l.flatMap fun q => edgeA p q ++ edgeB p q).length ≤ 2 * l.length := by
          intro l
          induction l with
          | nil => simp
          | cons x l ih =>
            have h1 : (edgeA p x).length ≤ 1 := by unfold edgeA; split <;> simp
            have h2 : (edgeB p x).length ≤ 1 := by unfold edgeB; split <;> simp
            rw [List.flatMap_cons, List.length_append, List.length_append, List.length_cons]
            omega
        have h1 := key (l.take k)
        have h2 : (l.take k).length ≤ k := List.length_take_le _ _
        unfold edgesP
        rw [List.length_cons]
        omega
      have HEA : Hid (edgeA p q = if inP p q.a = true then [q.a] else []) := rfl
      have HEB : Hid (edgeB p q = if (inP p (nextOf q) && (eqA (nextOf q) q.a || nextOk q)) = true then [nextOf q] else []) := rfl
      have HEQ := Lib.hid (fun (a b : AV) (w : World) => eqAV 9998 a.six a.hi a.lo b.six b.hi b.lo w)
      have hsame : eqA q.a q.a = true := eqA_iff.2 rfl
      have HE1 := Lib.hid (fun (w : World) => HEQ.out q.a q.a w)
      have HE2 := Lib.hid (fun (w : World) => HEQ.out (nextOf q) q.a w)
      have hfold1 : (q.a.six == q.a.six && (q.a.hi == q.a.hi && q.a.lo == q.a.lo)) = true := hsame
      have hfold2 : ((nextOf q).six == q.a.six && ((nextOf q).hi == q.a.hi && (nextOf q).lo == q.a.lo)) = eqA (nextOf q) q.a := rfl
      rw [hfold1] at HE1
      rw [hfold2] at HE2
      obtain ⟨qs, qh, ql, qn⟩ := q
      simp only at hc03
      have q0 := (World.cell?_of_block (w := w3) (w' := wo) (a := ad.add (k * 4)) (by rw [block_of_add]; exact hblk)).trans hc03
      have q1 := (World.cell?_of_block (w := w3) (w' := wo) (a := ⟨(ad.add (k * 4)).block, (ad.add (k * 4)).off + 1, none⟩) (by rw [block_of_add]; exact hblk)).trans (hcj3 1 _ rfl)
      have q2 := (World.cell?_of_block (w := w3) (w' := wo) (a := ⟨(ad.add (k * 4)).block, (ad.add (k * 4)).off + 2, none⟩) (by rw [block_of_add]; exact hblk)).trans (hcj3 2 _ rfl)
      have q3 := (World.cell?_of_block (w := w3) (w' := wo) (a := ⟨(ad.add (k * 4)).block, (ad.add (k * 4)).off + 3, none⟩) (by rw [block_of_add]; exact hblk)).trans (hcj3 3 _ rfl)
      rw [HPV.out] at CA CB
      generalize nextOf ⟨qs, qh, ql, qn⟩ = nx at *
      obtain ⟨ns, nh, nl⟩ := nx
      generalize nextOk ⟨qs, qh, ql, qn⟩ = ok at *
      obtain ⟨ec, hec⟩ : ∃ ec : Int, (if ok = true then (0 : Int) else 2) = ec := ⟨_, rfl⟩
      rw [hec] at CN
      have HEC : Hid ((ec == 0) = ok) := by show _ = _; rw [← hec]; cases ok <;> rfl
      clear hec
      obtain ⟨la, hla⟩ : ∃ la, PV.last ⟨qs, qh, ql, qn⟩ = la := ⟨_, rfl⟩
      rw [hla] at CS CN
      obtain ⟨ls, lh, ll⟩ := la
      have hls : ls = qs := by have := congrArg AV.six hla; exact this.symm
      subst hls
      unfold PV.val at CS
      unfold AV.val at CN CA CB
      unfold PV.a at CA HE1 HE2 HEA HEB
      simp only at CS CN CA CB HE1 HE2 HEA HEB
      generalize inP p ⟨ls, qh, ql⟩ = xa at *
      generalize inP p ⟨ns, nh, nl⟩ = xb at *
      generalize eqA ⟨ns, nh, nl⟩ ⟨ls, qh, ql⟩ = yb at *
      generalize edgeA p ⟨ls, qh, ql, qn⟩ = EA at *
      generalize edgeB p ⟨ls, qh, ql, qn⟩ = EB at *
      generalize edgesP p (l.take k) = done at *
      clear hlk htk hmem hbk hc0 hcj hqo hc03 hcj3 hblk hsame hfold1 hfold2 hla HEQ
      go_wp2_with fail
      refine (CS.out _).mono ?_
      rintro e w4 ⟨rfl, hb4⟩
      have k7 := (Blk.new wo 35 #[.bool ls, .int .u64 qh, .int .u64 ql, .int .i64 qn]).below hb4 (Blk.new wo _ _).lt
      have HRW4 := Lib.hid ((HRW.out.alloc _).step hb4)
      have K7 := Lib.hid k7
      have z4 := k7.lt
      clear hb4 k7 q0 q1 q2 q3
      go_wp2_with fail
      refine (CN.out _).mono ?_
      rintro e w6 ⟨rfl, hb6⟩
      have HRW6 := Lib.hid (((HRW4.out.alloc _).alloc _).step hb6)
      have k76 := ((K7.out.alloc (.cells #[.bool ls, .int .u64 qh, .int .u64 ql] 24)).alloc (.cells #[.bool ls, .int .u64 lh, .int .u64 ll] 24)).below hb6 ((K7.out.alloc _).alloc _).lt
      have K76 := Lib.hid k76
      have z6 := k76.lt
      have d0 := k76.cell 0
      have d1 := k76.cell 1
      have d2 := k76.cell 2
      simp at d0 d1 d2
      clear hb6 k76
      go_wp2
      obtain ⟨wi, hwi⟩ : ∃ wi, ((w6.alloc (.cells #[.bool ns, .int .u64 nh, .int .u64 nl] 24)).alloc (.cells #[.bool ls, .int .u64 qh, .int .u64 ql, .bool ns, .int .u64 nh, .int .u64 nl] 24)) = wi := ⟨_, rfl⟩
      have K38 : Hid (Blk wi (w6.heap.size + 1) 24 #[.bool ls, .int .u64 qh, .int .u64 ql, .bool ns, .int .u64 nh, .int .u64 nl]) := by
        show Blk _ _ _ _
        rw [← hwi]
        have := Blk.new (w6.alloc (.cells #[.bool ns, .int .u64 nh, .int .u64 nl] 24)) 24 #[.bool ls, .int .u64 qh, .int .u64 ql, .bool ns, .int .u64 nh, .int .u64 nl]
        simpa using this
      have K7i : Hid (Blk wi wo.heap.size 35 #[.bool ls, .int .u64 qh, .int .u64 ql, .int .i64 qn]) := by rw [← hwi]; exact (K76.out.alloc _).alloc _
      have HRWi : Hid (RowAt w3 (w.heap.size + 1) (w.heap.size + 1) 24 3 wi u5 (done).length ((done).flatMap AV.cells)) := by rw [← hwi]; exact (HRW6.out.alloc _).alloc _
      have hiz : w6.heap.size + 2 ≤ wi.heap.size := by rw [← hwi]; simp
      obtain ⟨G', hG1, hG2, hG3⟩ : ∃ G', (∀ k, u5.ownBlock = some k → k = G') ∧ (∀ k, G' = k → (k = w.heap.size + 1 ∨ w3.heap.size ≤ k)) ∧ G' < wo.heap.size := by
        cases hu : u5.ownBlock with
        | none => exact ⟨w.heap.size + 1, (fun k h => by cases h), (fun k h => .inl h.symm), by omega⟩
        | some g =>
          refine ⟨g, (fun k h => by injection h with h; exact h.symm), (fun k h => by subst h; exact HRW.out.blk _ hu), ?_⟩
          apply Classical.byContradiction
          intro hc
          exact own_block_lt HRW.out.own (k := g) (by omega) hu
      have HROW2 : Hid (RowAt wi G' (w.heap.size + 1) 24 3 wi u5 (done).length ((done).flatMap AV.cells)) := ⟨HRWi.out.own, fun k h => .inl (hG1 k h), Below.refl _ _, fun _ _ _ => rfl, by omega⟩
      have HG2 := Lib.hid hG2
      have KPi := Lib.hid (KP3.out.below HRWi.out.below (by omega))
      rw [hwi]
      clear hwi hG1 hG2 d0 d1 d2 HRW4 HRW6 K7 K76
      go_loopw [40, 5, 14] (fun i v _ wr => (i = .int .i64 0 ∧ RowAt wi G' (w.heap.size + 1) 24 3 wr v (done).length ((done).flatMap AV.cells)) ∨ (i = .int .i64 1 ∧ RowAt wi G' (w.heap.size + 1) 24 3 wr v (done ++ EA).length ((done ++ EA).flatMap AV.cells)) ∨ (i = .int .i64 2 ∧ RowAt wi G' (w.heap.size + 1) 24 3 wr v (done ++ EA ++ EB).length ((done ++ EA ++ EB).flatMap AV.cells))) (fun i _ _ _ => 2 - (intOf i).toNat)
      case atStart => exact .inl ⟨rfl, HROW2.out⟩
      case round =>
        obtain ⟨wo2, rfl⟩ : ∃ wo2 : World, wo2 = wr := ⟨_, rfl⟩
        rcases hrel with ⟨rfl, hrow⟩ | ⟨rfl, hrow⟩ | ⟨rfl, hrow⟩
        · have HRW2 := Lib.hid hrow
          have kk38 := (hrow.kept (w6.heap.size + 1) (by omega) (by omega)).trans K38.out
          have kk7 := (hrow.kept wo.heap.size (by omega) (by omega)).trans K7i.out
          have kkp := KPi.out.below hrow.below (by omega)
          have e0 := Blk.cell kk38 0
          have e1 := Blk.cell kk38 1
          have e2 := Blk.cell kk38 2
          have p0 := kkp.cell 0
          have p1 := kkp.cell 1
          have p2 := kkp.cell 2
          have p3 := kkp.cell 3
          simp at e0 e1 e2 p0 p1 p2 p3
          have l1 := Blk.lt kk38
          have l2 := Blk.lt kk7
          have l3 := kkp.lt
          have hzi := hrow.below.size
          have KK7 : Hid (Blk wo2 wo.heap.size 35 #[.bool ls, .int .u64 qh, .int .u64 ql, .int .i64 qn]) := kk7
          clear hrow kk38 kk7 kkp
          go_wp2_with fail
          refine (CA.out _).mono ?_
          rintro e w8 ⟨rfl, hb8⟩
          have k14 := (Blk.new wo2 24 #[.bool ls, .int .u64 qh, .int .u64 ql]).below hb8 (Blk.new wo2 _ _).lt
          have k78 := (KK7.out.alloc (.cells #[.bool ls, .int .u64 qh, .int .u64 ql] 24)).below hb8 (KK7.out.alloc _).lt
          have f0 := k14.cell 0
          have f1 := k14.cell 1
          have f2 := k14.cell 2
          have g0 := k78.cell 0
          have g1 := k78.cell 1
          have g2 := k78.cell 2
          simp at f0 f1 f2 g0 g1 g2
          have l4 := k14.lt
          have l5 := k78.lt
          have HRW8 := Lib.hid ((HRW2.out.alloc _).step hb8)
          clear hb8 k14 k78 e0 e1 e2 p0 p1 p2 p3
          have he := HE1.out
          cases xa with
          | false =>
            have HEN : Hid (EA = ([] : List AV)) := by show _ = _; rw [HEA.out, if_neg (by simp)]
            go_wp2
            go_roundw
            case rel => exact .inr (.inl ⟨by go_num, by rw [HEN.out, List.append_nil]; exact HRW8.out⟩)
            case measure => simp [intOf]
          | true =>
            have HEN : Hid (EA = [⟨ls, qh, ql⟩]) := by show _ = _; rw [HEA.out, if_pos (by simp)]
            go_wp2_with (at_builtin; go_loud (refine wpList_append_row rfl _ _ 147 rfl wi G' (w.heap.size + 1) (.agg #[.bool false, .int .u64 0, .int .u64 0]) 3 24 Try.underlying147 infoAddrE rfl (by decide) _ _ _ rfl rfl ?a0 HRW8.out rfl ?a2 ?a3 ?a4 ?_))
            case a0 => (try simp); done
            case a2 => first | (intro u hu; simp at hu; (rcases hu with rfl | rfl | rfl <;> rfl); done) | exact ⟨rfl, rfl, rfl⟩
            case a3 => unfold maxLen; omega
            case a4 => omega
            intro v9 w9 hrow9 _ _
            have HROW9 : Hid (RowAt wi G' (w.heap.size + 1) 24 3 w9 v9 (done ++ EA).length ((done ++ EA).flatMap AV.cells)) := by
              show RowAt _ _ _ _ _ _ _ _ _
              rw [HEN.out, List.length_append, List.flatMap_append]
              first | exact hrow9 | simpa [AV.cells] using hrow9
            clear hrow9
            go_wp2
            go_roundw
            case rel => exact .inr (.inl ⟨by go_num, HROW9.out⟩)
            case measure => simp [intOf]
        · have HRW2 := Lib.hid hrow
          have kk38 := (hrow.kept (w6.heap.size + 1) (by omega) (by omega)).trans K38.out
          have kk7 := (hrow.kept wo.heap.size (by omega) (by omega)).trans K7i.out
          have kkp := KPi.out.below hrow.below (by omega)
          have e0 := Blk.cell kk38 3
          have e1 := Blk.cell kk38 4
          have e2 := Blk.cell kk38 5
          have p0 := kkp.cell 0
          have p1 := kkp.cell 1
          have p2 := kkp.cell 2
          have p3 := kkp.cell 3
          simp at e0 e1 e2 p0 p1 p2 p3
          have l1 := Blk.lt kk38
          have l2 := Blk.lt kk7
          have l3 := kkp.lt
          have hzi := hrow.below.size
          have KK7 : Hid (Blk wo2 wo.heap.size 35 #[.bool ls, .int .u64 qh, .int .u64 ql, .int .i64 qn]) := kk7
          clear hrow kk38 kk7 kkp
          go_wp2_with fail
          refine (CB.out _).mono ?_
          rintro e w8 ⟨rfl, hb8⟩
          have k14 := (Blk.new wo2 24 #[.bool ns, .int .u64 nh, .int .u64 nl]).below hb8 (Blk.new wo2 _ _).lt
          have k78 := (KK7.out.alloc (.cells #[.bool ns, .int .u64 nh, .int .u64 nl] 24)).below hb8 (KK7.out.alloc _).lt
          have f0 := k14.cell 0
          have f1 := k14.cell 1
          have f2 := k14.cell 2
          have g0 := k78.cell 0
          have g1 := k78.cell 1
          have g2 := k78.cell 2
          simp at f0 f1 f2 g0 g1 g2
          have l4 := k14.lt
          have l5 := k78.lt
          have HRW8 := Lib.hid ((HRW2.out.alloc _).step hb8)
          clear hb8 k14 k78 e0 e1 e2 p0 p1 p2 p3
          have he := HE2.out
          cases xb with
          | false =>
            have HEN : Hid (EB = ([] : List AV)) := by show _ = _; rw [HEB.out, if_neg (by simp)]
            go_wp2
            go_roundw
            case rel => exact .inr (.inr ⟨by go_num, by rw [HEN.out, List.append_nil]; exact HRW8.out⟩)
            case measure => simp [intOf]
          | true =>
            cases yb with
            | true =>
              have HEN : Hid (EB = [⟨ns, nh, nl⟩]) := by show _ = _; rw [HEB.out, if_pos (by simp)]
              have hle3 : EA.length ≤ 1 := by rw [HEA.out]; split <;> simp
              have hle2 : (done ++ EA).length ≤ 2 * k + 2 := by rw [List.length_append]; omega
              go_wp2_with (at_builtin; go_loud (refine wpList_append_row rfl _ _ 147 rfl wi G' (w.heap.size + 1) (.agg #[.bool false, .int .u64 0, .int .u64 0]) 3 24 Try.underlying147 infoAddrE rfl (by decide) _ _ _ rfl rfl ?b0 HRW8.out rfl ?b2 ?b3 ?b4 ?_))
              case b0 => (try simp); done
              case b2 => first | (intro u hu; simp at hu; (rcases hu with rfl | rfl | rfl <;> rfl); done) | exact ⟨rfl, rfl, rfl⟩
              case b3 => unfold maxLen; omega
              case b4 => omega
              intro v9 w9 hrow9 _ _
              have HROW9 : Hid (RowAt wi G' (w.heap.size + 1) 24 3 w9 v9 (done ++ EA ++ EB).length ((done ++ EA ++ EB).flatMap AV.cells)) := by
                show RowAt _ _ _ _ _ _ _ _ _
                rw [HEN.out, List.length_append, List.flatMap_append]
                first | exact hrow9 | simpa [AV.cells] using hrow9
              clear hrow9
              go_wp2
              go_roundw
              case rel => exact .inr (.inr ⟨by go_num, HROW9.out⟩)
              case measure => simp [intOf]
            | false =>
              have hec1 := HEC.out
              cases ok with
              | true =>
                have HEN : Hid (EB = [⟨ns, nh, nl⟩]) := by show _ = _; rw [HEB.out, if_pos (by simp)]
                have hle3 : EA.length ≤ 1 := by rw [HEA.out]; split <;> simp
                have hle2 : (done ++ EA).length ≤ 2 * k + 2 := by rw [List.length_append]; omega
                go_wp2_with (at_builtin; go_loud (refine wpList_append_row rfl _ _ 147 rfl wi G' (w.heap.size + 1) (.agg #[.bool false, .int .u64 0, .int .u64 0]) 3 24 Try.underlying147 infoAddrE rfl (by decide) _ _ _ rfl rfl ?c0 HRW8.out rfl ?c2 ?c3 ?c4 ?_))
                case c0 => (try simp); done
                case c2 => first | (intro u hu; simp at hu; (rcases hu with rfl | rfl | rfl <;> rfl); done) | exact ⟨rfl, rfl, rfl⟩
                case c3 => unfold maxLen; omega
                case c4 => omega
                intro v9 w9 hrow9 _ _
                have HROW9 : Hid (RowAt wi G' (w.heap.size + 1) 24 3 w9 v9 (done ++ EA ++ EB).length ((done ++ EA ++ EB).flatMap AV.cells)) := by
                  show RowAt _ _ _ _ _ _ _ _ _
                  rw [HEN.out, List.length_append, List.flatMap_append]
                  first | exact hrow9 | simpa [AV.cells] using hrow9
                clear hrow9
                go_wp2
                go_roundw
                case rel => exact .inr (.inr ⟨by go_num, HROW9.out⟩)
                case measure => simp [intOf]
              | false =>
                have HEN : Hid (EB = ([] : List AV)) := by show _ = _; rw [HEB.out, if_neg (by simp)]
                go_wp2
                go_roundw
                case rel => exact .inr (.inr ⟨by go_num, by rw [HEN.out, List.append_nil]; exact HRW8.out⟩)
                case measure => simp [intOf]
        · have HF := Lib.hid (RowAt.trans HRWi.out HG2.out hrow)
          clear hrow
          go_wp2
          go_roundw
          case rel => exact ⟨k + 1, by omega, by go_num, by rw [HT.out]; exact HF.out⟩
          case measure => simp [intOf]; omega
    · obtain rfl : k = n := by omega
      have hrow := HRW.out
      rw [List.take_of_length_le (by rw [HZ.out]; omega)] at hrow
      have HO := Lib.hid (own_mono hrow.own (base' := w.heap.size) (by omega))
      have HB := Lib.hid (HX3.out.trans (hrow.below.mono (by omega)))
      clear hrow
      go_wp2
      go_ret
      exact ⟨_, rfl, HO.out, HB.out⟩

end Go.Proofs.Ytonelibgaceflaa

namespace Go.Proofs.Ytonelibgaceflaa
open Go.ChangeShapes Go.WideShapes Go.ChangeAt Go.RowKit

set_option maxRecDepth 100000 in
set_option maxHeartbeats 800000 in
theorem sameInts_any (A A' : Option Addr) (n c n' c' : Nat) (l l' : List Int) (w : World) (hz : l.length = n) (hz' : l'.length = n') (hm : n ≤ maxLen) (hm' : n' ≤ maxLen)
    (hr : Reads w w.heap.size 1 A n (l.map (Value.int .i64))) (hr' : Reads w w.heap.size 1 A' n' (l'.map (Value.int .i64))) :
    Calls Try.prog 31 #[.slice A n c, .slice A' n' c'] w fun e w' => e = .returned (.bool (decide (l = l'))) ∧ Below w.heap.size w w' := by
  unfold maxLen at hm hm'
  by_cases hnn : n = n'
  · subst hnn
    have HZ := Lib.hid hz
    have HZ' := Lib.hid hz'
    have HR := Lib.hid hr
    have HR' := Lib.hid hr'
    obtain ⟨d, hd⟩ : ∃ d, d = decide (l = l') := ⟨_, rfl⟩
    rw [← hd]
    have HD := Lib.hid hd
    clear hz hz' hr hr' hm' hd
    go_enter Try.func31, Try.ntmps31
    go_wp2
    go_loopw [5, 4] (fun i _ wr => ∃ k : Nat, k ≤ n ∧ i = .int .i64 k ∧ l.take k = l'.take k ∧ Below w.heap.size w wr) (fun i _ _ => n - (intOf i).toNat)
    case atStart => exact ⟨0, by omega, rfl, rfl, Below.refl _ _⟩
    case round =>
      obtain ⟨k, hk, rfl, hto, hb⟩ := hrel
      have HT := Lib.hid hto
      clear hto
      by_cases hlt : k < n
      · obtain ⟨ad, x, rfl, hcx, htx, hlx, _⟩ := HR.out.at1 hlt
        have hbx : ad.block < w.heap.size := by
          obtain ⟨ad3, ha3, hb3, _⟩ := HR.out.2 (by omega)
          injection ha3 with ha3
          subst ha3
          exact hb3
        have q0 := (hb.cell (p := ad.add k) (by rw [block_of_add]; exact hbx)).trans hcx
        obtain ⟨ad', x', rfl, hcx', htx', hlx', _⟩ := HR'.out.at1 hlt
        have hbx' : ad'.block < w.heap.size := by
          obtain ⟨ad3, ha3, hb3, _⟩ := HR'.out.2 (by omega)
          injection ha3 with ha3
          subst ha3
          exact hb3
        have q1 := (hb.cell (p := ad'.add k) (by rw [block_of_add]; exact hbx')).trans hcx'
        have HTK := Lib.hid htx
        have HL := Lib.hid hlx
        have HTK' := Lib.hid htx'
        have HL' := Lib.hid hlx'
        have HBO := Lib.hid hb
        clear hcx htx hlx hcx' htx' hlx' hb
        by_cases he : x = x'
        · have HN : Hid (l.take (k + 1) = l'.take (k + 1)) := by show _ = _; rw [HTK.out, HTK'.out, HT.out, he]
          have he1 : (x == x') = true := by simpa using he
          have he2 : (x != x') = false := by simpa using he
          clear he
          go_wp2
          go_quiet (fail)
          go_wp2
          go_roundw
          case rel => exact ⟨k + 1, by omega, by go_num, HN.out, below_drewN HBO.out _⟩
          case measure => simp [intOf]; omega
        · have he1 : (x == x') = false := by simpa using he
          have he2 : (x != x') = true := by simpa using he
          have HN : Hid (d = false) := by
            show _ = _
            rw [HD.out, decide_eq_false_iff_not]
            intro h
            subst h
            have h1 := HL'.out
            rw [HL.out] at h1
            injection h1 with h1
            exact he h1
          clear he
          go_wp2
          go_quiet (fail)
          go_wp2
          go_ret
          exact ⟨by rw [HN.out]; rfl, below_drewN HBO.out _⟩
      · obtain rfl : k = n := by omega
        have HN : Hid (d = true) := by
          show _ = _
          rw [HD.out, decide_eq_true_iff]
          have := HT.out
          rwa [List.take_of_length_le (by rw [HZ.out]; omega), List.take_of_length_le (by rw [HZ'.out]; omega)] at this
        go_wp2
        go_ret
        exact ⟨by rw [HN.out]; rfl, hb⟩
  · have hd : decide (l = l') = false := by rw [decide_eq_false_iff_not]; intro h; subst h; omega
    rw [hd]
    have hne : ¬ (n : Int) = n' := by omega
    clear hz hz' hr hr' hd
    go_enter Try.func31, Try.ntmps31
    go_wp2
    go_ret
    exact ⟨rfl, Below.refl _ _⟩

end Go.Proofs.Ytonelibgaceflaa
