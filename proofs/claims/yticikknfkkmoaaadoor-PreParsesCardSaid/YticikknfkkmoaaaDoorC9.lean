/-
  
  
  
  
-/
import Derived.Test.YticikknfkkmoaaaDoorC7
import Derived.Lib.AtoiTie
import Derived.Test.YticikknfkkmoaaaDoorC8
import Derived.Test.YticikknfkkmoaaaDoorRows
import Derived.Test.YticikknfkkmoaaaDoorC6
import Derived.ChangeMaps5
namespace Go.Proofs.YticikknfkkmoaaaDoor
open Go.RowKit

theorem index_one {c : UInt8} : ∀ {x : List UInt8} (_ : c ∉ x) (y : List UInt8), Lib.index (x ++ c :: y) [c] = x.length
  | [], _, y => by rw [List.nil_append, index_cons_eq]; rfl
  | b :: x, h, y => by
    have hb : ¬ b = c := fun e => h (by rw [e]; simp)
    have ih := index_one (c := c) (x := x) (fun hm => h (by simp [hm])) y
    rw [List.cons_append, index_cons_ne hb, ih, if_neg (by omega), List.length_cons]
    omega
theorem index_no {c : UInt8} : ∀ {x : List UInt8} (_ : c ∉ x), Lib.index x [c] = -1
  | [], _ => by simp [Lib.index]
  | b :: x, h => by
    have hb : ¬ b = c := fun e => h (by rw [e]; simp)
    rw [index_cons_ne hb, index_no (c := c) (x := x) (fun hm => h (by simp [hm])), if_pos rfl]
theorem cut_one (c : UInt8) (s : List UInt8) : (c ∉ s ∧ Lib.cut s [c] = (s, [], false)) ∨ ∃ x y, c ∉ x ∧ s = x ++ c :: y ∧ Lib.cut s [c] = (x, y, true) := by
  by_cases h : c ∈ s
  · obtain ⟨x, y, hs, hx⟩ := List.eq_append_cons_of_mem h
    refine .inr ⟨x, y, hx, hs, ?_⟩
    unfold Lib.cut
    rw [hs, index_one hx, if_pos (by omega)]
    simp
  · refine .inl ⟨h, ?_⟩
    unfold Lib.cut
    rw [index_no h, if_neg (by omega)]
theorem first_c {c : UInt8} : ∀ {x x' y y' : List UInt8}, x ++ c :: y = x' ++ c :: y' → c ∉ x → c ∉ x' → x = x' ∧ y = y'
  | [], [], _, _, h, _, _ => by
    simp only [List.nil_append, List.cons.injEq, true_and] at h
    exact ⟨rfl, h⟩
  | [], b :: x', _, _, h, _, hx' => by
    simp only [List.nil_append, List.cons_append, List.cons.injEq] at h
    exact absurd (by rw [h.1]; simp) hx'
  | b :: x, [], _, _, h, hx, _ => by
    simp only [List.nil_append, List.cons_append, List.cons.injEq] at h
    exact absurd (by rw [h.1]; simp) hx
  | b :: x, b' :: x', _, _, h, hx, hx' => by
    simp only [List.cons_append, List.cons.injEq] at h
    obtain ⟨e1, e2⟩ := first_c h.2 (fun hm => hx (by simp [hm])) (fun hm => hx' (by simp [hm]))
    exact ⟨by rw [h.1, e1], e2⟩
theorem atoi_one : ∀ a : Fin 10, Lib.atoi [digB a] = some (a.val : Int) := by decide
theorem atoi_two : ∀ a b : Fin 10, Lib.atoi [digB a, digB b] = some ((a.val * 10 + b.val : Nat) : Int) := by decide
theorem atoi_three : ∀ a b c : Fin 10, Lib.atoi [digB a, digB b, digB c] = some (((a.val * 10 + b.val) * 10 + c.val : Nat) : Int) := by decide
theorem atoi_num {n : Nat} (h : n < 1000) : Lib.atoi (numT 10 n) = some (n : Int) := by
  by_cases h1 : n < 10
  · rw [numT_small h1]
    exact atoi_one ⟨n, h1⟩
  · rw [numT_step h1 (by omega)]
    by_cases h2 : n / 10 < 10
    · rw [numT_small h2, List.singleton_append, atoi_two ⟨n / 10, h2⟩ ⟨n % 10, Nat.mod_lt _ (by omega)⟩]
      congr 2
      show n / 10 * 10 + n % 10 = n
      omega
    · rw [numT_step h2 (by omega), numT_small (n := n / 10 / 10) (by omega)]
      show Lib.atoi [digB (n / 10 / 10), digB (n / 10 % 10), digB (n % 10)] = _
      rw [atoi_three ⟨n / 10 / 10, by omega⟩ ⟨n / 10 % 10, by omega⟩ ⟨n % 10, by omega⟩]
      congr 2
      show (n / 10 / 10 * 10 + n / 10 % 10) * 10 + n % 10 = n
      omega
theorem atoiAll_num {n : Nat} (h : n < 1000) : Lib.atoiAll (numT 10 n) = .ok (n : Int) := by
  rw [Lib.atoiAll_short _ (by have := numT_length 10 (by omega) 3 n (by omega); omega), atoi_num h]
  rfl
theorem addrTxt_slash {b : AV} (hb : b.Ok) : (47 : UInt8) ∉ addrTxt b.six b.hi b.lo := by
  have key : ∀ (c : UInt8) (base : Nat) (ns : List Nat), c ≠ 47 → 2 ≤ base → base ≤ 16 → (47 : UInt8) ∉ joinT c (ns.map (numT base)) := fun c base ns hc h1 h2 h => by
    rcases mem_joinT h with h | ⟨x, hx, h⟩
    · exact hc h.symm
    · obtain ⟨n, _, rfl⟩ := List.mem_map.1 hx
      exact (numT_sign h1 h2).2.2 h
  cases h6 : b.six with
  | false =>
    obtain ⟨ns, -, -, k3, -⟩ := four_parts hb h6
    rw [h6] at k3
    rw [k3]
    exact key 46 10 ns (by decide) (by omega) (by omega)
  | true =>
    rcases six_parts hb h6 with ⟨ns, -, -, k3, -⟩ | ⟨l, r, -, -, -, k4, -⟩
    · rw [h6] at k3
      rw [k3]
      exact key 58 16 ns (by decide) (by omega) (by omega)
    · rw [h6] at k4
      rw [k4]
      have h1 := key 58 16 l (by decide) (by omega) (by omega)
      have h2 := key 58 16 r (by decide) (by omega) (by omega)
      simp only [List.mem_append, List.mem_cons, not_or]
      exact ⟨h1, by decide, by decide, h2⟩

/-- A prefix that may be, and its text. -/
def IsP (p : PV) (s : List UInt8) : Prop := p.Ok ∧ preTxt p.six p.hi p.lo p.n = s
def noP : PV := ⟨false, 0, 0, 0⟩
open Classical in
/-- What is parsed of a prefix's text. -/
noncomputable def parsP (s : List UInt8) : PV × Int := if 600 < s.length then (noP, 1) else if h : ∃ p, IsP p s then (h.choose, 0) else (noP, 4)
theorem parsP_big {s : List UInt8} (h : 600 < s.length) : parsP s = (noP, 1) := by unfold parsP; rw [if_pos h]
theorem parsP_bad {s : List UInt8} (h : ¬ 600 < s.length) (hn : ∀ p, ¬ IsP p s) : parsP s = (noP, 4) := by
  unfold parsP
  rw [if_neg h, dif_neg (fun ⟨p, hp⟩ => hn p hp)]
theorem okP_len {p : PV} (h : p.Ok) : 0 ≤ p.n ∧ p.n ≤ 128 := by
  have h1 := Pfx.len h
  have h2 := wideI_le p.six
  omega
theorem isP_txt {p : PV} {s : List UInt8} (h : IsP p s) : addrTxt p.six p.hi p.lo ++ 47 :: numT 10 p.n.toNat = s := by
  have := h.2
  unfold preTxt at this
  rwa [List.append_assoc] at this
theorem isP_cut {p : PV} {s x y : List UInt8} (h : IsP p s) (hs : s = x ++ 47 :: y) (hx : 47 ∉ x) : x = addrTxt p.six p.hi p.lo ∧ y = numT 10 p.n.toNat := by
  have h1 := isP_txt h
  rw [hs] at h1
  obtain ⟨e1, e2⟩ := first_c h1 (addrTxt_slash h.1.addr) hx
  exact ⟨e1.symm, e2.symm⟩
theorem isP_slash {p : PV} {s : List UInt8} (h : IsP p s) : 47 ∈ s := by
  rw [← h.2]
  unfold preTxt
  simp
theorem isP_unique {p q : PV} {s : List UInt8} (hp : IsP p s) (hq : IsP q s) : p = q := by
  obtain ⟨e1, e2⟩ := isP_cut hq (isP_txt hp).symm (addrTxt_slash hp.1.addr)
  have ha := txt_inj (a := p.a) (b := q.a) hp.1.addr hq.1.addr e1
  have l1 := okP_len hp.1
  have l2 := okP_len hq.1
  have hn := atoi_num (n := p.n.toNat) (by omega)
  rw [e2, atoi_num (n := q.n.toNat) (by omega)] at hn
  have hn := Option.some.inj hn
  have e6 : p.six = q.six := congrArg AV.six ha
  have eh : p.hi = q.hi := congrArg AV.hi ha
  have el : p.lo = q.lo := congrArg AV.lo ha
  exact PV.ext' e6 eh el (by omega)
theorem parsP_is {p : PV} {s : List UInt8} (h : ¬ 600 < s.length) (hp : IsP p s) : parsP s = (p, 0) := by
  have he : ∃ p, IsP p s := ⟨p, hp⟩
  unfold parsP
  rw [if_neg h, dif_pos he, isP_unique he.choose_spec hp]
theorem isP_addr {p : PV} {s x y : List UInt8} (hl : ¬ 600 < s.length) (h : IsP p s) (hs : s = x ++ 47 :: y) (hx : 47 ∉ x) : parsA x = (p.a, 0) := by
  obtain ⟨e1, _⟩ := isP_cut h hs hx
  refine parsA_txt ?_ h.1.addr e1.symm
  rw [hs, List.length_append] at hl
  omega
theorem isP_num {p : PV} {s x y : List UInt8} (h : IsP p s) (hs : s = x ++ 47 :: y) (hx : 47 ∉ x) : Lib.atoiAll y = .ok p.n := by
  obtain ⟨_, e2⟩ := isP_cut h hs hx
  have l1 := okP_len h.1
  rw [e2, atoiAll_num (by omega)]
  congr 1
  omega
theorem isP_go {p : PV} {s x y : List UInt8} (h : IsP p s) (hs : s = x ++ 47 :: y) (hx : 47 ∉ x) : refGo 10 128 47 y (-1) = some [p.n.toNat] := by
  obtain ⟨_, e2⟩ := isP_cut h hs hx
  have l1 := okP_len h.1
  have := refGo_join (.inl rfl) (most := 128) (c := 47) (.inr (.inr rfl)) [p.n.toNat] (by simp) (fun n hn => by simp at hn; omega)
  rw [e2]
  exact this
end Go.Proofs.YticikknfkkmoaaaDoor

namespace Go.Proofs.YticikknfkkmoaaaDoor
open Go.ChangeShapes Go.WideShapes Go.ChangeAt Go.RowKit

def AtRet (s : List UInt8) (e : Ending) : Prop := (∃ v, Lib.atoiAll s = .ok v ∧ e = .returned (.tuple #[.int .i64 v, .nilIface])) ∨ (∃ v t p, (∀ v', Lib.atoiAll s ≠ .ok v') ∧ e = .returned (.tuple #[.int .i64 v, .iface t p]))
theorem atoi_any (s : ByteArray) (hs : s.size ≤ 1000) (w : World) (he : Errs w) : Calls Tryd.prog 16 #[.string s] w fun e w' => AtRet s.data.toList e ∧ Below w.heap.size w w' := by
  obtain ⟨⟨a, h1, h2⟩, b, h3, h4⟩ := he
  cases hp : Lib.atoiAll s.data.toList with
  | ok n => exact (Tryd.strconv_Atoi_ok s (by omega) n hp w).mono fun e w' ⟨h, hw⟩ => ⟨.inl ⟨n, hp, h⟩, hw.elim (fun h => by rw [h]; exact Below.refl _ _) (fun ⟨_, h⟩ => by rw [h]; exact Lib.bytesWorld_below _ _ _)⟩
  | «syntax» => exact (Tryd.strconv_Atoi_syntax s (by omega) hp a w h1 h2).mono fun e w' ⟨N, h, _, _, hb⟩ => ⟨.inr ⟨_, _, _, (fun v' hv => by rw [hp] at hv; cases hv), h⟩, hb⟩
  | range => exact (Tryd.strconv_Atoi_range s (by omega) hp b w h3 h4).mono fun e w' ⟨N, h, _, _, hb⟩ => ⟨.inr ⟨_, _, _, (fun v' hv => by rw [hp] at hv; cases hv), h⟩, hb⟩

def PParsRet (w : World) (r : PV × Int) (e : Ending) (w' : World) : Prop := e = .returned (.tuple #[.agg #[.bool r.1.six, .int .u64 r.1.hi, .int .u64 r.1.lo, .int .i64 r.1.n], .int .i64 r.2]) ∧ Below w.heap.size w w'
theorem pparsRet_bad {w w' : World} {s : List UInt8} (h : parsP s = (noP, 4)) (hb : Below w.heap.size w w') : PParsRet w (parsP s) (.returned (.tuple #[.agg #[.bool false, .int .u64 0, .int .u64 0, .int .i64 0], .int .i64 4])) w' := by
  rw [h]
  exact ⟨rfl, hb⟩

set_option maxRecDepth 100000 in
set_option maxHeartbeats 3200000 in
theorem preParse_any (s : ByteArray) (w : World) (hg : Glo w) : Calls Tryd.prog 7 #[.string s] w (PParsRet w (parsP s.data.toList)) := by
  have hsz : s.data.toList.length = s.size := (Lib.size_eq s).symm
  obtain ⟨post, hpost⟩ : ∃ post, PParsRet w (parsP s.data.toList) = post := ⟨_, rfl⟩
  have HP := Lib.hid hpost
  rw [hpost]
  clear hpost
  by_cases hbig : 600 < s.size
  · have hres := Lib.hid (parsP_big (s := s.data.toList) (by rw [hsz]; exact hbig))
    have hbi : (600 : Int) < (s.size : Int) := by omega
    clear hg hsz
    go_enter Tryd.func7, Tryd.ntmps7
    go_wp2
    refine bodyPost_ret (v := .tuple #[.agg #[.bool false, .int .u64 0, .int .u64 0, .int .i64 0], .int .i64 1]) ?_ rfl ?_
    · simp [results, Tryd.results7, go_sem]
    · rw [← HP.out, hres.out]
      refine ⟨rfl, ?_⟩
      (repeat' first | with_reducible exact Below.refl _ _ | with_reducible refine Below.drew ?_ | with_reducible refine Below.setCell ?_ ?_ _ | with_reducible refine Below.alloc ?_ ?_ _ | exact Nat.le_refl _ | (simp; done) | (simp; omega))
  have hnb : ¬ (600 : Int) < (s.size : Int) := by omega
  have hnl : ¬ 600 < s.data.toList.length := by rw [hsz]; exact hbig
  have CU : Hid (∀ (W : World), Below w.heap.size w W → Calls Tryd.prog 15 #[.string s, .string ⟨#[47]⟩] W fun e w' => e = .returned (.tuple #[.string ⟨(Lib.cut s.data.toList [47]).1.toArray⟩, .string ⟨(Lib.cut s.data.toList [47]).2.1.toArray⟩, .bool (Lib.cut s.data.toList [47]).2.2]) ∧ ∃ n, w' = W.drewN n) := fun W hW => by
    obtain ⟨m, hm⟩ := (hg.below hW).1
    exact Tryd.strings_Cut s ⟨#[47]⟩ m W (by omega) hm
  have hcl := cut_len s.data.toList [47]
  have hc1 := cut_one 47 s.data.toList
  generalize hcu : Lib.cut s.data.toList [47] = cu at *
  obtain ⟨x, y, gap⟩ := cu
  simp only at hcl CU
  have CA := Lib.hid (fun (W : World) (hW : Below w.heap.size w W) => parse_any ⟨x.toArray⟩ W (hg.below hW))
  have CT := Lib.hid (fun (W : World) (hW : Below w.heap.size w W) => atoi_any ⟨y.toArray⟩ (by simp [ByteArray.size]; omega) W (hg.below hW).2.1)
  unfold ParsRet at CA
  simp only at CA CT
  have HTB := Lib.hid (fun (W : World) (hW : Below w.heap.size w W) => (hg.below hW).2.2)
  have HNL := Lib.hid hnl
  have HC1 : Hid ((47 ∉ s.data.toList ∧ gap = false) ∨ (47 ∉ x ∧ s.data.toList = x ++ 47 :: y ∧ gap = true)) := by
    rcases hc1 with ⟨h1, h2⟩ | ⟨x', y', h1, h2, h3⟩
    · injection h2 with _ h2
      injection h2 with _ h2
      exact .inl ⟨h1, h2⟩
    · injection h3 with e1 h3
      injection h3 with e2 e3
      subst e1 e2
      exact .inr ⟨h1, h2, e3⟩
  have hpa := @parsA_ok x
  obtain ⟨⟨⟨six, hi, lo⟩, E⟩, hre⟩ : ∃ res, parsA x = res := ⟨_, rfl⟩
  rw [hre] at CA hpa
  simp only at CA hpa
  have HRE := Lib.hid hre
  have HPA := Lib.hid hpa
  clear hc1 hg hnl hcu hcl hsz hbig hre hpa
  go_enter Tryd.func7, Tryd.ntmps7
  go_wp2_with fail
  refine (CU.out _ ((Below.refl _ _).alloc (Nat.le_refl _) _)).mono ?_
  rintro e w1 ⟨rfl, nq, rfl⟩
  have HB1 : Hid (Below w.heap.size w ((w.alloc (.cells #[.bool false, .int .u64 0, .int .u64 0, .int .i64 0] 30)).drewN nq)) := below_drewN ((Below.refl _ _).alloc (Nat.le_refl _) _) _
  have hbk1 : Blk ((w.alloc (.cells #[.bool false, .int .u64 0, .int .u64 0, .int .i64 0] 30)).drewN nq) w.heap.size 30 #[.bool false, .int .u64 0, .int .u64 0, .int .i64 0] := (Blk.new w _ _).drewN _
  generalize (w.alloc (.cells #[.bool false, .int .u64 0, .int .u64 0, .int .i64 0] 30)).drewN nq = w1 at *
  go_wp2_with fail
  refine (CA.out _ HB1.out).mono ?_
  rintro e w2 ⟨rfl, hb2⟩
  have HB2 := Lib.hid (below_step HB1.out hb2)
  have hbk2 := hbk1.below hb2 hbk1.lt
  have HBA : Hid (Blk (w2.alloc (.cells #[.bool six, .int .u64 hi, .int .u64 lo] 24)) w2.heap.size 24 #[.bool six, .int .u64 hi, .int .u64 lo]) := Blk.new _ _ _
  have HBK2 : Hid (Blk (w2.alloc (.cells #[.bool six, .int .u64 hi, .int .u64 lo] 24)) w.heap.size 30 #[.bool false, .int .u64 0, .int .u64 0, .int .i64 0]) := hbk2.alloc _
  have hzw2 := hbk2.lt
  have HB2' : Hid (Below w.heap.size w (w2.alloc (.cells #[.bool six, .int .u64 hi, .int .u64 lo] 24))) := HB2.out.alloc (by omega) _
  clear hb2 hbk1 hbk2 CA CU
  go_wp2_with fail
  refine (CT.out _ HB2'.out).mono ?_
  rintro e w3 ⟨hat, hb3⟩
  have HB3 := Lib.hid (below_step HB2'.out hb3)
  have hba3 := HBA.out.below hb3 (by simp)
  have hbk3 := HBK2.out.below hb3 (by simp; omega)
  have c0 := hba3.cell 0
  have c1 := hba3.cell 1
  have c2 := hba3.cell 2
  simp at c0 c1 c2
  have g0 := hba3.frozen 0
  have g1 := hba3.frozen 1
  have g2 := hba3.frozen 2
  have hza3 := hba3.lt
  have hzk3 := hbk3.lt
  have HBK3 := Lib.hid hbk3
  have hbk3' := HBK3.out
  clear hb3 hba3 hbk3 CT HBA HBK2
  have d0 := hbk3'.cell 0
  have d1 := hbk3'.cell 1
  have d2 := hbk3'.cell 2
  have d3 := hbk3'.cell 3
  have f0 := hbk3'.frozen 0
  have f1 := hbk3'.frozen 1
  have f2 := hbk3'.frozen 2
  have f3 := hbk3'.frozen 3
  simp at d0 d1 d2 d3
  clear hbk3'
  rcases HC1.out with ⟨hns, rfl⟩ | ⟨hnx, hsx, rfl⟩
  · have HNO : Hid (∀ p, ¬ IsP p s.data.toList) := fun p hp => hns (isP_slash hp)
    clear hns
    rcases hat with ⟨v, -, rfl⟩ | ⟨v, t, pp, -, rfl⟩
    all_goals
      go_wp2
      refine bodyPost_ret (v := .tuple #[.agg #[.bool false, .int .u64 0, .int .u64 0, .int .i64 0], .int .i64 4]) ?_ rfl ?_
      · simp [results, Tryd.results7, go_sem, d0, d1, d2, d3, hzk3]
      · rw [← HP.out]
        refine pparsRet_bad (parsP_bad HNL.out HNO.out) ?_
        (repeat' first | with_reducible exact HB3.out | with_reducible refine Below.drew ?_ | with_reducible refine Below.setCell ?_ ?_ _ | with_reducible refine Below.alloc ?_ ?_ _ | exact Nat.le_refl _ | (simp; done) | (simp; omega) | omega)
  have HIA : Hid (∀ p, IsP p s.data.toList → (⟨⟨six, hi, lo⟩, E⟩ : AV × Int) = (p.a, 0)) := fun p hp => by
    have := isP_addr HNL.out hp hsx hnx
    rw [HRE.out] at this
    exact this
  have HIN : Hid (∀ p, IsP p s.data.toList → Lib.atoiAll y = .ok p.n) := fun p hp => isP_num hp hsx hnx
  clear hsx hnx
  by_cases hE : E = 0
  rotate_left
  · have HNO : Hid (∀ p, ¬ IsP p s.data.toList) := fun p hp => hE (congrArg Prod.snd (HIA.out p hp))
    have hEb : (E != 0) = true := by simpa using hE
    clear hE
    rcases hat with ⟨v, -, rfl⟩ | ⟨v, t, pp, -, rfl⟩
    all_goals
      go_wp2
      refine bodyPost_ret (v := .tuple #[.agg #[.bool false, .int .u64 0, .int .u64 0, .int .i64 0], .int .i64 4]) ?_ rfl ?_
      · simp [results, Tryd.results7, go_sem, d0, d1, d2, d3, hzk3]
      · rw [← HP.out]
        refine pparsRet_bad (parsP_bad HNL.out HNO.out) ?_
        (repeat' first | with_reducible exact HB3.out | with_reducible refine Below.drew ?_ | with_reducible refine Below.setCell ?_ ?_ _ | with_reducible refine Below.alloc ?_ ?_ _ | exact Nat.le_refl _ | (simp; done) | (simp; omega) | omega)
  subst hE
  have HAO := Lib.hid (HPA.out rfl).1
  rcases hat with ⟨v, hv, rfl⟩ | ⟨v, t, pp, hv, rfl⟩
  rotate_left
  · have HNO : Hid (∀ p, ¬ IsP p s.data.toList) := fun p hp => hv _ (HIN.out p hp)
    clear hv
    go_wp2
    refine bodyPost_ret (v := .tuple #[.agg #[.bool false, .int .u64 0, .int .u64 0, .int .i64 0], .int .i64 4]) ?_ rfl ?_
    · simp [results, Tryd.results7, go_sem, d0, d1, d2, d3, hzk3]
    · rw [← HP.out]
      refine pparsRet_bad (parsP_bad HNL.out HNO.out) ?_
      (repeat' first | with_reducible exact HB3.out | with_reducible refine Below.drew ?_ | with_reducible refine Below.setCell ?_ ?_ _ | with_reducible refine Below.alloc ?_ ?_ _ | exact Nat.le_refl _ | (simp; done) | (simp; omega) | omega)
  have HIV : Hid (∀ p, IsP p s.data.toList → p = ⟨six, hi, lo, v⟩) := fun p hp => by
    have h1 := congrArg Prod.fst (HIA.out p hp)
    have h2 := HIN.out p hp
    rw [hv] at h2
    injection h2 with h2
    simp only at h1
    exact PV.ext' (congrArg AV.six h1).symm (congrArg AV.hi h1).symm (congrArg AV.lo h1).symm h2.symm
  have CC := Lib.hid (fun (W : World) => check_any six hi lo v W HAO.out.rhi HAO.out.rlo)
  clear hv HIA HIN
  obtain ⟨ck, hck⟩ : ∃ ck, chk six hi lo v = ck := ⟨_, rfl⟩
  rw [hck] at CC
  have HCK := Lib.hid hck
  clear hck
  go_wp2_with fail
  refine (CC.out _).mono ?_
  rintro e w4 ⟨rfl, hb4⟩
  have HB4 : Hid (Below w.heap.size w w4) := below_step (HB3.out.alloc (by have := HB3.out.size; omega) _) hb4
  have hbp4 : Blk w4 w3.heap.size 30 #[.bool six, .int .u64 hi, .int .u64 lo, .int .i64 v] := (Blk.new w3 _ _).below hb4 (by simp)
  have hbk4 := (HBK3.out.alloc (.cells #[.bool six, .int .u64 hi, .int .u64 lo, .int .i64 v] 30)).below hb4 (by simp; omega)
  clear d0 d1 d2 d3 f0 f1 f2 f3 hb4 CC
  have d0 := hbk4.cell 0
  have d1 := hbk4.cell 1
  have d2 := hbk4.cell 2
  have d3 := hbk4.cell 3
  have f0 := hbk4.frozen 0
  have f1 := hbk4.frozen 1
  have f2 := hbk4.frozen 2
  have f3 := hbk4.frozen 3
  simp at d0 d1 d2 d3
  have p0 := hbp4.cell 0
  have p1 := hbp4.cell 1
  have p2 := hbp4.cell 2
  have p3 := hbp4.cell 3
  have q0 := hbp4.frozen 0
  have q1 := hbp4.frozen 1
  have q2 := hbp4.frozen 2
  have q3 := hbp4.frozen 3
  simp at p0 p1 p2 p3
  have hzk4 := hbk4.lt
  have hzp4 := hbp4.lt
  have HBK4 := Lib.hid hbk4
  have HBP4 := Lib.hid hbp4
  clear hbk4 hbp4
  by_cases hck : ck = 0
  rotate_left
  · have HNO : Hid (∀ p, ¬ IsP p s.data.toList) := fun p hp => by
      have := HIV.out p hp
      subst this
      have := Pfx.len hp.1
      have h2 : chk six hi lo v = 0 := by
        unfold chk
        rw [if_neg (by simp [show mayB six hi lo = true from hp.1.may]), if_neg (by simp only at this; omega), if_pos (show cleanB six hi lo v = true from hp.1.clean)]
      exact hck (HCK.out.symm.trans h2)
    have hckb : (ck != 0) = true := by simpa using hck
    clear hck
    go_wp2
    refine bodyPost_ret (v := .tuple #[.agg #[.bool false, .int .u64 0, .int .u64 0, .int .i64 0], .int .i64 4]) ?_ rfl ?_
    · simp [results, Tryd.results7, go_sem, d0, d1, d2, d3]
    · rw [← HP.out]
      refine pparsRet_bad (parsP_bad HNL.out HNO.out) ?_
      (repeat' first | with_reducible exact HB4.out | with_reducible refine Below.drew ?_ | with_reducible refine Below.setCell ?_ ?_ _ | with_reducible refine Below.alloc ?_ ?_ _ | exact Nat.le_refl _ | (simp; done) | (simp; omega) | omega)
  subst hck
  have hpok : PV.Ok ⟨six, hi, lo, v⟩ := chk_zero HAO.out.rhi HAO.out.rlo HCK.out
  have hpl := okP_len hpok
  simp only at hpl
  obtain ⟨n, rfl⟩ : ∃ n : Nat, v = n := ⟨v.toNat, by omega⟩
  have CO := Lib.hid (fun (W : World) (hW : Below w.heap.size w W) => preOf_any six hi lo n (by omega) HAO.out.rhi HAO.out.rlo (HTB.out W hW))
  have HPK := Lib.hid hpok
  clear hpok hpl
  by_cases ht : preTxt six hi lo n = s.data.toList
  · have HIS := Lib.hid (parsP_is HNL.out ⟨HPK.out, ht⟩)
    have hse : (⟨(preTxt six hi lo n).toArray⟩ : ByteArray) = s := by rw [ht]
    rw [hse] at CO
    clear ht hse
    go_wp2_with fail
    refine (CO.out _ HB4.out).mono ?_
    rintro e w5 ⟨rfl, hb5⟩
    obtain ⟨fc5, ff5⟩ := bcell hb5
    have HB5 := Lib.hid (below_step HB4.out hb5)
    have hzk5 : w.heap.size < w5.heap.size := by have := hb5.size; omega
    clear hb5 CO
    go_wp2
    refine bodyPost_ret (v := .tuple #[.agg #[.bool six, .int .u64 hi, .int .u64 lo, .int .i64 n], .int .i64 0]) ?_ rfl ?_
    · simp [results, Tryd.results7, go_sem, d0, d1, d2, d3, hzk4, fc5]
    · rw [← HP.out, HIS.out]
      refine ⟨rfl, ?_⟩
      (repeat' first | with_reducible exact HB5.out | with_reducible refine Below.drew ?_ | with_reducible refine Below.setCell ?_ ?_ _ | with_reducible refine Below.alloc ?_ ?_ _ | exact Nat.le_refl _ | (simp; done) | (simp; omega) | omega)
  · have HNO : Hid (∀ p, ¬ IsP p s.data.toList) := fun p hp => by
      have := HIV.out p hp
      subst this
      exact ht hp.2
    have hse : ¬ (⟨(preTxt six hi lo n).toArray⟩ : ByteArray) = s := fun h => ht (by rw [← h])
    obtain ⟨tx, htx⟩ : ∃ tx : ByteArray, ⟨(preTxt six hi lo n).toArray⟩ = tx := ⟨_, rfl⟩
    rw [htx] at CO hse
    have hsb : (tx.toList == s.toList) = false := by
      refine beq_eq_false_iff_ne.2 fun h => hse ?_
      rw [ByteArray.toList_eq, ByteArray.toList_eq] at h
      obtain ⟨⟨a⟩⟩ := tx
      obtain ⟨⟨b⟩⟩ := s
      simp only at h
      rw [h]
    clear htx hse ht
    go_wp2_with fail
    refine (CO.out _ HB4.out).mono ?_
    rintro e w5 ⟨rfl, hb5⟩
    obtain ⟨fc5, ff5⟩ := bcell hb5
    have HB5 := Lib.hid (below_step HB4.out hb5)
    have hzk5 : w.heap.size < w5.heap.size := by have := hb5.size; omega
    clear hb5 CO
    go_wp2
    refine bodyPost_ret (v := .tuple #[.agg #[.bool false, .int .u64 0, .int .u64 0, .int .i64 0], .int .i64 4]) ?_ rfl ?_
    · simp [results, Tryd.results7, go_sem, d0, d1, d2, d3, hzk4, fc5]
    · rw [← HP.out]
      refine pparsRet_bad (parsP_bad HNL.out HNO.out) ?_
      (repeat' first | with_reducible exact HB5.out | with_reducible refine Below.drew ?_ | with_reducible refine Below.setCell ?_ ?_ _ | with_reducible refine Below.alloc ?_ ?_ _ | exact Nat.le_refl _ | (simp; done) | (simp; omega) | omega)
end Go.Proofs.YticikknfkkmoaaaDoor

namespace Go.Proofs.YticikknfkkmoaaaDoor
open Go.ChangeShapes Go.WideShapes Go.ChangeAt Go.RowKit

theorem slash_at {L : List UInt8} {k : Nat} (h : L[k]? = some 47) : L = L.take k ++ 47 :: L.drop (k + 1) := by
  obtain ⟨h1, h2⟩ := List.getElem?_eq_some_iff.1 h
  have e : L.drop k = 47 :: L.drop (k + 1) := by rw [List.drop_eq_getElem_cons h1, h2]
  rw [← e, List.take_append_drop]
theorem no_slash {L : List UInt8} {k : Nat} (h : ∀ j, j < k → L[j]? ≠ some 47) : 47 ∉ L.take k := fun hm => by
  obtain ⟨j, hj, he⟩ := List.getElem_of_mem hm
  have hjk : j < k := by rw [List.length_take] at hj; omega
  refine h j hjk ?_
  have := List.getElem?_eq_getElem hj
  rw [he, List.getElem?_take_of_lt hjk] at this
  exact this

set_option maxRecDepth 100000 in
set_option maxHeartbeats 3200000 in
theorem refPreParse_any (s : ByteArray) (w : World) : Calls Tryd.prog 8 #[.string s] w (PParsRet w (parsP s.data.toList)) := by
  have hsz : s.data.toList.length = s.size := (Lib.size_eq s).symm
  obtain ⟨post, hpost⟩ : ∃ post, PParsRet w (parsP s.data.toList) = post := ⟨_, rfl⟩
  have HP := Lib.hid hpost
  rw [hpost]
  clear hpost
  by_cases hbig : 600 < s.size
  · have hres := Lib.hid (parsP_big (s := s.data.toList) (by rw [hsz]; exact hbig))
    have hbi : (600 : Int) < (s.size : Int) := by omega
    clear hsz
    go_enter Tryd.func8, Tryd.ntmps8
    go_wp2
    refine bodyPost_ret (v := .tuple #[.agg #[.bool false, .int .u64 0, .int .u64 0, .int .i64 0], .int .i64 1]) ?_ rfl ?_
    · simp [results, Tryd.results8, go_sem]
    · rw [← HP.out, hres.out]
      refine ⟨rfl, ?_⟩
      (repeat' first | with_reducible exact Below.refl _ _ | with_reducible refine Below.drew ?_ | with_reducible refine Below.setCell ?_ ?_ _ | with_reducible refine Below.alloc ?_ ?_ _ | exact Nat.le_refl _ | (simp; done) | (simp; omega))
  have hnb : ¬ (600 : Int) < (s.size : Int) := by omega
  have hs6 : s.size ≤ 600 := by omega
  have HNL : Hid (¬ 600 < s.data.toList.length) := by refine Lib.hid ?_; rw [hsz]; exact hbig
  have HLS := Lib.hid hsz
  have HAT := Lib.hid (fun (k : Nat) (b : UInt8) (h : s.data.toList[k]? = some b) (W : World) => str_at s k b h W)
  have CX := Lib.hid (fun (k : Nat) (W : World) => refParse_any (s.extract 0 k) W)
  have CY := Lib.hid (fun (k : Nat) (W : World) => refNums_any (.inl rfl) (most := 128) (by omega) 47 (s.extract k s.size) (by rw [ByteArray.size_extract]; omega) W)
  have HX0 := Lib.hid (fun k => ext_take s k)
  have HY0 := Lib.hid (fun k => ext_drop s k)
  obtain ⟨L, hL⟩ : ∃ L, s.data.toList = L := ⟨_, rfl⟩
  rw [hL] at HP HNL HLS HAT HX0 HY0
  have HL := Lib.hid hL
  have hbk0 := Blk.new w 30 #[.bool false, .int .u64 0, .int .u64 0, .int .i64 0]
  have HBK0 := Lib.hid hbk0
  have HB0 : Hid (Below w.heap.size w (w.alloc (.cells #[.bool false, .int .u64 0, .int .u64 0, .int .i64 0] 30))) := (Below.refl _ _).alloc (Nat.le_refl _) _
  clear hbig hsz hL hbk0
  go_enter Tryd.func8, Tryd.ntmps8
  go_wp2
  go_loopw [4] (fun i wr => ∃ k : Nat, k ≤ s.size ∧ i = .int .i64 k ∧ Hid (∀ j, j < k → L[j]? ≠ some 47) ∧ wr = (w.alloc (.cells #[.bool false, .int .u64 0, .int .u64 0, .int .i64 0] 30))) (fun i _ => s.size - (RowKit.intOf i).toNat)
  case atStart => exact ⟨0, by omega, rfl, fun j hj => absurd hj (by omega), rfl⟩
  case round =>
    obtain ⟨k, hk, rfl, hno, rfl⟩ := hrel
    have hwk : IntKind.i64.wrap ((k : Int) + 1) = (k : Int) + 1 := IntWalk.i64_in _ (by omega)
    by_cases hlt : k < s.size
    rotate_left
    · have hli : ¬ (k : Int) < (s.size : Int) := by omega
      have HNO : Hid (∀ p, ¬ IsP p L) := fun p hp => by
        obtain ⟨j, hj, he⟩ := List.getElem_of_mem (isP_slash hp)
        refine hno.out j (by rw [HLS.out] at hj; omega) ?_
        rw [List.getElem?_eq_getElem hj, he]
      go_wp2
      refine bodyPost_ret (v := .tuple #[.agg #[.bool false, .int .u64 0, .int .u64 0, .int .i64 0], .int .i64 4]) ?_ rfl ?_
      · simp [results, Tryd.results8, go_sem]
      · rw [← HP.out]
        refine pparsRet_bad (parsP_bad HNL.out HNO.out) ?_
        (repeat' first | with_reducible exact Below.refl _ _ | with_reducible refine Below.drew ?_ | with_reducible refine Below.setCell ?_ ?_ _ | with_reducible refine Below.alloc ?_ ?_ _ | exact Nat.le_refl _ | (simp; done) | (simp; omega))
    have hli : (k : Int) < (s.size : Int) := by omega
    obtain ⟨b, hbk⟩ : ∃ b, L[k]? = some b := ⟨_, List.getElem?_eq_getElem (by rw [HLS.out]; omega)⟩
    have HBK := Lib.hid hbk
    clear hbk
    by_cases hb47 : b = 47
    rotate_left
    · have hn47 : ((b.toNat : Int) == 47) = false := by
        simp
        intro h
        exact hb47 (UInt8.toNat_inj.1 (by have : (47 : UInt8).toNat = 47 := rfl; omega))
      have hne47 : ((b.toNat : Int) != 47) = true := by rw [bne, hn47]; rfl
      have hat := fun W => HAT.out k b HBK.out W
      have HN1 : Hid (∀ j, j < k + 1 → L[j]? ≠ some 47) := fun j hj h => by
        by_cases hjk : j = k
        · subst hjk
          rw [HBK.out] at h
          exact hb47 (Option.some.inj h)
        · exact hno.out j (by omega) h
      clear hb47
      go_wp2
      go_roundw
      case rel => exact ⟨k + 1, by omega, by go_num, HN1, by first | trivial | rfl⟩
      case measure => (simp [RowKit.intOf] <;> omega)
    subst hb47
    have hat : ∀ W, (Instr.index 9 (.string s) (.int .i64 (k : Int))).run Tryd.prog W = .ok (.int .u8 47) W := fun W => HAT.out k 47 HBK.out W
    have HSX := Lib.hid (slash_at HBK.out)
    have HNX := Lib.hid (no_slash hno.out)
    have CX := Lib.hid (CX.out k)
    have CY := Lib.hid (CY.out (k + 1))
    rw [HX0.out k] at CX
    rw [HY0.out (k + 1)] at CY
    generalize L.take k = x at *
    generalize L.drop (k + 1) = y at *
    have hpa := @parsA_ok x
    obtain ⟨⟨⟨six, hi, lo⟩, E⟩, hre⟩ : ∃ res, parsA x = res := ⟨_, rfl⟩
    rw [hre] at CX hpa
    unfold ParsRet at CX
    simp only at CX hpa
    have HPA := Lib.hid hpa
    have HIA : Hid (∀ p, IsP p L → (⟨⟨six, hi, lo⟩, E⟩ : AV × Int) = (p.a, 0)) := fun p hp => by
      have := isP_addr HNL.out hp HSX.out HNX.out
      rw [hre] at this
      exact this
    have HIN : Hid (∀ p, IsP p L → refGo 10 128 47 y (-1) = some [p.n.toNat]) := fun p hp => isP_go hp HSX.out HNX.out
    clear hpa hre HSX HNX HBK HX0 HY0 hno
    go_wp2_with fail
    refine (CX.out _).mono ?_
    rintro e w2 ⟨rfl, hb2⟩
    have HB2 := Lib.hid (below_step HB0.out hb2)
    have HBK2 := Lib.hid (HBK0.out.below hb2 (by simp))
    have HBA : Hid (Blk (w2.alloc (.cells #[.bool six, .int .u64 hi, .int .u64 lo] 24)) w2.heap.size 24 #[.bool six, .int .u64 hi, .int .u64 lo]) := Blk.new _ _ _
    have hzw2 := HBK2.out.lt
    have HB2' : Hid (Below w.heap.size w (w2.alloc (.cells #[.bool six, .int .u64 hi, .int .u64 lo] 24))) := HB2.out.alloc (by omega) _
    clear hb2 CX
    go_wp2_with fail
    refine (CY.out _).mono ?_
    rintro e w3 ⟨v1, l, fine, rfl, hown, hlen, hor, hb3⟩
    have HB3 := Lib.hid (below_step HB2'.out hb3)
    have hba3 := HBA.out.below hb3 (by simp)
    have hbk3 := (HBK2.out.alloc (.cells #[.bool six, .int .u64 hi, .int .u64 lo] 24)).below hb3 (by simp; omega)
    have c0 := hba3.cell 0
    have c1 := hba3.cell 1
    have c2 := hba3.cell 2
    simp at c0 c1 c2
    have g0 := hba3.frozen 0
    have g1 := hba3.frozen 1
    have g2 := hba3.frozen 2
    have hza3 := hba3.lt
    have hzk3 := hbk3.lt
    have HBK3 := Lib.hid hbk3
    have d0 := hbk3.cell 0
    have d1 := hbk3.cell 1
    have d2 := hbk3.cell 2
    have d3 := hbk3.cell 3
    have f0 := hbk3.frozen 0
    have f1 := hbk3.frozen 1
    have f2 := hbk3.frozen 2
    have f3 := hbk3.frozen 3
    simp at d0 d1 d2 d3
    have HOW := Lib.hid hown
    obtain ⟨A1, c1', rfl, hc1, -⟩ := own_reads hown
    clear hb3 hba3 hbk3 CY HBA hown
    have HBADP : Hid (∀ wx, Below w.heap.size w wx → (∀ p, ¬ IsP p L) → post (.returned (.tuple #[.agg #[.bool false, .int .u64 0, .int .u64 0, .int .i64 0], .int .i64 4])) wx) := fun wx hb h => by
      rw [← HP.out]
      exact pparsRet_bad (parsP_bad HNL.out h) hb
    by_cases hgood : E = 0 ∧ fine = true ∧ l.length = 1
    rotate_left
    · have HNO : Hid (∀ p, ¬ IsP p L) := fun p hp => by
        refine hgood ⟨congrArg Prod.snd (HIA.out p hp), ?_⟩
        have h2 := HIN.out p hp
        rcases hor with ⟨h, h'⟩ | ⟨_, h', _⟩
        · rw [h2] at h'
          have := Option.some.inj h'
          subst this
          exact ⟨h, rfl⟩
        · rw [h2] at h'; cases h'
      have hcase : (E != 0) = true ∨ (E = 0 ∧ fine = false) ∨ (E = 0 ∧ fine = true ∧ ((l.length : Int) != 1) = true) := by
        by_cases hE : E = 0
        · cases fine
          · exact .inr (.inl ⟨hE, rfl⟩)
          · refine .inr (.inr ⟨hE, rfl, ?_⟩)
            simp
            intro h
            exact hgood ⟨hE, rfl, by omega⟩
        · exact .inl (by simpa using hE)
      clear hgood hor HOW HIA HIN
      rcases hcase with hE | ⟨rfl, rfl⟩ | ⟨rfl, rfl, hl⟩
      all_goals
        go_wp2
        refine bodyPost_ret (v := .tuple #[.agg #[.bool false, .int .u64 0, .int .u64 0, .int .i64 0], .int .i64 4]) ?_ rfl (HBADP.out _ ?_ HNO.out)
        · simp [results, Tryd.results8, go_sem, d0, d1, d2, d3]
        · (repeat' first | with_reducible exact HB3.out | with_reducible refine Below.drew ?_ | with_reducible refine Below.setCell ?_ ?_ _ | with_reducible refine Below.alloc ?_ ?_ _ | exact Nat.le_refl _ | (simp; done) | (simp; omega) | omega)
    obtain ⟨rfl, rfl, hl1⟩ := hgood
    obtain ⟨n, rfl⟩ : ∃ n, l = [n] := List.length_eq_one_iff.1 hl1
    have hgo : refGo 10 128 47 y (-1) = some [n] := by
      rcases hor with ⟨_, h⟩ | ⟨h, _⟩
      · exact h
      · cases h
    have hn128 : (n : Int) ≤ 128 := refGo_le hgo n (by simp)
    have HAO := Lib.hid (HPA.out rfl).1
    have HIV : Hid (∀ p, IsP p L → p = ⟨six, hi, lo, n⟩) := fun p hp => by
      have h1 := congrArg Prod.fst (HIA.out p hp)
      have h2 := HIN.out p hp
      rw [hgo] at h2
      have h3 := Option.some.inj h2
      injection h3 with h3
      have h4 := okP_len hp.1
      simp only at h1
      exact PV.ext' (congrArg AV.six h1).symm (congrArg AV.hi h1).symm (congrArg AV.lo h1).symm (by simp only; omega)
    have CT := Lib.hid (fun (W : World) => refPreText_any (w := W) six hi lo n HAO.out.rhi HAO.out.rlo)
    obtain ⟨ck, hck⟩ : ∃ ck, chk six hi lo n = ck := ⟨_, rfl⟩
    unfold RetTxt ptxL at CT
    rw [hck] at CT
    have HCK := Lib.hid hck
    have hown3 : w3.ownsRow (w2.alloc (.cells #[.bool six, .int .u64 hi, .int .u64 lo] 24)).heap.size 3 1 (.slice A1 1 c1') 1 (([(n : Int)] : List Int).map (Value.int .i64)) := HOW.out
    obtain ⟨gB, cap, heq, hgB, hcB⟩ := own_cells hown3 (by omega)
    injection heq with heA _ _
    subst heA
    have r0 := hcB 0 (n : Int) rfl
    clear hor hgo hck HOW hcB HIA HIN hown3
    have HBX : Hid (Below w.heap.size w (w3.alloc (.cells #[.bool six, .int .u64 hi, .int .u64 lo, .int .i64 n] 30))) := HB3.out.alloc (by have := HB3.out.size; omega) _
    by_cases hz : ck = 0
    rotate_left
    · have HNO : Hid (∀ p, ¬ IsP p L) := fun p hp => by
        have := HIV.out p hp
        subst this
        have := Pfx.len hp.1
        have h2 : chk six hi lo n = 0 := by
          unfold chk
          rw [if_neg (by simp [show mayB six hi lo = true from hp.1.may]), if_neg (by simp only at this; omega), if_pos (show cleanB six hi lo n = true from hp.1.clean)]
        exact hz (HCK.out.symm.trans h2)
      have hckb : (ck != 0) = true := by simpa using hz
      rw [if_neg hz] at CT
      clear hz
      go_wp2_with fail
      go_region
      all_goals (
        go_wp2_with fail
        refine (CT.out _).mono ?_
        rintro e w4 ⟨rfl, hb4⟩
        have hbk4 := Blk.below (w := (w3.alloc (.cells #[.bool six, .int .u64 hi, .int .u64 lo, .int .i64 n] 30)).drew) ((HBK3.out.alloc _).drew) hb4 (by simp; omega)
        have HB4 := Lib.hid (below_step HBX.out.drew hb4)
        have k0 := hbk4.cell 0
        have k1 := hbk4.cell 1
        have k2 := hbk4.cell 2
        have k3 := hbk4.cell 3
        have j0 := hbk4.frozen 0
        have j1 := hbk4.frozen 1
        have j2 := hbk4.frozen 2
        have j3 := hbk4.frozen 3
        simp at k0 k1 k2 k3
        have hzk4 := hbk4.lt
        clear hb4 hbk4
        go_wp2
        refine bodyPost_ret (v := .tuple #[.agg #[.bool false, .int .u64 0, .int .u64 0, .int .i64 0], .int .i64 4]) ?_ rfl (HBADP.out _ ?_ HNO.out)
        · simp [results, Tryd.results8, go_sem, k0, k1, k2, k3]
        · (repeat' first | with_reducible exact HB4.out | with_reducible refine Below.drew ?_ | with_reducible refine Below.setCell ?_ ?_ _ | with_reducible refine Below.alloc ?_ ?_ _ | exact Nat.le_refl _ | (simp; done) | (simp; omega) | omega))
    subst hz
    rw [if_pos rfl] at CT
    have hpok : PV.Ok ⟨six, hi, lo, n⟩ := chk_zero HAO.out.rhi HAO.out.rlo HCK.out
    have HPK := Lib.hid hpok
    clear hpok
    by_cases ht : preTxt six hi lo n = L
    · have HIS := Lib.hid (parsP_is HNL.out ⟨HPK.out, ht⟩)
      have hse : (⟨(preTxt six hi lo n).toArray⟩ : ByteArray) = s := by rw [ht, ← HL.out]
      rw [hse] at CT
      clear ht hse
      go_wp2_with fail
      go_region
      all_goals (
        go_wp2_with fail
        refine (CT.out _).mono ?_
        rintro e w4 ⟨rfl, hb4⟩
        have hbk4 := Blk.below (w := (w3.alloc (.cells #[.bool six, .int .u64 hi, .int .u64 lo, .int .i64 n] 30)).drew) ((HBK3.out.alloc _).drew) hb4 (by simp; omega)
        have hbp4 : Blk w4 w3.heap.size 30 #[.bool six, .int .u64 hi, .int .u64 lo, .int .i64 n] := Blk.below (w := (w3.alloc (.cells #[.bool six, .int .u64 hi, .int .u64 lo, .int .i64 n] 30)).drew) (Blk.new w3 _ _).drew hb4 (by simp)
        have HB4 := Lib.hid (below_step HBX.out.drew hb4)
        have k0 := hbk4.cell 0
        have k1 := hbk4.cell 1
        have k2 := hbk4.cell 2
        have k3 := hbk4.cell 3
        have j0 := hbk4.frozen 0
        have j1 := hbk4.frozen 1
        have j2 := hbk4.frozen 2
        have j3 := hbk4.frozen 3
        simp at k0 k1 k2 k3
        have p0 := hbp4.cell 0
        have p1 := hbp4.cell 1
        have p2 := hbp4.cell 2
        have p3 := hbp4.cell 3
        have q0 := hbp4.frozen 0
        have q1 := hbp4.frozen 1
        have q2 := hbp4.frozen 2
        have q3 := hbp4.frozen 3
        simp at p0 p1 p2 p3
        have hzk4 := hbk4.lt
        clear hb4 hbk4 hbp4
        go_wp2
        refine bodyPost_ret (v := .tuple #[.agg #[.bool six, .int .u64 hi, .int .u64 lo, .int .i64 n], .int .i64 0]) ?_ rfl ?_
        · simp [results, Tryd.results8, go_sem, k0, k1, k2, k3]
        · rw [← HP.out, HIS.out]
          refine ⟨rfl, ?_⟩
          (repeat' first | with_reducible exact HB4.out | with_reducible refine Below.drew ?_ | with_reducible refine Below.setCell ?_ ?_ _ | with_reducible refine Below.alloc ?_ ?_ _ | exact Nat.le_refl _ | (simp; done) | (simp; omega) | omega))
    · have HNO : Hid (∀ p, ¬ IsP p L) := fun p hp => by
        have := HIV.out p hp
        subst this
        exact ht hp.2
      have hse : ¬ (⟨(preTxt six hi lo n).toArray⟩ : ByteArray) = s := fun h => ht (by rw [← HL.out, ← h])
      obtain ⟨tx, htx⟩ : ∃ tx : ByteArray, ⟨(preTxt six hi lo n).toArray⟩ = tx := ⟨_, rfl⟩
      rw [htx] at CT hse
      have hsb : (tx.toList == s.toList) = false := by
        refine beq_eq_false_iff_ne.2 fun h => hse ?_
        rw [ByteArray.toList_eq, ByteArray.toList_eq] at h
        obtain ⟨⟨a⟩⟩ := tx
        obtain ⟨⟨b⟩⟩ := s
        simp only at h
        rw [h]
      clear htx hse ht
      go_wp2_with fail
      go_region
      all_goals (
        go_wp2_with fail
        refine (CT.out _).mono ?_
        rintro e w4 ⟨rfl, hb4⟩
        have hbk4 := Blk.below (w := (w3.alloc (.cells #[.bool six, .int .u64 hi, .int .u64 lo, .int .i64 n] 30)).drew) ((HBK3.out.alloc _).drew) hb4 (by simp; omega)
        have HB4 := Lib.hid (below_step HBX.out.drew hb4)
        have k0 := hbk4.cell 0
        have k1 := hbk4.cell 1
        have k2 := hbk4.cell 2
        have k3 := hbk4.cell 3
        have j0 := hbk4.frozen 0
        have j1 := hbk4.frozen 1
        have j2 := hbk4.frozen 2
        have j3 := hbk4.frozen 3
        simp at k0 k1 k2 k3
        have hzk4 := hbk4.lt
        clear hb4 hbk4
        go_wp2
        refine bodyPost_ret (v := .tuple #[.agg #[.bool false, .int .u64 0, .int .u64 0, .int .i64 0], .int .i64 4]) ?_ rfl (HBADP.out _ ?_ HNO.out)
        · simp [results, Tryd.results8, go_sem, k0, k1, k2, k3]
        · (repeat' first | with_reducible exact HB4.out | with_reducible refine Below.drew ?_ | with_reducible refine Below.setCell ?_ ?_ _ | with_reducible refine Below.alloc ?_ ?_ _ | exact Nat.le_refl _ | (simp; done) | (simp; omega) | omega))
end Go.Proofs.YticikknfkkmoaaaDoor

namespace Go.Proofs.YticikknfkkmoaaaDoor
open Go.ChangeShapes Go.WideShapes Go.ChangeAt Go.RowKit

set_option maxRecDepth 100000 in
set_option maxHeartbeats 800000 in
theorem preParses_any (s : ByteArray) (w : World) (hg : Glo w) :
    Calls Tryd.prog 4 #[.string s] w fun e w' => e = .returned (.bool true) ∧ Below w.heap.size w w' := by
  have CT := Lib.hid (preParse_any s w hg)
  have CR := Lib.hid (fun (W : World) => refPreParse_any s W)
  generalize parsP s.data.toList = res at *
  obtain ⟨⟨six, hi, lo, n⟩, E⟩ := res
  unfold PParsRet at CT CR
  clear hg
  go_enter Tryd.func4, Tryd.ntmps4
  go_wp2_with fail
  refine CT.out.mono ?_
  rintro e w1 ⟨rfl, hb⟩
  obtain ⟨fc, ff⟩ := bcell hb
  have s1 := hb.size
  have HB := Lib.hid hb
  clear hb
  go_wp2_with fail
  refine (CR.out _).mono ?_
  rintro e w2 ⟨rfl, hb⟩
  obtain ⟨fc2, ff2⟩ := bcell hb
  have s2 := bsize1 hb
  have HB2 := Lib.hid (below_step HB.out (balloc1 hb))
  clear hb
  go_wp2
  all_goals go_ret
  all_goals refine ⟨by simp, ?_⟩
  all_goals (repeat' first | with_reducible exact HB2.out | with_reducible exact Below.refl _ _ | with_reducible refine Below.drew ?_ | with_reducible refine below_drewN ?_ _ | with_reducible refine Below.setCell ?_ ?_ _ | with_reducible refine Below.alloc ?_ ?_ _ | (simp; done) | (simp; omega) | omega)

theorem preParses_pow : (Rows.preParsesRow.laid).filter (fun x => x.1 == "internal/strconv.uint64pow10") = [("internal/strconv.uint64pow10", Rows.laid_internal_strconv_uint64pow10)] := by
  unfold Rows.preParsesRow
  simp only [List.filter]
  rfl
theorem preParses_bru : (Rows.preParsesRow.laid).filter (fun x => x.1 == "math/bits.deBruijn64tab") = [("math/bits.deBruijn64tab", Rows.laid_math_bits_deBruijn64tab)] := by
  unfold Rows.preParsesRow
  simp only [List.filter]
  rfl
theorem preParses_syn : (Rows.preParsesRow.laid).filter (fun x => x.1 == "strconv.ErrSyntax") = [("strconv.ErrSyntax", Rows.laid_strconv_ErrSyntax)] := by
  unfold Rows.preParsesRow
  simp only [List.filter]
  rfl
theorem preParses_ran : (Rows.preParsesRow.laid).filter (fun x => x.1 == "strconv.ErrRange") = [("strconv.ErrRange", Rows.laid_strconv_ErrRange)] := by
  unfold Rows.preParsesRow
  simp only [List.filter]
  rfl
set_option maxRecDepth 100000 in
theorem preParses_walk {H : Type} {enc : TypeId × Value → H} (W : World) (vs : Array Value) (ds : List (DataW H)) (ps : List MemPlace)
    (h : ArgsOk Tryd.prog [9] H enc W vs.toList ds ps) (hL : laidMetH Tryd.prog Rows.preParsesRow.laid W) (hS : W.ShapedOpen Tryd.prog) :
    Calls Tryd.prog 4 vs W fun e W' => e = .returned (.bool true) ∧ Below W.heap.size W W' := by
  obtain ⟨hA, ⟨base, hval⟩, _, _⟩ := h
  obtain ⟨v0, d0, e0, _, h0⟩ := trodAll_one hA
  obtain ⟨s, rfl, _, _, _⟩ := Go.ChangeMaps.open_string Tryd.underlying9 (hval 0 _ v0 rfl (by rw [e0]; rfl)) h0
  obtain rfl : vs = #[.string s] := by cases vs; simp_all
  exact preParses_any s W (glo_of_laid hL hS preParses_pow preParses_bru preParses_syn preParses_ran)

end Go.Proofs.YticikknfkkmoaaaDoor
