/-
  
  
  
  
  
-/
import Derived.Test.YtmljdjakbbedlaaC2
import Derived.Test.YtmljdjakbbedlaaC7
import Derived.Test.YtmljdjakbbedlaaC4
import Derived.Test.YtmljdjakbbedlaaC3
import Derived.Test.YtmljdjakbbedlaaC1
namespace Go.Proofs.Ytmljdjakbbedlaa
open Go.ChangeShapes Go.WideShapes Go.ChangeAt Go.RowKit

/-- The fault of an offer whose prefix has the fault c. -/
def offE (c src peer met hop : Int) : Int :=
  if ¬ c = 0 then c else if src < 1 ∨ 4 < src then 3 else if peer < 0 ∨ 999 < peer ∨ met < 0 ∨ 999 < met ∨ hop < 1 ∨ 999 < hop then 2 else 0

set_option maxHeartbeats 1600000 in
theorem offerCheck_any (six : Bool) (hi lo n src peer met hop : Int) (w : World) (h1 : 0 ≤ hi ∧ hi < 18446744073709551616) (h2 : 0 ≤ lo ∧ lo < 18446744073709551616) :
    Calls Try.prog 123 #[.agg #[.bool six, .int .u64 hi, .int .u64 lo, .int .i64 n, .int .i64 src, .int .i64 peer, .int .i64 met, .int .i64 hop]] w fun e w' => e = .returned (.int .i64 (offE (chk six hi lo n) src peer met hop)) ∧ Below w.heap.size w w' := by
  have c := fun w => check_any six hi lo n w h1 h2
  obtain ⟨r, hr⟩ : ∃ r, r = offE (chk six hi lo n) src peer met hop := ⟨_, rfl⟩
  rw [← hr]
  by_cases hz : chk six hi lo n = 0
  · rw [hz] at c hr
    have CC := Lib.hid c
    have HR := Lib.hid hr
    clear c hz hr
    go_enter Try.func123, Try.ntmps123
    go_wp2_with fail
    refine (CC.out _).mono ?_
    rintro e w1 ⟨rfl, hb⟩
    obtain ⟨B1, S1, F⟩ := box1 (cs := [.bool six, .int .u64 hi, .int .u64 lo, .int .i64 n, .int .i64 _, .int .i64 peer, .int .i64 met, .int .i64 hop]) hb
    have q4 := F 4 _ rfl
    have q5 := F 5 _ rfl
    have q6 := F 6 _ rfl
    have q7 := F 7 _ rfl
    clear hb F
    go_wp2
    all_goals go_ret
    all_goals exact ⟨ret_int (by rw [HR.out]; unfold offE; rw [if_neg (by omega)]; split <;> (try split) <;> omega), B1⟩
  · generalize chk six hi lo n = k at *
    have CC := Lib.hid c
    have hb1 : (k == 0) = false := by simpa using hz
    have hb2 : (k != 0) = true := by simpa using hz
    have HR := Lib.hid (show r = k by rw [hr]; unfold offE; rw [if_pos hz])
    clear c hr
    go_enter Try.func123, Try.ntmps123
    go_wp2_with fail
    refine (CC.out _).mono ?_
    rintro e w1 ⟨rfl, hb⟩
    obtain ⟨B1, S1, F⟩ := box1 (cs := [.bool six, .int .u64 hi, .int .u64 lo, .int .i64 n, .int .i64 _, .int .i64 peer, .int .i64 met, .int .i64 hop]) hb
    have q4 := F 4 _ rfl
    have q5 := F 5 _ rfl
    have q6 := F 6 _ rfl
    have q7 := F 7 _ rfl
    clear hb F
    go_wp2
    go_ret
    exact ⟨ret_int HR.out.symm, B1⟩

set_option maxHeartbeats 1600000 in
theorem offerFault_any (six : Bool) (hi lo n src peer met hop : Int) (w : World) (h1 : 0 ≤ hi ∧ hi < 18446744073709551616) (h2 : 0 ≤ lo ∧ lo < 18446744073709551616) :
    Calls Try.prog 77 #[.agg #[.bool six, .int .u64 hi, .int .u64 lo, .int .i64 n, .int .i64 src, .int .i64 peer, .int .i64 met, .int .i64 hop]] w fun e w' => e = .returned (.int .i64 (offE (chk six hi lo n) src peer met hop)) ∧ Below w.heap.size w w' := by
  have c := fun w => preFault_any six hi lo n w h1 h2
  obtain ⟨r, hr⟩ : ∃ r, r = offE (chk six hi lo n) src peer met hop := ⟨_, rfl⟩
  rw [← hr]
  by_cases hz : chk six hi lo n = 0
  · rw [hz] at c hr
    have CC := Lib.hid c
    have HR := Lib.hid hr
    clear c hz hr
    rcases (by omega : src = 1 ∨ src = 2 ∨ src = 3 ∨ src = 4 ∨ (src < 1 ∨ 4 < src)) with rfl | rfl | rfl | rfl | hs
    · go_enter Try.func77, Try.ntmps77
      go_wp2_with fail
      refine (CC.out _).mono ?_
      rintro e w1 ⟨rfl, hb⟩
      obtain ⟨B1, S1, F⟩ := box1 (cs := [.bool six, .int .u64 hi, .int .u64 lo, .int .i64 n, .int .i64 _, .int .i64 peer, .int .i64 met, .int .i64 hop]) hb
      have q4 := F 4 _ rfl
      have q5 := F 5 _ rfl
      have q6 := F 6 _ rfl
      have q7 := F 7 _ rfl
      clear hb F
      go_wp2
      all_goals go_ret
      all_goals exact ⟨ret_int (by rw [HR.out]; unfold offE; rw [if_neg (by omega)]; split <;> (try split) <;> omega), B1⟩
    · go_enter Try.func77, Try.ntmps77
      go_wp2_with fail
      refine (CC.out _).mono ?_
      rintro e w1 ⟨rfl, hb⟩
      obtain ⟨B1, S1, F⟩ := box1 (cs := [.bool six, .int .u64 hi, .int .u64 lo, .int .i64 n, .int .i64 _, .int .i64 peer, .int .i64 met, .int .i64 hop]) hb
      have q4 := F 4 _ rfl
      have q5 := F 5 _ rfl
      have q6 := F 6 _ rfl
      have q7 := F 7 _ rfl
      clear hb F
      go_wp2
      all_goals go_ret
      all_goals exact ⟨ret_int (by rw [HR.out]; unfold offE; rw [if_neg (by omega)]; split <;> (try split) <;> omega), B1⟩
    · go_enter Try.func77, Try.ntmps77
      go_wp2_with fail
      refine (CC.out _).mono ?_
      rintro e w1 ⟨rfl, hb⟩
      obtain ⟨B1, S1, F⟩ := box1 (cs := [.bool six, .int .u64 hi, .int .u64 lo, .int .i64 n, .int .i64 _, .int .i64 peer, .int .i64 met, .int .i64 hop]) hb
      have q4 := F 4 _ rfl
      have q5 := F 5 _ rfl
      have q6 := F 6 _ rfl
      have q7 := F 7 _ rfl
      clear hb F
      go_wp2
      all_goals go_ret
      all_goals exact ⟨ret_int (by rw [HR.out]; unfold offE; rw [if_neg (by omega)]; split <;> (try split) <;> omega), B1⟩
    · go_enter Try.func77, Try.ntmps77
      go_wp2_with fail
      refine (CC.out _).mono ?_
      rintro e w1 ⟨rfl, hb⟩
      obtain ⟨B1, S1, F⟩ := box1 (cs := [.bool six, .int .u64 hi, .int .u64 lo, .int .i64 n, .int .i64 _, .int .i64 peer, .int .i64 met, .int .i64 hop]) hb
      have q4 := F 4 _ rfl
      have q5 := F 5 _ rfl
      have q6 := F 6 _ rfl
      have q7 := F 7 _ rfl
      clear hb F
      go_wp2
      all_goals go_ret
      all_goals exact ⟨ret_int (by rw [HR.out]; unfold offE; rw [if_neg (by omega)]; split <;> (try split) <;> omega), B1⟩
    · have s1 : (src == 1) = false := by simp; omega
      have s2 : (src == 2) = false := by simp; omega
      have s3 : (src == 3) = false := by simp; omega
      have s4 : (src == 4) = false := by simp; omega
      have t1 : (src != 1) = true := by simp; omega
      have t2 : (src != 2) = true := by simp; omega
      have t3 : (src != 3) = true := by simp; omega
      have t4 : (src != 4) = true := by simp; omega
      go_enter Try.func77, Try.ntmps77
      go_wp2_with fail
      refine (CC.out _).mono ?_
      rintro e w1 ⟨rfl, hb⟩
      obtain ⟨B1, S1, F⟩ := box1 (cs := [.bool six, .int .u64 hi, .int .u64 lo, .int .i64 n, .int .i64 _, .int .i64 peer, .int .i64 met, .int .i64 hop]) hb
      have q4 := F 4 _ rfl
      have q5 := F 5 _ rfl
      have q6 := F 6 _ rfl
      have q7 := F 7 _ rfl
      clear hb F
      go_wp2
      all_goals go_ret
      all_goals exact ⟨ret_int (by rw [HR.out]; unfold offE; rw [if_neg (by omega)]; split <;> (try split) <;> omega), B1⟩
  · generalize chk six hi lo n = k at *
    have CC := Lib.hid c
    have hb1 : (k == 0) = false := by simpa using hz
    have hb2 : (k != 0) = true := by simpa using hz
    have HR := Lib.hid (show r = k by rw [hr]; unfold offE; rw [if_pos hz])
    clear c hr
    go_enter Try.func77, Try.ntmps77
    go_wp2_with fail
    refine (CC.out _).mono ?_
    rintro e w1 ⟨rfl, hb⟩
    obtain ⟨B1, S1, F⟩ := box1 (cs := [.bool six, .int .u64 hi, .int .u64 lo, .int .i64 n, .int .i64 _, .int .i64 peer, .int .i64 met, .int .i64 hop]) hb
    have q4 := F 4 _ rfl
    have q5 := F 5 _ rfl
    have q6 := F 6 _ rfl
    have q7 := F 7 _ rfl
    clear hb F
    go_wp2
    go_ret
    exact ⟨ret_int HR.out.symm, B1⟩

end Go.Proofs.Ytmljdjakbbedlaa

namespace Go.Proofs.Ytmljdjakbbedlaa

def cutA (p : PV) : ActV := ⟨2, p, 0, ⟨false, 0, 0⟩⟩
def putA (p : PV) (hop : Int) : ActV := ⟨1, p, hop, ⟨false, 0, 0⟩⟩
def cutsL (a b : List RouteV) : List ActV := a.flatMap fun r => if getR b r.p = 0 then [cutA r.p] else []
def putsL (a b : List RouteV) : List ActV := b.flatMap fun r => if getR a r.p = r.hop then [] else [putA r.p r.hop]
def diffL (a b : List RouteV) : List ActV := cutsL a b ++ putsL a b
theorem cutsL_snoc (a b : List RouteV) (r : RouteV) : cutsL (a ++ [r]) b = cutsL a b ++ (if getR b r.p = 0 then [cutA r.p] else []) := by
  unfold cutsL; rw [List.flatMap_append]; simp
theorem putsL_snoc (a b : List RouteV) (r : RouteV) : putsL a (b ++ [r]) = putsL a b ++ (if getR a r.p = r.hop then [] else [putA r.p r.hop]) := by
  unfold putsL; rw [List.flatMap_append]; simp
theorem cutsL_len (b : List RouteV) : ∀ a : List RouteV, (cutsL a b).length ≤ a.length
  | [] => Nat.le_refl _
  | r :: a => by
    have := cutsL_len b a
    unfold cutsL at this ⊢
    rw [List.flatMap_cons, List.length_append, List.length_cons]
    have : (if getR b r.p = 0 then [cutA r.p] else []).length ≤ 1 := by split <;> simp
    omega
theorem putsL_len (a : List RouteV) : ∀ b : List RouteV, (putsL a b).length ≤ b.length
  | [] => Nat.le_refl _
  | r :: b => by
    have := putsL_len a b
    unfold putsL at this ⊢
    rw [List.flatMap_cons, List.length_append, List.length_cons]
    have : (if getR a r.p = r.hop then [] else [putA r.p r.hop]).length ≤ 1 := by split <;> simp
    omega
theorem getR_append_none {l m : List RouteV} {p : PV} (h : ∀ x ∈ l, ¬ x.p = p) : getR (l ++ m) p = getR m p := by
  induction l with
  | nil => rfl
  | cons x l ih =>
    show (if x.p = p then x.hop else getR (l ++ m) p) = _
    rw [if_neg (h x (by simp))]
    exact ih fun y hy => h y (by simp [hy])
theorem getR_absent {l : List RouteV} {p : PV} (h : ∀ x ∈ l, ¬ x.p = p) : getR l p = 0 := by
  have := getR_append_none (m := []) h
  rw [List.append_nil] at this
  exact this

/-- Two sorted lists, each parted in what is done and what is left. -/
structure Mrg (a0 a1 b0 b1 : List RouteV) : Prop where
  sa : (a0 ++ a1).Pairwise fun x y => ltP x.p y.p
  sb : (b0 ++ b1).Pairwise fun x y => ltP x.p y.p
  oa : ∀ x ∈ a0 ++ a1, x.p.Ok ∧ 1 ≤ x.hop
  ob : ∀ x ∈ b0 ++ b1, x.p.Ok ∧ 1 ≤ x.hop
  ab : ∀ x ∈ a0, ∀ y ∈ b1, ltP x.p y.p
  ba : ∀ y ∈ b0, ∀ x ∈ a1, ltP y.p x.p
theorem lt_ne {p q : PV} (hp : p.Ok) (h : ltP p q) : ¬ p = q := fun e => by subst e; exact ltP_irrefl hp h
/-- The left head stands ahead of all that is left on the right. -/
theorem Mrg.left {a0 a1 b0 b1 : List RouteV} {x : RouteV} (h : Mrg a0 (x :: a1) b0 b1) (hx : ∀ y ∈ b1, ltP x.p y.p) : Mrg (a0 ++ [x]) a1 b0 b1 ∧ getR (b0 ++ b1) x.p = 0 := by
  refine ⟨⟨by simpa using h.sa, h.sb, by simpa using h.oa, h.ob, ?_, fun y hy z hz => h.ba y hy z (by simp [hz])⟩, ?_⟩
  · intro z hz y hy
    rcases List.mem_append.1 hz with hz | hz
    · exact h.ab z hz y hy
    · rw [List.mem_singleton] at hz; subst hz; exact hx y hy
  · refine getR_absent fun y hy e => ?_
    rcases List.mem_append.1 hy with hy' | hy'
    · exact lt_ne (h.ob y hy).1 (h.ba y hy' x (by simp)) e
    · exact lt_ne (h.oa x (by simp)).1 (hx y hy') e.symm
theorem Mrg.right {a0 a1 b0 b1 : List RouteV} {y : RouteV} (h : Mrg a0 a1 b0 (y :: b1)) (hy : ∀ x ∈ a1, ltP y.p x.p) : Mrg a0 a1 (b0 ++ [y]) b1 ∧ getR (a0 ++ a1) y.p = 0 := by
  refine ⟨⟨h.sa, by simpa using h.sb, h.oa, by simpa using h.ob, fun x hx z hz => h.ab x hx z (by simp [hz]), ?_⟩, ?_⟩
  · intro z hz x hx
    rcases List.mem_append.1 hz with hz | hz
    · exact h.ba z hz x hx
    · rw [List.mem_singleton] at hz; subst hz; exact hy x hx
  · refine getR_absent fun x hx e => ?_
    rcases List.mem_append.1 hx with hx' | hx'
    · exact lt_ne (h.oa x hx).1 (h.ab x hx' y (by simp)) e
    · exact lt_ne (h.ob y (by simp)).1 (hy x hx') e.symm
theorem Mrg.both {a0 a1 b0 b1 : List RouteV} {x y : RouteV} (h : Mrg a0 (x :: a1) b0 (y :: b1)) (he : x.p = y.p) : Mrg (a0 ++ [x]) a1 (b0 ++ [y]) b1 ∧ getR (b0 ++ y :: b1) x.p = y.hop ∧ getR (a0 ++ x :: a1) y.p = x.hop := by
  have ta : ∀ z ∈ a1, ltP x.p z.p := (List.pairwise_cons.1 (List.pairwise_append.1 h.sa).2.1).1
  have tb : ∀ z ∈ b1, ltP y.p z.p := (List.pairwise_cons.1 (List.pairwise_append.1 h.sb).2.1).1
  refine ⟨⟨by simpa using h.sa, by simpa using h.sb, by simpa using h.oa, by simpa using h.ob, ?_, ?_⟩, ?_, ?_⟩
  · intro z hz w hw
    rcases List.mem_append.1 hz with hz | hz
    · exact h.ab z hz w (by simp [hw])
    · rw [List.mem_singleton] at hz; subst hz; rw [he]; exact tb w hw
  · intro z hz w hw
    rcases List.mem_append.1 hz with hz | hz
    · exact h.ba z hz w (by simp [hw])
    · rw [List.mem_singleton] at hz; subst hz; rw [← he]; exact ta w hw
  · rw [getR_append_none fun z hz => lt_ne (h.ob z (by simp [hz])).1 (h.ba z hz x (by simp))]
    show (if y.p = x.p then y.hop else _) = _
    rw [if_pos he.symm]
  · rw [getR_append_none fun z hz => lt_ne (h.oa z (by simp [hz])).1 (h.ab z hz y (by simp))]
    show (if x.p = y.p then x.hop else _) = _
    rw [if_pos he]
theorem Mrg.tail_a {a0 a1 b0 b1 : List RouteV} {x y : RouteV} (h : Mrg a0 (x :: a1) b0 (y :: b1)) (hl : ltP x.p y.p) : ∀ z ∈ y :: b1, ltP x.p z.p := by
  have tb : ∀ z ∈ b1, ltP y.p z.p := (List.pairwise_cons.1 (List.pairwise_append.1 h.sb).2.1).1
  intro z hz
  rcases List.mem_cons.1 hz with rfl | hz
  · exact hl
  · exact ltP_trans (h.oa x (by simp)).1 (h.ob y (by simp)).1 (h.ob z (by simp [hz])).1 hl (tb z hz)
theorem Mrg.tail_b {a0 a1 b0 b1 : List RouteV} {x y : RouteV} (h : Mrg a0 (x :: a1) b0 (y :: b1)) (hl : ltP y.p x.p) : ∀ z ∈ x :: a1, ltP y.p z.p := by
  have ta : ∀ z ∈ a1, ltP x.p z.p := (List.pairwise_cons.1 (List.pairwise_append.1 h.sa).2.1).1
  intro z hz
  rcases List.mem_cons.1 hz with rfl | hz
  · exact hl
  · exact ltP_trans (h.ob y (by simp)).1 (h.oa x (by simp)).1 (h.oa z (by simp [hz])).1 hl (ta z hz)

/-- The sign of an order. -/
def sgnP (p q : PV) : Int := if lessB p.a q.a then -1 else if lessB q.a p.a then 1 else p.n - q.n
theorem sgnP_lt {p q : PV} (hp : p.Ok) (hq : q.Ok) : (sgnP p q < 0 → ltP p q) ∧ (0 < sgnP p q → ltP q p) ∧ (sgnP p q = 0 → p = q) := by
  unfold sgnP ltP
  by_cases h1 : lessB p.a q.a = true
  · rw [if_pos h1]; exact ⟨fun _ => .inl h1, fun h => by omega, fun h => by omega⟩
  · rw [if_neg h1]
    by_cases h2 : lessB q.a p.a = true
    · rw [if_pos h2]; exact ⟨fun h => by omega, fun _ => .inl h2, fun h => by omega⟩
    · rw [if_neg h2]
      have ha : p.a = q.a := by
        have e1 := fun h => h1 ((lessB_num hp.addr hq.addr).2 h)
        have e2 := fun h => h2 ((lessB_num hq.addr hp.addr).2 h)
        have h6 : p.a.six = q.a.six := by
          cases x1 : p.a.six <;> cases x2 : q.a.six <;> simp_all
        refine AV.v_inj hp.addr hq.addr h6 ?_
        have n1 : ¬ p.a.v < q.a.v := fun h => e1 (.inr ⟨h6, h⟩)
        have n2 : ¬ q.a.v < p.a.v := fun h => e2 (.inr ⟨h6.symm, h⟩)
        omega
      refine ⟨fun h => .inr ⟨ha, by omega⟩, fun h => .inr ⟨ha.symm, by omega⟩, fun h => ?_⟩
      have e1 := congrArg AV.six ha
      have e2 := congrArg AV.hi ha
      have e3 := congrArg AV.lo ha
      exact PV.ext' e1 e2 e3 (by omega)

end Go.Proofs.Ytmljdjakbbedlaa

namespace Go.Proofs.Ytmljdjakbbedlaa
open Go.ChangeShapes Go.WideShapes Go.ChangeAt Go.RowKit

set_option maxRecDepth 100000 in
theorem over_pv (p q : PV) (w : World) (hp : p.Ok) (hq : q.Ok) : Calls Try.prog 46 #[p.val, q.val] w fun e w' => e = .returned (.bool (p.over q)) ∧ Below w.heap.size w w' := by
  have hn := ok_n hp
  have hw : wideI p.six ≤ 128 := by unfold wideI; split <;> omega
  have hm := Pfx.may hq
  obtain ⟨six, hi, lo, n⟩ := p
  obtain ⟨six', hi', lo', n'⟩ := q
  simp only at hn hw hm
  refine over_any six hi lo n six' hi' lo' n' w (Pfx.rhi hq) (Pfx.rlo hq) (fun h => ?_) (by omega) (by omega)
  subst h
  unfold mayB at hm
  simp at hm
  omega
theorem half_low_pv (p : PV) (w : World) (hp : p.Ok) : Calls Try.prog 135 #[p.val, .int .i64 0] w fun e w' => e = .returned p.low.val ∧ Below w.heap.size w w' := by
  have hn := ok_n hp
  have hw : wideI p.six ≤ 128 := by unfold wideI; split <;> omega
  obtain ⟨six, hi, lo, n⟩ := p
  simp only at hn hw
  exact half_low six hi lo n w hn.1 (by omega)
theorem half_high_pv (p : PV) (w : World) (hp : p.Ok) (hn : p.n < wideI p.six) : Calls Try.prog 135 #[p.val, .int .i64 1] w fun e w' => e = .returned p.high.val ∧ Below w.heap.size w w' := by
  have hn0 := ok_n hp
  have r1 := Pfx.rhi hp
  have r2 := Pfx.rlo hp
  obtain ⟨six, hi, lo, n⟩ := p
  simp only at hn hn0 r1 r2
  obtain ⟨m, rfl⟩ : ∃ m : Nat, n = m := ⟨n.toNat, by omega⟩
  exact half_high six hi lo m w r1 r2 hn

end Go.Proofs.Ytmljdjakbbedlaa

namespace Go.Proofs.Ytmljdjakbbedlaa
open Go.ChangeShapes Go.WideShapes Go.ChangeAt Go.RowKit

set_option maxHeartbeats 1600000 in
theorem refOver_any (six : Bool) (hi lo : Int) (n : Nat) (six' : Bool) (hi' lo' n' : Int) (w : World) (hp : Pfx six hi lo n) (h3 : 0 ≤ hi' ∧ hi' < 18446744073709551616) (h4 : 0 ≤ lo' ∧ lo' < 18446744073709551616) (h5 : mayB six' hi' lo' = true) :
    Calls Try.prog 80 #[.agg #[.bool six, .int .u64 hi, .int .u64 lo, .int .i64 n], .agg #[.bool six', .int .u64 hi', .int .u64 lo', .int .i64 n']] w fun e w' => e = .returned (.bool (overB six hi lo n six' hi' lo' n')) ∧ Below w.heap.size w w' := by
  have HI := Lib.hid (fun w => preIn_any six hi lo n six' hi' lo' w hp h3 h4 h5)
  clear hp h5
  by_cases hn : (n : Int) ≤ n'
  · have hE : overB six hi lo n six' hi' lo' n' = inB six hi lo n six' hi' lo' := by unfold overB; simp [hn]
    rw [hE]
    clear hE
    go_enter Try.func80, Try.ntmps80
    go_wp2_with fail
    refine (HI.out _).mono ?_
    rintro e w1 ⟨rfl, hb⟩
    have HB := Lib.hid (balloc2 hb)
    clear hb
    go_wp2
    go_ret
    exact ⟨rfl, HB.out⟩
  · have hE : overB six hi lo n six' hi' lo' n' = false := by unfold overB; simp [hn]
    rw [hE]
    clear hE
    go_enter Try.func80, Try.ntmps80
    go_wp2
    go_ret
    exact ⟨rfl, ((Below.refl _ _).alloc (Nat.le_refl _) _).alloc (by simp) _⟩

end Go.Proofs.Ytmljdjakbbedlaa

namespace Go.Proofs.Ytmljdjakbbedlaa
set_option linter.unusedVariables false

/-- The prefixes of a set of numbers within a prefix. -/
noncomputable def canonP (S : Nat → Prop) (p : PV) : List PV := (canon S p.k p.v).map (ofBlk p.six)
/-- The prefixes of a range. -/
noncomputable def rangeL (six : Bool) (a b : Nat) : List PV := (canon (InI a b) (widN six) 0).map (ofBlk six)

theorem rangeL_none (six : Bool) {a b : Nat} (h : b < a) : rangeL six a b = [] := by
  unfold rangeL
  rw [canon_none fun x _ _ hx => by have := hx.1; have := hx.2; omega]
  rfl
theorem range_step {p : PV} {last : AV} (hp : p.Ok) (hl : last.Ok) (h6 : last.six = p.six) (hle : p.last.v ≤ last.v)
    (hmax : p.n = 0 ∨ ¬ (Go.Proofs.Ytmljdjakbbedlaa.chk p.six p.hi p.lo (p.n - 1) = 0 ∧ (PV.last ⟨p.six, p.hi, p.lo, p.n - 1⟩).v ≤ last.v)) : rangeL p.six p.v last.v = p :: rangeL p.six (p.v + 2 ^ p.k) last.v := by
  have hk := PV.k_le hp
  have hn := ok_n hp
  have hln := last_num hp
  have hpp := Nat.two_pow_pos p.k
  have hlv := AV.v_lt hl
  rw [h6] at hlv
  unfold rangeL
  rw [canon_step (widN p.six) (k := p.k) (Nat.dvd_zero _) (Nat.zero_le _) (by have := AV.v_lt hp.addr; rw [Nat.zero_add]; exact this) (by omega) hk.1 (PV.dvd hp) (by omega) ?_, List.map_cons, ofBlk_self hp]
  rcases hmax with h | h
  · left
    rw [h] at hk
    omega
  · by_cases h0 : p.n = 0
    · left; rw [h0] at hk; omega
    · right
      rintro ⟨hd, he⟩
      have hq := (chk_num (p := ⟨p.six, p.hi, p.lo, p.n - 1⟩) hp.addr ⟨by show 0 ≤ p.n - 1; omega, by show p.n - 1 ≤ wideI p.six; omega⟩)
      have hk2 : PV.k ⟨p.six, p.hi, p.lo, p.n - 1⟩ = p.k + 1 := by have hw := widN_eq p.six; unfold PV.k; simp only; omega
      rw [hk2] at hq
      have hc := hq.2 hd
      refine h ⟨hc, ?_⟩
      have hok : PV.Ok ⟨p.six, p.hi, p.lo, p.n - 1⟩ := chk_zero (Pfx.rhi hp) (Pfx.rlo hp) hc
      rw [last_num hok, hk2]
      show p.v + 2 ^ (p.k + 1) - 1 ≤ last.v
      omega

theorem canonP_none {S : Nat → Prop} {p : PV} (h : ∀ x, p.v ≤ x → x < p.v + 2 ^ p.k → ¬ S x) : canonP S p = [] := by
  unfold canonP; rw [canon_none h]; rfl
theorem canonP_full {S : Nat → Prop} {p : PV} (hp : p.Ok) (h : ∀ x, p.v ≤ x → x < p.v + 2 ^ p.k → S x) : canonP S p = [p] := by
  unfold canonP; rw [canon_full h, List.map_cons, ofBlk_self hp]; rfl
theorem canonP_split {S : Nat → Prop} {p : PV} (hp : p.Ok) (hn : p.n < wideI p.six) (h : ¬ ∀ x, p.v ≤ x → x < p.v + 2 ^ p.k → S x) : canonP S p = canonP S p.low ++ canonP S p.high := by
  obtain ⟨_, l2, l3⟩ := low_num hp hn
  obtain ⟨_, h2, h3⟩ := high_num hp hn
  have e : p.low.k = p.high.k := by omega
  unfold canonP
  rw [l3] at h ⊢
  rw [canon_split h, List.map_append, l2, h2, ← e]
  rfl
/-- A prefix of one address. -/
theorem one_addr {p : PV} (hp : p.Ok) (hn : p.n = wideI p.six) : p.k = 0 := by unfold PV.k; omega

theorem top_ok (six : Bool) : PV.Ok ⟨six, 0, 0, 0⟩ := by
  cases six
  · exact chk_zero ⟨Int.le_refl _, by decide⟩ ⟨Int.le_refl _, by decide⟩ (by decide)
  · exact chk_zero ⟨Int.le_refl _, by decide⟩ ⟨Int.le_refl _, by decide⟩ (by decide)
theorem top_num (six : Bool) : PV.v ⟨six, 0, 0, 0⟩ = 0 ∧ PV.k ⟨six, 0, 0, 0⟩ = widN six := by
  cases six
  · exact ⟨rfl, rfl⟩
  · exact ⟨rfl, rfl⟩
theorem canonP_top (six : Bool) (a b : Nat) : canonP (InI a b) ⟨six, 0, 0, 0⟩ = rangeL six a b := by
  unfold canonP rangeL
  rw [(top_num six).1, (top_num six).2]

end Go.Proofs.Ytmljdjakbbedlaa
