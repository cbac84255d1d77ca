/-
  
  
  
  
  
  
-/
import Derived.Test.YtnflaaoapmhjgaaC7
import Derived.Test.YtnflaaoapmhjgaaC12
import Derived.Test.YtnflaaoapmhjgaaC6
import Derived.BigQuiet
import Derived.Test.YtnflaaoapmhjgaaC5
import Derived.Test.YtnflaaoapmhjgaaC2
import Derived.Test.YtnflaaoapmhjgaaC13
namespace Go.Proofs.Ytnflaaoapmhjgaa

def cutA (p : PV) : ActV := ⟨2, p, 0, ⟨false, 0, 0⟩⟩
def putA (p : PV) (hop : Int) : ActV := ⟨1, p, hop, ⟨false, 0, 0⟩⟩
def cutsL (a b : List RouteV) : List ActV := a.flatMap fun r => if getR b r.p = 0 then [cutA r.p] else []
def putsL (a b : List RouteV) : List ActV := b.flatMap fun r => if getR a r.p = r.hop then [] else [putA r.p r.hop]
def diffL (a b : List RouteV) : List ActV := cutsL a b ++ putsL a b
theorem cutsL_snoc (a b : List RouteV) (r : RouteV) : cutsL (a ++ [r]) b = cutsL a b ++ (if getR b r.p = 0 then [cutA r.p] else []) := by
  unfold cutsL; rw [List.flatMap_append]; simp
theorem putsL_snoc (a b : List RouteV) (r : RouteV) : putsL a (b ++ [r]) = putsL a b ++ (if getR a r.p = r.hop then [] else [putA r.p r.hop]) := by
  unfold putsL; rw [List.flatMap_append]; simp
theorem cutsL_len (b : List RouteV) : ∀ a : List RouteV, (cutsL a b).length ≤ a.length
  | [] => Nat.le_refl _
  | r :: a => by
    have := cutsL_len b a
    unfold cutsL at this ⊢
    rw [List.flatMap_cons, List.length_append, List.length_cons]
    have : (if getR b r.p = 0 then [cutA r.p] else []).length ≤ 1 := by split <;> simp
    omega
theorem putsL_len (a : List RouteV) : ∀ b : List RouteV, (putsL a b).length ≤ b.length
  | [] => Nat.le_refl _
  | r :: b => by
    have := putsL_len a b
    unfold putsL at this ⊢
    rw [List.flatMap_cons, List.length_append, List.length_cons]
    have : (if getR a r.p = r.hop then [] else [putA r.p r.hop]).length ≤ 1 := by split <;> simp
    omega
theorem getR_append_none {l m : List RouteV} {p : PV} (h : ∀ x ∈ l, ¬ x.p = p) : getR (l ++ m) p = getR m p := by
  induction l with
  | nil => rfl
  | cons x l ih =>
    show (if x.p = p then x.hop else getR (l ++ m) p) = _
    rw [if_neg (h x (by simp))]
    exact ih fun y hy => h y (by simp [hy])
theorem getR_absent {l : List RouteV} {p : PV} (h : ∀ x ∈ l, ¬ x.p = p) : getR l p = 0 := by
  have := getR_append_none (m := []) h
  rw [List.append_nil] at this
  exact this

/-- Two sorted lists, each parted in what is done and what is left. -/
structure Mrg (a0 a1 b0 b1 : List RouteV) : Prop where
  sa : (a0 ++ a1).Pairwise fun x y => ltP x.p y.p
  sb : (b0 ++ b1).Pairwise fun x y => ltP x.p y.p
  oa : ∀ x ∈ a0 ++ a1, x.p.Ok ∧ 1 ≤ x.hop
  ob : ∀ x ∈ b0 ++ b1, x.p.Ok ∧ 1 ≤ x.hop
  ab : ∀ x ∈ a0, ∀ y ∈ b1, ltP x.p y.p
  ba : ∀ y ∈ b0, ∀ x ∈ a1, ltP y.p x.p
theorem lt_ne {p q : PV} (hp : p.Ok) (h : ltP p q) : ¬ p = q := fun e => by subst e; exact ltP_irrefl hp h
/-- The left head stands ahead of all that is left on the right. -/
theorem Mrg.left {a0 a1 b0 b1 : List RouteV} {x : RouteV} (h : Mrg a0 (x :: a1) b0 b1) (hx : ∀ y ∈ b1, ltP x.p y.p) : Mrg (a0 ++ [x]) a1 b0 b1 ∧ getR (b0 ++ b1) x.p = 0 := by
  refine ⟨⟨by simpa using h.sa, h.sb, by simpa using h.oa, h.ob, ?_, fun y hy z hz => h.ba y hy z (by simp [hz])⟩, ?_⟩
  · intro z hz y hy
    rcases List.mem_append.1 hz with hz | hz
    · exact h.ab z hz y hy
    · rw [List.mem_singleton] at hz; subst hz; exact hx y hy
  · refine getR_absent fun y hy e => ?_
    rcases List.mem_append.1 hy with hy' | hy'
    · exact lt_ne (h.ob y hy).1 (h.ba y hy' x (by simp)) e
    · exact lt_ne (h.oa x (by simp)).1 (hx y hy') e.symm
theorem Mrg.right {a0 a1 b0 b1 : List RouteV} {y : RouteV} (h : Mrg a0 a1 b0 (y :: b1)) (hy : ∀ x ∈ a1, ltP y.p x.p) : Mrg a0 a1 (b0 ++ [y]) b1 ∧ getR (a0 ++ a1) y.p = 0 := by
  refine ⟨⟨h.sa, by simpa using h.sb, h.oa, by simpa using h.ob, fun x hx z hz => h.ab x hx z (by simp [hz]), ?_⟩, ?_⟩
  · intro z hz x hx
    rcases List.mem_append.1 hz with hz | hz
    · exact h.ba z hz x hx
    · rw [List.mem_singleton] at hz; subst hz; exact hy x hx
  · refine getR_absent fun x hx e => ?_
    rcases List.mem_append.1 hx with hx' | hx'
    · exact lt_ne (h.oa x hx).1 (h.ab x hx' y (by simp)) e
    · exact lt_ne (h.ob y (by simp)).1 (hy x hx') e.symm
theorem Mrg.both {a0 a1 b0 b1 : List RouteV} {x y : RouteV} (h : Mrg a0 (x :: a1) b0 (y :: b1)) (he : x.p = y.p) : Mrg (a0 ++ [x]) a1 (b0 ++ [y]) b1 ∧ getR (b0 ++ y :: b1) x.p = y.hop ∧ getR (a0 ++ x :: a1) y.p = x.hop := by
  have ta : ∀ z ∈ a1, ltP x.p z.p := (List.pairwise_cons.1 (List.pairwise_append.1 h.sa).2.1).1
  have tb : ∀ z ∈ b1, ltP y.p z.p := (List.pairwise_cons.1 (List.pairwise_append.1 h.sb).2.1).1
  refine ⟨⟨by simpa using h.sa, by simpa using h.sb, by simpa using h.oa, by simpa using h.ob, ?_, ?_⟩, ?_, ?_⟩
  · intro z hz w hw
    rcases List.mem_append.1 hz with hz | hz
    · exact h.ab z hz w (by simp [hw])
    · rw [List.mem_singleton] at hz; subst hz; rw [he]; exact tb w hw
  · intro z hz w hw
    rcases List.mem_append.1 hz with hz | hz
    · exact h.ba z hz w (by simp [hw])
    · rw [List.mem_singleton] at hz; subst hz; rw [← he]; exact ta w hw
  · rw [getR_append_none fun z hz => lt_ne (h.ob z (by simp [hz])).1 (h.ba z hz x (by simp))]
    show (if y.p = x.p then y.hop else _) = _
    rw [if_pos he.symm]
  · rw [getR_append_none fun z hz => lt_ne (h.oa z (by simp [hz])).1 (h.ab z hz y (by simp))]
    show (if x.p = y.p then x.hop else _) = _
    rw [if_pos he]
theorem Mrg.tail_a {a0 a1 b0 b1 : List RouteV} {x y : RouteV} (h : Mrg a0 (x :: a1) b0 (y :: b1)) (hl : ltP x.p y.p) : ∀ z ∈ y :: b1, ltP x.p z.p := by
  have tb : ∀ z ∈ b1, ltP y.p z.p := (List.pairwise_cons.1 (List.pairwise_append.1 h.sb).2.1).1
  intro z hz
  rcases List.mem_cons.1 hz with rfl | hz
  · exact hl
  · exact ltP_trans (h.oa x (by simp)).1 (h.ob y (by simp)).1 (h.ob z (by simp [hz])).1 hl (tb z hz)
theorem Mrg.tail_b {a0 a1 b0 b1 : List RouteV} {x y : RouteV} (h : Mrg a0 (x :: a1) b0 (y :: b1)) (hl : ltP y.p x.p) : ∀ z ∈ x :: a1, ltP y.p z.p := by
  have ta : ∀ z ∈ a1, ltP x.p z.p := (List.pairwise_cons.1 (List.pairwise_append.1 h.sa).2.1).1
  intro z hz
  rcases List.mem_cons.1 hz with rfl | hz
  · exact hl
  · exact ltP_trans (h.ob y (by simp)).1 (h.oa x (by simp)).1 (h.oa z (by simp [hz])).1 hl (ta z hz)

/-- The sign of an order. -/
def sgnP (p q : PV) : Int := if lessB p.a q.a then -1 else if lessB q.a p.a then 1 else p.n - q.n
theorem sgnP_lt {p q : PV} (hp : p.Ok) (hq : q.Ok) : (sgnP p q < 0 → ltP p q) ∧ (0 < sgnP p q → ltP q p) ∧ (sgnP p q = 0 → p = q) := by
  unfold sgnP ltP
  by_cases h1 : lessB p.a q.a = true
  · rw [if_pos h1]; exact ⟨fun _ => .inl h1, fun h => by omega, fun h => by omega⟩
  · rw [if_neg h1]
    by_cases h2 : lessB q.a p.a = true
    · rw [if_pos h2]; exact ⟨fun h => by omega, fun _ => .inl h2, fun h => by omega⟩
    · rw [if_neg h2]
      have ha : p.a = q.a := by
        have e1 := fun h => h1 ((lessB_num hp.addr hq.addr).2 h)
        have e2 := fun h => h2 ((lessB_num hq.addr hp.addr).2 h)
        have h6 : p.a.six = q.a.six := by
          cases x1 : p.a.six <;> cases x2 : q.a.six <;> simp_all
        refine AV.v_inj hp.addr hq.addr h6 ?_
        have n1 : ¬ p.a.v < q.a.v := fun h => e1 (.inr ⟨h6, h⟩)
        have n2 : ¬ q.a.v < p.a.v := fun h => e2 (.inr ⟨h6.symm, h⟩)
        omega
      refine ⟨fun h => .inr ⟨ha, by omega⟩, fun h => .inr ⟨ha.symm, by omega⟩, fun h => ?_⟩
      have e1 := congrArg AV.six ha
      have e2 := congrArg AV.hi ha
      have e3 := congrArg AV.lo ha
      exact PV.ext' e1 e2 e3 (by omega)

end Go.Proofs.Ytnflaaoapmhjgaa

namespace Go.Proofs.Ytnflaaoapmhjgaa
open Go.ChangeShapes Go.WideShapes Go.ChangeAt Go.RowKit

theorem getR_step {L : List RouteV} {k : Nat} {x : RouteV} {p : PV} (hx : L[k]? = some x) (hn : ∀ y ∈ L.take k, ¬ y.p = p) (he : x.p = p) : getR L p = x.hop := by
  have e : L = L.take k ++ x :: L.drop (k + 1) := by rw [← drop_at hx, List.take_append_drop]
  rw [e, getR_append_none hn]
  show (if x.p = p then x.hop else _) = _
  rw [if_pos he]

set_option maxRecDepth 100000 in
set_option maxHeartbeats 800000 in
theorem hopOf_any {w : World} {A : Option Addr} {n c : Nat} {L : List RouteV} (hz : L.length = n) (hn : n ≤ 1000) (hr : Reads w w.heap.size 5 A n (L.flatMap RouteV.cells)) (six : Bool) (hi lo m : Int) :
    Calls Try.prog 133 #[.slice A n c, .agg #[.bool six, .int .u64 hi, .int .u64 lo, .int .i64 m]] w fun e w' => e = .returned (.int .i64 (getR L ⟨six, hi, lo, m⟩)) ∧ Below w.heap.size w w' := by
  have HZ := Lib.hid hz
  have HR := Lib.hid hr
  clear hz hr
  have HEQ0 := fun w (x : PV) => eqPV x ⟨six, hi, lo, m⟩ w
  unfold PV.val at HEQ0
  have HEQH := Lib.hid HEQ0
  clear HEQ0
  obtain ⟨G, hG⟩ : ∃ G, getR L ⟨six, hi, lo, m⟩ = G := ⟨_, rfl⟩
  rw [hG]
  have HG := Lib.hid hG
  clear hG
  go_enter Try.func133, Try.ntmps133
  go_wp2
  obtain ⟨X, hX⟩ : ∃ X : World, X = w.alloc (.cells #[.bool six, .int .u64 hi, .int .u64 lo, .int .i64 m] 51) := ⟨_, rfl⟩
  have hbX : Below w.heap.size w X := by rw [hX]; exact (Below.refl _ _).alloc (Nat.le_refl _) _
  have hXs : X.heap.size = w.heap.size + 1 := by rw [hX]; simp
  have hka : Blk X w.heap.size 51 #[.bool six, .int .u64 hi, .int .u64 lo, .int .i64 m] := by rw [hX]; exact Blk.new _ _ _
  rw [← hX]
  have HKA := Lib.hid hka
  have HBX := Lib.hid hbX
  have HRX := Lib.hid ((HR.out.below hbX).more hbX.size)
  have hXl : w.heap.size < X.heap.size := by omega
  clear hX hbX hka hXs HR
  go_loopw [9] (fun i wr => ∃ k : Nat, k ≤ n ∧ i = .int .i64 k ∧ Hid (∀ y ∈ L.take k, ¬ y.p = ⟨six, hi, lo, m⟩) ∧ Below X.heap.size X wr) (fun i _ => n - (intOf i).toNat)
  case atStart => exact ⟨0, by omega, rfl, (fun y hy => by simp at hy), Below.refl _ _⟩
  case round =>
    obtain ⟨k, hk, rfl, hno, hb⟩ := hrel
    obtain ⟨wo, rfl⟩ : ∃ wo : World, wo = wr := ⟨_, rfl⟩
    have hszb := hb.size
    have hka := HKA.out.below hb HKA.out.lt
    have a0 := hka.cell 0
    have a1 := hka.cell 1
    have a2 := hka.cell 2
    have a3 := hka.cell 3
    simp at a0 a1 a2 a3
    have hxo : w.heap.size < wo.heap.size := by omega
    have HB := Lib.hid hb
    clear hka
    by_cases hlt : k < n
    · obtain ⟨ad, ⟨⟨xs, xh, xl, xn⟩, xo⟩, rfl, hlk, htk, hmem, hbk, hc0, hcj⟩ := HRX.out.atS RouteV.cells_length HZ.out hlt
      have q0 := (hb.cell (p := ad.add (k * 5)) (by rw [block_of_add]; exact hbk)).trans (hc0 _ rfl)
      have q1 := (hb.cell (p := ⟨(ad.add (k * 5)).block, (ad.add (k * 5)).off + 1, none⟩) (by rw [block_of_add]; exact hbk)).trans (hcj 1 _ rfl)
      have q2 := (hb.cell (p := ⟨(ad.add (k * 5)).block, (ad.add (k * 5)).off + 2, none⟩) (by rw [block_of_add]; exact hbk)).trans (hcj 2 _ rfl)
      have q3 := (hb.cell (p := ⟨(ad.add (k * 5)).block, (ad.add (k * 5)).off + 3, none⟩) (by rw [block_of_add]; exact hbk)).trans (hcj 3 _ rfl)
      have q4 := (hb.cell (p := ⟨(ad.add (k * 5)).block, (ad.add (k * 5)).off + 4, none⟩) (by rw [block_of_add]; exact hbk)).trans (hcj 4 _ rfl)
      have HEQ := fun w => HEQH.out w ⟨xs, xh, xl, xn⟩
      simp only at HEQ
      have HLK := Lib.hid hlk
      have HTK := Lib.hid htk
      clear hlk htk hmem hc0 hcj hb hbk
      by_cases he : (⟨xs, xh, xl, xn⟩ : PV) = ⟨six, hi, lo, m⟩
      · rw [decide_eq_true he] at HEQ
        have HX : Hid (G = xo) := by show _ = _; rw [← HG.out]; exact getR_step HLK.out hno.out he
        clear he
        go_wp2
        (try go_ret)
        exact ⟨by rw [HX.out]; rfl, HBX.out.trans ((HB.out.alloc hszb _).mono (by omega))⟩
      · rw [decide_eq_false he] at HEQ
        have HNO : Hid (∀ y ∈ L.take (k + 1), ¬ y.p = ⟨six, hi, lo, m⟩) := by
          intro y hy
          rw [HTK.out] at hy
          rcases List.mem_append.1 hy with hy | hy
          · exact hno.out y hy
          · rw [List.mem_singleton] at hy; subst hy; exact he
        clear he
        go_wp2
        go_roundw
        case rel => exact ⟨k + 1, by omega, by go_num, HNO, HB.out.alloc hszb _⟩
        case measure => simp [intOf]; omega
    · obtain rfl : k = n := by omega
      have HX : Hid (G = 0) := by
        show _ = _
        rw [← HG.out]
        have := hno.out
        rw [List.take_of_length_le (by rw [HZ.out]; omega)] at this
        exact getR_absent this
      go_wp2
      (try go_ret)
      exact ⟨by rw [HX.out]; rfl, HBX.out.trans (HB.out.mono (by omega))⟩

end Go.Proofs.Ytnflaaoapmhjgaa

namespace Go.Proofs.Ytnflaaoapmhjgaa
open Go.ChangeShapes Go.WideShapes Go.ChangeAt Go.RowKit

/-- The code and the acts of a difference. -/
def DiffIs (f g : Int) (l m : List RouteV) (E : Int) (acts : List ActV) : Prop :=
  (¬ f = 0 ∧ E = f ∧ acts = []) ∨ (f = 0 ∧ ¬ g = 0 ∧ E = g ∧ acts = []) ∨ (f = 0 ∧ g = 0 ∧ E = 0 ∧ ∃ Sa Sb, SortedOf l Sa ∧ SortedOf m Sb ∧ acts = diffL Sa Sb)
theorem diffIs_unique {f g : Int} {l m : List RouteV} {E E' : Int} {acts acts' : List ActV} (hl : f = 0 → Valid l) (hm : g = 0 → Valid m) (h : DiffIs f g l m E acts) (h' : DiffIs f g l m E' acts') : E = E' ∧ acts = acts' := by
  rcases h with ⟨a, rfl, rfl⟩ | ⟨a, b, rfl, rfl⟩ | ⟨a, b, rfl, Sa, Sb, h1, h2, rfl⟩ <;> rcases h' with ⟨a', rfl, rfl⟩ | ⟨a', b', rfl, rfl⟩ | ⟨a', b', rfl, Sa', Sb', h1', h2', rfl⟩
  · exact ⟨rfl, rfl⟩
  · exact absurd a' a
  · exact absurd a' a
  · exact absurd a a'
  · exact ⟨rfl, rfl⟩
  · exact absurd b' b
  · exact absurd a a'
  · exact absurd b b'
  · rw [sortedOf_unique (hl a) h1 h1', sortedOf_unique (hm b) h2 h2']; exact ⟨rfl, rfl⟩
theorem diffIs_len {f g : Int} {l m : List RouteV} {E : Int} {acts : List ActV} (hl : f = 0 → l.length ≤ 60) (hm : g = 0 → m.length ≤ 60) (h : DiffIs f g l m E acts) : acts.length ≤ 120 := by
  rcases h with ⟨a, rfl, rfl⟩ | ⟨a, b, rfl, rfl⟩ | ⟨a, b, rfl, Sa, Sb, h1, h2, rfl⟩
  · simp
  · simp
  · have e1 := h1.1.length_eq
    have e2 := h2.1.length_eq
    have e3 := cutsL_len Sb Sa
    have e4 := putsL_len Sa Sb
    have e5 := hl a
    have e6 := hm b
    unfold diffL
    rw [List.length_append]
    omega
def OwnActs (w : World) (base : Nat) (v : Value) (L : List ActV) : Prop := w.ownsRow base 117 9 v L.length (L.flatMap ActV.cells)
def DiffP (w : World) (f g : Int) (l m : List RouteV) (e : Ending) (w' : World) : Prop :=
  ∃ v E acts, e = .returned (.tuple #[v, .int .i64 E]) ∧ DiffIs f g l m E acts ∧ OwnActs w' w.heap.size v acts ∧ Below w.heap.size w w'
theorem diffP_l {w w' : World} {f g : Int} {l m : List RouteV} (h : ¬ f = 0) (hb : Below w.heap.size w w') : DiffP w f g l m (.returned (.tuple #[.slice none 0 0, .int .i64 f])) w' :=
  ⟨_, f, [], rfl, .inl ⟨h, rfl, rfl⟩, World.ownsRow_nil _ _ _ _, hb⟩
theorem diffP_m {w w' : World} {f g : Int} {l m : List RouteV} (h : f = 0) (h' : ¬ g = 0) (hb : Below w.heap.size w w') : DiffP w f g l m (.returned (.tuple #[.slice none 0 0, .int .i64 g])) w' :=
  ⟨_, g, [], rfl, .inr (.inl ⟨h, h', rfl, rfl⟩), World.ownsRow_nil _ _ _ _, hb⟩
theorem infoActD : (Try.prog.info? 117).map (fun i => (i.zero, i.size, i.bytes)) = some (some (.agg #[.int .i64 0, .bool false, .int .u64 0, .int .u64 0, .int .i64 0, .int .i64 0, .bool false, .int .u64 0, .int .u64 0]), 9, 72) := by kernel_rfl


set_option maxRecDepth 100000 in
set_option maxHeartbeats 3200000 in
theorem refDiff_any {w : World} {Al : Option Addr} {nl cl : Nat} {l : List RouteV} {Am : Option Addr} {nm cm : Nat} {m : List RouteV} (hl : IsRoutes w Al nl cl l) (hm : IsRoutes w Am nm cm m) :
    Calls Try.prog 59 #[.slice Al nl cl, .slice Am nm cm] w (DiffP w (routesF l) (routesF m) l m) := by
  have C1 := Lib.hid (tableFault_is hl)
  have C2 := Lib.hid (fun (W : World) (hb : Below w.heap.size w W) => tableFault_is (hm.below hb))
  have HG1 := Lib.hid (fun h0 => valid_of hl.2.2.1 h0)
  have HG2 := Lib.hid (fun h0 => valid_of hm.2.2.1 h0)
  have HZ1 := Lib.hid hl.1
  have HZ2 := Lib.hid hm.1
  have HR1 := Lib.hid (fun (W : World) (hb : Below w.heap.size w W) => (hl.below hb).2.2.2)
  have HR2 := Lib.hid (fun (W : World) (hb : Below w.heap.size w W) => (hm.below hb).2.2.2)
  obtain ⟨post, hpost⟩ : ∃ post, DiffP w (routesF l) (routesF m) l m = post := ⟨_, rfl⟩
  rw [hpost]
  obtain ⟨f, hf⟩ : ∃ f, routesF l = f := ⟨_, rfl⟩
  obtain ⟨g, hg⟩ : ∃ g, routesF m = g := ⟨_, rfl⟩
  rw [hf] at C1 HG1 hpost
  rw [hg] at C2 HG2 hpost
  have HP := Lib.hid hpost
  clear hl hm hpost hf hg
  by_cases hf : f = 0
  rotate_left
  · have d0 : (f != 0) = true := by simpa using hf
    go_enter Try.func59, Try.ntmps59
    go_wp2_with fail
    refine C1.out.mono ?_
    rintro e w1 ⟨rfl, hb1⟩
    have HB1 := Lib.hid hb1
    clear hb1
    go_wp2
    (try go_ret2)
    rw [← HP.out]
    exact diffP_l hf HB1.out
  subst hf
  by_cases hg : g = 0
  rotate_left
  · have d0 : (g != 0) = true := by simpa using hg
    go_enter Try.func59, Try.ntmps59
    go_wp2_with fail
    refine C1.out.mono ?_
    rintro e w1 ⟨rfl, hb1⟩
    have HB1 := Lib.hid hb1
    clear hb1
    go_wp2_with fail
    refine (C2.out _ HB1.out).mono ?_
    rintro e w2 ⟨rfl, hb2⟩
    have HB2 := Lib.hid (below_step HB1.out hb2)
    clear hb2
    go_wp2
    (try go_ret2)
    rw [← HP.out]
    exact diffP_m rfl hg HB2.out
  subst hg
  have hG1 := HG1.out rfl
  have hG2 := HG2.out rfl
  have hn1 : nl ≤ 60 := by rw [← HZ1.out]; exact hG1.2
  have hn2 : nm ≤ 60 := by rw [← HZ2.out]; exact hG2.2
  have HV1 : Hid (GoodL l) := hG1
  have HV2 : Hid (GoodL m) := hG2
  clear hG1 hG2 HG1 HG2
  go_enter Try.func59, Try.ntmps59
  go_wp2_with fail
  refine C1.out.mono ?_
  rintro e w1 ⟨rfl, hb1⟩
  have HB1 := Lib.hid hb1
  clear hb1
  go_wp2_with fail
  refine (C2.out _ HB1.out).mono ?_
  rintro e w2 ⟨rfl, hb2⟩
  have HB2 := Lib.hid (below_step HB1.out hb2)
  have hs2 := HB2.out.size
  clear hb2 C1 C2
  have HRA := Lib.hid (HR1.out _ HB2.out)
  go_wp2_with (at_builtin; go_loud (refine wpList_append_reads rfl _ _ 36 rfl w2.heap.size 57 _ 5 40 Try.underlying36 infoRouteP rfl (by decide) _ _ _ rfl _ _ _ rfl (World.ownsRow_nil _ _ _ _) _ _ HRA.out (rts_one _) ?c3 ?c4 ?c5 ?_))
  case c3 => unfold maxLen; omega
  case c4 => omega
  case c5 => exact Nat.le_refl _
  intro v9 w3 hown9 hb3
  have H93 : Hid (OwnRs w3 w2.heap.size v9 l) := by
    show World.ownsRow _ _ _ _ _ _ _
    rw [HZ1.out]
    simpa using hown9
  obtain ⟨A9, c9, rfl, _, _⟩ := own_reads H93.out
  have HB3 := Lib.hid (below_step HB2.out hb3)
  have hs3 := hb3.size
  have HRB := Lib.hid (HR2.out _ HB3.out)
  clear hown9 hb3 HRA
  go_wp2_with (at_builtin; go_loud (refine wpList_append_reads rfl _ _ 36 rfl w3.heap.size 57 _ 5 40 Try.underlying36 infoRouteP rfl (by decide) _ _ _ rfl _ _ _ rfl (World.ownsRow_nil _ _ _ _) _ _ HRB.out (rts_one _) ?c3 ?c4 ?c5 ?_))
  case c3 => unfold maxLen; omega
  case c4 => omega
  case c5 => exact Nat.le_refl _
  intro v10 w4 hown10 hb4
  have H104 : Hid (OwnRs w4 w3.heap.size v10 m) := by
    show World.ownsRow _ _ _ _ _ _ _
    rw [HZ2.out]
    simpa using hown10
  obtain ⟨A10, c10, rfl, _, _⟩ := own_reads H104.out
  have HB4 := Lib.hid (below_step HB3.out hb4)
  have H94 := Lib.hid (own_below H93.out hb4)
  have N9 := Lib.hid (own_blk_lt H93.out)
  have N10 := Lib.hid (own_base H104.out)
  have hs4 := hb4.size
  have CS1 := Lib.hid (sortRs_any H94.out HV1.out)
  clear hown10 hb4 HRB H93
  go_wp2_with (go_at_call 126; (with_reducible refine CS1.out.mono ?_); rintro e w5 ⟨rfl, Sa, hSa, h95, hg5⟩; have HSA := Lib.hid hSa; have H95 := Lib.hid h95; have HG5 := Lib.hid hg5; clear hSa h95 hg5)
  have HB5 : Hid (Below w.heap.size w w5) := HB4.out.grown HG5.out HB4.out.size (fun b hb => by have := own_base H94.out b hb; omega)
  have H105 : Hid (OwnRs w5 w3.heap.size (.slice A10 m.length c10) m) := own_same H104.out fun k hk => HG5.out.block k (own_blk_lt H104.out k hk) (fun e => by have h1 := N9.out k e.symm; have h2 := N10.out k hk; omega)
  have CS2 := Lib.hid (sortRs_any H105.out HV2.out)
  have hs5 := HG5.out.size
  clear CS1
  go_wp2_with (go_at_call 126; (with_reducible refine CS2.out.mono ?_); rintro e w6 ⟨rfl, Sb, hSb, h106, hg6⟩; have HSB := Lib.hid hSb; have H106 := Lib.hid h106; have HG6 := Lib.hid hg6; clear hSb h106 hg6)
  have HB6 : Hid (Below w.heap.size w w6) := HB5.out.grown HG6.out HB5.out.size (fun b hb => by have := own_base H105.out b hb; omega)
  have H96 : Hid (OwnRs w6 w2.heap.size (.slice A9 l.length c9) Sa) := own_same H95.out fun k hk => HG6.out.block k (own_blk_lt H95.out k hk) (fun e => by have h1 := N9.out k hk; have h2 := N10.out k e.symm; omega)
  have hs6 := HG6.out.size
  have hla : Sa.length = l.length := HSA.out.1.length_eq
  have hlb : Sb.length = m.length := HSB.out.1.length_eq
  obtain ⟨_, _, ea, hca, hra⟩ := own_reads H96.out
  obtain ⟨_, _, eb, hcb, hrb⟩ := own_reads H106.out
  injection ea with e1 _ e2
  subst e1 e2
  injection eb with e1 _ e2
  subst e1 e2
  obtain ⟨na, hna⟩ : ∃ na, l.length = na := ⟨_, rfl⟩
  obtain ⟨nb, hnb⟩ : ∃ nb, m.length = nb := ⟨_, rfl⟩
  have hna60 : na ≤ 60 := by rw [← hna]; exact HV1.out.2
  have hnb60 : nb ≤ 60 := by rw [← hnb]; exact HV2.out.2
  rw [hla, hna] at hra hca
  rw [hlb, hnb] at hrb hcb
  have HZA : Hid (Sa.length = na) := hla.trans hna
  have HZB : Hid (Sb.length = nb) := hlb.trans hnb
  have HRA := Lib.hid hra
  have HRB := Lib.hid hrb
  have HHA := Lib.hid (fun (W : World) (hb : Below w6.heap.size w6 W) (a b c d) => hopOf_any (c := c9) HZA.out (by omega) ((HRA.out.below hb).more hb.size) a b c d)
  have HHB := Lib.hid (fun (W : World) (hb : Below w6.heap.size w6 W) (a b c d) => hopOf_any (c := c10) HZB.out (by omega) ((HRB.out.below hb).more hb.size) a b c d)
  rw [hna, hnb]
  clear hra hrb hla hlb hna hnb hca hcb CS2 HB1 HB2 HB3 HB4 HB5 H94 H95 H96 H104 H105 H106 HG5 HG6 N9 N10 HR1 HR2
  go_wp2
  go_loopw [36, 11] (fun i s11 wr => ∃ (k : Nat) (v11 : Value), k ≤ na ∧ i = .int .i64 k ∧ v11 = s11 ∧ OwnActs wr w6.heap.size v11 (cutsL (Sa.take k) Sb) ∧ Below w6.heap.size w6 wr) (fun i _ _ => na - (intOf i).toNat)
  case atStart => exact ⟨0, _, by omega, rfl, rfl, World.ownsRow_nil _ _ _ _, Below.refl _ _⟩
  case round =>
    obtain ⟨k, v11, hk, rfl, rfl, hown, hb⟩ := hrel
    obtain ⟨wo, rfl⟩ : ∃ wo : World, wo = wr := ⟨_, rfl⟩
    have hszb := hb.size
    by_cases hlt : k < na
    · obtain ⟨ad, ⟨⟨xs, xh, xl, xn⟩, xo⟩, rfl, hlk, htk, hmem, hbk, hc0, hcj⟩ := HRA.out.atS RouteV.cells_length HZA.out hlt
      have q0 := (hb.cell (p := ad.add (k * 5)) (by rw [block_of_add]; exact hbk)).trans (hc0 _ rfl)
      have q1 := (hb.cell (p := ⟨(ad.add (k * 5)).block, (ad.add (k * 5)).off + 1, none⟩) (by rw [block_of_add]; exact hbk)).trans (hcj 1 _ rfl)
      have q2 := (hb.cell (p := ⟨(ad.add (k * 5)).block, (ad.add (k * 5)).off + 2, none⟩) (by rw [block_of_add]; exact hbk)).trans (hcj 2 _ rfl)
      have q3 := (hb.cell (p := ⟨(ad.add (k * 5)).block, (ad.add (k * 5)).off + 3, none⟩) (by rw [block_of_add]; exact hbk)).trans (hcj 3 _ rfl)
      have q4 := (hb.cell (p := ⟨(ad.add (k * 5)).block, (ad.add (k * 5)).off + 4, none⟩) (by rw [block_of_add]; exact hbk)).trans (hcj 4 _ rfl)
      have hnk := cutsL_snoc (Sa.take k) Sb ⟨⟨xs, xh, xl, xn⟩, xo⟩
      rw [← htk] at hnk
      have hkl : (cutsL (Sa.take k) Sb).length ≤ k := Nat.le_trans (cutsL_len _ _) (by rw [List.length_take]; omega)
      simp only at hnk
      unfold OwnActs at hown
      obtain ⟨KL, hKL⟩ : ∃ KL, cutsL (Sa.take k) Sb = KL := ⟨_, rfl⟩
      rw [hKL] at hown hnk hkl
      obtain ⟨km, hkm⟩ : ∃ km, KL.length = km := ⟨_, rfl⟩
      rw [hkm] at hown hkl
      have HKM := Lib.hid hkm
      have HO := Lib.hid hown
      have HB := Lib.hid hb
      have CH := Lib.hid (fun (o : Obj) => HHB.out (wo.alloc o) (HB.out.alloc hszb _) xs xh xl xn)
      obtain ⟨G, hG⟩ : ∃ G, getR Sb ⟨xs, xh, xl, xn⟩ = G := ⟨_, rfl⟩
      rw [hG] at CH hnk
      clear hlk htk hmem hc0 hcj hb hbk hown hKL hkm hG
      by_cases hg0 : G = 0
      · rw [if_pos hg0] at hnk
        have HNK := Lib.hid hnk
        subst hg0
        clear hnk
        go_wp2_with (first | (go_at_call 133; (with_reducible refine (CH.out _).mono ?_); rintro e w7 ⟨rfl, hb7⟩; obtain ⟨fc7, ff7⟩ := bcell hb7; have hz7 := hb7.size; (try simp only [World.size_alloc] at hz7); have HB7 := Lib.hid hb7; clear hb7) | (at_builtin; go_loud (refine wpList_append_oneN (us := [.int .i64 2, .bool xs, .int .u64 xh, .int .u64 xl, .int .i64 xn, .int .i64 0, .bool false, .int .u64 0, .int .u64 0]) rfl _ _ 27 rfl w6.heap.size _ 9 72 Try.underlying27 infoActD rfl (by decide) _ _ _ rfl rfl rfl (own_below HO.out (below_step ((Below.refl _ _).alloc (Nat.le_refl _) _) HB7.out)) ?c1 rfl ?c4 ?c2 ?c3 ?_)))
        case c1 => omega
        case c2 => unfold maxLen; omega
        case c3 => omega
        case c4 => intro u hu; simp at hu; rcases hu with rfl | rfl | rfl | rfl | rfl | rfl | rfl | rfl | rfl <;> rfl
        intro v' w9 hown' hb9 hs9 hk9
        have HO9 : Hid (OwnActs w9 w6.heap.size v' (cutsL (Sa.take (k + 1)) Sb)) := by
          show World.ownsRow _ _ _ _ _ _ _
          rw [HNK.out, List.length_append, HKM.out, List.flatMap_append]
          simpa [ActV.cells, cutA] using hown'
        have HB9 : Hid (Below w6.heap.size w6 w9) := (HB.out.trans ((((Below.refl wo.heap.size wo).alloc (Nat.le_refl _) _).trans (HB7.out.mono (by simp))).mono hszb)).trans hb9
        clear hown' hb9 hk9
        go_wp2
        go_roundw
        case rel => exact ⟨k + 1, _, by omega, by go_num, rfl, HO9.out, HB9.out⟩
        case measure => simp [intOf]; omega
      · rw [if_neg hg0, List.append_nil] at hnk
        have HNK := Lib.hid hnk
        have d1 : (G == 0) = false := by simpa using hg0
        clear hnk hg0
        go_wp2_with (go_at_call 133; (with_reducible refine (CH.out _).mono ?_); rintro e w7 ⟨rfl, hb7⟩; obtain ⟨fc7, ff7⟩ := bcell hb7; have hz7 := hb7.size; have HB7 := Lib.hid hb7; clear hb7)
        go_roundw
        case rel =>
          refine ⟨k + 1, _, by omega, by go_num, rfl, ?_, HB.out.trans ((((Below.refl wo.heap.size wo).alloc (Nat.le_refl _) _).trans (HB7.out.mono (by simp))).mono hszb)⟩
          rw [HNK.out]
          show World.ownsRow _ _ _ _ _ _ _
          rw [HKM.out]
          exact own_below HO.out (below_step ((Below.refl _ _).alloc (Nat.le_refl _) _) HB7.out)
        case measure => simp [intOf]; omega
    · obtain rfl : k = na := by omega
      have hta : Sa.take k = Sa := List.take_of_length_le (by rw [HZA.out]; omega)
      rw [hta] at hown
      have HO1 := Lib.hid hown
      have HB1 := Lib.hid hb
      clear hown hb hta
      go_wp2
      go_loopw [55, 11] (fun i s11 wr => ∃ (j : Nat) (v11 : Value), j ≤ nb ∧ i = .int .i64 j ∧ v11 = s11 ∧ OwnActs wr w6.heap.size v11 (cutsL Sa Sb ++ putsL Sa (Sb.take j)) ∧ Below w6.heap.size w6 wr) (fun i _ _ => nb - (intOf i).toNat)
      case atStart => exact ⟨0, _, by omega, rfl, rfl, by show OwnActs _ _ _ (_ ++ []); rw [List.append_nil]; exact HO1.out, HB1.out⟩
      case round =>
        obtain ⟨j, v11, hj, rfl, rfl, hown, hb⟩ := hrel
        obtain ⟨wo2, rfl⟩ : ∃ wo2 : World, wo2 = wr := ⟨_, rfl⟩
        have hszb2 := hb.size
        by_cases hlt : j < nb
        · obtain ⟨ad, ⟨⟨xs, xh, xl, xn⟩, xo⟩, rfl, hlk, htk, hmem, hbk, hc0, hcj⟩ := HRB.out.atS RouteV.cells_length HZB.out hlt
          have q0 := (hb.cell (p := ad.add (j * 5)) (by rw [block_of_add]; exact hbk)).trans (hc0 _ rfl)
          have q1 := (hb.cell (p := ⟨(ad.add (j * 5)).block, (ad.add (j * 5)).off + 1, none⟩) (by rw [block_of_add]; exact hbk)).trans (hcj 1 _ rfl)
          have q2 := (hb.cell (p := ⟨(ad.add (j * 5)).block, (ad.add (j * 5)).off + 2, none⟩) (by rw [block_of_add]; exact hbk)).trans (hcj 2 _ rfl)
          have q3 := (hb.cell (p := ⟨(ad.add (j * 5)).block, (ad.add (j * 5)).off + 3, none⟩) (by rw [block_of_add]; exact hbk)).trans (hcj 3 _ rfl)
          have q4 := (hb.cell (p := ⟨(ad.add (j * 5)).block, (ad.add (j * 5)).off + 4, none⟩) (by rw [block_of_add]; exact hbk)).trans (hcj 4 _ rfl)
          have hnk := putsL_snoc Sa (Sb.take j) ⟨⟨xs, xh, xl, xn⟩, xo⟩
          rw [← htk] at hnk
          have hkl : (cutsL Sa Sb ++ putsL Sa (Sb.take j)).length ≤ k + j := by
            rw [List.length_append]
            have h1 := cutsL_len Sb Sa
            have h2 := putsL_len Sa (Sb.take j)
            rw [HZA.out] at h1
            rw [List.length_take] at h2
            omega
          simp only at hnk
          have hnk2 : cutsL Sa Sb ++ putsL Sa (Sb.take (j + 1)) = (cutsL Sa Sb ++ putsL Sa (Sb.take j)) ++ (if getR Sa ⟨xs, xh, xl, xn⟩ = xo then [] else [putA ⟨xs, xh, xl, xn⟩ xo]) := by rw [hnk, List.append_assoc]
          unfold OwnActs at hown
          obtain ⟨KL, hKL⟩ : ∃ KL, cutsL Sa Sb ++ putsL Sa (Sb.take j) = KL := ⟨_, rfl⟩
          rw [hKL] at hown hnk2 hkl
          obtain ⟨km, hkm⟩ : ∃ km, KL.length = km := ⟨_, rfl⟩
          rw [hkm] at hown hkl
          have HKM := Lib.hid hkm
          have HO := Lib.hid hown
          have HB := Lib.hid hb
          obtain ⟨G, hG⟩ : ∃ G, getR Sa ⟨xs, xh, xl, xn⟩ = G := ⟨_, rfl⟩
          have hHA := fun (W : World) (hb : Below w6.heap.size w6 W) => HHA.out W hb xs xh xl xn
          rw [hG] at hnk2 hHA
          have CH := Lib.hid hHA
          clear hlk htk hmem hc0 hcj hb hbk hown hKL hkm hG hnk hHA
          go_wp2
          obtain ⟨Y, hY⟩ : ∃ Y : World, Y = wo2.alloc (.cells #[.bool xs, .int .u64 xh, .int .u64 xl, .int .i64 xn, .int .i64 xo] 57) := ⟨_, rfl⟩
          have hbY : Below wo2.heap.size wo2 Y := by rw [hY]; exact (Below.refl _ _).alloc (Nat.le_refl _) _
          have hYs : Y.heap.size = wo2.heap.size + 1 := by rw [hY]; simp
          have hka : Blk Y wo2.heap.size 57 #[.bool xs, .int .u64 xh, .int .u64 xl, .int .i64 xn, .int .i64 xo] := by rw [hY]; exact Blk.new _ _ _
          rw [← hY]
          have hY1 : wo2.heap.size < Y.heap.size := by omega
          have HBY : Hid (Below w6.heap.size w6 Y) := HB.out.trans (hbY.mono hszb2)
          have HOY := Lib.hid (own_below HO.out hbY)
          have a0 := hka.cell 0
          have a1 := hka.cell 1
          have a2 := hka.cell 2
          have a3 := hka.cell 3
          have a4 := hka.cell 4
          simp at a0 a1 a2 a3 a4
          have HYS : Hid (w6.heap.size ≤ Y.heap.size) := HBY.out.size
          clear hY hbY hka hYs q0 q1 q2 q3 q4
          by_cases hg0 : G = xo
          · rw [if_pos hg0, List.append_nil] at hnk2
            have HNK := Lib.hid hnk2
            have d1 : (G != xo) = false := by simpa using hg0
            clear hnk2 hg0
            go_region_held3 (fun w' => (∀ b o, b < Y.heap.size → w'.cell? ⟨b, o, none⟩ = Y.cell? ⟨b, o, none⟩) ∧ Y.heap.size ≤ w'.heap.size ∧ Hid (Below Y.heap.size Y w'))
              ((first | assumption | exact keep0 _ | exact keep1 (by assumption) (by assumption) | exact keepD (by assumption) | exact keepB (by assumption) (by assumption) | exact keepA (by assumption) _ | exact ⟨fun _ _ _ => rfl, Nat.le_refl _, Below.refl _ _⟩))
              (first | (go_at_call 133; (with_reducible refine (CH.out _ ?hb1).mono ?_); (case hb1 => exact HBY.out.trans ((keepBelow (by assumption)).mono HYS.out)); rintro e w8 ⟨rfl, hb8⟩; obtain ⟨fc8, ff8⟩ := bcell hb8; have hz8 := hb8.size))
            all_goals
              obtain ⟨fcY, zY, H22⟩ : (∀ b o, b < Y.heap.size → w8.cell? ⟨b, o, none⟩ = Y.cell? ⟨b, o, none⟩) ∧ Y.heap.size ≤ w8.heap.size ∧ Hid (Below Y.heap.size Y w8) := by assumption
              go_wp2_with fail
              go_roundw
              case rel =>
                refine ⟨j + 1, _, by omega, by go_num, rfl, ?_, HBY.out.trans (H22.out.mono HYS.out)⟩
                rw [HNK.out]
                show World.ownsRow _ _ _ _ _ _ _
                rw [HKM.out]
                exact own_below HOY.out H22.out
              case measure => simp [intOf]; omega
          · rw [if_neg hg0] at hnk2
            have HNK := Lib.hid hnk2
            have d1 : (G != xo) = true := by simpa using hg0
            clear hnk2 hg0
            go_region_held3 (fun w' => (∀ b o, b < Y.heap.size → w'.cell? ⟨b, o, none⟩ = Y.cell? ⟨b, o, none⟩) ∧ Y.heap.size ≤ w'.heap.size ∧ Hid (Below Y.heap.size Y w'))
              ((first | assumption | exact keep0 _ | exact keep1 (by assumption) (by assumption) | exact keepD (by assumption) | exact keepB (by assumption) (by assumption) | exact keepA (by assumption) _ | exact ⟨fun _ _ _ => rfl, Nat.le_refl _, Below.refl _ _⟩))
              (first | (go_at_call 133; (with_reducible refine (CH.out _ ?hb1).mono ?_); (case hb1 => exact HBY.out.trans ((keepBelow (by assumption)).mono HYS.out)); rintro e w8 ⟨rfl, hb8⟩; obtain ⟨fc8, ff8⟩ := bcell hb8; have hz8 := hb8.size))
            all_goals
              obtain ⟨fcY, zY, H22⟩ : (∀ b o, b < Y.heap.size → w8.cell? ⟨b, o, none⟩ = Y.cell? ⟨b, o, none⟩) ∧ Y.heap.size ≤ w8.heap.size ∧ Hid (Below Y.heap.size Y w8) := by assumption
              have HOZ := Lib.hid (own_below HOY.out H22.out)
              have hz9 := H22.out.size
              have hyw := HYS.out
              go_wp2_with (at_builtin; go_loud (refine wpList_append_oneN (us := [.int .i64 1, .bool xs, .int .u64 xh, .int .u64 xl, .int .i64 xn, .int .i64 xo, .bool false, .int .u64 0, .int .u64 0]) rfl _ _ 27 rfl w6.heap.size _ 9 72 Try.underlying27 infoActD rfl (by decide) _ _ _ rfl rfl rfl HOZ.out ?c1 rfl ?c4 ?c2 ?c3 ?_))
              case c1 => omega
              case c2 => unfold maxLen; omega
              case c3 => omega
              case c4 => intro u hu; simp at hu; rcases hu with rfl | rfl | rfl | rfl | rfl | rfl | rfl | rfl | rfl <;> rfl
              intro v' w9 hown' hb9 hs9 hk9
              have HO9 : Hid (OwnActs w9 w6.heap.size v' (cutsL Sa Sb ++ putsL Sa (Sb.take (j + 1)))) := by
                show World.ownsRow _ _ _ _ _ _ _
                rw [HNK.out, List.length_append, HKM.out, List.flatMap_append]
                simpa [ActV.cells, putA] using hown'
              have HB9 : Hid (Below w6.heap.size w6 w9) := (HBY.out.trans (H22.out.mono HYS.out)).trans hb9
              clear hown' hb9 hk9
              go_wp2
              go_roundw
              case rel => exact ⟨j + 1, _, by omega, by go_num, rfl, HO9.out, HB9.out⟩
              case measure => simp [intOf]; omega
        · obtain rfl : j = nb := by omega
          have hta : Sb.take j = Sb := List.take_of_length_le (by rw [HZB.out]; omega)
          rw [hta] at hown
          have HO := Lib.hid hown
          have HB := Lib.hid hb
          clear hown hb hta
          go_wp2
          (try go_ret2)
          rw [← HP.out]
          exact ⟨_, 0, diffL Sa Sb, rfl, .inr (.inr ⟨rfl, rfl, rfl, Sa, Sb, HSA.out, HSB.out, rfl⟩), own_mono HO.out (by omega), HB6.out.trans (HB.out.mono (by omega))⟩

end Go.Proofs.Ytnflaaoapmhjgaa

namespace Go.Proofs.Ytnflaaoapmhjgaa
open Go.ChangeShapes Go.WideShapes Go.ChangeAt Go.RowKit

set_option maxRecDepth 100000 in
set_option maxHeartbeats 1600000 in
theorem orderP_any (six : Bool) (hi lo n : Int) (six' : Bool) (hi' lo' n' : Int) (w : World) (h1 : 0 ≤ n ∧ n ≤ 128) (h2 : 0 ≤ n' ∧ n' ≤ 128) :
    Calls Try.prog 110 #[.agg #[.bool six, .int .u64 hi, .int .u64 lo, .int .i64 n], .agg #[.bool six', .int .u64 hi', .int .u64 lo', .int .i64 n']] w fun e w' => e = .returned (.int .i64 (sgnP ⟨six, hi, lo, n⟩ ⟨six', hi', lo', n'⟩)) ∧ Below w.heap.size w w' := by
  have C1 := Lib.hid (fun w => less_any six hi lo six' hi' lo' w)
  have C2 := Lib.hid (fun w => less_any six' hi' lo' six hi lo w)
  have hr : sgnP ⟨six, hi, lo, n⟩ ⟨six', hi', lo', n'⟩ = if lessB ⟨six, hi, lo⟩ ⟨six', hi', lo'⟩ then -1 else if lessB ⟨six', hi', lo'⟩ ⟨six, hi, lo⟩ then 1 else n - n' := rfl
  rw [hr]
  clear hr
  have hsub : IntKind.i64.wrap (n - n') = n - n' := IntWalk.i64_in (n - n') (by omega)
  generalize lessB ⟨six, hi, lo⟩ ⟨six', hi', lo'⟩ = b1 at *
  generalize lessB ⟨six', hi', lo'⟩ ⟨six, hi, lo⟩ = b2 at *
  have hb0 := Lib.hid ((((Below.refl w.heap.size w).alloc (Nat.le_refl _) (.cells #[.bool six, .int .u64 hi, .int .u64 lo, .int .i64 n] 51)).alloc (by simp) (.cells #[.bool six', .int .u64 hi', .int .u64 lo', .int .i64 n'] 51)))
  cases b1
  · cases b2
    · obtain ⟨r, hrr⟩ : ∃ r, n - n' = r := ⟨_, rfl⟩
      rw [hrr] at hsub
      simp only [Bool.false_eq_true, ↓reduceIte, hrr]
      go_enter Try.func110, Try.ntmps110
      go_wp2_with fail
      refine (C1.out _).mono ?_
      rintro e w3 ⟨rfl, hb3⟩
      obtain ⟨fc3, ff3⟩ := bcell hb3
      have hz3 := hb3.size
      try simp at hz3
      have HB3 := Lib.hid (below_step hb0.out (by simpa using hb3))
      clear hb3
      have sa : w.heap.size < w3.heap.size := by omega
      have sb : w.heap.size + 1 < w3.heap.size := by omega
      go_wp2_with fail
      refine (C2.out _).mono ?_
      rintro e w4 ⟨rfl, hb4⟩
      obtain ⟨fc4, ff4⟩ := bcell hb4
      have hz4 := hb4.size
      try simp at hz4
      have HB4 := Lib.hid (below_step HB3.out (by simpa using hb4))
      clear hb4
      go_wp2
      go_ret
      exact ⟨rfl, by (repeat' first | with_reducible exact HB4.out | with_reducible exact HB3.out | with_reducible exact hb0.out | with_reducible exact Below.refl _ _ | with_reducible refine Below.drew ?_ | with_reducible refine below_drewN ?_ _ | with_reducible refine Below.setCell ?_ ?_ _ | with_reducible refine Below.alloc ?_ ?_ _ | (simp; done) | (simp; omega) | omega)⟩
    · simp only [Bool.false_eq_true, ↓reduceIte]
      go_enter Try.func110, Try.ntmps110
      go_wp2_with fail
      refine (C1.out _).mono ?_
      rintro e w3 ⟨rfl, hb3⟩
      obtain ⟨fc3, ff3⟩ := bcell hb3
      have hz3 := hb3.size
      try simp at hz3
      have HB3 := Lib.hid (below_step hb0.out (by simpa using hb3))
      clear hb3
      have sa : w.heap.size < w3.heap.size := by omega
      have sb : w.heap.size + 1 < w3.heap.size := by omega
      go_wp2_with fail
      refine (C2.out _).mono ?_
      rintro e w4 ⟨rfl, hb4⟩
      obtain ⟨fc4, ff4⟩ := bcell hb4
      have hz4 := hb4.size
      try simp at hz4
      have HB4 := Lib.hid (below_step HB3.out (by simpa using hb4))
      clear hb4
      go_wp2
      go_ret
      exact ⟨rfl, by (repeat' first | with_reducible exact HB4.out | with_reducible exact HB3.out | with_reducible exact hb0.out | with_reducible exact Below.refl _ _ | with_reducible refine Below.drew ?_ | with_reducible refine below_drewN ?_ _ | with_reducible refine Below.setCell ?_ ?_ _ | with_reducible refine Below.alloc ?_ ?_ _ | (simp; done) | (simp; omega) | omega)⟩
  · simp only [↓reduceIte]
    go_enter Try.func110, Try.ntmps110
    go_wp2_with fail
    refine (C1.out _).mono ?_
    rintro e w3 ⟨rfl, hb3⟩
    obtain ⟨fc3, ff3⟩ := bcell hb3
    have hz3 := hb3.size
    try simp at hz3
    have HB3 := Lib.hid (below_step hb0.out (by simpa using hb3))
    clear hb3
    go_wp2
    go_ret
    exact ⟨rfl, by (repeat' first | with_reducible exact HB3.out | with_reducible exact hb0.out | with_reducible exact Below.refl _ _ | with_reducible refine Below.drew ?_ | with_reducible refine below_drewN ?_ _ | with_reducible refine Below.setCell ?_ ?_ _ | with_reducible refine Below.alloc ?_ ?_ _ | (simp; done) | (simp; omega) | omega)⟩


end Go.Proofs.Ytnflaaoapmhjgaa

namespace Go.Proofs.Ytnflaaoapmhjgaa
open Go.ChangeShapes Go.WideShapes Go.ChangeAt Go.RowKit

/-- What is left of a row of routes: a slice, and its cells. -/
def RowP (w : World) (v : Value) (xs : List RouteV) : Prop :=
  ∃ A c, v = .slice A xs.length c ∧ xs.length ≤ c ∧ c ≤ maxLen ∧ (0 < xs.length → ∃ g o, A = some ⟨g, o, none⟩ ∧ g < w.heap.size ∧ ∀ j u, (xs.flatMap RouteV.cells)[j]? = some u → w.cell? ⟨g, o + j, none⟩ = some u)
theorem RowP.of_own {w : World} {base : Nat} {v : Value} {L : List RouteV} (h : OwnRs w base v L) : RowP w v L := by
  obtain ⟨A, c, rfl, hc, hr⟩ := own_reads h
  refine ⟨A, c, rfl, hc.1, hc.2, fun h0 => ?_⟩
  obtain ⟨g, c', cur, hv, hg, hb, hn, hcm, hs, ht⟩ := h.form h0
  injection hv with e1 _ e2
  subst e1 e2
  refine ⟨g, 0, rfl, hb.lt, fun j u hj => ?_⟩
  rw [Nat.zero_add, hb.cell, ← Array.getElem?_toList]
  rw [← ht] at hj
  rw [List.getElem?_take] at hj
  split at hj
  · exact hj
  · cases hj
theorem RowP.head {w : World} {v : Value} {x : RouteV} {xs : List RouteV} (h : RowP w v (x :: xs)) : ∃ g o c, v = .slice (some ⟨g, o, none⟩) (xs.length + 1) c ∧ xs.length + 1 ≤ c ∧ c ≤ maxLen ∧ g < w.heap.size ∧
    (w.cell? ⟨g, o, none⟩ = some (.bool x.p.six) ∧ w.cell? ⟨g, o + 1, none⟩ = some (.int .u64 x.p.hi) ∧ w.cell? ⟨g, o + 2, none⟩ = some (.int .u64 x.p.lo) ∧ w.cell? ⟨g, o + 3, none⟩ = some (.int .i64 x.p.n) ∧ w.cell? ⟨g, o + 4, none⟩ = some (.int .i64 x.hop)) ∧
    ∀ A' , (0 < xs.length → A' = some ⟨g, o + 5, none⟩) → RowP w (.slice A' xs.length (c - 1)) xs := by
  obtain ⟨A, c, rfl, h1, h2, h3⟩ := h
  rw [List.length_cons] at h1 h3
  obtain ⟨g, o, rfl, hg, hc⟩ := h3 (by omega)
  refine ⟨g, o, c, rfl, h1, h2, hg, ⟨hc 0 _ rfl, hc 1 _ rfl, hc 2 _ rfl, hc 3 _ rfl, hc 4 _ rfl⟩, fun A' hA => ⟨A', c - 1, rfl, by omega, by omega, fun h0 => ⟨g, o + 5, hA h0, hg, fun j u hj => ?_⟩⟩⟩
  rw [Nat.add_assoc, Nat.add_comm 5 j]
  refine hc (j + 5) u ?_
  rw [List.flatMap_cons]
  exact (List.getElem?_append_right (l₁ := x.cells) (i := j + 5) (by show 5 ≤ _; omega)).trans (by show (xs.flatMap RouteV.cells)[j + 5 - 5]? = _; rw [Nat.add_sub_cancel]; exact hj)
def slLen : Value → Nat
  | .slice _ n _ => n
  | _ => 0
/-- A row of acts and another one; the one grows. -/
theorem acts_one9 (a : ActV) : ∀ u ∈ a.cells, u.oneCell' = true := by
  intro u hu
  simp [ActV.cells] at hu
  rcases hu with rfl | rfl | rfl | rfl | rfl | rfl | rfl | rfl | rfl <;> rfl
/-- A row that grows in a region that draws; another row of its kind stays. -/
theorem step_append_twoI {P : Program} {ops : Array Oper} {o : Oper} {a : Act} {w : World} {K : Act → World → Prop} {Q : Exit → Act → World → Prop} {E : Prop} {s x : Operand} (us : List Value) (m : Nat) (t : TypeId) (n k : Nat) (xs ys : List Value) (v u : Value) (hgd : o.guard = none)
    (ho : o.op = .call { callee := .builtin .append, args := #[s, x], argTypes := #[t, t] })
    (base : Nat) (e : TypeId) (z : Value) (size bytes : Nat) (ht : P.underlying t = some (.slice e)) (hi : (P.info? e).map (fun i => (i.zero, i.size, i.bytes)) = some (some z, size, bytes))
    (hzs : z.cells.size = size) (hsz : 0 < size)
    (hs : a.eval s = v) (htwo : Two w base e size v u n k xs ys) (hx : ∃ A c, a.eval x = .slice A m c ∧ Reads w w.heap.size size A m us) (h1 : ∀ u ∈ us, u.oneCell' = true)
    (h63 : n + m ≤ maxLen) (hbytes : (n + m) * bytes ≤ 140737488355328) (hbase : base ≤ w.heap.size)
    (h : ∀ v' w', Two w' base e size v' u (n + m) k (xs ++ us) ys → Below base w w' → (∀ b, b < w.heap.size → v.ownBlock ≠ some b → w'.heap[b]? = w.heap[b]?) → w.heap.size ≤ w'.heap.size → K (a.put o.dst v') w') :
    if Region.wanted o (yielded ops a.tmps) = true then Oper.wp P o a w K Q else E := by
  obtain ⟨A, c, hx, hr⟩ := hx
  obtain ⟨i0, hi, hz0, hz1, hz2⟩ := info_parts hi
  refine step_append_any w hgd s x t ho base e i0 z size bytes ht hi hz0 hz1 hz2 hzs hsz v n xs hs htwo.a _ A m c us hx hr h1 h63 hbytes hbase ?_
  intro v' w' hown' hgr hblk
  have hkeep : ∀ b, b < w.heap.size → v.ownBlock ≠ some b → w'.heap[b]? = w.heap[b]? := fun b hb hne => hgr.block b hb (fun he => hne he.symm)
  have hub := own_blk_lt htwo.b
  refine h v' w' ⟨hown', own_same htwo.b (fun b hb => hkeep b (hub b hb) (fun hh => htwo.apart b hh hb)), fun b hb hu => ?_⟩ ((Below.refl _ _).grown hgr hbase fun b hb => own_base htwo.a b hb) hkeep hgr.size
  rcases hblk with hh | hh
  · rw [hh] at hb
    exact htwo.apart b hb hu
  · rw [hh] at hb
    injection hb with hb
    have := hub b hu
    omega

/-- All cells but those of one block are kept. -/
def But (ob : Option Nat) (V w' : World) : Prop := (∀ b o, b < V.heap.size → ¬ ob = some b → w'.cell? ⟨b, o, none⟩ = V.cell? ⟨b, o, none⟩) ∧ V.heap.size ≤ w'.heap.size
theorem But.refl (ob : Option Nat) (V : World) : But ob V V := ⟨fun _ _ _ _ => rfl, Nat.le_refl _⟩
theorem But.drewN {ob : Option Nat} {V X : World} (h : But ob V X) (n : Nat) : But ob V (X.drewN n) := ⟨fun b o h1 h2 => h.1 b o h1 h2, h.2⟩
theorem But.drew {ob : Option Nat} {V X : World} (h : But ob V X) : But ob V X.drew := ⟨fun b o h1 h2 => h.1 b o h1 h2, h.2⟩
theorem But.alloc {ob : Option Nat} {V X : World} (h : But ob V X) (o : Obj) : But ob V (X.alloc o) :=
  ⟨fun b o' h1 h2 => (World.cell?_of_block (Below.heap_alloc _ _ _ (Nat.lt_of_lt_of_le h1 h.2))).trans (h.1 b o' h1 h2), by have := h.2; simp; omega⟩
theorem But.grown {ob : Option Nat} {V X w' : World} (h : But ob V X) (hk : ∀ b, b < X.heap.size → ob ≠ some b → w'.heap[b]? = X.heap[b]?) (hs : X.heap.size ≤ w'.heap.size) : But ob V w' :=
  ⟨fun b o h1 h2 => (World.cell?_of_block (hk b (Nat.lt_of_lt_of_le h1 h.2) h2)).trans (h.1 b o h1 h2), Nat.le_trans h.2 hs⟩

set_option maxRecDepth 100000 in
set_option maxHeartbeats 3200000 in
theorem of_any {w : World} {va vb : Value} {a b : List RouteV} (ha : RowP w va a) (hb0 : RowP w vb b) (hM : Mrg [] a [] b) (hla : a.length ≤ 60) (hlb : b.length ≤ 60) :
    Calls Try.prog 131 #[va, vb] w fun e w' => ∃ v, e = .returned v ∧ OwnActs w' w.heap.size v (diffL a b) ∧ Below w.heap.size w w' := by
  have HA := Lib.hid ha
  have HB0 := Lib.hid hb0
  have HM := Lib.hid hM
  obtain ⟨Aa, ca, rfl, _⟩ := ha
  obtain ⟨Ab, cb, rfl, _⟩ := hb0
  obtain ⟨post, hpost⟩ : ∃ post : Ending → World → Prop, (fun e w' => ∃ v, e = .returned v ∧ OwnActs w' w.heap.size v (diffL a b) ∧ Below w.heap.size w w') = post := ⟨_, rfl⟩
  rw [hpost]
  have HPO := Lib.hid hpost
  clear hM hpost
  go_enter Try.func131, Try.ntmps131
  go_wp2
  go_loopw [0, 1, 5, 6] (fun s0 s1 s5 s6 wr => ∃ (a0 a1 b0 b1 : List RouteV) (u0 u1 u5 u6 : Value), u0 = s0 ∧ u1 = s1 ∧ u5 = s5 ∧ u6 = s6 ∧ Hid (a = a0 ++ a1 ∧ b = b0 ++ b1 ∧ Mrg a0 a1 b0 b1) ∧ RowP w u0 a1 ∧ RowP w u1 b1 ∧ Hid (Two wr w.heap.size 117 9 u5 u6 (cutsL a0 b).length (putsL a b0).length ((cutsL a0 b).flatMap ActV.cells) ((putsL a b0).flatMap ActV.cells)) ∧ Below w.heap.size w wr) (fun s0 s1 _ _ _ => slLen s0 + slLen s1)
  case atStart => exact ⟨[], a, [], b, _, _, _, _, rfl, rfl, rfl, rfl, ⟨rfl, rfl, HM.out⟩, HA.out, HB0.out, ⟨World.ownsRow_nil _ _ _ _, World.ownsRow_nil _ _ _ _, fun k hk => by simp [Value.ownBlock] at hk⟩, Below.refl _ _⟩
  case round =>
    obtain ⟨a0, a1, b0, b1, u0, u1, u5, u6, rfl, rfl, rfl, rfl, hS, h0, h1, hT, hb⟩ := hrel
    obtain ⟨wo, rfl⟩ : ∃ wo : World, wo = wr := ⟨_, rfl⟩
    have hszb := hb.size
    have HB := Lib.hid hb
    have hlc : (cutsL a0 b).length ≤ 60 := by
      have h1 := cutsL_len b a0
      have h2 := congrArg List.length hS.out.1
      rw [List.length_append] at h2
      omega
    have hlp : (putsL a b0).length ≤ 60 := by
      have h1 := putsL_len a b0
      have h2 := congrArg List.length hS.out.2.1
      rw [List.length_append] at h2
      omega
    obtain ⟨nc, hnc⟩ : ∃ nc, (cutsL a0 b).length = nc := ⟨_, rfl⟩
    obtain ⟨np, hnp⟩ : ∃ np, (putsL a b0).length = np := ⟨_, rfl⟩
    rw [hnc, hnp] at hT
    rw [hnc] at hlc
    rw [hnp] at hlp
    have HNC := Lib.hid hnc
    have HNP := Lib.hid hnp
    clear hnc hnp
    cases a1 with
    | nil =>
      obtain ⟨A0, c0, rfl, hc0, hmc0, -⟩ := h0
      have H0 : Hid (RowP w (.slice A0 0 c0) []) := ⟨A0, c0, rfl, hc0, hmc0, fun h => by cases h⟩
      simp only [List.length_nil] at hc0 ⊢
      cases b1 with
      | nil =>
        obtain ⟨A1, c1, rfl, hc1, hmc1, -⟩ := h1
        simp only [List.length_nil] at hc1 ⊢
        obtain ⟨A6, c6, rfl, hc6, hr6⟩ := own_reads hT.out.b
        have ea : a0 = a := by have := hS.out.1; rw [List.append_nil] at this; exact this.symm
        have eb : b0 = b := by have := hS.out.2.1; rw [List.append_nil] at this; exact this.symm
        subst ea eb
        have HOA := Lib.hid hT.out.a
        have HR6 := Lib.hid hr6
        have HAO : Hid (∀ u ∈ (putsL a0 b0).flatMap ActV.cells, u.oneCell' = true) := by
          intro u hu
          obtain ⟨z, _, hz⟩ := List.mem_flatMap.1 hu
          exact acts_one9 z u hz
        clear hb hr6 hc6 hT
        go_wp2_with (at_builtin; go_loud (refine wpList_append_reads rfl _ _ 27 rfl w.heap.size 117 _ 9 72 Try.underlying27 infoActD rfl (by decide) _ _ _ rfl _ _ _ rfl HOA.out _ _ HR6.out HAO.out ?c3 ?c4 ?c5 ?_))
        case c3 => unfold maxLen; omega
        case c4 => omega
        case c5 => exact hszb
        intro v' w9 hown' hb9
        have HO9 : Hid (OwnActs w9 w.heap.size v' (diffL a0 b0)) := by
          show World.ownsRow _ _ _ _ _ _ _
          unfold diffL
          rw [List.length_append, HNC.out, HNP.out, List.flatMap_append]
          exact hown'
        have HB9 := Lib.hid (HB.out.trans hb9)
        clear hown' hb9
        go_wp2
        (try go_ret)
        rw [← HPO.out]
        exact ⟨_, rfl, HO9.out, HB9.out⟩
      | cons y b1 =>
        obtain ⟨g1, o1, c1, rfl, hc1, hmc1, hg1, ⟨y0, y1, y2, y3, y4⟩, hnext⟩ := h1.head
        obtain ⟨⟨siy, hj, lp, m0⟩, hoq⟩ := y
        simp only at y0 y1 y2 y3 y4
        have p0 := (hb.cell (p := ⟨g1, o1, none⟩) hg1).trans y0
        have p1 := (hb.cell (p := ⟨g1, o1 + 1, none⟩) hg1).trans y1
        have p2 := (hb.cell (p := ⟨g1, o1 + 2, none⟩) hg1).trans y2
        have p3 := (hb.cell (p := ⟨g1, o1 + 3, none⟩) hg1).trans y3
        have p4 := (hb.cell (p := ⟨g1, o1 + 4, none⟩) hg1).trans y4
        have HY := Lib.hid hnext
        unfold maxLen at hmc1
        obtain ⟨lb, hlb⟩ : ∃ lb, b1.length = lb := ⟨_, rfl⟩
        rw [hlb] at HY hc1 ⊢
        have HLlb := Lib.hid hlb
        clear hnext h1 hlb y0 y1 y2 y3 y4
        have hs := hS.out.2.2.right (fun z hz => by cases hz)
        have HS2 : Hid (a = a0 ++ [] ∧ b = (b0 ++ [⟨⟨siy, hj, lp, m0⟩, hoq⟩]) ++ b1 ∧ Mrg a0 [] (b0 ++ [⟨⟨siy, hj, lp, m0⟩, hoq⟩]) b1) := ⟨hS.out.1, by rw [hS.out.2.1]; simp, hs.1⟩
        have hcs : putsL a (b0 ++ [⟨⟨siy, hj, lp, m0⟩, hoq⟩]) = putsL a b0 ++ [putA ⟨siy, hj, lp, m0⟩ hoq] := by
          rw [putsL_snoc, if_neg]
          rw [hS.out.1]
          have e1 := hs.2
          have e2 := (hS.out.2.2.ob ⟨⟨siy, hj, lp, m0⟩, hoq⟩ (by simp)).2
          simp only at e1 e2 ⊢
          rw [e1]
          omega
        have HCS := Lib.hid hcs
        clear hs hcs
        have HTV := Lib.hid hT.out
        have HBV := Lib.hid hb
        have hszV := hszb
        clear hb
        go_wp2
        go_quiet (fail)
        go_wp2
        have hub := own_base HTV.out.b
        have nb1 : ¬ u6.ownBlock = some g1 := fun e => by have := hub g1 e; omega
        have hg1V : g1 < wo.heap.size := by omega
        have HTS := Lib.hid (fun (W : World) (hb : Below wo.heap.size wo W) => HTV.out.swap.step hb)
        clear hub
        go_region_held3 (fun w' => (∀ b o, b < wo.heap.size → ¬ u6.ownBlock = some b → w'.cell? ⟨b, o, none⟩ = wo.cell? ⟨b, o, none⟩) ∧ wo.heap.size ≤ w'.heap.size)
          ((first | assumption | (repeat (first | exact But.refl _ _ | assumption | refine But.grown ?_ hk9 hs9 | refine But.drew ?_ | refine But.drewN ?_ _ | refine But.alloc ?_ _))))
          (first
            | go_loud (refine step_append_twoI (o := ⟨some 69, _, _, _, _, _⟩) [.int .i64 1, .bool siy, .int .u64 hj, .int .u64 lp, .int .i64 m0, .int .i64 hoq, .bool false, .int .u64 0, .int .u64 0] 1 27 np nc ((putsL a b0).flatMap ActV.cells) ((cutsL a0 b).flatMap ActV.cells) u6 u5 rfl rfl w.heap.size 117 _ 9 72 Try.underlying27 infoActD rfl (by decide) ?_ ?_ ?_ ?_ ?_ ?_ ?_ ?_; (focus rfl); (focus (refine HTS.out _ ?_; (repeat (first | exact Below.refl _ _ | refine Below.drew ?_ | refine below_drewN ?_ _ | refine Below.alloc ?_ (by first | (simp; done) | (simp; omega)) _)))); (focus exact ⟨_, _, rfl, reads_new (by rfl)⟩); (focus (intro u hu; simp at hu; rcases hu with rfl | rfl | rfl | rfl | rfl | rfl | rfl | rfl | rfl <;> rfl)); (focus (unfold maxLen; omega)); (focus omega); (focus (simp; omega)); intro v' w9 htwo' hb9 hk9 hs9))
        all_goals
          have HT9 : Hid (Two w9 w.heap.size 117 9 u5 v' (cutsL a0 b).length (putsL a (b0 ++ [⟨⟨siy, hj, lp, m0⟩, hoq⟩])).length ((cutsL a0 b).flatMap ActV.cells) ((putsL a (b0 ++ [⟨⟨siy, hj, lp, m0⟩, hoq⟩])).flatMap ActV.cells)) := by
            show Two _ _ _ _ _ _ _ _ _ _
            rw [HCS.out, List.length_append, HNP.out, HNC.out, List.flatMap_append]
            have := htwo'.swap
            simpa [ActV.cells, putA] using this
          have HB9 : Hid (Below w.heap.size w w9) := by
            refine HBV.out.trans (Below.trans ?_ hb9)
            (repeat (first | exact Below.refl _ _ | refine Below.drew ?_ | refine below_drewN ?_ _ | refine Below.alloc ?_ (by first | (simp; done) | (simp; omega)) _))
          clear htwo' hb9 hk9
          go_wp2_with fail
          go_roundw
          case rel => exact ⟨a0, _, b0 ++ [⟨⟨siy, hj, lp, m0⟩, hoq⟩], b1, _, _, _, _, rfl, rfl, rfl, rfl, HS2, H0.out, HY.out _ (fun h => if_neg (by omega)), HT9, HB9.out⟩
          case measure => simp [slLen]
    | cons x a1 =>
      cases b1 with
      | nil =>
        obtain ⟨A1, c1, rfl, hc1, hmc1, -⟩ := h1
        have H1 : Hid (RowP w (.slice A1 0 c1) []) := ⟨A1, c1, rfl, hc1, hmc1, fun h => by cases h⟩
        simp only [List.length_nil] at hc1 ⊢
        obtain ⟨g0, o0, c0, rfl, hc0, hmc0, hg0, ⟨y0, y1, y2, y3, y4⟩, hnext⟩ := h0.head
        obtain ⟨⟨six, hi, lo, n0⟩, hop⟩ := x
        simp only at y0 y1 y2 y3 y4
        have q0 := (hb.cell (p := ⟨g0, o0, none⟩) hg0).trans y0
        have q1 := (hb.cell (p := ⟨g0, o0 + 1, none⟩) hg0).trans y1
        have q2 := (hb.cell (p := ⟨g0, o0 + 2, none⟩) hg0).trans y2
        have q3 := (hb.cell (p := ⟨g0, o0 + 3, none⟩) hg0).trans y3
        have q4 := (hb.cell (p := ⟨g0, o0 + 4, none⟩) hg0).trans y4
        have HX := Lib.hid hnext
        unfold maxLen at hmc0
        obtain ⟨la, hla⟩ : ∃ la, a1.length = la := ⟨_, rfl⟩
        rw [hla] at HX hc0 ⊢
        have HLla := Lib.hid hla
        clear hnext h0 hla y0 y1 y2 y3 y4
        have hs := hS.out.2.2.left (fun z hz => by cases hz)
        have HS2 : Hid (a = (a0 ++ [⟨⟨six, hi, lo, n0⟩, hop⟩]) ++ a1 ∧ b = b0 ++ [] ∧ Mrg (a0 ++ [⟨⟨six, hi, lo, n0⟩, hop⟩]) a1 b0 []) := ⟨by rw [hS.out.1]; simp, hS.out.2.1, hs.1⟩
        have hcs : cutsL (a0 ++ [⟨⟨six, hi, lo, n0⟩, hop⟩]) b = cutsL a0 b ++ [cutA ⟨six, hi, lo, n0⟩] := by rw [cutsL_snoc, if_pos]; rw [hS.out.2.1]; exact hs.2
        have HCS := Lib.hid hcs
        clear hs hcs
        have HTV := Lib.hid hT.out
        have HBV := Lib.hid hb
        have hszV := hszb
        clear hb
        go_wp2_with (at_builtin; go_loud (refine wpList_append_two (us := [.int .i64 2, .bool six, .int .u64 hi, .int .u64 lo, .int .i64 n0, .int .i64 0, .bool false, .int .u64 0, .int .u64 0]) rfl _ _ 27 rfl w.heap.size _ 9 72 Try.underlying27 infoActD rfl (by decide) _ _ _ _ _ _ rfl rfl rfl HTV.out ?c1 rfl ?c4 ?c2 ?c3 ?_))
        case c1 => exact hszV
        case c2 => unfold maxLen; omega
        case c3 => omega
        case c4 => intro u hu; simp at hu; rcases hu with rfl | rfl | rfl | rfl | rfl | rfl | rfl | rfl | rfl <;> rfl
        intro v' w9 htwo' hb9 hs9 hk9
        have HT9 : Hid (Two w9 w.heap.size 117 9 v' u6 (cutsL (a0 ++ [⟨⟨six, hi, lo, n0⟩, hop⟩]) b).length (putsL a b0).length ((cutsL (a0 ++ [⟨⟨six, hi, lo, n0⟩, hop⟩]) b).flatMap ActV.cells) ((putsL a b0).flatMap ActV.cells)) := by
          show Two _ _ _ _ _ _ _ _ _ _
          rw [HCS.out, List.length_append, HNC.out, HNP.out, List.flatMap_append]
          simpa [ActV.cells, cutA] using htwo'
        have HB9 := Lib.hid (HBV.out.trans hb9)
        clear htwo' hb9 hk9
        go_wp2
        go_roundw
        case rel => exact ⟨_, a1, b0, _, _, _, _, _, rfl, rfl, rfl, rfl, HS2.out, HX.out _ (fun h => if_neg (by omega)), H1.out, HT9.out, HB9.out⟩
        case measure => simp [slLen]
      | cons y b1 =>
        have H0R := Lib.hid h0
        have H1R := Lib.hid h1
        obtain ⟨g0, o0, c0, rfl, hc0, hmc0, hg0, ⟨y0, y1, y2, y3, y4⟩, hnext⟩ := h0.head
        obtain ⟨⟨six, hi, lo, n0⟩, hop⟩ := x
        simp only at y0 y1 y2 y3 y4
        have q0 := (hb.cell (p := ⟨g0, o0, none⟩) hg0).trans y0
        have q1 := (hb.cell (p := ⟨g0, o0 + 1, none⟩) hg0).trans y1
        have q2 := (hb.cell (p := ⟨g0, o0 + 2, none⟩) hg0).trans y2
        have q3 := (hb.cell (p := ⟨g0, o0 + 3, none⟩) hg0).trans y3
        have q4 := (hb.cell (p := ⟨g0, o0 + 4, none⟩) hg0).trans y4
        have HX := Lib.hid hnext
        unfold maxLen at hmc0
        obtain ⟨la, hla⟩ : ∃ la, a1.length = la := ⟨_, rfl⟩
        rw [hla] at HX hc0 ⊢
        have HLla := Lib.hid hla
        clear hnext h0 hla y0 y1 y2 y3 y4
        obtain ⟨g1, o1, c1, rfl, hc1, hmc1, hg1, ⟨y0, y1, y2, y3, y4⟩, hnext⟩ := h1.head
        obtain ⟨⟨siy, hj, lp, m0⟩, hoq⟩ := y
        simp only at y0 y1 y2 y3 y4
        have p0 := (hb.cell (p := ⟨g1, o1, none⟩) hg1).trans y0
        have p1 := (hb.cell (p := ⟨g1, o1 + 1, none⟩) hg1).trans y1
        have p2 := (hb.cell (p := ⟨g1, o1 + 2, none⟩) hg1).trans y2
        have p3 := (hb.cell (p := ⟨g1, o1 + 3, none⟩) hg1).trans y3
        have p4 := (hb.cell (p := ⟨g1, o1 + 4, none⟩) hg1).trans y4
        have HY := Lib.hid hnext
        unfold maxLen at hmc1
        obtain ⟨lb, hlb⟩ : ∃ lb, b1.length = lb := ⟨_, rfl⟩
        rw [hlb] at HY hc1 ⊢
        have HLlb := Lib.hid hlb
        clear hnext h1 hlb y0 y1 y2 y3 y4
        have ox := (hS.out.2.2.oa ⟨⟨six, hi, lo, n0⟩, hop⟩ (by simp)).1
        have oy := (hS.out.2.2.ob ⟨⟨siy, hj, lp, m0⟩, hoq⟩ (by simp)).1
        have nx : 0 ≤ n0 ∧ n0 ≤ 128 := by have h1 := ox.len; have h2 := wideI_le six; simp only at h1; exact ⟨by omega, by omega⟩
        have ny : 0 ≤ m0 ∧ m0 ≤ 128 := by have h1 := oy.len; have h2 := wideI_le siy; simp only at h1; exact ⟨by omega, by omega⟩
        have CO0 := fun W => orderP_any six hi lo n0 siy hj lp m0 W nx ny
        obtain ⟨so, hso⟩ : ∃ so, sgnP ⟨six, hi, lo, n0⟩ ⟨siy, hj, lp, m0⟩ = so := ⟨_, rfl⟩
        have sg := sgnP_lt ox oy
        simp only at sg
        rw [hso] at CO0 sg
        have CO := Lib.hid CO0
        have SG := Lib.hid sg
        have hg0o : g0 < wo.heap.size := by omega
        have hg1o : g1 < wo.heap.size := by omega
        clear CO0 sg hso nx ny ox oy hb
        go_wp2
        go_region_held3 (fun w' => (∀ b o, b < wo.heap.size → w'.cell? ⟨b, o, none⟩ = wo.cell? ⟨b, o, none⟩) ∧ wo.heap.size ≤ w'.heap.size ∧ Hid (Below wo.heap.size wo w'))
          ((first | assumption | exact keep0 _ | exact keep1 (by assumption) (by assumption) | exact keepD (by assumption) | exact keepB (by assumption) (by assumption) | exact keepA (by assumption) _ | exact ⟨fun _ _ _ => rfl, Nat.le_refl _, Below.refl _ _⟩))
          (first | (go_at_call 110; (with_reducible refine (CO.out _).mono ?_); rintro e w8 ⟨rfl, hb8⟩; obtain ⟨fc8, ff8⟩ := bcell hb8; have hz8 := hb8.size))
        all_goals
          obtain ⟨fcY, zY, H22⟩ : (∀ b o, b < wo.heap.size → w8.cell? ⟨b, o, none⟩ = wo.cell? ⟨b, o, none⟩) ∧ wo.heap.size ≤ w8.heap.size ∧ Hid (Below wo.heap.size wo w8) := by assumption
          have HTV := Lib.hid (hT.out.step H22.out)
          have HBV : Hid (Below w.heap.size w w8) := HB.out.trans (H22.out.mono hszb)
          have hszV := HBV.out.size
          have hg0v : g0 < w8.heap.size := by omega
          have hg1v : g1 < w8.heap.size := by omega
          by_cases s1 : so < 0
          · have d1 : decide (so < 0) = true := by simpa using s1
            have hs := hS.out.2.2.left (hS.out.2.2.tail_a (SG.out.1 s1))
            have HS2 : Hid (a = (a0 ++ [⟨⟨six, hi, lo, n0⟩, hop⟩]) ++ a1 ∧ b = b0 ++ (⟨⟨siy, hj, lp, m0⟩, hoq⟩ :: b1) ∧ Mrg (a0 ++ [⟨⟨six, hi, lo, n0⟩, hop⟩]) a1 b0 (⟨⟨siy, hj, lp, m0⟩, hoq⟩ :: b1)) := ⟨by rw [hS.out.1]; simp, hS.out.2.1, hs.1⟩
            have hcs : cutsL (a0 ++ [⟨⟨six, hi, lo, n0⟩, hop⟩]) b = cutsL a0 b ++ [cutA ⟨six, hi, lo, n0⟩] := by rw [cutsL_snoc, if_pos]; rw [hS.out.2.1]; exact hs.2
            have HCS := Lib.hid hcs
            clear hs hcs
            clear s1 hT
            go_wp2_with (at_builtin; go_loud (refine wpList_append_two (us := [.int .i64 2, .bool six, .int .u64 hi, .int .u64 lo, .int .i64 n0, .int .i64 0, .bool false, .int .u64 0, .int .u64 0]) rfl _ _ 27 rfl w.heap.size _ 9 72 Try.underlying27 infoActD rfl (by decide) _ _ _ _ _ _ rfl rfl rfl HTV.out ?c1 rfl ?c4 ?c2 ?c3 ?_))
            case c1 => exact hszV
            case c2 => unfold maxLen; omega
            case c3 => omega
            case c4 => intro u hu; simp at hu; rcases hu with rfl | rfl | rfl | rfl | rfl | rfl | rfl | rfl | rfl <;> rfl
            intro v' w9 htwo' hb9 hs9 hk9
            have HT9 : Hid (Two w9 w.heap.size 117 9 v' u6 (cutsL (a0 ++ [⟨⟨six, hi, lo, n0⟩, hop⟩]) b).length (putsL a b0).length ((cutsL (a0 ++ [⟨⟨six, hi, lo, n0⟩, hop⟩]) b).flatMap ActV.cells) ((putsL a b0).flatMap ActV.cells)) := by
              show Two _ _ _ _ _ _ _ _ _ _
              rw [HCS.out, List.length_append, HNC.out, HNP.out, List.flatMap_append]
              simpa [ActV.cells, cutA] using htwo'
            have HB9 := Lib.hid (HBV.out.trans hb9)
            clear htwo' hb9 hk9
            go_wp2
            go_roundw
            case rel => exact ⟨_, a1, b0, _, _, _, _, _, rfl, rfl, rfl, rfl, HS2.out, HX.out _ (fun h => if_neg (by omega)), (by rw [← HLlb.out]; exact H1R.out), HT9.out, HB9.out⟩
            case measure => simp [slLen]
          · have d1 : decide (so < 0) = false := by simpa using s1
            by_cases s2 : 0 < so
            · have d2 : decide (0 < so) = true := by simpa using s2
              have d3 : (so == 0) = false := by simp; omega
              have hs := hS.out.2.2.right (hS.out.2.2.tail_b (SG.out.2.1 s2))
              have HS2 : Hid (a = a0 ++ (⟨⟨six, hi, lo, n0⟩, hop⟩ :: a1) ∧ b = (b0 ++ [⟨⟨siy, hj, lp, m0⟩, hoq⟩]) ++ b1 ∧ Mrg a0 (⟨⟨six, hi, lo, n0⟩, hop⟩ :: a1) (b0 ++ [⟨⟨siy, hj, lp, m0⟩, hoq⟩]) b1) := ⟨hS.out.1, by rw [hS.out.2.1]; simp, hs.1⟩
              have hcs : putsL a (b0 ++ [⟨⟨siy, hj, lp, m0⟩, hoq⟩]) = putsL a b0 ++ [putA ⟨siy, hj, lp, m0⟩ hoq] := by
                rw [putsL_snoc, if_neg]
                rw [hS.out.1]
                have e1 := hs.2
                have e2 := (hS.out.2.2.ob ⟨⟨siy, hj, lp, m0⟩, hoq⟩ (by simp)).2
                simp only at e1 e2 ⊢
                rw [e1]
                omega
              have HCS := Lib.hid hcs
              clear hs hcs
              clear s1 s2 hT
              go_wp2
              go_quiet (fail)
              go_wp2
              have hub := own_base HTV.out.b
              have nb1 : ¬ u6.ownBlock = some g1 := fun e => by have := hub g1 e; omega
              have hg1V : g1 < w8.heap.size := by omega
              have HTS := Lib.hid (fun (W : World) (hb : Below w8.heap.size w8 W) => HTV.out.swap.step hb)
              clear hub
              go_region_held3 (fun w' => (∀ b o, b < w8.heap.size → ¬ u6.ownBlock = some b → w'.cell? ⟨b, o, none⟩ = w8.cell? ⟨b, o, none⟩) ∧ w8.heap.size ≤ w'.heap.size)
                ((first | assumption | (repeat (first | exact But.refl _ _ | assumption | refine But.grown ?_ hk9 hs9 | refine But.drew ?_ | refine But.drewN ?_ _ | refine But.alloc ?_ _))))
                (first
                  | go_loud (refine step_append_twoI (o := ⟨some 69, _, _, _, _, _⟩) [.int .i64 1, .bool siy, .int .u64 hj, .int .u64 lp, .int .i64 m0, .int .i64 hoq, .bool false, .int .u64 0, .int .u64 0] 1 27 np nc ((putsL a b0).flatMap ActV.cells) ((cutsL a0 b).flatMap ActV.cells) u6 u5 rfl rfl w.heap.size 117 _ 9 72 Try.underlying27 infoActD rfl (by decide) ?_ ?_ ?_ ?_ ?_ ?_ ?_ ?_; (focus rfl); (focus (refine HTS.out _ ?_; (repeat (first | exact Below.refl _ _ | refine Below.drew ?_ | refine below_drewN ?_ _ | refine Below.alloc ?_ (by first | (simp; done) | (simp; omega)) _)))); (focus exact ⟨_, _, rfl, reads_new (by rfl)⟩); (focus (intro u hu; simp at hu; rcases hu with rfl | rfl | rfl | rfl | rfl | rfl | rfl | rfl | rfl <;> rfl)); (focus (unfold maxLen; omega)); (focus omega); (focus (simp; omega)); intro v' w9 htwo' hb9 hk9 hs9))
              all_goals
                have HT9 : Hid (Two w9 w.heap.size 117 9 u5 v' (cutsL a0 b).length (putsL a (b0 ++ [⟨⟨siy, hj, lp, m0⟩, hoq⟩])).length ((cutsL a0 b).flatMap ActV.cells) ((putsL a (b0 ++ [⟨⟨siy, hj, lp, m0⟩, hoq⟩])).flatMap ActV.cells)) := by
                  show Two _ _ _ _ _ _ _ _ _ _
                  rw [HCS.out, List.length_append, HNP.out, HNC.out, List.flatMap_append]
                  have := htwo'.swap
                  simpa [ActV.cells, putA] using this
                have HB9 : Hid (Below w.heap.size w w9) := by
                  refine HBV.out.trans (Below.trans ?_ hb9)
                  (repeat (first | exact Below.refl _ _ | refine Below.drew ?_ | refine below_drewN ?_ _ | refine Below.alloc ?_ (by first | (simp; done) | (simp; omega)) _))
                clear htwo' hb9 hk9
                go_wp2_with fail
                go_roundw
                case rel => exact ⟨a0, _, b0 ++ [⟨⟨siy, hj, lp, m0⟩, hoq⟩], b1, _, _, _, _, rfl, rfl, rfl, rfl, HS2, (by rw [← HLla.out]; exact H0R.out), HY.out _ (fun h => if_neg (by omega)), HT9, HB9.out⟩
                case measure => simp [slLen]
            · obtain rfl : so = 0 := by omega
              have hs := hS.out.2.2.both (SG.out.2.2 rfl)
              have h1x := (hS.out.2.2.oa ⟨⟨six, hi, lo, n0⟩, hop⟩ (by simp)).2
              have h1y := (hS.out.2.2.ob ⟨⟨siy, hj, lp, m0⟩, hoq⟩ (by simp)).2
              have HS2 : Hid (a = (a0 ++ [⟨⟨six, hi, lo, n0⟩, hop⟩]) ++ a1 ∧ b = (b0 ++ [⟨⟨siy, hj, lp, m0⟩, hoq⟩]) ++ b1 ∧ Mrg (a0 ++ [⟨⟨six, hi, lo, n0⟩, hop⟩]) a1 (b0 ++ [⟨⟨siy, hj, lp, m0⟩, hoq⟩]) b1) := ⟨by rw [hS.out.1]; simp, by rw [hS.out.2.1]; simp, hs.1⟩
              have HCC : Hid (cutsL (a0 ++ [⟨⟨six, hi, lo, n0⟩, hop⟩]) b = cutsL a0 b) := by
                show _ = _
                rw [cutsL_snoc, if_neg, List.append_nil]
                rw [hS.out.2.1]
                have e1 := hs.2.1
                simp only at e1 h1y ⊢
                rw [e1]
                omega
              have hps := putsL_snoc a b0 ⟨⟨siy, hj, lp, m0⟩, hoq⟩
              have hga : getR a ⟨siy, hj, lp, m0⟩ = hop := by rw [hS.out.1]; exact hs.2.2
              simp only at hps
              rw [hga] at hps
              by_cases hh : hop = hoq
              · rw [if_pos hh, List.append_nil] at hps
                have HPS := Lib.hid hps
                have d4 : (hop != hoq) = false := by simpa using hh
                have HT9 : Hid (Two w8 w.heap.size 117 9 u5 u6 (cutsL (a0 ++ [⟨⟨six, hi, lo, n0⟩, hop⟩]) b).length (putsL a (b0 ++ [⟨⟨siy, hj, lp, m0⟩, hoq⟩])).length ((cutsL (a0 ++ [⟨⟨six, hi, lo, n0⟩, hop⟩]) b).flatMap ActV.cells) ((putsL a (b0 ++ [⟨⟨siy, hj, lp, m0⟩, hoq⟩])).flatMap ActV.cells)) := by
                  show Two _ _ _ _ _ _ _ _ _ _
                  rw [HCC.out, HPS.out, HNC.out, HNP.out]
                  exact HTV.out
                have HT9D := Lib.hid (fun (dd : Nat) => HT9.out.step (below_drewN (Below.refl _ _) dd))
                clear hs h1x h1y hps hga hh s1 s2 hT
                go_wp2
                go_quiet (fail)
                go_wp2
                go_roundw
                case rel => exact ⟨_, a1, _, b1, _, _, _, _, rfl, rfl, rfl, rfl, HS2, HX.out _ (fun h => if_neg (by omega)), HY.out _ (fun h => if_neg (by omega)), HT9D.out _, below_drewN HBV.out _⟩
                case measure => simp [slLen]; omega
              · rw [if_neg hh] at hps
                have HCS := Lib.hid hps
                have d4 : (hop != hoq) = true := by simpa using hh
                clear hs h1x h1y hps hga hh s1 s2 hT
                go_wp2
                go_quiet (fail)
                go_wp2
                have hub := own_base HTV.out.b
                have nb1 : ¬ u6.ownBlock = some g1 := fun e => by have := hub g1 e; omega
                have hg1V : g1 < w8.heap.size := by omega
                have HTS := Lib.hid (fun (W : World) (hb : Below w8.heap.size w8 W) => HTV.out.swap.step hb)
                clear hub
                go_region_held3 (fun w' => (∀ b o, b < w8.heap.size → ¬ u6.ownBlock = some b → w'.cell? ⟨b, o, none⟩ = w8.cell? ⟨b, o, none⟩) ∧ w8.heap.size ≤ w'.heap.size)
                  ((first | assumption | (repeat (first | exact But.refl _ _ | assumption | refine But.grown ?_ hk9 hs9 | refine But.drew ?_ | refine But.drewN ?_ _ | refine But.alloc ?_ _))))
                  (first
                    | go_loud (refine step_append_twoI (o := ⟨some 69, _, _, _, _, _⟩) [.int .i64 1, .bool siy, .int .u64 hj, .int .u64 lp, .int .i64 m0, .int .i64 hoq, .bool false, .int .u64 0, .int .u64 0] 1 27 np nc ((putsL a b0).flatMap ActV.cells) ((cutsL a0 b).flatMap ActV.cells) u6 u5 rfl rfl w.heap.size 117 _ 9 72 Try.underlying27 infoActD rfl (by decide) ?_ ?_ ?_ ?_ ?_ ?_ ?_ ?_; (focus rfl); (focus (refine HTS.out _ ?_; (repeat (first | exact Below.refl _ _ | refine Below.drew ?_ | refine below_drewN ?_ _ | refine Below.alloc ?_ (by first | (simp; done) | (simp; omega)) _)))); (focus exact ⟨_, _, rfl, reads_new (by rfl)⟩); (focus (intro u hu; simp at hu; rcases hu with rfl | rfl | rfl | rfl | rfl | rfl | rfl | rfl | rfl <;> rfl)); (focus (unfold maxLen; omega)); (focus omega); (focus (simp; omega)); intro v' w9 htwo' hb9 hk9 hs9))
                all_goals
                  have HT9 : Hid (Two w9 w.heap.size 117 9 u5 v' (cutsL (a0 ++ [⟨⟨six, hi, lo, n0⟩, hop⟩]) b).length (putsL a (b0 ++ [⟨⟨siy, hj, lp, m0⟩, hoq⟩])).length ((cutsL (a0 ++ [⟨⟨six, hi, lo, n0⟩, hop⟩]) b).flatMap ActV.cells) ((putsL a (b0 ++ [⟨⟨siy, hj, lp, m0⟩, hoq⟩])).flatMap ActV.cells)) := by
                    show Two _ _ _ _ _ _ _ _ _ _
                    rw [HCC.out, HCS.out, List.length_append, HNP.out, HNC.out, List.flatMap_append]
                    have := htwo'.swap
                    simpa [ActV.cells, putA] using this
                  have HB9 : Hid (Below w.heap.size w w9) := by
                    refine HBV.out.trans (Below.trans ?_ hb9)
                    (repeat (first | exact Below.refl _ _ | refine Below.drew ?_ | refine below_drewN ?_ _ | refine Below.alloc ?_ (by first | (simp; done) | (simp; omega)) _))
                  clear htwo' hb9 hk9
                  go_wp2_with fail
                  go_roundw
                  case rel => exact ⟨a0 ++ [⟨⟨six, hi, lo, n0⟩, hop⟩], a1, b0 ++ [⟨⟨siy, hj, lp, m0⟩, hoq⟩], b1, _, _, _, _, rfl, rfl, rfl, rfl, HS2, HX.out _ (fun h => if_neg (by omega)), HY.out _ (fun h => if_neg (by omega)), HT9, HB9.out⟩
                  case measure => simp [slLen]; omega

end Go.Proofs.Ytnflaaoapmhjgaa

namespace Go.Proofs.Ytnflaaoapmhjgaa
open Go.ChangeShapes Go.WideShapes Go.ChangeAt Go.RowKit

theorem mrg_start {l m Sa Sb : List RouteV} (hl : Valid l) (hm : Valid m) (ha : SortedOf l Sa) (hb : SortedOf m Sb) : Mrg [] Sa [] Sb :=
  ⟨ha.2, hb.2, fun x hx => ⟨(hl.1 x (ha.1.mem_iff.1 hx)).1, (hl.1 x (ha.1.mem_iff.1 hx)).2.1⟩, fun x hx => ⟨(hm.1 x (hb.1.mem_iff.1 hx)).1, (hm.1 x (hb.1.mem_iff.1 hx)).2.1⟩, fun x hx => by simp at hx, fun x hx => by simp at hx⟩

set_option maxRecDepth 100000 in
set_option maxHeartbeats 3200000 in
theorem diff_any {w : World} {Al : Option Addr} {nl cl : Nat} {l : List RouteV} {Am : Option Addr} {nm cm : Nat} {m : List RouteV} (hl : IsRoutes w Al nl cl l) (hm : IsRoutes w Am nm cm m) :
    Calls Try.prog 58 #[.slice Al nl cl, .slice Am nm cm] w (DiffP w (routesF l) (routesF m) l m) := by
  have C1 := Lib.hid (new_is hl)
  have C2 := Lib.hid (fun (W : World) (hb : Below w.heap.size w W) => new_is (hm.below hb))
  have HG1 := Lib.hid (fun h0 => valid_of hl.2.2.1 h0)
  have HG2 := Lib.hid (fun h0 => valid_of hm.2.2.1 h0)
  obtain ⟨post, hpost⟩ : ∃ post, DiffP w (routesF l) (routesF m) l m = post := ⟨_, rfl⟩
  rw [hpost]
  obtain ⟨f, hf⟩ : ∃ f, routesF l = f := ⟨_, rfl⟩
  obtain ⟨g, hg⟩ : ∃ g, routesF m = g := ⟨_, rfl⟩
  rw [hf] at C1 HG1 hpost
  rw [hg] at C2 HG2 hpost
  have HP := Lib.hid hpost
  clear hl hm hpost hf hg
  go_enter Try.func58, Try.ntmps58
  go_wp2_with fail
  refine C1.out.mono ?_
  rintro e w1 ⟨hb1, ⟨hf, rfl⟩ | ⟨rfl, rfl, hH1, -⟩⟩
  · have HB1 := Lib.hid hb1
    have d0 : (f != 0) = true := by simpa using hf
    clear hb1
    go_wp2
    (try go_ret2)
    rw [← HP.out]
    exact diffP_l hf HB1.out
  have HB1 := Lib.hid hb1
  have H1 := Lib.hid hH1
  clear hb1 hH1
  go_wp2_with fail
  refine (C2.out _ HB1.out).mono ?_
  rintro e w2 ⟨hb2, ⟨hg, rfl⟩ | ⟨rfl, rfl, hH2, -⟩⟩
  · have HB2 := Lib.hid (below_step HB1.out hb2)
    have d0 : (g != 0) = true := by simpa using hg
    clear hb2
    go_wp2
    (try go_ret2)
    rw [← HP.out]
    exact diffP_m rfl hg HB2.out
  have HB2 := Lib.hid (below_step HB1.out hb2)
  have hG1 := HG1.out (by first | trivial | rfl)
  have hG2 := HG2.out (by first | trivial | rfl)
  have CS1 := Lib.hid (sorted_is (H1.out.below hb2) hG1.1 (by have := hG1.2; omega))
  have H2 := Lib.hid hH2
  have HV1 := Lib.hid hG1
  have HV2 := Lib.hid hG2
  clear hb2 hH2 hG1 hG2 C1 C2
  go_wp2_with fail
  refine CS1.out.mono ?_
  rintro e w3 ⟨va, Sa, rfl, hSa, hown3, hb3⟩
  have HB3 := Lib.hid (below_step HB2.out hb3)
  have CS2 := Lib.hid (sorted_is (H2.out.below hb3) HV2.out.1 (by have := HV2.out.2; omega))
  have HSA := Lib.hid hSa
  have HO3 := Lib.hid hown3
  clear hSa hown3 hb3 CS1
  go_wp2_with fail
  refine CS2.out.mono ?_
  rintro e w4 ⟨vb, Sb, rfl, hSb, hown4, hb4⟩
  have HB4 := Lib.hid (below_step HB3.out hb4)
  have hs4 := HB4.out.size
  have CO := Lib.hid (of_any (RowP.of_own (own_below HO3.out hb4)) (RowP.of_own hown4) (mrg_start HV1.out.1 HV2.out.1 HSA.out hSb) (by have := HSA.out.1.length_eq; have := HV1.out.2; omega) (by have := hSb.1.length_eq; have := HV2.out.2; omega))
  have HSB := Lib.hid hSb
  clear hSb hown4 hb4 CS2
  go_wp2_with fail
  refine CO.out.mono ?_
  rintro e w5 ⟨v, rfl, hown5, hb5⟩
  have HB5 := Lib.hid (below_step HB4.out hb5)
  have HO5 := Lib.hid hown5
  clear hown5 hb5
  go_wp2
  (try go_ret2)
  rw [← HP.out]
  exact ⟨v, 0, diffL Sa Sb, rfl, .inr (.inr ⟨rfl, rfl, rfl, Sa, Sb, HSA.out, HSB.out, rfl⟩), own_mono HO5.out hs4, HB5.out⟩

set_option maxRecDepth 100000 in
set_option maxHeartbeats 800000 in
theorem deltaDiffs_core {W : World} {Al : Option Addr} {nl cl : Nat} {l : List RouteV} {Am : Option Addr} {nm cm : Nat} {m : List RouteV} (hl : IsRoutes W Al nl cl l) (hm : IsRoutes W Am nm cm m) :
    Calls Try.prog 16 #[.slice Al nl cl, .slice Am nm cm] W fun e W' => e = .returned (.bool true) ∧ Below W.heap.size W W' := by
  have C1 := Lib.hid (diff_any hl hm)
  have C2 := Lib.hid (fun (w : World) (hb : Below W.heap.size W w) => refDiff_any (hl.below hb) (hm.below hb))
  have hG1 := fun h0 => valid_of hl.2.2.1 h0
  have hG2 := fun h0 => valid_of hm.2.2.1 h0
  clear hl hm
  go_enter Try.func16, Try.ntmps16
  go_wp2_with fail
  refine C1.out.mono ?_
  rintro e w1 ⟨v1, E, acts, rfl, hS1, hd1, hb1⟩
  have HD1 := Lib.hid hd1
  have HB1 := Lib.hid hb1
  clear hd1 hb1
  go_wp2_with fail
  refine (C2.out _ HB1.out).mono ?_
  rintro e w2 ⟨v2, E2, acts2, rfl, hS2, hd2, hb2⟩
  obtain ⟨rfl, rfl⟩ := diffIs_unique (fun h => (hG1 h).1) (fun h => (hG2 h).1) hS1 hS2
  have hlen : acts.length ≤ 120 := diffIs_len (fun h => (hG1 h).2) (fun h => (hG2 h).2) hS1
  obtain ⟨A2, c2, rfl, hc2, hr2⟩ := own_reads hd2
  obtain ⟨A1, c1, rfl, hc1, hr1⟩ := own_reads (own_below HD1.out hb2)
  have CS := Lib.hid (sameActs_quiet A1 A2 acts.length c1 acts.length c2 acts acts w2 rfl rfl (by unfold maxLen; omega) (by unfold maxLen; omega) hr1 hr2)
  rw [decide_eq_true rfl] at CS
  have HB2 := Lib.hid (below_step HB1.out hb2)
  generalize acts.length = k at *
  clear hd2 hb2 hr1 hr2 C1 C2 HD1 hS1 hS2 hG1 hG2
  go_wp2_with fail
  refine CS.out.mono ?_
  rintro e w3 ⟨rfl, dd, rfl⟩
  go_wp2
  go_ret
  exact ⟨ret_bool (by simp), below_drewN HB2.out _⟩

set_option maxRecDepth 100000 in
set_option maxHeartbeats 800000 in
theorem deltaDiffs_walk {H : Type} {enc : TypeId × Value → H} (W : World) (vs : Array Value) (ds : List (DataW H)) (ps : List MemPlace) (h : ArgsOk Try.prog [36, 36] H enc W vs.toList ds ps) :
    Calls Try.prog 16 vs W fun e W' => e = .returned (.bool true) ∧ Below W.heap.size W W' := by
  obtain ⟨hA, ⟨base, hval⟩, _, _⟩ := h
  obtain ⟨v0, v1, d0, d1, p0, p1, e0, _, _, h0, h1⟩ := trodAll_two hA
  obtain ⟨A0, n0, c0, rfl⟩ := okWide_slice Try.underlying36 (hval 0 _ v0 rfl (by rw [e0]; rfl))
  obtain ⟨a0, n, c, rfl⟩ := okWide_slice Try.underlying36 (hval 1 _ v1 rfl (by rw [e0]; rfl))
  obtain ⟨l, hl⟩ := open_routes h0
  obtain ⟨m, hm⟩ := open_routes h1
  obtain rfl : vs = #[.slice A0 n0 c0, .slice a0 n c] := by cases vs; simp_all
  exact deltaDiffs_core hl hm

end Go.Proofs.Ytnflaaoapmhjgaa
