/-
  
  
  
  
  
-/
import Derived.Test.YtmljdjakbbedlaaC18
import Derived.Test.YtmljdjakbbedlaaC6
import Derived.Test.YtmljdjakbbedlaaC4
import Derived.LoopN
import Derived.Test.YtmljdjakbbedlaaC13
import Derived.Test.YtmljdjakbbedlaaC17
import Derived.Test.YtmljdjakbbedlaaC2
import Derived.Test.YtmljdjakbbedlaaC3
namespace Go.Proofs.Ytmljdjakbbedlaa
open Go.ChangeShapes Go.WideShapes Go.ChangeAt Go.RowKit

def orI (a b c : Int) : Int := if ¬ a = 0 then a else if ¬ b = 0 then b else c
set_option maxHeartbeats 1600000 in
theorem cmpOr_any (g : Nat) (a b c : Int) (w : World) (h0 : w.cell? ⟨g, 0, none⟩ = some (.int .i64 a)) (h1 : w.cell? ⟨g, 1, none⟩ = some (.int .i64 b)) (h2 : w.cell? ⟨g, 2, none⟩ = some (.int .i64 c)) :
    Calls Try.prog 124 #[.slice (some ⟨g, 0, none⟩) 3 3] w fun e w' => e = .returned (.int .i64 (orI a b c)) ∧ w' = w := by
  unfold orI
  by_cases ha : a = 0
  · subst ha
    rw [if_neg (by omega)]
    by_cases hb : b = 0
    · subst hb
      rw [if_neg (by omega)]
      by_cases hc : c = 0
      · subst hc
        go_enter Try.func124, Try.ntmps124
        go_wp2_with fail
        refine wp_loop_rounds 4 ?_
        rw [rounds_succ]
        go_wp2
        rw [rounds_succ]
        go_wp2
        rw [rounds_succ]
        go_wp2
        rw [rounds_succ]
        go_wp2
        go_ret
        exact ⟨rfl, rfl⟩
      · have d : (c != 0) = true := by simpa using hc
        go_enter Try.func124, Try.ntmps124
        go_wp2_with fail
        refine wp_loop_rounds 4 ?_
        rw [rounds_succ]
        go_wp2
        rw [rounds_succ]
        go_wp2
        rw [rounds_succ]
        go_wp2
        go_ret
        exact ⟨rfl, rfl⟩
    · have d : (b != 0) = true := by simpa using hb
      rw [if_pos hb]
      go_enter Try.func124, Try.ntmps124
      go_wp2_with fail
      refine wp_loop_rounds 4 ?_
      rw [rounds_succ]
      go_wp2
      rw [rounds_succ]
      go_wp2
      go_ret
      exact ⟨rfl, rfl⟩
  · have d : (a != 0) = true := by simpa using ha
    rw [if_pos ha]
    go_enter Try.func124, Try.ntmps124
    go_wp2_with fail
    refine wp_loop_rounds 4 ?_
    rw [rounds_succ]
    go_wp2
    go_ret
    exact ⟨rfl, rfl⟩

theorem or_at (w : World) (A B : Obj) (x y z : Int) : Calls Try.prog 124 #[.slice (some ⟨w.heap.size + 1 + 1, 0, none⟩) 3 3] (((w.alloc A).alloc B).alloc (.cells #[.int .i64 x, .int .i64 y, .int .i64 z] 3)).drew fun e w' => e = .returned (.int .i64 (orI x y z)) ∧ w' = (((w.alloc A).alloc B).alloc (.cells #[.int .i64 x, .int .i64 y, .int .i64 z] 3)).drew := by
  have hs : ((w.alloc A).alloc B).heap.size = w.heap.size + 1 + 1 := by simp
  generalize (w.alloc A).alloc B = X at *
  rw [← hs]
  exact cmpOr_any _ x y z _ (alloc_cellN (w := X) (j := 0) rfl) (alloc_cellN (w := X) (j := 1) rfl) (alloc_cellN (w := X) (j := 2) rfl)

theorem cmpI_is (a b : Int) : Lib.compareInt a b = cmpI a b := by
  unfold Lib.compareInt cmpI
  repeat' split
  all_goals omega

theorem better_or (a b : OffV) : betterI a b = orI (cmpI a.src b.src) (cmpI a.met b.met) (cmpI a.peer b.peer) := rfl

set_option maxRecDepth 100000 in
set_option maxHeartbeats 6400000 in
theorem better_any (a b : OffV) (w : World) : Calls Try.prog 73 #[a.val, b.val] w fun e w' => e = .returned (.int .i64 (betterI a b)) ∧ Below w.heap.size w w' := by
  obtain ⟨⟨six, hi, lo, n⟩, src, peer, met, hop⟩ := a
  obtain ⟨⟨six', hi', lo', n'⟩, src', peer', met', hop'⟩ := b
  rw [better_or]
  unfold OffV.val
  have CC := Lib.hid (fun x y w => (Try.cmp_Compare_int x y w).mono (fun e w' h => ⟨cmpI_is x y ▸ h.1, h.2⟩ : ∀ e w', _ → e = Ending.returned (.int .i64 (cmpI x y)) ∧ w' = w))
  have CO := Lib.hid or_at
  go_enter Try.func73, Try.ntmps73
  go_wp2_with fail
  go_region_held3 (fun w' => Below w.heap.size w w' ∧ w.heap.size + 1 < w'.heap.size ∧ w'.cell? ⟨w.heap.size, 4, none⟩ = some (.int .i64 src) ∧ w'.cell? ⟨w.heap.size, 5, none⟩ = some (.int .i64 peer) ∧ w'.cell? ⟨w.heap.size, 6, none⟩ = some (.int .i64 met) ∧ w'.cell? ⟨w.heap.size + 1, 4, none⟩ = some (.int .i64 src') ∧ w'.cell? ⟨w.heap.size + 1, 5, none⟩ = some (.int .i64 peer') ∧ w'.cell? ⟨w.heap.size + 1, 6, none⟩ = some (.int .i64 met'))
    (((try go_split_ands); (repeat' apply And.intro) <;> first | assumption | exact (((Below.refl _ _).alloc (Nat.le_refl _) _).alloc (by simp) _).drew | go_keep | exact Below.drew (by assumption) | exact cell_drew (by assumption) | exact size_drew (by assumption) | exact below_step (by assumption) (by assumption) | exact cell_step (by assumption) (by assumption) | exact size_step (by assumption) (by assumption) | (with_reducible exact ((((Below.refl _ _).alloc (Nat.le_refl _) _).alloc (by simp) _).alloc (by simp; try omega) _).drew)))
    (first | (go_at_call 69; refine (CC.out _ _ _).mono ?_; rintro e w' ⟨rfl, rfl⟩) | (go_at_call 124; (with_reducible refine (CO.out w _ _ _ _ _).mono ?_); rintro e w' ⟨rfl, rfl⟩))
  all_goals go_wp2
  all_goals go_ret
  all_goals (go_split_ands; exact ⟨rfl, by assumption⟩)

end Go.Proofs.Ytmljdjakbbedlaa

namespace Go.Proofs.Ytmljdjakbbedlaa
open Go.ChangeShapes Go.WideShapes Go.ChangeAt Go.RowKit Go.Sort

set_option maxHeartbeats 1600000 in
theorem lessG_any (six : Bool) (hi lo : Int) (six' : Bool) (hi' lo' : Int) (w : World) :
    Calls Try.prog 126 #[.agg #[.bool six, .int .u64 hi, .int .u64 lo], .agg #[.bool six', .int .u64 hi', .int .u64 lo']] w fun e w' => e = .returned (.bool (lessB ⟨six, hi, lo⟩ ⟨six', hi', lo'⟩)) ∧ Grew w w' := by
  have HB : ∀ w : World, Hid (Grew w ((w.alloc (.cells #[.bool six, .int .u64 hi, .int .u64 lo] 35)).alloc (.cells #[.bool six', .int .u64 hi', .int .u64 lo'] 35))) := fun w => ((Grew.refl w).alloc _).alloc _
  by_cases h6 : six = six'
  · subst h6
    by_cases h1 : hi < hi'
    · have hr : lessB ⟨six, hi, lo⟩ ⟨six, hi', lo'⟩ = true := by unfold lessB; simp [h1]
      rw [hr]
      have hd : decide (hi < hi') = true := by simpa using h1
      clear hr
      go_enter Try.func126, Try.ntmps126
      go_wp2
      go_ret
      exact ⟨rfl, (HB w).out⟩
    · have hd : decide (hi < hi') = false := by simpa using h1
      by_cases h2 : hi = hi'
      · subst h2
        have hr : lessB ⟨six, hi, lo⟩ ⟨six, hi, lo'⟩ = decide (lo < lo') := by unfold lessB; simp
        rw [hr]
        clear hr h1
        go_enter Try.func126, Try.ntmps126
        go_wp2
        go_ret
        exact ⟨by simp, (HB w).out⟩
      · have hr : lessB ⟨six, hi, lo⟩ ⟨six, hi', lo'⟩ = false := by unfold lessB; simp [h2]; omega
        rw [hr]
        have hd2 : (hi == hi') = false := by simpa using h2
        clear hr
        go_enter Try.func126, Try.ntmps126
        go_wp2
        go_ret
        exact ⟨rfl, (HB w).out⟩
  · have hr : lessB ⟨six, hi, lo⟩ ⟨six', hi', lo'⟩ = six' := by unfold lessB; rw [if_neg h6]
    rw [hr]
    have hn := ne_bool h6
    subst hn
    clear hr h6
    go_enter Try.func126, Try.ntmps126
    go_wp2
    go_ret
    exact ⟨rfl, (HB w).out⟩

set_option maxRecDepth 100000 in
set_option maxHeartbeats 1600000 in
theorem orderG_any (six : Bool) (hi lo n : Int) (six' : Bool) (hi' lo' n' : Int) (w : World) (h1 : 0 ≤ n ∧ n ≤ 128) (h2 : 0 ≤ n' ∧ n' ≤ 128) :
    Calls Try.prog 76 #[.agg #[.bool six, .int .u64 hi, .int .u64 lo, .int .i64 n], .agg #[.bool six', .int .u64 hi', .int .u64 lo', .int .i64 n']] w fun e w' => e = .returned (.int .i64 (sgnP ⟨six, hi, lo, n⟩ ⟨six', hi', lo', n'⟩)) ∧ Grew w w' := by
  have C1 := Lib.hid (fun w => lessG_any six hi lo six' hi' lo' w)
  have C2 := Lib.hid (fun w => lessG_any six' hi' lo' six hi lo w)
  have hr : sgnP ⟨six, hi, lo, n⟩ ⟨six', hi', lo', n'⟩ = if lessB ⟨six, hi, lo⟩ ⟨six', hi', lo'⟩ then -1 else if lessB ⟨six', hi', lo'⟩ ⟨six, hi, lo⟩ then 1 else n - n' := rfl
  rw [hr]
  clear hr
  have hsub : IntKind.i64.wrap (n - n') = n - n' := IntWalk.i64_in (n - n') (by omega)
  generalize lessB ⟨six, hi, lo⟩ ⟨six', hi', lo'⟩ = b1 at *
  generalize lessB ⟨six', hi', lo'⟩ ⟨six, hi, lo⟩ = b2 at *
  have HG4 := Lib.hid (Grew.refl w)
  cases b1
  · cases b2
    · obtain ⟨r, hrr⟩ : ∃ r, n - n' = r := ⟨_, rfl⟩
      rw [hrr] at hsub
      simp only [Bool.false_eq_true, ↓reduceIte, hrr]
      go_enter Try.func76, Try.ntmps76
      go_wp2_with fail
      refine (C1.out _).mono ?_
      rintro e w3 ⟨rfl, hg3⟩
      obtain ⟨fc3, ff3⟩ := bcell hg3.1
      have hz3 := hg3.1.size
      try simp at hz3
      have HG3 := Lib.hid hg3
      clear hg3
      have sa : w.heap.size < w3.heap.size := by omega
      have sb : w.heap.size + 1 < w3.heap.size := by omega
      go_wp2_with fail
      refine (C2.out _).mono ?_
      rintro e w4 ⟨rfl, hg4⟩
      obtain ⟨fc4, ff4⟩ := bcell hg4.1
      have hz4 := hg4.1.size
      try simp at hz4
      have HG4 := Lib.hid hg4
      clear hg4
      go_wp2
      go_ret
      exact ⟨rfl, by (repeat' first | with_reducible exact HG4.out | with_reducible exact HG3.out | with_reducible exact Grew.refl _ | with_reducible refine Grew.drew ?_ | with_reducible refine Grew.trans ?_ HG4.out | with_reducible refine Grew.trans ?_ HG3.out | with_reducible refine Grew.alloc ?_ _)⟩
    · simp only [Bool.false_eq_true, ↓reduceIte]
      go_enter Try.func76, Try.ntmps76
      go_wp2_with fail
      refine (C1.out _).mono ?_
      rintro e w3 ⟨rfl, hg3⟩
      obtain ⟨fc3, ff3⟩ := bcell hg3.1
      have hz3 := hg3.1.size
      try simp at hz3
      have HG3 := Lib.hid hg3
      clear hg3
      have sa : w.heap.size < w3.heap.size := by omega
      have sb : w.heap.size + 1 < w3.heap.size := by omega
      go_wp2_with fail
      refine (C2.out _).mono ?_
      rintro e w4 ⟨rfl, hg4⟩
      obtain ⟨fc4, ff4⟩ := bcell hg4.1
      have hz4 := hg4.1.size
      try simp at hz4
      have HG4 := Lib.hid hg4
      clear hg4
      go_wp2
      go_ret
      exact ⟨rfl, by (repeat' first | with_reducible exact HG4.out | with_reducible exact HG3.out | with_reducible exact Grew.refl _ | with_reducible refine Grew.drew ?_ | with_reducible refine Grew.trans ?_ HG4.out | with_reducible refine Grew.trans ?_ HG3.out | with_reducible refine Grew.alloc ?_ _)⟩
  · simp only [↓reduceIte]
    go_enter Try.func76, Try.ntmps76
    go_wp2_with fail
    refine (C1.out _).mono ?_
    rintro e w3 ⟨rfl, hg3⟩
    obtain ⟨fc3, ff3⟩ := bcell hg3.1
    have hz3 := hg3.1.size
    try simp at hz3
    have HG3 := Lib.hid hg3
    clear hg3
    go_wp2
    go_ret
    exact ⟨rfl, by (repeat' first | with_reducible exact HG4.out | with_reducible exact HG3.out | with_reducible exact Grew.refl _ | with_reducible refine Grew.drew ?_ | with_reducible refine Grew.trans ?_ HG4.out | with_reducible refine Grew.trans ?_ HG3.out | with_reducible refine Grew.alloc ?_ _)⟩

/-- Offers that may be. -/
abbrev OffOk := { o : OffV // o.Good }
theorem off0_good : OffV.Good ⟨⟨false, 0, 0, 0⟩, 1, 0, 0, 1⟩ := ⟨top_ok false, by decide, by decide, by decide, by decide⟩
instance : Inhabited OffOk := ⟨⟨⟨⟨false, 0, 0, 0⟩, 1, 0, 0, 1⟩, off0_good⟩⟩
theorem sgnP_neg {p q : PV} (hp : p.Ok) (hq : q.Ok) : sgnP p q < 0 ↔ ltP p q := by
  have h := sgnP_lt hp hq
  refine ⟨h.1, fun hl => ?_⟩
  apply Classical.byContradiction
  intro hn
  by_cases h0 : sgnP p q = 0
  · have := h.2.2 h0
    subst this
    exact ltP_irrefl hp hl
  · exact ltP_asymm hp hq hl (h.2.1 (by omega))
def cfO (x y : OffOk) : Int := sgnP x.1.p y.1.p
theorem cfO_lt (x y : OffOk) : ltOf cfO x y = true ↔ ltP x.1.p y.1.p := by
  unfold ltOf cfO
  rw [decide_eq_true_iff, sgnP_neg x.2.ok y.2.ok]
theorem cfO_le (x y : OffOk) : ltOf cfO x y = false ↔ ¬ ltP x.1.p y.1.p := by
  rw [← cfO_lt]; simp
theorem swoO : SWO (ltOf cfO) where
  irrefl x := (cfO_le x x).2 (ltP_irrefl x.2.ok)
  trans x y z h1 h2 := (cfO_lt x z).2 (ltP_trans x.2.ok y.2.ok z.2.ok ((cfO_lt x y).1 h1) ((cfO_lt y z).1 h2))
  ntrans x y z h1 h2 := by
    rw [cfO_le] at *
    intro h
    by_cases hyx : ltP y.1.p x.1.p
    · exact h2 (ltP_trans y.2.ok x.2.ok z.2.ok hyx h)
    · have := ltP_total x.2.ok y.2.ok h1 hyx
      exact h2 (by rw [← this]; exact h)
def encO (x : OffOk) : List Value := x.1.cells

set_option maxRecDepth 100000 in
set_option maxHeartbeats 800000 in
theorem bestG_any (a b : OffV) (ha : a.Good) (hb : b.Good) (w : World) : Calls Try.prog 75 #[a.val, b.val] w fun e w' => e = .returned (.int .i64 (sgnP a.p b.p)) ∧ Grew w w' := by
  have r1 := ha.ranges.2.2
  have r2 := hb.ranges.2.2
  obtain ⟨⟨six, hi, lo, n⟩, src, peer, met, hop⟩ := a
  obtain ⟨⟨six', hi', lo', n'⟩, src', peer', met', hop'⟩ := b
  have CP := Lib.hid (fun w => orderG_any six hi lo n six' hi' lo' n' w r1 r2)
  simp only
  generalize sgnP ⟨six, hi, lo, n⟩ ⟨six', hi', lo', n'⟩ = r at *
  unfold OffV.val
  clear ha hb r1 r2
  go_enter Try.func75, Try.ntmps75
  go_wp2_with fail
  refine (CP.out _).mono ?_
  rintro e w1 ⟨rfl, hb1⟩
  have HB := Lib.hid (Grew.trans (((Grew.refl w).alloc _).alloc _) hb1)
  clear hb1
  go_wp2
  go_ret
  exact ⟨rfl, HB.out⟩

theorem cmpO (blk off size : Nat) (w : World) : CmpLays Try.prog 75 #[] encO 8 cfO blk off size w := by
  intro m os dk _ x y
  exact (bestG_any x.1 y.1 x.2 y.2 _).mono fun e w' h => ⟨h.1, h.2.grows⟩

set_option maxRecDepth 100000 in
theorem sortO_is {w : World} {base : Nat} {v : Value} {l : List OffV} (hok : ∀ p ∈ l, p.Good) (hl : l.length ≤ 100000) (h : w.ownsRow base 44 8 v l.length (l.flatMap OffV.cells)) (hbase : base ≤ w.heap.size) :
    Calls Try.prog 74 #[v, .func (.func 75) #[] #[]] w fun e w' => e = .returned (.tuple #[]) ∧
      ∃ l' : List OffV, l'.Perm l ∧ (l'.Pairwise fun x y => ¬ ltP y.p x.p) ∧ w'.ownsRow base 44 8 v l'.length (l'.flatMap OffV.cells) ∧ Below base w w' := by
  obtain ⟨ls, rfl⟩ : ∃ ls : List OffOk, l = ls.map Subtype.val := ⟨l.attachWith _ hok, by simp⟩
  have hfm : ∀ m : List OffOk, (m.map Subtype.val).flatMap OffV.cells = m.flatMap encO := fun m => by rw [List.flatMap_map]; rfl
  rw [hfm, List.length_map] at h
  rw [List.length_map] at hl
  rcases h.2 with ⟨rfl, h0⟩ | ⟨g, cap, cur, rfl, _⟩
  · have hls : ls = [] := List.eq_nil_of_length_eq_zero h0
    subst hls
    refine (AnyF.slices_SortFunc_none Try.sortO none 0 (.func (.func 75) #[] #[]) w).mono ?_
    rintro e w' ⟨he, rfl⟩
    exact ⟨he, [], List.Perm.refl _, List.Pairwise.nil, World.ownsRow_nil _ _ _ _, Below.refl _ _⟩
  · obtain ⟨hH, hb, hg⟩ := own_holdsKc (enc := encO) (fun _ => rfl) (by decide) h
    have hc := AnyQ.slices_SortFunc Try.sortO 8 (fun w => by exact Try.isAgg44 w) (fun w => by exact Try.sizeOf44 w) encO (fun _ => rfl) (fun x u hu => by simp [encO, OffV.cells] at hu; rcases hu with rfl | rfl | rfl | rfl | rfl | rfl | rfl | rfl <;> rfl) cfO swoO 75 #[] g 0 cap ls.toArray w
      (enters_of Try.func75 (by kernel_rfl) rfl) (cmpO g 0 _ w) hH hg (by simp; omega)
    change Calls Try.prog 74 _ _ _ at hc
    refine hc.mono ?_
    rintro e w' ⟨he, d', n, os, hp, hs, rfl⟩
    obtain ⟨p1, p2⟩ := perm_sorted hp hs
    have hlen : d'.toList.length = ls.length := p1.length_eq
    refine ⟨he, d'.toList.map Subtype.val, p1.map _, ?_, ?_, ?_⟩
    · rw [List.pairwise_map]
      exact p2.imp fun {x y} hxy => (cfO_le y x).1 hxy
    · have := ownsRow_sortedK (enc := encO) (fun _ => rfl) (by decide) (n := n) (os := os) hlen h
      rw [hfm, List.length_map, hlen]
      simpa using this
    · exact (Below.refl _ _).grown (grownBy_sortedK _) hbase (fun j e => by cases e; exact hb)

end Go.Proofs.Ytmljdjakbbedlaa

namespace Go.Proofs.Ytmljdjakbbedlaa
open Go.ChangeShapes Go.WideShapes Go.ChangeAt Go.RowKit

theorem infoOffer : (Try.prog.info? 44).map (fun i => (i.zero, i.size, i.bytes)) = some (some (.agg #[.bool false, .int .u64 0, .int .u64 0, .int .i64 0, .int .i64 0, .int .i64 0, .int .i64 0, .int .i64 0]), 8, 64) := by kernel_rfl
theorem makeBest (w : World) : (Instr.makeMap 150 none).run Try.prog w = .ok (.map (some w.heap.size)) (w.alloc (.map #[] 0)) := by kernel_rfl
theorem own_grownB {w w' : World} {base : Nat} {e : TypeId} {size n r : Nat} {v : Value} {xs : List Value} (h : w.ownsRow base e size v n xs) (hg : w.grownBy w' (some r)) (hr : r < base) : w'.ownsRow base e size v n xs :=
  ⟨h.1, h.2.imp id fun ⟨g, cap, cur, h1, h2, h3, h4⟩ => ⟨g, cap, cur, h1, h2, (hg.block g (Array.getElem?_eq_some_iff.1 h3).1 (fun e => by injection e; omega)).trans h3, h4⟩⟩
theorem wpList_range_FN {P : Program} {k : TypeId} {F : Lit → Option Value} {w : World} {ops : Array Oper} {rest : List Oper} {o : Oper} {a : Act} {Q : Exit → Act → World → Prop} {r : Nat} (hr : w.heap.size = r) (hg : o.guard = none) (m : Operand) (t : TypeId) (hop : o.op = Op.range t m) (e : TypeId) (K : Maps.Keyed P k) (ht : P.underlying t = some (.map k e)) (b n : Nat)
    (hm : a.eval m = .map (some b)) (hown : MapF w P k b n F)
    (hK : ∀ w' left cnt, RangeF w' P k b r n F left cnt → (∀ kl, WideAt.IsKeyLit kl → left kl = (F kl).isSome) → w.grownBy w' none → w'.heap.size = r + 1 → wpList P ops Q rest (a.put o.dst (.pointer (some ⟨r, 0, none⟩))) w') :
    wpList P ops Q (o :: rest) a w := by
  subst hr
  exact wpList_range_F hg m t hop e K ht b n hm hown hK
/-- The offers that are returned: none where the list is refused. -/
def BestL (l m : List OffV) : Prop := (offsF l = 0 → Bests l m) ∧ (¬ offsF l = 0 → m = [])
def BestPost (w : World) (l : List OffV) (e : Ending) (w' : World) : Prop :=
  ∃ v m, e = .returned (.tuple #[v, .int .i64 (offsF l)]) ∧ BestL l m ∧ m.length ≤ 100 ∧ w'.ownsRow w.heap.size 44 8 v m.length (m.flatMap OffV.cells) ∧ Below w.heap.size w w'
theorem bestPost_bad {w w' : World} {l : List OffV} (h : ¬ offsF l = 0) (hb : Below w.heap.size w w') : BestPost w l (.returned (.tuple #[.slice none 0 0, .int .i64 (offsF l)])) w' :=
  ⟨_, [], rfl, ⟨fun h0 => absurd h0 h, fun _ => rfl⟩, by simp, World.ownsRow_nil _ _ _ _, hb⟩
theorem bestPost_ok {w w' : World} {l m : List OffV} {v : Value} (h : offsF l = 0) (hm : Bests l m) (hl : m.length ≤ 100) (ho : w'.ownsRow w.heap.size 44 8 v m.length (m.flatMap OffV.cells)) (hb : Below w.heap.size w w') : BestPost w l (.returned (.tuple #[v, .int .i64 0])) w' :=
  ⟨_, m, by rw [h], ⟨fun _ => hm, fun h0 => absurd h h0⟩, hl, ho, hb⟩
theorem offs_len {l : List OffV} (h : offsF l = 0) : l.length ≤ 100 := by
  unfold offsF at h
  split at h
  · omega
  · omega
theorem offs_good {l : List OffV} (h : offsF l = 0) (hr : ∀ o ∈ l, o.Raw) : ∀ o ∈ l, o.Good := by
  unfold offsF at h
  split at h
  · omega
  · exact fun o ho => OffV.good (hr o ho) (offsTo_zero.1 h o ho)

set_option maxRecDepth 100000 in
set_option maxHeartbeats 6400000 in
theorem best_any {A : Option Addr} {n c : Nat} {l : List OffV} {w : World} (h : IsOffs w A n c l) : Calls Try.prog 29 #[.slice A n c] w (BestPost w l) := by
  have C1 := Lib.hid (live_is h)
  have HRW := Lib.hid h.2.2.1
  obtain ⟨post, hpost⟩ : ∃ post, BestPost w l = post := ⟨_, rfl⟩
  have HP := Lib.hid hpost
  rw [hpost]
  clear h hpost
  unfold LiveIs at C1
  by_cases hf : offsF l = 0
  rotate_left
  · have HF := Lib.hid hf
    obtain ⟨f, hff⟩ : ∃ f, offsF l = f := ⟨_, rfl⟩
    rw [hff] at C1 hf
    have HFF := Lib.hid hff
    have d0 : (f != 0) = true := by simpa using hf
    clear hff
    go_enter Try.func29, Try.ntmps29
    go_wp2_with fail
    refine C1.out.mono ?_
    rintro e w1 ⟨hb1, ⟨-, rfl⟩ | ⟨h0, _⟩⟩
    · have HB1 := Lib.hid hb1
      clear hb1
      go_wp2
      (try go_ret2)
      rw [← HP.out, ← HFF.out]
      exact bestPost_bad HF.out HB1.out
    · exact absurd h0 hf
  have HF := Lib.hid hf
  have HG := Lib.hid (offs_good hf HRW.out)
  have hn100 := offs_len hf
  obtain ⟨nl, hnl⟩ : ∃ nl, l.length = nl := ⟨_, rfl⟩
  rw [hf, hnl] at C1
  rw [hnl] at hn100
  have HSH := Lib.hid (offMap_shows l HG.out)
  have hmk := makeBest
  clear hf hnl
  go_enter Try.func29, Try.ntmps29
  go_wp2_with fail
  refine C1.out.mono ?_
  rintro e w1 ⟨hb1, ⟨h0, _⟩ | ⟨-, rfl, hM⟩⟩
  · simp at h0
  have HB1 := Lib.hid hb1
  have hs1 := hb1.size
  have hm1 := hM.lt
  have HM : Hid (MapF (w1.alloc (.map #[] 0)) Try.prog 152 w.heap.size nl (offMap l)) := hM.alloc _
  clear hb1 hM C1
  go_wp2_with (at_range; go_loud (refine wpList_range_FN (r := w1.heap.size + 1) (by simp) rfl _ _ rfl _ keyK Try.underlying147 w.heap.size _ rfl HM.out ?_); intro w2 left cnt hrg hlf hg2 hs2)
  go_frame
  (try simp at hs2)
  have HB : Hid (MapF w2 Try.prog 42 w1.heap.size 0 (fun _ => none)) := (MapF.made w1 _ _).kept hg2 (by simp)
  have HRG := Lib.hid hrg
  have HVS : Hid (VisO (Live l) OffV.kl left []) := VisO.start HSH.out (fun q hq => OffV.kl_key (HG.out q hq.mem)) hlf
  have HB2 : Hid (Below w1.heap.size w1 w2) := ((Below.refl _ _).alloc (Nat.le_refl _) _).grown hg2 (by simp) (fun j hj => by cases hj)
  have hcn := hrg.cnt_le
  clear hrg hlf hg2 HM
  go_loopw [8, 9, 10] (fun _ _ _ wr => ∃ (left : Lit → Bool) (cnt : Nat) (vs : List OffV) (G : Lit → Option Value), Hid (RangeF wr Try.prog 152 w.heap.size (w1.heap.size + 1) nl (offMap l) left cnt) ∧ Hid (VisO (Live l) OffV.kl left vs) ∧ Hid (MapF wr Try.prog 42 w1.heap.size vs.length G) ∧ Hid (BestM vs G) ∧ vs.length + cnt ≤ nl ∧ Hid (Below w1.heap.size w1 wr) ∧ w1.heap.size + 1 < wr.heap.size) (fun _ _ _ wr => wr.rangeLeft w.heap.size (w1.heap.size + 1))
  case atStart => exact ⟨_, _, [], _, HRG, HVS, HB, BestM.start, by simpa using hcn, HB2, by omega⟩
  case round =>
    clear HRG HVS HB HB2 hcn hs2
    obtain ⟨left, cnt, vs, G, HRG, HVS, HM, HBM, hlen, HB, hsz⟩ := hrel
    obtain ⟨wo, rfl⟩ : ∃ wo : World, wo = wr := ⟨_, rfl⟩
    have hne0 : ¬ w.heap.size = w1.heap.size := by omega
    go_wp2_with (at_next; go_loud (refine wpList_next_F rfl _ rfl keyK (fun v : Value => v) (fun key _ _ => ⟨key, rfl⟩) w.heap.size (w1.heap.size + 1) _ rfl HRG.out ?_ ?_))
    · intro hl0
      have HALL := Lib.hid (HVS.out.done hl0)
      have HKB := Lib.hid (show ∀ q, IsB (· ∈ vs) q → WideAt.IsKeyLit q.pl from fun q hq => OffV.pl_key (HG.out q (HVS.out.sub q hq.1).mem))
      obtain ⟨nv, hnv⟩ : ∃ nv, vs.length = nv := ⟨_, rfl⟩
      rw [hnv] at HM hlen
      have hn2 : nv ≤ 100 := by omega
      have hmz := HM.out.lt
      clear hl0 HRG HVS hnv hlen
      go_wp2_with (at_range; go_loud (refine wpList_range_FN (r := wo.heap.size) rfl rfl _ _ rfl _ keyP Try.underlying150 w1.heap.size _ rfl HM.out ?_); intro w3 left2 cnt2 hrg hlf hg3 hs3)
      go_frame
      have HRG := Lib.hid hrg
      have HVS : Hid (VisO (IsB (· ∈ vs)) OffV.pl left2 []) := VisO.start HBM.out HKB.out hlf
      have HB3 : Hid (Below wo.heap.size wo w3) := (Below.refl _ _).grown hg3 (Nat.le_refl _) (fun j hj => by cases hj)
      have hcn := hrg.cnt_le
      clear hrg hlf hg3 HM
      go_loopw [13, 11] (fun _ fv wr => ∃ (left : Lit → Bool) (cnt : Nat) (ws : List OffV), Hid (RangeF wr Try.prog 42 w1.heap.size wo.heap.size nv G left cnt) ∧ Hid (VisO (IsB (· ∈ vs)) OffV.pl left ws) ∧ Hid (wr.ownsRow (wo.heap.size + 1) 44 8 fv ws.length (ws.flatMap OffV.cells)) ∧ ws.length + cnt ≤ nv ∧ Hid (Below wo.heap.size wo wr) ∧ wo.heap.size < wr.heap.size) (fun _ _ wr => wr.rangeLeft w1.heap.size wo.heap.size)
      case atStart => exact ⟨_, _, [], HRG, HVS, World.ownsRow_nil _ _ _ _, by simpa using hcn, HB3, by omega⟩
      case round =>
        clear HRG HVS HB3 hcn hs3
        obtain ⟨left, cnt, ws, HRG, HVS, HROW, hlen, HB3, hsz3⟩ := hrel
        obtain ⟨wq, rfl⟩ : ∃ wq : World, wq = wr := ⟨_, rfl⟩
        go_wp2_with (at_next; go_loud (refine wpList_next_F rfl _ rfl keyP (fun v : Value => v) (fun key _ _ => ⟨key, rfl⟩) w1.heap.size wo.heap.size _ rfl HRG.out ?_ ?_))
        · intro hl0
          have HWS := Lib.hid (HVS.out.done hl0)
          have HND := Lib.hid HVS.out.nd
          have hwl : ws.length ≤ 100 := by omega
          have HGW := Lib.hid (show ∀ q ∈ ws, q.Good from fun q hq => HG.out q (((HALL.out q).1 (HVS.out.sub q hq).1).mem))
          have CS := Lib.hid (sortO_is HGW.out (by omega) HROW.out (by omega))
          clear hl0 HRG HVS HROW hlen
          go_wp2_with fail
          refine CS.out.mono ?_
          rintro e w5 ⟨rfl, m, hpm, hsm, hown, hb5⟩
          have HBE := Lib.hid (bests_of HG.out HALL.out HWS.out HND.out hpm hsm)
          have hml : m.length ≤ 100 := by rw [hpm.length_eq]; exact hwl
          have HO5 := Lib.hid (own_mono hown (base' := w.heap.size) (by omega))
          have HB5 : Hid (Below w.heap.size w w5) := HB1.out.trans ((HB.out.mono hs1).trans ((HB3.out.mono (by omega)).trans (hb5.mono (by omega))))
          clear hpm hsm hown hb5 CS
          go_wp2
          (try go_ret2)
          rw [← HP.out]
          exact bestPost_ok HF.out HBE.out hml HO5.out HB5.out
        · intro x v kl w4 cnt4 hkey hlk hF hrg4 hlt4 hg4 hs4 hen
          obtain ⟨q, hq, rfl, rfl⟩ := (HBM.out _ _).1 hF
          have HRG4 := Lib.hid hrg4
          have HV4 := Lib.hid (HVS.out.step HBM.out HKB.out hq hlk)
          have HO4 := Lib.hid (own_grownB HROW.out hg4 (Nat.lt_succ_self _))
          have HB4 : Hid (Below wo.heap.size wo w4) := HB3.out.grown hg4 (by omega) (fun j hj => by cases hj; exact Nat.le_refl _)
          have hmt : wq.rangeLeft w1.heap.size wo.heap.size = cnt := HRG.out.left_eq
          have HMT := Lib.hid hmt
          have hlen4 : (ws ++ [q]).length + cnt4 ≤ nv := by rw [List.length_append]; simp; omega
          have HL4 := Lib.hid hlen4
          have hwl : ws.length ≤ 100 := by omega
          have hsz4 : wo.heap.size < w4.heap.size := by omega
          clear hs4 HRG HVS HROW hrg4 hg4 hkey hlk hF hmt hlen4 hq
          obtain ⟨⟨six, hi, lo, pn⟩, src, peer, met, hop⟩ := q
          simp only [OffV.val] at hen
          go_wp2_with (at_builtin; go_loud (refine wpList_append_oneN (us := [.bool six, .int .u64 hi, .int .u64 lo, .int .i64 pn, .int .i64 src, .int .i64 peer, .int .i64 met, .int .i64 hop]) rfl _ _ 24 rfl (wo.heap.size + 1) _ 8 64 Try.underlying24 infoOffer rfl (by decide) _ _ _ rfl rfl (by simp) (HO4.out.alloc _) (by simp; omega) rfl (by intro u hu; simp at hu; rcases hu with rfl | rfl | rfl | rfl | rfl | rfl | rfl | rfl <;> rfl) (by unfold maxLen; omega) (by omega) ?_))
          intro v5 w5 hown5 hb5 hs5 hk5
          have HRG5 := Lib.hid ((HRG4.out.alloc _).below hb5 (by omega) (Nat.lt_succ_self _))
          have HO5 : Hid (w5.ownsRow (wo.heap.size + 1) 44 8 v5 (ws ++ [(⟨⟨six, hi, lo, pn⟩, src, peer, met, hop⟩ : OffV)]).length ((ws ++ [(⟨⟨six, hi, lo, pn⟩, src, peer, met, hop⟩ : OffV)]).flatMap OffV.cells)) := by
            show World.ownsRow _ _ _ _ _ _ _
            rw [List.length_append, List.flatMap_append]
            exact hown5
          have HB5 : Hid (Below wo.heap.size wo w5) := (HB4.out.alloc (by omega) _).trans (hb5.mono (by omega))
          (try simp at hs5)
          clear hown5 hb5 hk5
          go_wp2
          go_roundw
          case rel => exact ⟨_, _, _, HRG5, HV4, HO5, HL4.out, HB5, by omega⟩
          case measure => rw [HRG5.out.left_eq, HMT.out]; exact hlt4
    · intro x v kl w3 cnt3 hkey hlk hF hrg3 hlt3 hg3 hs3 hen
      obtain ⟨q, hq, rfl, rfl⟩ := (HSH.out _ _).1 hF
      have gq := HG.out q hq.mem
      have hnv := (HVS.out.mem q hq).1 hlk
      have HRG3 := Lib.hid hrg3
      have HV3 := Lib.hid (HVS.out.step HSH.out (fun q hq => OffV.kl_key (HG.out q hq.mem)) hq hlk)
      have HM3 := Lib.hid (HM.out.kept hg3 (fun e => by injection e; omega))
      have HB3 : Hid (Below w1.heap.size w1 w3) := HB.out.grown hg3 (by omega) (fun j hj => by cases hj; omega)
      have hmt : wo.rangeLeft w.heap.size (w1.heap.size + 1) = cnt := HRG.out.left_eq
      have HMT := Lib.hid hmt
      have hlen3 : (vs ++ [q]).length + cnt3 ≤ nl := by rw [List.length_append]; simp; omega
      have HL3 := Lib.hid hlen3
      have hvl : vs.length ≤ 100 := by omega
      have h3l := hrg3.map.lt
      have hsz3 : w1.heap.size + 1 < w3.heap.size := by omega
      clear hs3
      have HVL := Lib.hid (show ∀ q ∈ vs, Live l q from HVS.out.sub)
      have HPK := Lib.hid (OffV.pl_is gq)
      have HPL := Lib.hid (OffV.pl_key gq)
      cases hGl : G q.pl with
      | none =>
        have HBN := Lib.hid (bestM_new HVL.out HG.out HBM.out hq hGl)
        have hlook : ∀ o, (Instr.lookup 150 (.map (some w1.heap.size)) q.pre true).run Try.prog (w3.alloc o) = .ok (.tuple #[(.agg #[.bool false, .int .u64 0, .int .u64 0, .int .i64 0, .int .i64 0, .int .i64 0, .int .i64 0, .int .i64 0]), .bool false]) (w3.alloc o) := by
          intro o
          have := (HM3.out.alloc o).look keyP Try.underlying150 (zeroOffer _) HPK.out HPL.out
          rw [hGl] at this
          exact this
        clear HRG HM HVS hrg3 hg3 hkey hlk hF hmt hlen3 hGl hq gq hnv
        obtain ⟨⟨six, hi, lo, pn⟩, src, peer, met, hop⟩ := q
        simp only [OffV.val, OffV.pre] at hen hlook
        go_wp2_with (at_mapUpdate; go_loud (refine wpList_mapUpdate_F rfl _ _ _ 150 rfl 44 keyP Try.underlying150 rfl ((HM3.out.alloc _).alloc _) (by unfold maxLen; omega) (.agg #[.bool six, .int .u64 hi, .int .u64 lo, .int .i64 pn]) (.agg #[.bool six, .int .u64 hi, .int .u64 lo, .int .i64 pn, .int .i64 src, .int .i64 peer, .int .i64 met, .int .i64 hop]) _ rfl rfl HPK.out HPL.out ?_))
        intro w5 hm5 hg5
        have HM5 : Hid (MapF w5 Try.prog 42 w1.heap.size (vs ++ [(⟨⟨six, hi, lo, pn⟩, src, peer, met, hop⟩ : OffV)]).length (putF G (OffV.pl ⟨⟨six, hi, lo, pn⟩, src, peer, met, hop⟩) (OffV.val ⟨⟨six, hi, lo, pn⟩, src, peer, met, hop⟩))) := by rw [List.length_append]; exact hm5
        have HRG5 := Lib.hid (((HRG3.out.alloc _).alloc _).kept hg5 (fun e => by injection e; omega) (fun e => by injection e; omega))
        have HB5 : Hid (Below w1.heap.size w1 w5) := ((HB3.out.alloc (by omega) _).alloc (by simp; omega) _).grown hg5 (by simp; omega) (fun j hj => by cases hj; exact Nat.le_refl _)
        have hs5 := hg5.size
        (try simp at hs5)
        clear hm5 hg5
        go_wp2
        go_roundw
        case rel => exact ⟨_, _, _, _, HRG5, HV3, HM5, HBN, HL3.out, HB5, by omega⟩
        case measure => rw [HRG5.out.left_eq, HMT.out]; exact hlt3
      | some bv =>
        obtain ⟨b, gb, rfl, hbt, hkp⟩ := bestM_old HVL.out HG.out HBM.out hq hGl
        have hbet := fun w => better_any q b w
        have hlook : ∀ o, (Instr.lookup 150 (.map (some w1.heap.size)) q.pre true).run Try.prog (w3.alloc o) = .ok (.tuple #[b.val, .bool true]) (w3.alloc o) := by
          intro o
          have := (HM3.out.alloc o).look keyP Try.underlying150 (zeroOffer _) HPK.out HPL.out
          rw [hGl] at this
          exact this
        obtain ⟨bi, hbi⟩ : ∃ bi, betterI q b = bi := ⟨_, rfl⟩
        rw [hbi] at hbt hkp
        simp only [hbi] at hbet
        have HBT := Lib.hid hbt
        have HKP := Lib.hid (fun h => hkp h hnv)
        clear HRG HM HVS hrg3 hg3 hkey hlk hF hmt hlen3 hGl hq gq hnv hbi hbt hkp gb
        obtain ⟨⟨six, hi, lo, pn⟩, src, peer, met, hop⟩ := q
        obtain ⟨⟨six', hi', lo', pn'⟩, src', peer', met', hop'⟩ := b
        simp only [OffV.val, OffV.pre] at hen hlook hbet
        have HBET := Lib.hid hbet
        clear hbet
        by_cases hlt : bi < 0
        · have hd : decide (bi < 0) = true := by simpa using hlt
          have HBN := Lib.hid (HBT.out hlt)
          go_wp2_with fail
          refine (HBET.out _).mono ?_
          rintro e w4 ⟨rfl, hb4⟩
          obtain ⟨-, hsr, FF⟩ := box1b (cs := [.bool six, .int .u64 hi, .int .u64 lo, .int .i64 pn, .int .i64 src, .int .i64 peer, .int .i64 met, .int .i64 hop]) hb4
          have r0 := FF 0 _ rfl
          have r1 := FF 1 _ rfl
          have r2 := FF 2 _ rfl
          have r3 := FF 3 _ rfl
          have r4 := FF 4 _ rfl
          have r5 := FF 5 _ rfl
          have r6 := FF 6 _ rfl
          have r7 := FF 7 _ rfl
          have HM4 := Lib.hid (((HM3.out.alloc _).alloc _).below hb4 (by simp; omega))
          have HRG4 := Lib.hid (((HRG3.out.alloc _).alloc _).below hb4 (by simp; omega) (by simp; omega))
          have HB4 := Lib.hid (below_step ((HB3.out.alloc (by omega) _).alloc (by simp; omega) _) hb4)
          clear hb4 FF
          go_wp2_with (at_mapUpdate; go_loud (refine wpList_mapUpdate_F rfl _ _ _ 150 rfl 44 keyP Try.underlying150 rfl HM4.out (by unfold maxLen; omega) (.agg #[.bool six, .int .u64 hi, .int .u64 lo, .int .i64 pn]) (.agg #[.bool six, .int .u64 hi, .int .u64 lo, .int .i64 pn, .int .i64 src, .int .i64 peer, .int .i64 met, .int .i64 hop]) _ rfl rfl HPK.out HPL.out ?_))
          intro w5 hm5 hg5
          have HM5 : Hid (MapF w5 Try.prog 42 w1.heap.size (vs ++ [(⟨⟨six, hi, lo, pn⟩, src, peer, met, hop⟩ : OffV)]).length (putF G (OffV.pl ⟨⟨six, hi, lo, pn⟩, src, peer, met, hop⟩) (OffV.val ⟨⟨six, hi, lo, pn⟩, src, peer, met, hop⟩))) := by rw [List.length_append]; exact hm5
          have HRG5 := Lib.hid (HRG4.out.kept hg5 (fun e => by injection e; omega) (fun e => by injection e; omega))
          have HB5 : Hid (Below w1.heap.size w1 w5) := HB4.out.grown hg5 (by omega) (fun j hj => by cases hj; exact Nat.le_refl _)
          have hs5 := hg5.size
          (try simp at hs5)
          clear hm5 hg5
          go_wp2
          go_roundw
          case rel => exact ⟨_, _, _, _, HRG5, HV3, HM5, HBN, HL3.out, HB5, by omega⟩
          case measure => rw [HRG5.out.left_eq, HMT.out]; exact hlt3
        · have hd : decide (bi < 0) = false := by simpa using hlt
          have HBN := Lib.hid (HKP.out hlt)
          go_wp2_with fail
          refine (HBET.out _).mono ?_
          rintro e w4 ⟨rfl, hb4⟩
          have hsr := bsize2 hb4
          have HM4 : Hid (MapF w4 Try.prog 42 w1.heap.size (vs ++ [(⟨⟨six, hi, lo, pn⟩, src, peer, met, hop⟩ : OffV)]).length G) := (((HM3.out.alloc _).alloc _).below hb4 (by simp; omega)).mono (by simp)
          have HRG4 := Lib.hid (((HRG3.out.alloc _).alloc _).below hb4 (by simp; omega) (by simp; omega))
          have HB4 := Lib.hid (below_step ((HB3.out.alloc (by omega) _).alloc (by simp; omega) _) hb4)
          clear hb4
          go_wp2
          go_roundw
          case rel => exact ⟨_, _, _, _, HRG4, HV3, HM4, HBN, HL3.out, HB4, by omega⟩
          case measure => rw [HRG4.out.left_eq, HMT.out]; exact hlt3


end Go.Proofs.Ytmljdjakbbedlaa

namespace Go.Proofs.Ytmljdjakbbedlaa
open Go.ChangeShapes Go.WideShapes Go.ChangeAt Go.RowKit

theorem bestL_unique {l m m' : List OffV} (hr : ∀ o ∈ l, o.Raw) (h : BestL l m) (h' : BestL l m') : m = m' := by
  by_cases hf : offsF l = 0
  · exact bests_unique (offs_good hf hr) (h.1 hf) (h'.1 hf)
  · rw [h.2 hf, h'.2 hf]

end Go.Proofs.Ytmljdjakbbedlaa

namespace Go.Proofs.Ytmljdjakbbedlaa
open Go.ChangeShapes Go.WideShapes Go.ChangeAt Go.RowKit

theorem infoRouteO : (Try.prog.info? 48).map (fun i => (i.zero, i.size, i.bytes)) = some (some (.agg #[.bool false, .int .u64 0, .int .u64 0, .int .i64 0, .int .i64 0]), 5, 40) := by kernel_rfl
/-- An offer from afar that one from nearer covers. -/
def overO (o b : OffV) : Bool := !decide (b.src = 4) && b.p.over o.p
def hidB (m : List OffV) (o : OffV) : Bool := decide (o.src = 4) && m.any (overO o)
def tabTo (m : List OffV) (k : Nat) : List RouteV := ((m.take k).filter fun o => !hidB m o).map fun o => ⟨o.p, o.hop⟩
theorem tabTo_succ {m : List OffV} {k : Nat} {o : OffV} (h : m.take (k + 1) = m.take k ++ [o]) : tabTo m (k + 1) = tabTo m k ++ (if hidB m o = true then [] else [⟨o.p, o.hop⟩]) := by
  unfold tabTo
  rw [h, List.filter_append, List.map_append]
  congr 1
  cases hb : hidB m o <;> simp [hb]
theorem tabTo_length (m : List OffV) (k : Nat) : (tabTo m k).length ≤ k := by
  unfold tabTo
  rw [List.length_map]
  exact Nat.le_trans (List.length_filter_le _ _) (by rw [List.length_take]; omega)
/-- What Table says of a list. -/
def TabIs (l : List OffV) (R : List RouteV) (f : Int) : Prop := ∃ m, BestL l m ∧ ((¬ offsF l = 0 ∧ R = [] ∧ f = offsF l) ∨ (offsF l = 0 ∧ 60 < (tabTo m m.length).length ∧ R = [] ∧ f = 9) ∨ (offsF l = 0 ∧ (tabTo m m.length).length ≤ 60 ∧ R = tabTo m m.length ∧ f = 0))
def TabPost (w : World) (l : List OffV) (e : Ending) (w' : World) : Prop :=
  ∃ v R f, e = .returned (.tuple #[v, .int .i64 f]) ∧ TabIs l R f ∧ R.length ≤ 100 ∧ w'.ownsRow w.heap.size 48 5 v R.length (R.flatMap RouteV.cells) ∧ Below w.heap.size w w'
theorem tabPost_bad {w w' : World} {l m : List OffV} (h : ¬ offsF l = 0) (hm : BestL l m) (hb : Below w.heap.size w w') : TabPost w l (.returned (.tuple #[.slice none 0 0, .int .i64 (offsF l)])) w' :=
  ⟨_, [], _, rfl, ⟨m, hm, .inl ⟨h, rfl, rfl⟩⟩, by simp, World.ownsRow_nil _ _ _ _, hb⟩
theorem tabPost_full {w w' : World} {l m : List OffV} (h : offsF l = 0) (hm : BestL l m) (hl : 60 < (tabTo m m.length).length) (hb : Below w.heap.size w w') : TabPost w l (.returned (.tuple #[.slice none 0 0, .int .i64 9])) w' :=
  ⟨_, [], _, rfl, ⟨m, hm, .inr (.inl ⟨h, hl, rfl, rfl⟩)⟩, by simp, World.ownsRow_nil _ _ _ _, hb⟩
theorem tabPost_ok {w w' : World} {l m : List OffV} {v : Value} (h : offsF l = 0) (hm : BestL l m) (hl : (tabTo m m.length).length ≤ 60) (ho : w'.ownsRow w.heap.size 48 5 v (tabTo m m.length).length ((tabTo m m.length).flatMap RouteV.cells)) (hb : Below w.heap.size w w') : TabPost w l (.returned (.tuple #[v, .int .i64 0])) w' :=
  ⟨_, _, _, rfl, ⟨m, hm, .inr (.inr ⟨h, hl, rfl, rfl⟩)⟩, by omega, ho, hb⟩
theorem tabIs_unique {l : List OffV} {R R' : List RouteV} {f f' : Int} (hr : ∀ o ∈ l, o.Raw) (h : TabIs l R f) (h' : TabIs l R' f') : R = R' ∧ f = f' := by
  obtain ⟨m, hm, h⟩ := h
  obtain ⟨m', hm', h'⟩ := h'
  obtain rfl := bestL_unique hr hm hm'
  rcases h with ⟨a, rfl, rfl⟩ | ⟨a, b, rfl, rfl⟩ | ⟨a, b, rfl, rfl⟩ <;> rcases h' with ⟨a', rfl, rfl⟩ | ⟨a', b', rfl, rfl⟩ | ⟨a', b', rfl, rfl⟩ <;> first | exact ⟨rfl, rfl⟩ | (exfalso; omega)

set_option maxRecDepth 100000 in
set_option maxHeartbeats 1600000 in
theorem tabFn_any (o b : OffV) (go : o.Good) (gb : b.Good) (g : Nat) (w : World) (hg : g < w.heap.size) (h0 : w.cell? ⟨g, 0, none⟩ = some (.bool o.p.six)) (h1 : w.cell? ⟨g, 1, none⟩ = some (.int .u64 o.p.hi)) (h2 : w.cell? ⟨g, 2, none⟩ = some (.int .u64 o.p.lo)) (h3 : w.cell? ⟨g, 3, none⟩ = some (.int .i64 o.p.n)) :
    Calls Try.prog 45 #[b.val, .pointer (some ⟨g, 0, none⟩)] w fun e w' => e = .returned (.bool (overO o b)) ∧ Below w.heap.size w w' := by
  have CO := Lib.hid (fun w => over_pv b.p o.p w gb.ok go.ok)
  clear go gb
  obtain ⟨⟨six, hi, lo, pn⟩, src, peer, met, hop⟩ := o
  obtain ⟨⟨six', hi', lo', pn'⟩, src', peer', met', hop'⟩ := b
  unfold overO
  simp only at h0 h1 h2 h3 CO ⊢
  generalize PV.over ⟨six', hi', lo', pn'⟩ ⟨six, hi, lo, pn⟩ = r at *
  unfold OffV.val
  unfold PV.val at CO
  by_cases hs : src' = 4
  · subst hs
    go_enter Try.func45, Try.ntmps45
    go_wp2
    go_ret
    exact ⟨by simp, (Below.refl _ _).alloc (Nat.le_refl _) _⟩
  · have hd : (src' != 4) = true := by simpa using hs
    have hd2 : decide (src' = 4) = false := by simpa using hs
    rw [hd2]
    clear hd2
    have hgn : ¬ g = w.heap.size := by omega
    go_enter Try.func45, Try.ntmps45
    go_wp2_with fail
    refine (CO.out _).mono ?_
    rintro e w1 ⟨rfl, hb1⟩
    have HB := Lib.hid (balloc1 hb1)
    clear hb1
    go_wp2
    go_ret
    exact ⟨by simp, HB.out⟩

set_option maxRecDepth 100000 in
set_option maxHeartbeats 6400000 in
theorem table_any {A : Option Addr} {n c : Nat} {l : List OffV} {w : World} (h : IsOffs w A n c l) : Calls Try.prog 14 #[.slice A n c] w (TabPost w l) := by
  have C1 := Lib.hid (best_any h)
  have HRW := Lib.hid h.2.2.1
  obtain ⟨post, hpost⟩ : ∃ post, TabPost w l = post := ⟨_, rfl⟩
  have HP := Lib.hid hpost
  rw [hpost]
  clear h hpost
  unfold BestPost at C1
  by_cases hf : offsF l = 0
  rotate_left
  · have HF := Lib.hid hf
    obtain ⟨f, hff⟩ : ∃ f, offsF l = f := ⟨_, rfl⟩
    rw [hff] at C1 hf
    have HFF := Lib.hid hff
    have d0 : (f != 0) = true := by simpa using hf
    clear hff
    go_enter Try.func14, Try.ntmps14
    go_wp2_with fail
    refine C1.out.mono ?_
    rintro e w1 ⟨v1, m, rfl, hm, _, _, hb1⟩
    have HB1 := Lib.hid hb1
    have HM := Lib.hid hm
    clear hb1 hm
    go_wp2
    (try go_ret2)
    rw [← HP.out, ← HFF.out]
    exact tabPost_bad HF.out HM.out HB1.out
  have HF := Lib.hid hf
  rw [hf] at C1
  clear hf
  go_enter Try.func14, Try.ntmps14
  go_wp2_with fail
  refine C1.out.mono ?_
  rintro e w1 ⟨v1, m, rfl, hm, hlen, hd1, hb1⟩
  obtain ⟨A1, c1, rfl, hc1, hr1⟩ := own_reads hd1
  have hc1l := hc1.1
  have hc1m := hc1.2
  unfold maxLen at hc1m
  have HBL := Lib.hid hm
  have HGM : Hid (∀ o ∈ m, o.Good) := fun o ho => offs_good HF.out HRW.out o ((((hm.1 HF.out).2 o).1 ho).1.mem)
  have HR := Lib.hid hr1
  have HB1 := Lib.hid hb1
  have hs1 := hb1.size
  obtain ⟨nm, hn⟩ : ∃ nm, m.length = nm := ⟨_, rfl⟩
  rw [hn] at HR hlen hc1l ⊢
  have HN := Lib.hid hn
  have htl := tabTo_length m
  clear hd1 hr1 hb1 hm hc1 hn C1
  go_wp2
  go_loopw [20, 6, 8, 9] (fun i ov _ _ wr => ∃ k : Nat, k ≤ nm ∧ i = .int .i64 k ∧ Hid (wr.ownsRow w1.heap.size 48 5 ov (tabTo m k).length ((tabTo m k).flatMap RouteV.cells)) ∧ Hid (Below w1.heap.size w1 wr)) (fun i _ _ _ _ => nm - (intOf i).toNat)
  case atStart => exact ⟨0, by omega, rfl, World.ownsRow_nil _ _ _ _, Below.refl _ _⟩
  case round =>
    obtain ⟨k, hk, rfl, HROW, HB⟩ := hrel
    obtain ⟨wo, rfl⟩ : ∃ wo : World, wo = wr := ⟨_, rfl⟩
    have hszb := HB.out.size
    have htk := htl k
    by_cases hlt : k < nm
    · obtain ⟨ad, ⟨⟨six, hi, lo, pn⟩, src, peer, met, hop⟩, rfl, hlk, htk2, hmem, hbk, hc0, hcj⟩ := HR.out.atS OffV.cells_length HN.out hlt
      have q0 := (HB.out.cell (p := ad.add (k * 8)) (by rw [block_of_add]; exact hbk)).trans (hc0 _ rfl)
      have q1 := (HB.out.cell (p := ⟨(ad.add (k * 8)).block, (ad.add (k * 8)).off + 1, none⟩) (by rw [block_of_add]; exact hbk)).trans (hcj 1 _ rfl)
      have q2 := (HB.out.cell (p := ⟨(ad.add (k * 8)).block, (ad.add (k * 8)).off + 2, none⟩) (by rw [block_of_add]; exact hbk)).trans (hcj 2 _ rfl)
      have q3 := (HB.out.cell (p := ⟨(ad.add (k * 8)).block, (ad.add (k * 8)).off + 3, none⟩) (by rw [block_of_add]; exact hbk)).trans (hcj 3 _ rfl)
      have q4 := (HB.out.cell (p := ⟨(ad.add (k * 8)).block, (ad.add (k * 8)).off + 4, none⟩) (by rw [block_of_add]; exact hbk)).trans (hcj 4 _ rfl)
      have q5 := (HB.out.cell (p := ⟨(ad.add (k * 8)).block, (ad.add (k * 8)).off + 5, none⟩) (by rw [block_of_add]; exact hbk)).trans (hcj 5 _ rfl)
      have q6 := (HB.out.cell (p := ⟨(ad.add (k * 8)).block, (ad.add (k * 8)).off + 6, none⟩) (by rw [block_of_add]; exact hbk)).trans (hcj 6 _ rfl)
      have q7 := (HB.out.cell (p := ⟨(ad.add (k * 8)).block, (ad.add (k * 8)).off + 7, none⟩) (by rw [block_of_add]; exact hbk)).trans (hcj 7 _ rfl)
      have HSU := Lib.hid (tabTo_succ htk2)
      have HGO := Lib.hid (HGM.out _ hmem)
      clear hlk htk2 hmem hbk hc0 hcj
      by_cases hs4 : src = 4
      · subst hs4
        obtain ⟨wp0, hwp0⟩ : ∃ wn : World, wo.alloc (.cells #[.bool six, .int .u64 hi, .int .u64 lo, .int .i64 pn, .int .i64 4, .int .i64 peer, .int .i64 met, .int .i64 hop] 44) = wn := ⟨_, rfl⟩
        have HCC : Hid (Calls Try.prog 44 #[.slice (some ad) nm c1, .func (.func 45) #[] #[.pointer (some ⟨wo.heap.size, 0, none⟩)]] wp0 fun e w' => e = .returned (.bool (m.any (overO (⟨⟨six, hi, lo, pn⟩, 4, peer, met, hop⟩ : OffV)))) ∧ Below wp0.heap.size wp0 w') := by
          have p0 : wp0.cell? ⟨wo.heap.size, 0, none⟩ = some (.bool six) := by rw [← hwp0]; exact alloc_cellN (j := 0) rfl
          have p1 : wp0.cell? ⟨wo.heap.size, 1, none⟩ = some (.int .u64 hi) := by rw [← hwp0]; exact alloc_cellN (j := 1) rfl
          have p2 : wp0.cell? ⟨wo.heap.size, 2, none⟩ = some (.int .u64 lo) := by rw [← hwp0]; exact alloc_cellN (j := 2) rfl
          have p3 : wp0.cell? ⟨wo.heap.size, 3, none⟩ = some (.int .i64 pn) := by rw [← hwp0]; exact alloc_cellN (j := 3) rfl
          have hz : wo.heap.size < wp0.heap.size := by rw [← hwp0]; simp
          have hbp : Below w1.heap.size w1 wp0 := by rw [← hwp0]; exact HB.out.alloc hszb _
          refine hasOffer_any (some ad) nm c1 m _ 45 _ wp0 (fun args w => by kernel_rfl) HN.out (by unfold maxLen; omega) ((HR.out.below hbp).more hbp.size) ?_
          intro b hbm w' hb'
          exact tabFn_any _ b HGO.out (HGM.out b hbm) wo.heap.size w' (by have := hb'.size; omega) ((hb'.cell (p := ⟨wo.heap.size, 0, none⟩) hz).trans p0) ((hb'.cell (p := ⟨wo.heap.size, 1, none⟩) hz).trans p1) ((hb'.cell (p := ⟨wo.heap.size, 2, none⟩) hz).trans p2) ((hb'.cell (p := ⟨wo.heap.size, 3, none⟩) hz).trans p3)
        subst hwp0
        obtain ⟨X, hX⟩ : ∃ X, m.any (overO (⟨⟨six, hi, lo, pn⟩, 4, peer, met, hop⟩ : OffV)) = X := ⟨_, rfl⟩
        have HH : Hid (hidB m (⟨⟨six, hi, lo, pn⟩, 4, peer, met, hop⟩ : OffV) = X) := by
          show _ = _
          unfold hidB
          rw [hX]
          simp
        rw [hX] at HCC
        clear hX
        go_wp2_with fail
        refine HCC.out.mono ?_
        rintro e w5 ⟨rfl, hb5⟩
        obtain ⟨-, hsr, FF⟩ := box1 (cs := [.bool six, .int .u64 hi, .int .u64 lo, .int .i64 pn, .int .i64 4, .int .i64 peer, .int .i64 met, .int .i64 hop]) hb5
        have r0 := FF 0 _ rfl
        have r1 := FF 1 _ rfl
        have r2 := FF 2 _ rfl
        have r3 := FF 3 _ rfl
        have r7 := FF 7 _ rfl
        have HROW5 : Hid (w5.ownsRow w1.heap.size 48 5 u6 (tabTo m k).length ((tabTo m k).flatMap RouteV.cells)) := own_below (HROW.out.alloc _) hb5
        have HB5 : Hid (Below w1.heap.size w1 w5) := below_step (HB.out.alloc hszb _) hb5
        have hs5 : w1.heap.size ≤ w5.heap.size := HB5.out.size
        clear hb5 FF HCC
        cases X with
        | true =>
          have HO6 : Hid (w5.ownsRow w1.heap.size 48 5 u6 (tabTo m (k + 1)).length ((tabTo m (k + 1)).flatMap RouteV.cells)) := by
            show World.ownsRow _ _ _ _ _ _ _
            rw [HSU.out, HH.out, if_pos rfl, List.append_nil]
            exact HROW5.out
          go_wp2
          go_roundw
          case rel => exact ⟨k + 1, by omega, by go_num, HO6, HB5⟩
          case measure => simp [intOf]; omega
        | false =>
          go_wp2_with (at_builtin; go_loud (refine wpList_append_oneN (us := [.bool six, .int .u64 hi, .int .u64 lo, .int .i64 pn, .int .i64 hop]) rfl _ _ 26 rfl w1.heap.size _ 5 40 Try.underlying26 infoRouteO rfl (by decide) _ _ _ rfl rfl rfl HROW5.out hs5 rfl (by intro u hu; simp at hu; rcases hu with rfl | rfl | rfl | rfl | rfl <;> rfl) (by unfold maxLen; omega) (by omega) ?_))
          intro v6 w6 hown6 hb6 hs6 hk6
          have HO6 : Hid (w6.ownsRow w1.heap.size 48 5 v6 (tabTo m (k + 1)).length ((tabTo m (k + 1)).flatMap RouteV.cells)) := by
            show World.ownsRow _ _ _ _ _ _ _
            rw [HSU.out, HH.out, if_neg (by decide), List.length_append, List.flatMap_append]
            exact hown6
          have HB6 : Hid (Below w1.heap.size w1 w6) := HB5.out.trans (hb6.mono (by omega))
          clear hown6 hb6 hk6
          go_wp2
          go_roundw
          case rel => exact ⟨k + 1, by omega, by go_num, HO6, HB6⟩
          case measure => simp [intOf]; omega
      · have hd4 : (src == 4) = false := by simpa using hs4
        have HH : Hid (hidB m (⟨⟨six, hi, lo, pn⟩, src, peer, met, hop⟩ : OffV) = false) := by
          show _ = _
          unfold hidB
          rw [decide_eq_false hs4]
          rfl
        have HROW5 := Lib.hid (HROW.out.alloc (.cells #[.bool six, .int .u64 hi, .int .u64 lo, .int .i64 pn, .int .i64 src, .int .i64 peer, .int .i64 met, .int .i64 hop] 44))
        have HB5 : Hid (Below w1.heap.size w1 (wo.alloc (.cells #[.bool six, .int .u64 hi, .int .u64 lo, .int .i64 pn, .int .i64 src, .int .i64 peer, .int .i64 met, .int .i64 hop] 44))) := HB.out.alloc hszb _
        have hs5 : w1.heap.size ≤ (wo.alloc (.cells #[.bool six, .int .u64 hi, .int .u64 lo, .int .i64 pn, .int .i64 src, .int .i64 peer, .int .i64 met, .int .i64 hop] 44)).heap.size := HB5.out.size
        go_wp2_with (at_builtin; go_loud (refine wpList_append_oneN (us := [.bool six, .int .u64 hi, .int .u64 lo, .int .i64 pn, .int .i64 hop]) rfl _ _ 26 rfl w1.heap.size _ 5 40 Try.underlying26 infoRouteO rfl (by decide) _ _ _ rfl rfl (by simp) HROW5.out hs5 rfl (by intro u hu; simp at hu; rcases hu with rfl | rfl | rfl | rfl | rfl <;> rfl) (by unfold maxLen; omega) (by omega) ?_))
        intro v6 w6 hown6 hb6 hs6 hk6
        have HO6 : Hid (w6.ownsRow w1.heap.size 48 5 v6 (tabTo m (k + 1)).length ((tabTo m (k + 1)).flatMap RouteV.cells)) := by
          show World.ownsRow _ _ _ _ _ _ _
          rw [HSU.out, HH.out, if_neg (by decide), List.length_append, List.flatMap_append]
          exact hown6
        have HB6 : Hid (Below w1.heap.size w1 w6) := HB5.out.trans (hb6.mono (by omega))
        clear hown6 hb6 hk6
        go_wp2
        go_roundw
        case rel => exact ⟨k + 1, by omega, by go_num, HO6, HB6⟩
        case measure => simp [intOf]; omega
    · obtain rfl : k = nm := by omega
      have HROWE : Hid (wo.ownsRow w1.heap.size 48 5 u6 (tabTo m m.length).length ((tabTo m m.length).flatMap RouteV.cells)) := by rw [HN.out]; exact HROW
      have hln : (tabTo m m.length).length = (tabTo m k).length := by rw [HN.out]
      obtain ⟨A6, c6, hv6, -, -⟩ := own_reads HROWE.out
      subst hv6
      obtain ⟨tl, htl6⟩ : ∃ tl, (tabTo m m.length).length = tl := ⟨_, rfl⟩
      rw [htl6] at HROWE ⊢
      have HTL := Lib.hid htl6
      have HBE := Lib.hid (below_step HB1.out HB.out)
      by_cases hbig : 60 < tl
      · have hdb : decide ((60 : Int) < (tl : Int)) = true := by simp; omega
        go_wp2
        (try go_ret2)
        rw [← HP.out]
        exact tabPost_full HF.out HBL.out (by rw [HTL.out]; exact hbig) HBE.out
      · have hdb : decide ((60 : Int) < (tl : Int)) = false := by simp; omega
        go_wp2
        (try go_ret2)
        rw [← HP.out]
        refine tabPost_ok HF.out HBL.out (by rw [HTL.out]; omega) ?_ HBE.out
        rw [HTL.out]
        exact own_mono HROWE.out hs1

end Go.Proofs.Ytmljdjakbbedlaa
