/-
  
  
  
  Proved here: what the sorting functions of the library are at this dump, laid by the shelf. No conditions.
  
  
  
-/
import Derived.Test.YtmljdjakbbedlaaC12
import Derived.Maps.RangeWalk
import Derived.Test.YtmljdjakbbedlaaC3
import Derived.Shelf.SlSortCmp.WholeK
import Derived.Lib.QuietBelow
import Derived.Shelf.SlSortCmp.NoneTotal
import Derived.Test.YtmljdjakbbedlaaProg
import Derived.Test.YtmljdjakbbedlaaC4
import Derived.Laws.StructEq
namespace Go.Proofs.Ytmljdjakbbedlaa
open Go.ChangeShapes Go.WideShapes Go.ChangeAt Go.RowKit
open Go.Maps (Keyed)

/-- A range over the map in block b under way: what is left, and how many. -/
def RangeF (w : World) (P : Program) (k : TypeId) (b r n : Nat) (F : Lit → Option Value) (left : Lit → Bool) (cnt : Nat) : Prop := ∃ D, w.ranges P k heldR b r n D left cnt ∧ Shows D F
section
variable {P : Program} {k : TypeId} {b r n cnt : Nat} {F : Lit → Option Value} {left : Lit → Bool} {w w' : World}
theorem RangeF.kept {row : Option Nat} (h : RangeF w P k b r n F left cnt) (hg : w.grownBy w' row) (h1 : some b ≠ row) (h2 : some r ≠ row) : RangeF w' P k b r n F left cnt := let ⟨D, a, c⟩ := h; ⟨D, a.kept hg h1 h2, c⟩
theorem RangeF.below {B : Nat} (h : RangeF w P k b r n F left cnt) (hb : Below B w w') (h1 : b < B) (h2 : r < B) : RangeF w' P k b r n F left cnt := by
  obtain ⟨D, ⟨es, clock, since, seen, c0, a1, a2, a3, a4, a5, a6⟩, c⟩ := h
  exact ⟨D, ⟨es, clock, since, seen, c0, (hb.block b h1).trans a1, a2, a3, a4, (hb.block r h2).trans a5, a6⟩, c⟩
theorem RangeF.alloc (h : RangeF w P k b r n F left cnt) (o : Obj) : RangeF (w.alloc o) P k b r n F left cnt := let ⟨D, a, c⟩ := h; ⟨D, a.alloc o, c⟩
theorem RangeF.ne (h : RangeF w P k b r n F left cnt) : r ≠ b := let ⟨_, a, _⟩ := h; a.ne
theorem RangeF.lt (h : RangeF w P k b r n F left cnt) : r < w.heap.size := let ⟨_, a, _⟩ := h; a.lt
theorem RangeF.left_eq (h : RangeF w P k b r n F left cnt) : w.rangeLeft b r = cnt := let ⟨_, a, _⟩ := h; a.left_eq
theorem RangeF.map (h : RangeF w P k b r n F left cnt) : MapF w P k b n F := let ⟨D, a, c⟩ := h; ⟨D, a.owns, c⟩
theorem RangeF.cnt_le (h : RangeF w P k b r n F left cnt) : cnt ≤ n := by
  obtain ⟨D, ⟨es, clock, since, seen, c0, a1, a2, a3, a4, a5, a6, a7, a8⟩, c⟩ := h
  rw [← a7]
  exact Nat.le_trans Array.size_filter_le a3

theorem wpList_range_F {ops : Array Oper} {rest : List Oper} {o : Oper} {a : Act} {Q : Exit → Act → World → Prop} (hg : o.guard = none) (m : Operand) (t : TypeId) (hop : o.op = Op.range t m) (e : TypeId) (K : Keyed P k) (ht : P.underlying t = some (.map k e)) (b n : Nat)
    (hm : a.eval m = .map (some b)) (hown : MapF w P k b n F)
    (hK : ∀ w' left cnt, RangeF w' P k b w.heap.size n F left cnt → (∀ kl, WideAt.IsKeyLit kl → left kl = (F kl).isSome) → w.grownBy w' none → w'.heap.size = w.heap.size + 1 → wpList P ops Q rest (a.put o.dst (.pointer (some ⟨w.heap.size, 0, none⟩))) w') :
    wpList P ops Q (o :: rest) a w := by
  obtain ⟨D, h1, h2⟩ := hown
  exact wpList_range_own w hg m t hop k e K ht heldR b n D hm h1 (fun w' r1 r2 r3 => hK w' _ _ ⟨D, r1, h2⟩ (fun kl hk => (h2.2 kl hk).1) r2 r3)

theorem wpList_next_F {α : Type} {ops : Array Oper} {rest : List Oper} {o : Oper} {a : Act} {Q : Exit → Act → World → Prop} (hg : o.guard = none) (it : Operand) (hop : o.op = Op.next it false) (K : Keyed P k) (mkK : α → Value)
    (invK : ∀ key kl, keyOf P k key = some kl → ∃ x, key = mkK x) (b r n : Nat) (hit : a.eval it = .pointer (some ⟨r, 0, none⟩)) (h : RangeF w P k b r n F left cnt)
    (hDone : (∀ kl, left kl = false) → wpList P ops Q rest (a.put o.dst (.tuple #[.bool false])) w)
    (hMore : ∀ (x : α) (v : Value) (kl : Lit) (w' : World) (cnt' : Nat), keyOf P k (mkK x) = some kl → left kl = true → F kl = some v → RangeF w' P k b r n F (fun z => left z && !z.sameKey kl) cnt' → cnt' < cnt →
      w.grownBy w' (some r) → w'.heap.size = w.heap.size → (Instr.entry (.pointer (some ⟨r, 0, none⟩))).run P w' = .ok (.tuple #[mkK x, v]) w' → wpList P ops Q rest (a.put o.dst (.tuple #[.bool true, mkK x, v])) w') :
    wpList P ops Q (o :: rest) a w := by
  obtain ⟨D, h1, h2⟩ := h
  refine wpList_next_ranges w hg it hop k K heldR mkK (fun v : Value => v) invK (fun v y _ => ⟨v, rfl⟩) b r n D left cnt hit h1 (fun _ hl => hDone hl) ?_
  intro x c kl y w' cnt' hkey hlk hv hat hrg hlt hgr hsz hen
  refine hMore x c kl w' cnt' hkey hlk ?_ ⟨D, hrg, h2⟩ hlt hgr hsz hen
  have hil := K.key hkey
  simp only [heldR, Option.some.injEq] at hv
  subst hv
  have hz := fun z => (hat (.held z)).symm.trans ((h2.2 kl hil).2 z)
  cases hF : F kl with
  | some v =>
    have := hz c
    rw [hF] at this
    simp only [Option.getD_some, DataW.held.injEq] at this
    rw [this]
  | none =>
    have e1 := hz (.bool true)
    have e2 := hz (.bool false)
    rw [hF] at e1 e2
    simp only [Option.getD_none] at e1 e2
    rw [e1] at e2
    simp only [DataW.held.injEq] at e2
    cases e2
end

/-- What was visited of a map whose keys are ints. -/
structure Vis (F : Lit → Option Value) (left : Lit → Bool) (hs : List Int) : Prop where
  nd : hs.Nodup
  mem : ∀ h : Int, left (.int .i64 h) = true ↔ ((F (.int .i64 h)).isSome = true ∧ h ∉ hs)
  sub : ∀ h ∈ hs, (F (.int .i64 h)).isSome = true
theorem Vis.start {F : Lit → Option Value} {left : Lit → Bool} (h : ∀ kl, WideAt.IsKeyLit kl → left kl = (F kl).isSome) : Vis F left [] :=
  ⟨List.nodup_nil, fun x => by rw [h _ (keyLit_int _ _)]; simp, by simp⟩
theorem Vis.step {F : Lit → Option Value} {left : Lit → Bool} {hs : List Int} (h : Vis F left hs) {x : Int} (hx : left (.int .i64 x) = true) : Vis F (fun z => left z && !z.sameKey (.int .i64 x)) (hs ++ [x]) := by
  obtain ⟨h1, h2⟩ := (h.mem x).1 hx
  refine ⟨?_, fun y => ?_, ?_⟩
  · rw [List.nodup_append]
    refine ⟨h.nd, by simp, ?_⟩
    intro a ha b hb
    simp at hb
    subst hb
    intro e
    subst e
    exact h2 ha
  · have hs : (Lit.int .i64 y).sameKey (.int .i64 x) = decide (y = x) := by simp [Lit.sameKey]
    rw [hs, Bool.and_eq_true, h.mem y]
    simp only [Bool.not_eq_true', decide_eq_false_iff_not, List.mem_append, List.mem_singleton, not_or]
    constructor
    · rintro ⟨⟨a, b⟩, c⟩; exact ⟨a, b, c⟩
    · rintro ⟨a, b, c⟩; exact ⟨⟨a, b⟩, c⟩
  · intro y hy
    rcases List.mem_append.1 hy with hy | hy
    · exact h.sub y hy
    · simp at hy; subst hy; exact h1
theorem Vis.done {F : Lit → Option Value} {left : Lit → Bool} {hs : List Int} (h : Vis F left hs) (h0 : ∀ kl, left kl = false) (x : Int) : x ∈ hs ↔ (F (.int .i64 x)).isSome = true := by
  refine ⟨h.sub x, fun hx => ?_⟩
  by_cases hm : x ∈ hs
  · exact hm
  · have := (h.mem x).2 ⟨hx, hm⟩
    rw [h0] at this
    cases this

end Go.Proofs.Ytmljdjakbbedlaa

namespace Go.Proofs.Ytmljdjakbbedlaa

instance : Inhabited ViaV := ⟨⟨0, 0, 0⟩⟩
/-- What is found of a hop. -/
def okP (l : List ViaV) (h : Int) : Option ViaV := if (portR l 10 h []).2.2 = 0 then some ⟨h, (portR l 10 h []).1, 0⟩ else none
def allTo (l : List ViaV) (n : Nat) : List ViaV := (List.range n).filterMap fun i : Nat => okP l ((i : Int) + 1)
theorem okP_hop {l : List ViaV} {h : Int} {v : ViaV} (hv : okP l h = some v) : v.hop = h := by
  unfold okP at hv
  split at hv
  · injection hv with hv; rw [← hv]
  · cases hv
theorem okP_known {l : List ViaV} {h : Int} {v : ViaV} (hv : okP l h = some v) : (viaGet l h).isSome = true := by
  cases hg : viaGet l h with
  | some _ => rfl
  | none =>
    unfold okP at hv
    have : (portR l 10 h []).2.2 = 7 := by unfold portR; rw [hg]
    rw [this, if_neg (by decide)] at hv
    cases hv
theorem allTo_succ (l : List ViaV) (n : Nat) : allTo l (n + 1) = allTo l n ++ (okP l ((n : Int) + 1)).toList := by
  unfold allTo
  rw [List.range_succ, List.filterMap_append]
  congr 1
theorem allTo_length (l : List ViaV) (n : Nat) : (allTo l n).length ≤ n := by
  have := List.length_filterMap_le (fun i : Nat => okP l ((i : Int) + 1)) (List.range n)
  rwa [List.length_range] at this
theorem allTo_sorted (l : List ViaV) (n : Nat) : (allTo l n).Pairwise fun x y => x.hop < y.hop := by
  unfold allTo
  rw [List.pairwise_filterMap]
  refine (List.pairwise_lt_range (n := n)).imp fun {a b} hab x hx y hy => ?_
  have h1 := okP_hop hx
  have h2 := okP_hop hy
  omega
theorem known_range {l : List ViaV} (hv : viasF l = 0) {h : Int} (hk : (viaGet l h).isSome = true) : 1 ≤ h ∧ h ≤ 999 := by
  obtain ⟨v, hv2⟩ := Option.isSome_iff_exists.1 hk
  unfold viaGet at hv2
  have hm := List.mem_of_find?_eq_some hv2
  have he := List.find?_some hv2
  simp at he
  obtain ⟨i, hi⟩ := List.getElem?_of_mem hm
  have := (valid_at hv hi).1
  omega
/-- The found ones, in order. -/
theorem all_unique {l : List ViaV} (hv : viasF l = 0) {hs : List Int} (hn : hs.Nodup) (hk : ∀ h : Int, h ∈ hs ↔ (viaGet l h).isSome = true) {m : List ViaV} (hp : m.Perm (hs.filterMap (okP l))) (hs2 : m.Pairwise fun x y => ¬ y.hop < x.hop) : m = allTo l 999 := by
  have hne : (hs.filterMap (okP l)).Pairwise fun x y => ¬ x.hop = y.hop := by
    rw [List.pairwise_filterMap]
    refine (List.nodup_iff_pairwise_ne.1 hn).imp fun {a b} hab x hx y hy he => ?_
    rw [okP_hop hx, okP_hop hy] at he
    exact hab he
  have hne2 : m.Pairwise fun x y => ¬ x.hop = y.hop := (hp.symm.pairwise_iff (fun {a b} (h : ¬ a.hop = b.hop) => fun e => h e.symm)).1 hne
  have hst : m.Pairwise fun x y => x.hop < y.hop := (hs2.and hne2).imp fun {a b} h => by omega
  have ndm : m.Nodup := List.nodup_iff_pairwise_ne.2 (hst.imp fun {a b} h e => by subst e; omega)
  have nda : (allTo l 999).Nodup := List.nodup_iff_pairwise_ne.2 ((allTo_sorted l 999).imp fun {a b} h e => by subst e; omega)
  have hpm : m.Perm (allTo l 999) := by
    refine (List.perm_ext_iff_of_nodup ndm nda).2 fun v => ?_
    rw [hp.mem_iff, List.mem_filterMap]
    unfold allTo
    rw [List.mem_filterMap]
    constructor
    · rintro ⟨h, hh, hv2⟩
      have := known_range hv ((hk h).1 hh)
      refine ⟨(h - 1).toNat, List.mem_range.2 (by omega), ?_⟩
      rw [show (((h - 1).toNat : Nat) : Int) + 1 = h by omega]
      exact hv2
    · rintro ⟨i, _, hv2⟩
      exact ⟨_, (hk _).2 (okP_known hv2), hv2⟩
  exact hpm.eq_of_pairwise (le := fun x y => x.hop < y.hop) (fun a b _ _ h1 h2 => by omega) hst (allTo_sorted l 999)

end Go.Proofs.Ytmljdjakbbedlaa

namespace Go.Proofs.Ytmljdjakbbedlaa
open Go.ChangeShapes Go.WideShapes Go.ChangeAt Go.RowKit Go.Sort

/-- Nothing that was there has changed, and the tape was asked no less often. -/
def Grew (w w' : World) : Prop := Below w.heap.size w w' ∧ w.drawn ≤ w'.drawn
theorem Grew.refl (w : World) : Grew w w := ⟨Below.refl _ _, Nat.le_refl _⟩
theorem Grew.alloc {w w' : World} (h : Grew w w') (o : Obj) : Grew w (w'.alloc o) := ⟨h.1.alloc h.1.size o, h.2⟩
theorem Grew.drew {w w' : World} (h : Grew w w') : Grew w w'.drew := ⟨h.1.drew, Nat.le_succ_of_le h.2⟩
theorem Grew.drewN {w w' : World} (h : Grew w w') (n : Nat) : Grew w (w'.drewN n) := ⟨below_drewN h.1 n, Nat.le_trans h.2 (Nat.le_add_right _ _)⟩
theorem Grew.trans {w w' w'' : World} (h : Grew w w') (h' : Grew w' w'') : Grew w w'' := ⟨below_step h.1 h'.1, Nat.le_trans h.2 h'.2⟩
theorem Grew.grows {w w' : World} (h : Grew w w') : ∃ q os, w' = grow (w.drewN q) os := by
  obtain ⟨p, hp⟩ := regrown_of_below h.1
  refine ⟨p.d - w.drawn, p.os, ?_⟩
  have h2 := h.2
  rw [hp] at h2 ⊢
  have e : redrawn w p.d = w.drewN (p.d - w.drawn) := by
    unfold redrawn World.drewN
    have h3 : w.drawn ≤ p.d := h2
    congr 1
    omega
  rw [e]

variable {α : Type} [Inhabited α]
theorem flatK_list {enc : α → List Value} {k : Nat} (hk : ∀ x, (enc x).length = k) (hk0 : 0 < k) (d : Array α) : (flatK enc k d).toList = d.toList.flatMap enc := by
  apply List.ext_getElem?
  intro t
  by_cases ht : t < d.size * k
  · have h1 : t / k < d.size := by rw [Nat.div_lt_iff_lt_mul hk0]; exact ht
    have h2 : t % k < k := Nat.mod_lt _ hk0
    have e1 := get_flatK enc k d t ht
    rw [getElem!_pos _ t (by simpa using ht), getElem!_pos d (t / k) h1, getElem!_pos _ (t % k) (by rw [hk]; exact h2)] at e1
    rw [Array.getElem?_toList, Array.getElem?_eq_getElem (by simpa using ht), e1]
    have h3 := flat_at hk d.toList (t / k) d[t / k] (t % k) _ (by simp [h1]) (List.getElem?_eq_getElem (by rw [hk]; exact h2))
    rw [show t / k * k + t % k = t by rw [Nat.mul_comm]; exact Nat.div_add_mod t k] at h3
    exact h3.symm
  · rw [List.getElem?_eq_none (by simp; omega), List.getElem?_eq_none (by
      have hlen : ∀ l : List α, (l.flatMap enc).length = l.length * k := by
        intro l
        induction l with
        | nil => simp
        | cons x l ih => rw [List.flatMap_cons, List.length_append, ih, hk, List.length_cons, Nat.add_mul]; omega
      rw [hlen]
      simp
      omega)]
theorem holdsK_of_block {enc : α → List Value} {k : Nat} (hk : ∀ x, (enc x).length = k) (hk0 : 0 < k) {w : World} {g : Nat} {cur : Array Value} {e : TypeId} {l : List α} (hb : w.heap[g]? = some (.cells cur e (0, 0))) (ht : cur.toList.take (l.length * k) = l.flatMap enc) : HoldsK enc k w g 0 l.toArray := by
  intro j hj
  have hj' : j < l.length * k := by simpa using hj
  refine ⟨?_, by simp [World.frozen?, hb]⟩
  have e0 := flatK_list hk hk0 l.toArray
  have h1 : (cur.toList.take (l.length * k))[j]? = (flatK enc k l.toArray).toList[j]? := by rw [ht, e0]
  rw [List.getElem?_take_of_lt hj', Array.getElem?_toList, Array.getElem?_toList] at h1
  simp only [World.cell?, hb, Nat.zero_add, Option.isSome_none, Bool.false_eq_true, if_false]
  rw [h1, getElem!_pos _ j hj, Array.getElem?_eq_getElem hj]
  rfl
theorem heap_sortedK {enc : α → List Value} {k : Nat} {w : World} {g n : Nat} {os : Array Obj} {cur : Array Value} {e : TypeId} {fr : Nat × Nat} (d : Array α) (hb : w.heap[g]? = some (.cells cur e fr)) :
    (sortWorldK enc k w g 0 n d os).heap[g]? = some (.cells (putCells id 0 (flatK enc k d) cur) e fr) := by
  have hg : g < w.heap.size := (Array.getElem?_eq_some_iff.1 hb).1
  unfold sortWorldK putRowK
  rw [heap_grow_old _ _ (by simpa using hg)]
  simp [putRow, mapBlock, Sort.ahead, Array.getElem?_modify, hb, onCells]
theorem grownBy_sortedK {enc : α → List Value} {k : Nat} {w : World} {g n : Nat} {os : Array Obj} (d : Array α) : w.grownBy (sortWorldK enc k w g 0 n d os) (some g) := by
  refine ⟨rfl, rfl, rfl, by simp [sortWorldK, putRowK], fun j hj hne => ?_⟩
  unfold sortWorldK putRowK
  rw [heap_grow_old _ _ (by simpa using hj)]
  have : g ≠ j := fun e => hne (by rw [e])
  simp [putRow, mapBlock, Sort.ahead, Array.getElem?_modify, this]
theorem take_putCellsK (cur F : Array Value) (h : F.size ≤ cur.size) : (putCells id 0 F cur).toList.take F.size = F.toList := by
  apply List.ext_getElem?
  intro j
  by_cases hj : j < F.size
  · rw [List.getElem?_take_of_lt hj, Array.getElem?_toList]
    simp [putCells, hj, show j < cur.size by omega]
  · rw [List.getElem?_take_eq_none (by omega), List.getElem?_eq_none (by simp; omega)]
/-- Behind the sort the same slice owns the sorted row. -/
theorem ownsRow_sortedK {enc : α → List Value} {k : Nat} (hk : ∀ x, (enc x).length = k) (hk0 : 0 < k) {w : World} {base g cap n : Nat} {e : TypeId} {os : Array Obj} {l m : List α} (hl : m.length = l.length)
    (h : w.ownsRow base e k (.slice (some ⟨g, 0, none⟩) l.length cap) l.length (l.flatMap enc)) :
    (sortWorldK enc k w g 0 n m.toArray os).ownsRow base e k (.slice (some ⟨g, 0, none⟩) l.length cap) l.length (m.flatMap enc) := by
  rcases h.2 with ⟨hx, _⟩ | ⟨g', cap', cur, hx, hbase, hb, h1, h2, h3, h4⟩
  · cases hx
  · simp only [Value.slice.injEq, Option.some.injEq, Addr.mk.injEq, and_true, true_and] at hx
    obtain ⟨rfl, rfl⟩ := hx
    have e0 := flatK_list hk hk0 m.toArray
    have hs : (flatK enc k m.toArray).size = l.length * k := by simp [hl]
    refine ⟨?_, .inr ⟨g, cap, _, rfl, hbase, heap_sortedK _ hb, h1, h2, by simp [putCells, h3], ?_⟩⟩
    · rw [← e0]; simpa using hs
    · rw [← hs, take_putCellsK _ _ (by rw [hs, h3]; exact Nat.mul_le_mul_right k h1), e0]
theorem own_holdsKc {enc : α → List Value} {k : Nat} (hk : ∀ x, (enc x).length = k) (hk0 : 0 < k) {w : World} {base g cap : Nat} {e : TypeId} {l : List α}
    (h : w.ownsRow base e k (.slice (some ⟨g, 0, none⟩) l.length cap) l.length (l.flatMap enc)) : HoldsK enc k w g 0 l.toArray ∧ base ≤ g ∧ g < w.heap.size := by
  rcases h.2 with ⟨hx, _⟩ | ⟨g', cap', cur, hx, hbase, hb, h1, h2, h3, h4⟩
  · cases hx
  · simp only [Value.slice.injEq, Option.some.injEq, Addr.mk.injEq, and_true, true_and] at hx
    obtain ⟨rfl, rfl⟩ := hx
    exact ⟨holdsK_of_block hk hk0 hb h4, hbase, (Array.getElem?_eq_some_iff.1 hb).1⟩
/-- A permutation sorted by a comparison, as lists. -/
theorem perm_sorted {lt : α → α → Bool} {l : List α} {d' : Array α} (hp : PermIn 0 l.toArray.size l.toArray d') (hs : SortedIn lt 0 l.toArray.size d') : d'.toList.Perm l ∧ d'.toList.Pairwise fun x y => lt y x = false := by
  obtain ⟨h1, _, h3⟩ := hp
  simp only [List.size_toArray] at h1 h3 hs
  refine ⟨?_, ?_⟩
  · rw [Array.extract_eq_self_of_le (by omega), Array.extract_eq_self_of_le (by simp)] at h3
    exact h3
  · rw [List.pairwise_iff_getElem]
    intro i j hi hj hij
    have := hs i j (Nat.zero_le _) hij (by simpa [h1] using hj)
    rwa [getElem!_pos d' j (by simpa using hj), getElem!_pos d' i (by simpa using hi)] at this

end Go.Proofs.Ytmljdjakbbedlaa

namespace Go.Proofs
open Go.Shelf
def Try.sortV_ren : Go.Shelf.Ren := ⟨fun | 6 => 67 | 15 => 121 | 14 => 120 | 28 => 158 | 29 => 159 | 20 => 150 | 21 => 151 | 22 => 152 | 23 => 153 | 24 => 154 | 25 => 155 | 26 => 156 | 27 => 157 | 46 => 181 | 47 => 182 | 48 => 183 | 49 => 184 | 50 => 185 | 57 => 210 | n => n, fun | 22 => 68 | 24 => 72 | 25 => 144 | 3 => 3 | 39 => 174 | 0 => 0 | 53 => 173 | 55 => 33 | 4 => 4 | 46 => 257 | 45 => 256 | 50 => 261 | 5 => 5 | 9 => 9 | 66 => 290 | 70 => 294 | 76 => 310 | 77 => 311 | n => n, fun | n => n⟩
theorem Try.sortV : Go.Proofs.SlLaysF0.n6 Try.prog Try.sortV_ren := {
  mixed := by kernel_rfl
  f6 := ⟨Try.f67.name, by decide, Try.func67.trans (congrArg some (by kernel_rfl))⟩
  f14 := ⟨Try.f120.name, by decide, Try.func120.trans (congrArg some (by kernel_rfl))⟩
  f15 := Try.func121.trans (congrArg some (by kernel_rfl))
  f20 := ⟨Try.f150.name, by decide, Try.func150.trans (congrArg some (by kernel_rfl))⟩
  f21 := ⟨Try.f151.name, by decide, Try.func151.trans (congrArg some (by kernel_rfl))⟩
  f22 := ⟨Try.f152.name, by decide, Try.func152.trans (congrArg some (by kernel_rfl))⟩
  f23 := ⟨Try.f153.name, by decide, Try.func153.trans (congrArg some (by kernel_rfl))⟩
  f24 := ⟨Try.f154.name, by decide, Try.func154.trans (congrArg some (by kernel_rfl))⟩
  f25 := ⟨Try.f155.name, by decide, Try.func155.trans (congrArg some (by kernel_rfl))⟩
  f26 := ⟨Try.f156.name, by decide, Try.func156.trans (congrArg some (by kernel_rfl))⟩
  f27 := ⟨Try.f157.name, by decide, Try.func157.trans (congrArg some (by kernel_rfl))⟩
  f28 := Try.func158.trans (congrArg some (by kernel_rfl))
  f29 := Try.func159.trans (congrArg some (by kernel_rfl))
  f46 := ⟨Try.f181.name, by decide, Try.func181.trans (congrArg some (by kernel_rfl))⟩
  f47 := Try.func182.trans (congrArg some (by kernel_rfl))
  f48 := Try.func183.trans (congrArg some (by kernel_rfl))
  f49 := ⟨Try.f184.name, by decide, Try.func184.trans (congrArg some (by kernel_rfl))⟩
  f50 := ⟨Try.f185.name, by decide, Try.func185.trans (congrArg some (by kernel_rfl))⟩
  f57 := ⟨Try.f210.name, by decide, Try.func210.trans (congrArg some (by kernel_rfl))⟩
  t0 := Try.underlying0
  a0 := Try.isAgg0
  z0 := Try.sizeOf0
  v0 := Try.zeroValue0
  t3 := Try.underlying3
  a3 := Try.isAgg3
  z3 := Try.sizeOf3
  v3 := Try.zeroValue3
  t4 := Try.underlying4
  a4 := Try.isAgg4
  z4 := Try.sizeOf4
  v4 := Try.zeroValue4
  t5 := Try.underlying5
  a5 := Try.isAgg5
  z5 := Try.sizeOf5
  v5 := Try.zeroValue5
  t9 := Try.underlying9
  a9 := Try.isAgg9
  z9 := Try.sizeOf9
  v9 := Try.zeroValue9
  t22 := Try.underlying68
  a22 := Try.isAgg68
  z22 := Try.sizeOf68
  v22 := Try.zeroValue68
  t25 := Try.underlying144
  a25 := Try.isAgg144
  z25 := Try.sizeOf144
  v25 := Try.zeroValue144
  t39 := Try.underlying174
  a39 := Try.isAgg174
  z39 := Try.sizeOf174
  v39 := Try.zeroValue174
  t45 := Try.underlying256
  a45 := Try.isAgg256
  z45 := Try.sizeOf256
  v45 := Try.zeroValue256
  t46 := Try.underlying257
  a46 := Try.isAgg257
  z46 := Try.sizeOf257
  v46 := Try.zeroValue257
  t50 := Try.underlying261
  a50 := Try.isAgg261
  z50 := Try.sizeOf261
  v50 := Try.zeroValue261
  t53 := Try.underlying173
  a53 := Try.isAgg173
  z53 := Try.sizeOf173
  v53 := Try.zeroValue173
  t55 := Try.underlying33
  a55 := Try.isAgg33
  z55 := Try.sizeOf33
  v55 := Try.zeroValue33
  t66 := Try.underlying290
  a66 := Try.isAgg290
  z66 := Try.sizeOf290
  v66 := Try.zeroValue290
  t70 := Try.underlying294
  a70 := Try.isAgg294
  z70 := Try.sizeOf294
  v70 := Try.zeroValue294
  t76 := Try.underlying310
  a76 := Try.isAgg310
  z76 := Try.sizeOf310
  v76 := Try.zeroValue310
  t77 := Try.underlying311
  a77 := Try.isAgg311
  z77 := Try.sizeOf311
  v77 := Try.zeroValue311 }
def Try.sortO_ren : Go.Shelf.Ren := ⟨fun | 6 => 74 | 15 => 121 | 14 => 125 | 28 => 158 | 29 => 159 | 20 => 161 | 21 => 162 | 22 => 163 | 23 => 164 | 24 => 165 | 25 => 166 | 26 => 167 | 27 => 168 | 46 => 186 | 47 => 182 | 48 => 183 | 49 => 187 | 50 => 188 | 57 => 211 | n => n, fun | 22 => 24 | 24 => 44 | 25 => 154 | 3 => 3 | 39 => 174 | 0 => 0 | 53 => 173 | 55 => 33 | 4 => 4 | 46 => 257 | 45 => 256 | 50 => 261 | 5 => 5 | 9 => 9 | 66 => 290 | 70 => 294 | 76 => 310 | 77 => 311 | n => n, fun | n => n⟩
theorem Try.sortO : Go.Proofs.SlLaysF0.n6 Try.prog Try.sortO_ren := {
  mixed := by kernel_rfl
  f6 := ⟨Try.f74.name, by decide, Try.func74.trans (congrArg some (by kernel_rfl))⟩
  f14 := ⟨Try.f125.name, by decide, Try.func125.trans (congrArg some (by kernel_rfl))⟩
  f15 := Try.func121.trans (congrArg some (by kernel_rfl))
  f20 := ⟨Try.f161.name, by decide, Try.func161.trans (congrArg some (by kernel_rfl))⟩
  f21 := ⟨Try.f162.name, by decide, Try.func162.trans (congrArg some (by kernel_rfl))⟩
  f22 := ⟨Try.f163.name, by decide, Try.func163.trans (congrArg some (by kernel_rfl))⟩
  f23 := ⟨Try.f164.name, by decide, Try.func164.trans (congrArg some (by kernel_rfl))⟩
  f24 := ⟨Try.f165.name, by decide, Try.func165.trans (congrArg some (by kernel_rfl))⟩
  f25 := ⟨Try.f166.name, by decide, Try.func166.trans (congrArg some (by kernel_rfl))⟩
  f26 := ⟨Try.f167.name, by decide, Try.func167.trans (congrArg some (by kernel_rfl))⟩
  f27 := ⟨Try.f168.name, by decide, Try.func168.trans (congrArg some (by kernel_rfl))⟩
  f28 := Try.func158.trans (congrArg some (by kernel_rfl))
  f29 := Try.func159.trans (congrArg some (by kernel_rfl))
  f46 := ⟨Try.f186.name, by decide, Try.func186.trans (congrArg some (by kernel_rfl))⟩
  f47 := Try.func182.trans (congrArg some (by kernel_rfl))
  f48 := Try.func183.trans (congrArg some (by kernel_rfl))
  f49 := ⟨Try.f187.name, by decide, Try.func187.trans (congrArg some (by kernel_rfl))⟩
  f50 := ⟨Try.f188.name, by decide, Try.func188.trans (congrArg some (by kernel_rfl))⟩
  f57 := ⟨Try.f211.name, by decide, Try.func211.trans (congrArg some (by kernel_rfl))⟩
  t0 := Try.underlying0
  a0 := Try.isAgg0
  z0 := Try.sizeOf0
  v0 := Try.zeroValue0
  t3 := Try.underlying3
  a3 := Try.isAgg3
  z3 := Try.sizeOf3
  v3 := Try.zeroValue3
  t4 := Try.underlying4
  a4 := Try.isAgg4
  z4 := Try.sizeOf4
  v4 := Try.zeroValue4
  t5 := Try.underlying5
  a5 := Try.isAgg5
  z5 := Try.sizeOf5
  v5 := Try.zeroValue5
  t9 := Try.underlying9
  a9 := Try.isAgg9
  z9 := Try.sizeOf9
  v9 := Try.zeroValue9
  t22 := Try.underlying24
  a22 := Try.isAgg24
  z22 := Try.sizeOf24
  v22 := Try.zeroValue24
  t25 := Try.underlying154
  a25 := Try.isAgg154
  z25 := Try.sizeOf154
  v25 := Try.zeroValue154
  t39 := Try.underlying174
  a39 := Try.isAgg174
  z39 := Try.sizeOf174
  v39 := Try.zeroValue174
  t45 := Try.underlying256
  a45 := Try.isAgg256
  z45 := Try.sizeOf256
  v45 := Try.zeroValue256
  t46 := Try.underlying257
  a46 := Try.isAgg257
  z46 := Try.sizeOf257
  v46 := Try.zeroValue257
  t50 := Try.underlying261
  a50 := Try.isAgg261
  z50 := Try.sizeOf261
  v50 := Try.zeroValue261
  t53 := Try.underlying173
  a53 := Try.isAgg173
  z53 := Try.sizeOf173
  v53 := Try.zeroValue173
  t55 := Try.underlying33
  a55 := Try.isAgg33
  z55 := Try.sizeOf33
  v55 := Try.zeroValue33
  t66 := Try.underlying290
  a66 := Try.isAgg290
  z66 := Try.sizeOf290
  v66 := Try.zeroValue290
  t70 := Try.underlying294
  a70 := Try.isAgg294
  z70 := Try.sizeOf294
  v70 := Try.zeroValue294
  t76 := Try.underlying310
  a76 := Try.isAgg310
  z76 := Try.sizeOf310
  v76 := Try.zeroValue310
  t77 := Try.underlying311
  a77 := Try.isAgg311
  z77 := Try.sizeOf311
  v77 := Try.zeroValue311 }
end Go.Proofs

namespace Go.Proofs.Ytmljdjakbbedlaa
open Go.ChangeShapes Go.WideShapes Go.ChangeAt Go.RowKit Go.Sort Go.Shelf

def cfV (x y : ViaV) : Int := Lib.compareInt x.hop y.hop
theorem cfV_lt (x y : ViaV) : ltOf cfV x y = true ↔ x.hop < y.hop := by
  unfold ltOf cfV Lib.compareInt
  rw [decide_eq_true_iff]
  split
  · omega
  · split <;> omega
theorem cfV_le (x y : ViaV) : ltOf cfV x y = false ↔ ¬ x.hop < y.hop := by
  rw [← cfV_lt]; simp
theorem swoV : SWO (ltOf cfV) where
  irrefl x := by rw [cfV_le]; omega
  trans x y z h1 h2 := by rw [cfV_lt] at *; omega
  ntrans x y z h1 h2 := by rw [cfV_le] at *; omega

set_option maxHeartbeats 800000 in
theorem cmpV_any (x y : ViaV) (w : World) : Calls Try.prog 68 #[x.val, y.val] w fun e w' => e = .returned (.int .i64 (cfV x y)) ∧ Grew w w' := by
  have CC := Lib.hid Try.cmp_Compare_int
  unfold cfV ViaV.val
  go_enter Try.func68, Try.ntmps68
  go_wp2_with fail
  refine (CC.out _ _ _).mono ?_
  rintro e w' ⟨rfl, rfl⟩
  go_wp2
  go_ret
  exact ⟨rfl, ((Grew.refl _).alloc _).alloc _⟩

theorem cmpV (blk off size : Nat) (w : World) : CmpLays Try.prog 68 #[] ViaV.cells 3 cfV blk off size w := by
  intro m os dk _ x y
  exact (cmpV_any x y _).mono fun e w' h => ⟨h.1, h.2.grows⟩

set_option maxRecDepth 100000 in
theorem sortV_is {w : World} {base : Nat} {v : Value} {l : List ViaV} (hl : l.length ≤ 100000) (h : w.ownsRow base 72 3 v l.length (l.flatMap ViaV.cells)) (hbase : base ≤ w.heap.size) :
    Calls Try.prog 67 #[v, .func (.func 68) #[] #[]] w fun e w' => e = .returned (.tuple #[]) ∧
      ∃ l' : List ViaV, l'.Perm l ∧ (l'.Pairwise fun x y => ¬ y.hop < x.hop) ∧ w'.ownsRow base 72 3 v l'.length (l'.flatMap ViaV.cells) ∧ Below base w w' := by
  rcases h.2 with ⟨rfl, h0⟩ | ⟨g, cap, cur, rfl, _⟩
  · have hls : l = [] := List.eq_nil_of_length_eq_zero h0
    subst hls
    refine (AnyF.slices_SortFunc_none Try.sortV none 0 (.func (.func 68) #[] #[]) w).mono ?_
    rintro e w' ⟨he, rfl⟩
    exact ⟨he, [], List.Perm.refl _, List.Pairwise.nil, World.ownsRow_nil _ _ _ _, Below.refl _ _⟩
  · obtain ⟨hH, hb, hg⟩ := own_holdsKc (enc := ViaV.cells) (fun _ => rfl) (by decide) h
    have hc := AnyQ.slices_SortFunc Try.sortV 3 (fun w => by exact Try.isAgg72 w) (fun w => by exact Try.sizeOf72 w) ViaV.cells (fun _ => rfl) (fun x u hu => by simp [ViaV.cells] at hu; rcases hu with rfl | rfl | rfl <;> rfl) cfV swoV 68 #[] g 0 cap l.toArray w
      (enters_of Try.func68 (by kernel_rfl) rfl) (cmpV g 0 _ w) hH hg (by simp; omega)
    change Calls Try.prog 67 _ _ _ at hc
    refine hc.mono ?_
    rintro e w' ⟨he, d', n, os, hp, hs, rfl⟩
    obtain ⟨p1, p2⟩ := perm_sorted hp hs
    have hlen : d'.toList.length = l.length := p1.length_eq
    refine ⟨he, d'.toList, p1, p2.imp fun {x y} hxy => (cfV_le y x).1 hxy, ?_, ?_⟩
    · have := ownsRow_sortedK (enc := ViaV.cells) (fun _ => rfl) (by decide) (n := n) (os := os) hlen h
      rw [hlen]
      simpa using this
    · exact (Below.refl _ _).grown (grownBy_sortedK _) hbase (fun j e => by cases e; exact hb)

end Go.Proofs.Ytmljdjakbbedlaa

namespace Go.Proofs.Ytmljdjakbbedlaa
open Go.ChangeShapes Go.WideShapes Go.ChangeAt Go.RowKit

theorem infoVia : (Try.prog.info? 72).map (fun i => (i.zero, i.size, i.bytes)) = some (some (.agg #[.int .i64 0, .int .i64 0, .int .i64 0]), 3, 24) := by kernel_rfl
theorem own_grown {w w' : World} {base : Nat} {e : TypeId} {size n r : Nat} {v : Value} {xs : List Value} (h : w.ownsRow base e size v n xs) (hg : w.grownBy w' (some r)) (hr : r < base) : w'.ownsRow base e size v n xs :=
  ⟨h.1, h.2.imp id fun ⟨g, cap, cur, h1, h2, h3, h4⟩ => ⟨g, cap, cur, h1, h2, (hg.block g (Array.getElem?_eq_some_iff.1 h3).1 (fun e => by injection e; omega)).trans h3, h4⟩⟩
/-- The ports of all hops. -/
def allL (l : List ViaV) : List ViaV := if viasF l = 0 then allTo l 999 else []
def AllPost (w : World) (l : List ViaV) (e : Ending) (w' : World) : Prop :=
  ∃ v, e = .returned (.tuple #[v, .int .i64 (viasF l)]) ∧ w'.ownsRow w.heap.size 72 3 v (allL l).length ((allL l).flatMap ViaV.cells) ∧ Below w.heap.size w w'
theorem allPost_bad {w w' : World} {l : List ViaV} (h : ¬ viasF l = 0) (hb : Below w.heap.size w w') : AllPost w l (.returned (.tuple #[.slice none 0 0, .int .i64 (viasF l)])) w' := by
  refine ⟨_, rfl, ?_, hb⟩
  unfold allL
  rw [if_neg h]
  exact World.ownsRow_nil _ _ _ _
theorem allPost_ok {w w' : World} {l : List ViaV} {v : Value} (h : viasF l = 0) (ho : w'.ownsRow w.heap.size 72 3 v (allTo l 999).length ((allTo l 999).flatMap ViaV.cells)) (hb : Below w.heap.size w w') : AllPost w l (.returned (.tuple #[v, .int .i64 0])) w' := by
  refine ⟨_, by rw [h], ?_, hb⟩
  unfold allL
  rw [if_pos h]
  exact ho
theorem vias_len {l : List ViaV} (h : viasF l = 0) : l.length ≤ 60 := by
  unfold viasF at h
  split at h
  · omega
  · omega

set_option maxRecDepth 100000 in
set_option maxHeartbeats 3200000 in
theorem viaAll_any {A : Option Addr} {n c : Nat} {l : List ViaV} {w : World} (h : IsVias w A n c l) : Calls Try.prog 27 #[.slice A n c] w (AllPost w l) := by
  have C1 := Lib.hid (known_is h)
  obtain ⟨post, hpost⟩ : ∃ post, AllPost w l = post := ⟨_, rfl⟩
  have HP := Lib.hid hpost
  rw [hpost]
  clear h hpost
  unfold KnownIs at C1
  by_cases hf : viasF l = 0
  rotate_left
  · have HF := Lib.hid hf
    obtain ⟨f, hff⟩ : ∃ f, viasF l = f := ⟨_, rfl⟩
    rw [hff] at C1 hf
    have HFF := Lib.hid hff
    have d0 : (f != 0) = true := by simpa using hf
    clear hff
    go_enter Try.func27, Try.ntmps27
    go_wp2_with fail
    refine C1.out.mono ?_
    rintro e w1 ⟨hb1, ⟨-, rfl⟩ | ⟨h0, _⟩⟩
    · have HB1 := Lib.hid hb1
      clear hb1
      go_wp2
      (try go_ret2)
      rw [← HP.out, ← HFF.out]
      exact allPost_bad HF.out HB1.out
    · exact absurd h0 hf
  have HF := Lib.hid hf
  have hn60 := vias_len hf
  obtain ⟨nl, hnl⟩ : ∃ nl, l.length = nl := ⟨_, rfl⟩
  rw [hf, hnl] at C1
  rw [hnl] at hn60
  have HVD := Lib.hid (fun (h : Int) => viaMap_get h l (valid_dist hf))
  clear hf hnl
  go_enter Try.func27, Try.ntmps27
  go_wp2_with fail
  refine C1.out.mono ?_
  rintro e w1 ⟨hb1, ⟨h0, _⟩ | ⟨-, rfl, hM⟩⟩
  · simp at h0
  have HB1 := Lib.hid hb1
  have hs1 := hb1.size
  have HM := Lib.hid hM
  have hm1 := hM.lt
  clear hb1 hM C1
  go_wp2_with (at_range; go_loud (refine wpList_range_F rfl _ _ rfl _ keyInt Try.underlying138 w.heap.size _ rfl HM.out ?_); intro w2 left cnt hrg hlf hg2 hs2)
  go_frame
  have HRG := Lib.hid hrg
  have HLF := Lib.hid hlf
  have HB2 : Hid (Below w1.heap.size w1 w2) := (Below.refl _ _).grown hg2 (Nat.le_refl _) (fun j hj => by cases hj)
  clear hrg hlf hg2 hs2
  go_loopw [7, 6] (fun _ fv wr => ∃ (left : Lit → Bool) (cnt : Nat) (hs : List Int), Hid (RangeF wr Try.prog 3 w.heap.size w1.heap.size nl (viaMap l) left cnt) ∧ Hid (Vis (viaMap l) left hs) ∧ Hid (wr.ownsRow (w1.heap.size + 1) 72 3 fv (hs.filterMap (okP l)).length ((hs.filterMap (okP l)).flatMap ViaV.cells)) ∧ hs.length + cnt ≤ nl ∧ Below w1.heap.size w1 wr) (fun _ _ wr => wr.rangeLeft w.heap.size w1.heap.size)
  case atStart => exact ⟨_, _, [], HRG.out, Vis.start HLF.out, World.ownsRow_nil _ _ _ _, by have := HRG.out.cnt_le; simpa using this, HB2.out⟩
  case round =>
    obtain ⟨left, cnt, hs, hrg, hvis, hrow, hlen, hb⟩ := hrel
    obtain ⟨wo, rfl⟩ : ∃ wo : World, wo = wr := ⟨_, rfl⟩
    have HB := Lib.hid hb
    have hrl := hrg.out.lt
    clear hb
    go_wp2_with (at_next; go_loud (refine wpList_next_F rfl _ rfl keyInt (Value.int .i64) (fun key kl hk => by obtain ⟨x, rfl, _⟩ := Maps.keyOf_int_inv Try.underlying3 hk; exact ⟨x, rfl⟩) w.heap.size w1.heap.size _ rfl hrg.out ?_ ?_))
    · intro hl0
      obtain ⟨fl, hfl⟩ : ∃ fl, hs.filterMap (okP l) = fl := ⟨_, rfl⟩
      have hfn : fl.length ≤ 60 := by rw [← hfl]; exact Nat.le_trans (List.length_filterMap_le _ _) (by omega)
      have HFL := Lib.hid hfl
      rw [hfl] at hrow
      have CS := Lib.hid (sortV_is (by omega) hrow.out (by have := HB.out.size; omega))
      have HVD2 : Hid (∀ h : Int, h ∈ hs ↔ (viaGet l h).isSome = true) := fun h => by
        rw [hvis.out.done hl0 h, HVD.out h]
        cases viaGet l h <;> rfl
      have HND := Lib.hid hvis.out.nd
      clear hl0 hrg hvis hrow hlen hfl hfn
      go_wp2_with fail
      refine CS.out.mono ?_
      rintro e w5 ⟨rfl, m, hpm, hsm, hown, hb5⟩
      have hm := all_unique HF.out HND.out HVD2.out (by rw [HFL.out]; exact hpm) (hsm.imp fun {a b} h => by omega)
      have HO5 := Lib.hid (own_mono hown (base' := w.heap.size) (by omega))
      have HM5 := Lib.hid hm
      have HB5 : Hid (Below w.heap.size w w5) := HB1.out.trans ((HB.out.mono hs1).trans (hb5.mono (by omega)))
      clear hpm hsm hown hb5 hm CS
      go_wp2
      (try go_ret2)
      rw [← HP.out]
      refine allPost_ok HF.out ?_ HB5.out
      rw [← HM5.out]
      exact HO5.out
    · intro x v kl w3 cnt3 hkey hlk hF hrg3 hlt3 hg3 hs3 hen
      obtain ⟨x', ex, rfl, hwx⟩ := Maps.keyOf_int_inv Try.underlying3 hkey
      cases ex
      have hkn : (viaGet l x).isSome = true := by
        have h1 := (hvis.out.mem x).1 hlk
        rw [HVD.out x] at h1
        have h2 := h1.1
        cases hg : viaGet l x with
        | some _ => rfl
        | none => rw [hg] at h2; cases h2
      have hxr := known_range HF.out hkn
      have CP := Lib.hid (port_any l x w.heap.size nl w3 HF.out (by omega) hrg3.map)
      obtain ⟨R, hR⟩ : ∃ R, portR l 10 x [] = R := ⟨_, rfl⟩
      rw [hR] at CP
      have HR := Lib.hid hR
      have HRG3 := Lib.hid hrg3
      have HV3 := Lib.hid (hvis.out.step hlk)
      have HO3 := Lib.hid (own_grown hrow.out hg3 (Nat.lt_succ_self _))
      have HB3 : Hid (Below w1.heap.size w1 w3) := HB.out.grown hg3 HB.out.size (fun j hj => by cases hj; exact Nat.le_refl _)
      have hmt : wo.rangeLeft w.heap.size w1.heap.size = cnt := hrg.out.left_eq
      have HMT := Lib.hid hmt
      have hlen3 : (hs ++ [x]).length + cnt3 ≤ nl := by rw [List.length_append]; simp; omega
      have HL3 := Lib.hid hlen3
      have hsl : hs.length ≤ 60 := by omega
      have h3l := hrg3.map.lt
      have h3r := hrg3.lt
      clear hR hrg hvis hrow hlen hkey hlk hF hrg3 hg3 hs3 hkn hmt hlen3
      go_wp2_with fail
      refine CP.out.mono ?_
      rintro e w4 ⟨rfl, hb4⟩
      have HRG4 := Lib.hid (HRG3.out.below hb4 h3l h3r)
      have HO4 := Lib.hid (own_below HO3.out hb4)
      have HB4 := Lib.hid (below_step HB3.out hb4)
      have hs4 : w1.heap.size + 1 ≤ w4.heap.size := by have := hb4.size; omega
      obtain ⟨r1, r2, r3⟩ := R
      clear hb4 CP
      by_cases hr : r3 = 0
      · have HK : Hid ((hs ++ [x]).filterMap (okP l) = hs.filterMap (okP l) ++ [⟨x, r1, 0⟩]) := by
          show _ = _
          rw [List.filterMap_append]
          congr 1
          have : okP l x = some ⟨x, r1, 0⟩ := by unfold okP; rw [HR.out]; exact if_pos hr
          simp [this]
        obtain ⟨fl, hfl⟩ : ∃ fl, hs.filterMap (okP l) = fl := ⟨_, rfl⟩
        have hfn : fl.length ≤ 60 := by rw [← hfl]; exact Nat.le_trans (List.length_filterMap_le _ _) hsl
        rw [hfl] at HK HO4
        clear hfl
        subst hr
        go_wp2_with (at_builtin; go_loud (refine wpList_append_oneN (us := [.int .i64 x, .int .i64 r1, .int .i64 0]) rfl _ _ 68 rfl (w1.heap.size + 1) _ 3 24 Try.underlying68 infoVia rfl (by decide) _ _ _ rfl rfl rfl HO4.out hs4 rfl (by intro u hu; simp at hu; rcases hu with rfl | rfl | rfl <;> rfl) (by unfold maxLen; omega) (by omega) ?_))
        intro v5 w5 hown5 hb5 hs5 hk5
        have HRG5 : Hid (RangeF w5 Try.prog 3 w.heap.size w1.heap.size nl (viaMap l) (fun z => left z && !z.sameKey (.int .i64 x)) cnt3) := HRG4.out.below hb5 (by omega) (Nat.lt_succ_self _)
        have HO5 : Hid (w5.ownsRow (w1.heap.size + 1) 72 3 v5 ((hs ++ [x]).filterMap (okP l)).length (((hs ++ [x]).filterMap (okP l)).flatMap ViaV.cells)) := by
          show World.ownsRow _ _ _ _ _ _ _
          rw [HK.out, List.length_append, List.flatMap_append]
          exact hown5
        have HB5 : Hid (Below w1.heap.size w1 w5) := HB4.out.trans (hb5.mono (by omega))
        clear hown5 hb5 hk5
        go_wp2
        go_roundw
        case rel => exact ⟨_, _, _, HRG5.out, HV3.out, HO5.out, HL3.out, HB5.out⟩
        case measure => rw [HRG5.out.left_eq, HMT.out]; exact hlt3
      · have HK : Hid ((hs ++ [x]).filterMap (okP l) = hs.filterMap (okP l)) := by
          show _ = _
          rw [List.filterMap_append]
          have : okP l x = none := by unfold okP; rw [HR.out]; exact if_neg hr
          simp [this]
        have d1 : (r3 == 0) = false := by simpa using hr
        clear hr
        go_wp2
        go_roundw
        case rel => exact ⟨_, _, _, HRG4.out, HV3.out, by rw [HK.out]; exact HO4.out, HL3.out, HB4.out⟩
        case measure => rw [HRG4.out.left_eq, HMT.out]; exact hlt3

set_option maxRecDepth 100000 in
set_option maxHeartbeats 3200000 in
theorem refViaAll_any {A : Option Addr} {n c : Nat} {l : List ViaV} {w : World} (h : IsVias w A n c l) : Calls Try.prog 28 #[.slice A n c] w (AllPost w l) := by
  have C1 := Lib.hid (viaFault_is h)
  have HL := Lib.hid h
  obtain ⟨post, hpost⟩ : ∃ post, AllPost w l = post := ⟨_, rfl⟩
  have HP := Lib.hid hpost
  rw [hpost]
  clear h hpost
  by_cases hf : viasF l = 0
  rotate_left
  · have HF := Lib.hid hf
    obtain ⟨f, hff⟩ : ∃ f, viasF l = f := ⟨_, rfl⟩
    rw [hff] at C1 hf
    have HFF := Lib.hid hff
    have d0 : (f != 0) = true := by simpa using hf
    clear hff
    go_enter Try.func28, Try.ntmps28
    go_wp2_with fail
    refine C1.out.mono ?_
    rintro e w1 ⟨rfl, hb1⟩
    have HB1 := Lib.hid hb1
    clear hb1
    go_wp2
    (try go_ret2)
    rw [← HP.out, ← HFF.out]
    exact allPost_bad HF.out HB1.out
  have HF := Lib.hid hf
  have CP := Lib.hid (refPort l hf A n c 9)
  rw [hf] at C1
  clear hf
  go_enter Try.func28, Try.ntmps28
  go_wp2_with fail
  refine C1.out.mono ?_
  rintro e w1 ⟨rfl, hb1⟩
  have HB1 := Lib.hid hb1
  clear hb1 C1
  go_wp2
  go_loopw [6, 5] (fun i fv wr => ∃ (k : Nat), k ≤ 999 ∧ i = .int .i64 (k + 1) ∧ Hid (wr.ownsRow w.heap.size 72 3 fv (allTo l k).length ((allTo l k).flatMap ViaV.cells)) ∧ Below w.heap.size w wr) (fun i _ _ => 1000 - (intOf i).toNat)
  case atStart => exact ⟨0, by omega, rfl, World.ownsRow_nil _ _ _ _, HB1.out⟩
  case round =>
    obtain ⟨k, hk, rfl, hrow, hb⟩ := hrel
    obtain ⟨wo, rfl⟩ : ∃ wo : World, wo = wr := ⟨_, rfl⟩
    have HB := Lib.hid hb
    have hs0 := hb.size
    by_cases hlt : k < 999
    · have C2 := Lib.hid (CP.out [] ((k : Int) + 1) none 0 0 wo (by simp) (by omega) (HL.out.below hb) ⟨rfl, Reads.none_⟩)
      obtain ⟨R, hR⟩ : ∃ R, portR l 10 ((k : Int) + 1) [] = R := ⟨_, rfl⟩
      rw [show 9 + 1 = 10 from rfl, hR] at C2
      have HR := Lib.hid hR
      have hal := allTo_length l k
      have hsu := allTo_succ l k
      obtain ⟨fl, hfl⟩ : ∃ fl, allTo l k = fl := ⟨_, rfl⟩
      rw [hfl] at hrow hal hsu
      have HSU := Lib.hid hsu
      clear hb hR hsu hfl
      go_wp2_with fail
      refine C2.out.mono ?_
      rintro e w4 ⟨rfl, hb4⟩
      have HO4 := Lib.hid (own_below hrow.out hb4)
      have HB4 := Lib.hid (below_step HB.out hb4)
      have hs4 : w.heap.size ≤ w4.heap.size := by have := hb4.size; omega
      obtain ⟨r1, r2, r3⟩ := R
      clear hb4 C2 hrow
      by_cases hr : r3 = 0
      · have HK : Hid (allTo l (k + 1) = fl ++ [⟨(k : Int) + 1, r1, 0⟩]) := by
          show _ = _
          have : okP l ((k : Int) + 1) = some ⟨(k : Int) + 1, r1, 0⟩ := by unfold okP; rw [HR.out]; exact if_pos hr
          rw [HSU.out, this]
          rfl
        subst hr
        go_wp2_with (at_builtin; go_loud (refine wpList_append_oneN (us := [.int .i64 (k + 1), .int .i64 r1, .int .i64 0]) rfl _ _ 68 rfl w.heap.size _ 3 24 Try.underlying68 infoVia rfl (by decide) _ _ _ rfl rfl rfl HO4.out hs4 rfl (by intro u hu; simp at hu; rcases hu with rfl | rfl | rfl <;> rfl) (by unfold maxLen; omega) (by omega) ?_))
        intro v5 w5 hown5 hb5 hs5 hk5
        have HO5 : Hid (w5.ownsRow w.heap.size 72 3 v5 (allTo l (k + 1)).length ((allTo l (k + 1)).flatMap ViaV.cells)) := by
          show World.ownsRow _ _ _ _ _ _ _
          rw [HK.out, List.length_append, List.flatMap_append]
          exact hown5
        have HB5 := Lib.hid (HB4.out.trans hb5)
        clear hown5 hb5 hk5
        go_wp2
        go_roundw
        case rel => exact ⟨k + 1, by omega, by go_num, HO5.out, HB5.out⟩
        case measure => simp [intOf]; omega
      · have HK : Hid (allTo l (k + 1) = fl) := by
          show _ = _
          have : okP l ((k : Int) + 1) = none := by unfold okP; rw [HR.out]; exact if_neg hr
          rw [HSU.out, this]
          simp
        have d1 : (r3 == 0) = false := by simpa using hr
        clear hr
        go_wp2
        go_roundw
        case rel => exact ⟨k + 1, by omega, by go_num, by rw [HK.out]; exact HO4.out, HB4.out⟩
        case measure => simp [intOf]; omega
    · obtain rfl : k = 999 := by omega
      clear hb
      go_wp2
      (try go_ret2)
      rw [← HP.out]
      exact allPost_ok HF.out hrow.out HB.out

end Go.Proofs.Ytmljdjakbbedlaa

namespace Go.Proofs.Ytmljdjakbbedlaa
open Go.ChangeShapes Go.WideShapes Go.ChangeAt Go.RowKit

set_option maxRecDepth 100000 in
theorem eqVia_self (hop port next : Int) (w : World) : (Op.equalIn 10000 72 (.agg #[.int .i64 hop, .int .i64 port, .int .i64 next]) (.agg #[.int .i64 hop, .int .i64 port, .int .i64 next])).run Try.prog w = .ok true w := by
  have hS : Try.prog.underlying 72 = some (.struct (Try.prog.fieldsOf 72)) := by kernel_rfl
  have hp : Try.prog.stoodInHeld 72 = false := by kernel_rfl
  rw [run_equalIn_agg w 9999 72 _ _ hS hp]
  clear hS hp
  have a1 := Try.isAgg3
  have z1 := Try.sizeOf3
  simp only [Program.fieldsOf, Try.underlying72]
  go_simp

theorem allL_length (l : List ViaV) : (allL l).length ≤ 999 := by
  unfold allL
  split
  · exact allTo_length l 999
  · simp

set_option maxRecDepth 100000 in
set_option maxHeartbeats 1600000 in
theorem viaAlls_core {W : World} {A : Option Addr} {n c : Nat} {l : List ViaV} (hl : IsVias W A n c l) :
    Calls Try.prog 7 #[.slice A n c] W fun e W' => e = .returned (.bool true) ∧ Below W.heap.size W W' := by
  have C1 := Lib.hid (viaAll_any hl)
  have C2 := Lib.hid (fun (w : World) (hb : Below W.heap.size W w) => refViaAll_any (hl.below hb))
  clear hl
  go_enter Try.func7, Try.ntmps7
  go_wp2_with fail
  refine C1.out.mono ?_
  rintro e w1 ⟨v1, rfl, hd1, hb1⟩
  have HD1 := Lib.hid hd1
  have HB1 := Lib.hid hb1
  clear hd1 hb1
  go_wp2_with fail
  refine (C2.out _ HB1.out).mono ?_
  rintro e w2 ⟨v2, rfl, hd2, hb2⟩
  obtain ⟨A2, c2, rfl, hc2, hr2⟩ := own_reads hd2
  obtain ⟨A1, c1, rfl, hc1, hr1⟩ := own_reads (own_below HD1.out hb2)
  have HB2 := Lib.hid (below_step HB1.out hb2)
  have hlen := allL_length l
  obtain ⟨L, hL⟩ : ∃ L, allL l = L := ⟨_, rfl⟩
  rw [hL] at hr1 hr2 hlen hc1 hc2 ⊢
  obtain ⟨m, hm⟩ : ∃ m, L.length = m := ⟨_, rfl⟩
  rw [hm] at hr1 hr2 hlen hc1 hc2 ⊢
  have HR1 := Lib.hid hr1
  have HR2 := Lib.hid hr2
  have HM := Lib.hid hm
  generalize viasF l = f at *
  clear hd2 hb2 hr1 hr2 C1 C2 HD1 hL hm
  go_wp2
  go_loopw [7] (fun i wr => ∃ k : Nat, k ≤ m ∧ i = .int .i64 k ∧ Hid (Below w2.heap.size w2 wr)) (fun i _ => m - (intOf i).toNat)
  case atStart => exact ⟨0, by omega, rfl, Below.refl _ _⟩
  case round =>
    obtain ⟨k, hk, rfl, hb⟩ := hrel
    by_cases hlt : k < m
    · obtain ⟨ad, ⟨hop, port, next⟩, rfl, hlk, htk, hmem, hbk, hc0, hcj⟩ := HR1.out.atS ViaV.cells_length HM.out hlt
      have q0 := (hb.out.cell (p := ad.add (k * 3)) (by rw [block_of_add]; exact hbk)).trans (hc0 _ rfl)
      have q1 := (hb.out.cell (p := ⟨(ad.add (k * 3)).block, (ad.add (k * 3)).off + 1, none⟩) (by rw [block_of_add]; exact hbk)).trans (hcj 1 _ rfl)
      have q2 := (hb.out.cell (p := ⟨(ad.add (k * 3)).block, (ad.add (k * 3)).off + 2, none⟩) (by rw [block_of_add]; exact hbk)).trans (hcj 2 _ rfl)
      clear htk hmem hc0 hcj
      obtain ⟨ad', ⟨hop', port', next'⟩, rfl, hlk', htk, hmem, hbk', hc0, hcj⟩ := HR2.out.atS ViaV.cells_length HM.out hlt
      rw [hlk] at hlk'
      injection hlk' with hlk'
      injection hlk' with e1 e2 e3
      subst e1 e2 e3
      have x0 := (hb.out.cell (p := ad'.add (k * 3)) (by rw [block_of_add]; exact hbk')).trans (hc0 _ rfl)
      have x1 := (hb.out.cell (p := ⟨(ad'.add (k * 3)).block, (ad'.add (k * 3)).off + 1, none⟩) (by rw [block_of_add]; exact hbk')).trans (hcj 1 _ rfl)
      have x2 := (hb.out.cell (p := ⟨(ad'.add (k * 3)).block, (ad'.add (k * 3)).off + 2, none⟩) (by rw [block_of_add]; exact hbk')).trans (hcj 2 _ rfl)
      clear htk hmem hc0 hcj hlk hbk hbk'
      have HEQ := fun w => eqVia_self hop port next w
      go_wp2
      go_quiet (fail)
      go_wp2
      go_roundw
      case rel => exact ⟨k + 1, by omega, by go_num, below_drewN hb.out _⟩
      case measure => simp [intOf]; omega
    · obtain rfl : k = m := by omega
      go_wp2
      go_ret
      exact ⟨rfl, below_step HB2.out hb.out⟩

set_option maxRecDepth 100000 in
set_option maxHeartbeats 800000 in
theorem viaAlls_walk {H : Type} {enc : TypeId × Value → H} (W : World) (vs : Array Value) (ds : List (DataW H)) (ps : List MemPlace) (h : ArgsOk Try.prog [68] H enc W vs.toList ds ps) :
    Calls Try.prog 7 vs W fun e W' => e = .returned (.bool true) ∧ Below W.heap.size W W' := by
  obtain ⟨hA, ⟨base, hval⟩, _, _⟩ := h
  obtain ⟨v0, d0, e0, _, h0⟩ := trodAll_one hA
  obtain ⟨a0, n, c, rfl⟩ := okWide_slice Try.underlying68 (hval 0 _ v0 rfl (by rw [e0]; rfl))
  obtain ⟨l, hr⟩ := open_vias h0
  obtain rfl : vs = #[.slice a0 n c] := by cases vs; simp_all
  exact viaAlls_core hr

end Go.Proofs.Ytmljdjakbbedlaa
