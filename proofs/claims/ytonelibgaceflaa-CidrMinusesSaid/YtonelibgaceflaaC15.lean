/-
  
  
  Proved here: what the sorting functions of the library are at this dump, laid by the shelf. No conditions.
  
  
  
  
  
  
  
  
  
-/
import Derived.Test.YtonelibgaceflaaChecked
import Derived.Test.YtonelibgaceflaaC8
import Derived.Test.YtonelibgaceflaaC3
import Derived.RangeFuncNested
import Derived.RangeFuncBox
import Derived.RangeFuncBound
import Derived.RangeFuncCalls
import Derived.RangeFuncLeaves
import Derived.Shelf.Abstract
import Derived.Shelf.RegionOpen
import Derived.WalkKit
import Derived.OwnWalkIn
import Derived.TacticsInMore
import Derived.LoopNIn
import Derived.LoopIn
import Derived.Maps.AppendAt
import Derived.Shelf.SlSortCmp.WholeK
import Derived.Lib.QuietBelow
import Derived.Shelf.SlSortCmp.Insertion1
import Derived.Shelf.SlSortCmp.NoneTotal
import Derived.Test.YtonelibgaceflaaProg
import Derived.Test.YtonelibgaceflaaC9
import Derived.Test.YtonelibgaceflaaC6
import Derived.Test.YtonelibgaceflaaC4
import Derived.Test.YtonelibgaceflaaC14
import Derived.Test.YtonelibgaceflaaC1
namespace Go.Proofs.Ytonelibgaceflaa
open Go.ChangeShapes Go.WideShapes Go.ChangeAt Go.RowKit Go.Shelf

attribute [local go_sem] Oper.semAt_some

/-- append of one element, laid just before in a block of its own, in a round of a loop over an iterator. -/
theorem wpListIn_append_one {F : Fence} {n : Nat} {P : Program} {ops : Array Oper} {rest : List Oper} {o : Oper} {a : Act} {Q : Exit → Act → World → Prop} {w0 : World} {us : List Value} {fr : Nat × Nat} {e : TypeId} (hgd : o.guard = none) (s x : Operand) (t : TypeId)
    (ho : o.op = .call { callee := .builtin .append, args := #[s, x], argTypes := #[t, t] })
    (base : Nat) (z : Value) (size bytes : Nat) (ht : P.underlying t = some (.slice e)) (hi : (P.info? e).map (fun i => (i.zero, i.size, i.bytes)) = some (some z, size, bytes))
    (hzs : z.cells.size = size) (hsz : 0 < size) (v : Value) (k : Nat) (xs : List Value) (hs : a.eval s = v) (hown : w0.ownsRow base e size v k xs) (hbase : base ≤ w0.heap.size)
    (hl : us.length = size) (h1 : ∀ u ∈ us, u.oneCell' = true)
    (hx : a.eval x = .slice (some ⟨w0.heap.size, 0, none⟩) 1 1) (h63 : k + 1 ≤ maxLen) (hbytes : (k + 1) * bytes ≤ 140737488355328)
    (h : ∀ v' w', w'.ownsRow base e size v' (k + 1) (xs ++ us) → (w0.alloc (.cells us.toArray e fr)).grownBy w' v.ownBlock → wpListIn F n P ops Q rest (a.put o.dst v') w') :
    wpListIn F n P ops Q (o :: rest) a (w0.alloc (.cells us.toArray e fr)) := by
  obtain ⟨i0, hi, hz0, hz1, hz2⟩ := info_parts hi
  refine wpListIn_append_own _ hgd s x t ho base e i0 z size bytes ht hi hz0 hz1 hz2 hzs hsz v k xs hs (hown.alloc _) ⟨w0.heap.size, 0, none⟩ 1 1 us hx (by omega) ?_ h1 h63 hbytes (by simp; omega) ?_
  · intro j u hj
    have e1 : (⟨w0.heap.size, 0, none⟩ : Addr).add j = ⟨w0.heap.size, j, none⟩ := by unfold Addr.add; split <;> simp_all
    rw [e1]
    have : (w0.alloc (.cells us.toArray e fr)).heap[w0.heap.size]? = some (.cells us.toArray e fr) := heap_alloc_new w0 _
    unfold World.cell?
    simp only [this]
    simpa using hj
  · intro v' w' hown' hg _
    exact h v' w' hown' hg

theorem pinfo : (Try.prog.info? 35).map (fun i => (i.zero, i.size, i.bytes)) = some (some (.agg #[.bool false, .int .u64 0, .int .u64 0, .int .i64 0]), 4, 32) := by kernel_rfl

set_option maxRecDepth 100000 in
set_option maxHeartbeats 2000000 in
/-- slices.AppendSeq onto nil, against whatever iterator. -/
theorem appendSeq_pv {g : Nat} {lb : Array Value} (eg : ∀ args w, (callFunc g args).run Try.prog w = .ok (.enter g args) w) {S Sp : List PV → Prop} {N n₀ : Nat} {w : World} (hn₀ : n₀ ≤ w.heap.size) (hN : N ≤ 100000)
    (hseq : ∀ n, SeqStopsK Fence.wide n Try.prog g lb (fun x : PV => #[x.val]) (Below n₀) S Sp N w) :
    Calls Try.prog 254 #[.slice none 0 0, .func (.func g) #[] lb] w fun e w' => ∃ (v : Value) (l : List PV), e = .returned v ∧ S l ∧ w'.ownsRow w.heap.size 35 4 v l.length (l.flatMap PV.cells) ∧ Below w.heap.size w w' := by
  refine (callsIn_wide (n := 9)).1 ?_
  refine callsIn_of_wp_marks Try.func254 rfl trivial ?_ rfl
  simp only [Try.ntmps254, List.size_toArray, List.length_cons, List.length_nil, Nat.reduceAdd, Nat.reduceSub, Array.replicate_succ, Array.replicate_zero, List.push_toArray, List.append_toArray, List.nil_append, List.cons_append]
  gi_wp2
  have bO := Boxed.new w 30 (.slice none 0 0)
  obtain ⟨W0, hW0⟩ : ∃ W0, w.alloc (.cells #[.slice none 0 0] 30) = W0 := ⟨_, rfl⟩
  have hB0 : Below w.heap.size w W0 := by rw [← hW0]; exact (Below.refl _ w).alloc (Nat.le_refl _) _
  have hsz : W0.heap.size = w.heap.size + 1 := by rw [← hW0]; simp
  rw [hW0] at bO ⊢
  clear hW0
  refine wpIn_rangeFunc_ownH (F := Fence.wide) rfl (by omega) (gf := g) (lb := lb) rfl trivial eg (hseq _) belowK_t (belowK_b (by omega)) hB0 (fun _ => rfl)
    (fun pre W => (∃ v, Boxed W w.heap.size 30 v ∧ W.ownsRow w.heap.size 35 4 v pre.length (pre.flatMap PV.cells) ∧ True) ∧ Below w.heap.size w W)
    (fun _ _ _ => False)
    (OwnFrom.and (Own.from (holdsRow_own w.heap.size w.heap.size 30 35 4 (fun pre : List PV => pre.length) (fun pre => pre.flatMap PV.cells) (fun _ _ => True)) _) (ownFrom_below (Nat.le_refl _) (by omega)))
    (fun _ _ _ _ _ hs _ _ => hs)
    ⟨⟨_, bO, World.ownsRow_nil _ _ _ _, trivial⟩, hB0⟩
    (fun x a' W => ∃ Bx, w.heap.size < Bx ∧ W.heap[Bx]? = some (.cells #[.bool x.six, .int .u64 x.hi, .int .u64 x.lo, .int .i64 x.n] 35 (0, 0)) ∧ a' = { tmps := #[.slice none 0 0, .func (.func g) #[] lb, .pointer (some ⟨w.heap.size, 0, none⟩), undef, .slice none 0 0, .pointer (some ⟨Bx, 0, none⟩), .func (.func g) #[] lb, x.val, undef, undef, undef, undef, undef], defers := [] })
    (fun x a' _ X Y row hs hg hr => by
      obtain ⟨Bx, h1, h2, h3⟩ := hs
      refine ⟨Bx, h1, (hg.block Bx (Array.getElem?_eq_some_iff.1 h2).1 (fun e => ?_)).trans h2, h3⟩
      obtain ⟨_, o, ho, hc⟩ := hr Bx e.symm
      rw [h2] at ho; cases ho; cases hc)
    ?assign ?body ?done ?stop
  case assign =>
    rintro l pre x W K ⟨⟨v, hv, hrow, _⟩, hB⟩ hK
    unfold PV.val
    gi_wp2
    exact hK _ _ ((KeepsOthers.alloc _ _).from _) ((Below.refl _ W).alloc (by have := hB.size; omega) _) ⟨⟨v, hv.alloc _, hrow.alloc _, trivial⟩, hB.alloc hB.size _⟩ ⟨W.heap.size, hv.lt, heap_alloc_new W _, rfl⟩
  case body =>
    rintro l pre x a' W hl ⟨r, hr⟩ ⟨⟨v, hv, hrow, _⟩, hB⟩ ⟨Bx, hBx, bX, rfl⟩ hlt
    have hc := hv.cell
    have x0 := cell_of_row W Bx 0 _ _ _ bX
    have x1 := cell_of_row W Bx 1 _ _ _ bX
    have x2 := cell_of_row W Bx 2 _ _ _ bX
    have x3 := cell_of_row W Bx 3 _ _ _ bX
    simp at x0 x1 x2 x3
    have hBx2 := (Array.getElem?_eq_some_iff.1 bX).1
    clear bX
    unfold PV.val
    gi_wp2_with (gi_at_builtin; refine wpListIn_append_one (us := x.cells) rfl _ _ 30 rfl w.heap.size _ 4 32 Try.underlying30 pinfo rfl (by decide) v _ _ rfl hrow hB.size rfl (by intro u hu; simp [PV.cells] at hu; rcases hu with rfl | rfl | rfl | rfl <;> rfl) rfl (by unfold maxLen; omega) (by omega) ?_; intro v' w1 hown' hgrow; obtain ⟨g', cap', rfl⟩ := ownsRow_succ hown'; obtain ⟨hv1, hv2, hr2, hk2, hb2⟩ := hv.appended (by decide) hrow hB.size (Nat.le_refl _) hown' hgrow; have hc1 := hv1.cell; have hf1 := hv1.frozen)
    exact ⟨hk2.from _, hb2.mono hn₀, ⟨_, hv2, by rw [List.length_append, List.flatMap_append]; simpa using hr2, trivial⟩, hB.trans hb2⟩
  case done =>
    rintro D ys W hD hS ⟨⟨v, hv, hrow, _⟩, hB⟩ hK
    have hc := hv.cell
    gi_wp2
    refine ⟨by simp, .inl ⟨_, _, rfl, run_takeDeferred hK, ?_⟩⟩
    exact ⟨_, results_tmp rfl _ _ _, v, ys, rfl, hS, ownsRow_putObj hrow _ hK rfl, hB.trans (belowK_b (w := w) (Nat.le_refl _) W D _ _ (by omega) hK rfl rfl)⟩
  case stop =>
    rintro D c pre W _ _ h _
    exact h.elim

theorem collect_pv {g : Nat} {lb : Array Value} (eg : ∀ args w, (callFunc g args).run Try.prog w = .ok (.enter g args) w) {S Sp : List PV → Prop} {N n₀ : Nat} {w : World} (hn₀ : n₀ ≤ w.heap.size) (hN : N ≤ 100000)
    (hseq : ∀ n, SeqStopsK Fence.wide n Try.prog g lb (fun x : PV => #[x.val]) (Below n₀) S Sp N w) :
    Calls Try.prog 236 #[.func (.func g) #[] lb] w fun e w' => ∃ (v : Value) (l : List PV), e = .returned v ∧ S l ∧ w'.ownsRow w.heap.size 35 4 v l.length (l.flatMap PV.cells) ∧ Below w.heap.size w w' := by
  have h := Lib.hid (appendSeq_pv eg hn₀ hN hseq)
  clear hseq
  go_enter Try.func236, Try.ntmps236
  go_wp2_with fail
  refine h.out.mono ?_
  rintro e w1 ⟨v, l, rfl, hS, hrow, hb⟩
  go_wp2
  go_ret
  exact ⟨v, l, rfl, hS, hrow, hb⟩

/-- slices.Values: the slice is boxed; the function value has the box. -/
theorem values_pv (A : Option Addr) (n c : Nat) (w : World) :
    Calls Try.prog 197 #[.slice A n c] w fun e w' => e = .returned (.func (.func 238) #[] #[.pointer (some ⟨w.heap.size, 0, none⟩)]) ∧ w' = w.alloc (.cells #[.slice A n c] 30) := by
  go_enter Try.func197, Try.ntmps197
  go_wp2
  go_ret
  exact ⟨rfl, rfl⟩

set_option maxRecDepth 100000 in
set_option maxHeartbeats 2000000 in
theorem values1_pv {A : Option Addr} {n c Bs n₀ l : Nat} {zs : List PV} (hz : zs.length = n) (hnc : n ≤ 100000) {J Jx : List PV → World → Prop} {W : World} (m : Nat)
    (hJal : AbidesFrom W.heap.size J)
    (hY : ∀ pre x W, J pre W → pre.length < n → YieldAt Fence.wide (m - 1) Try.prog l #[x.val] W fun e W' => (e = .returned (.bool true) ∧ J (pre ++ [x]) W' ∧ Below n₀ W W') ∨ (e = .returned (.bool false) ∧ Jx (pre ++ [x]) W'))
    (hBs : W.cell? ⟨Bs, 0, none⟩ = some (.slice A n c)) (hr : Reads W n₀ 4 A n (zs.flatMap PV.cells)) (hn₀ : n₀ ≤ W.heap.size) (h0 : J [] W) :
    CallsIn Fence.wide m Try.prog 238 #[.func (.yield l) #[] #[], .pointer (some ⟨Bs, 0, none⟩)] W fun e W' => (∃ v, e = .returned v) ∧
      ((∃ ys, ys = zs ∧ J ys W') ∨ (∃ pre, pre <+: zs ∧ Jx pre W')) := by
  refine callsIn_of_wp Try.func238 rfl trivial ?_ rfl
  simp only [Try.ntmps238, List.size_toArray, List.length_cons, List.length_nil, Nat.reduceAdd, Nat.reduceSub, Array.replicate_succ, Array.replicate_zero, List.push_toArray, List.append_toArray, List.nil_append, List.cons_append]
  have HZ := Lib.hid hz
  have HR := Lib.hid hr
  clear hz hr
  gi_wp2
  gi_loopw [7, 4] (fun i _ wr => ∃ k : Nat, k ≤ n ∧ i = .int .i64 k ∧ J (zs.take k) wr ∧ Below n₀ W wr ∧ W.heap.size ≤ wr.heap.size) (fun i _ _ => n - (intOf i).toNat)
  case atStart => exact ⟨0, Nat.zero_le _, rfl, h0, Below.refl _ _, Nat.le_refl _⟩
  case round =>
    obtain ⟨k, hk, rfl, hJs, hnx, hsx⟩ := hrel
    by_cases hlt : k < n
    · obtain ⟨ad, ⟨six, hi, lo, len⟩, rfl, hlk, htk, hmem, hbk, hc0, hcj⟩ := HR.out.atS PV.cells_length HZ.out hlt
      have q0 := (hnx.cell (p := ad.add (k * 4)) (by rw [block_of_add]; exact hbk)).trans (hc0 _ rfl)
      have q1 := (hnx.cell (p := ⟨(ad.add (k * 4)).block, (ad.add (k * 4)).off + 1, none⟩) (by rw [block_of_add]; exact hbk)).trans (hcj 1 _ rfl)
      have q2 := (hnx.cell (p := ⟨(ad.add (k * 4)).block, (ad.add (k * 4)).off + 2, none⟩) (by rw [block_of_add]; exact hbk)).trans (hcj 2 _ rfl)
      have q3 := (hnx.cell (p := ⟨(ad.add (k * 4)).block, (ad.add (k * 4)).off + 3, none⟩) (by rw [block_of_add]; exact hbk)).trans (hcj 3 _ rfl)
      have hkl : (zs.take k).length < n := by rw [List.length_take]; omega
      have HTK := Lib.hid htk
      have hJ2 : J (zs.take k) (wr.alloc (.cells #[.bool six, .int .u64 hi, .int .u64 lo, .int .i64 len] 35)) := hJal _ _ _ none hJs (World.grownBy_alloc _ _ none) (fun r e => by cases e)
      obtain ⟨fn, tmps, assign, body, hy, hR⟩ := hY _ ⟨six, hi, lo, len⟩ _ hJ2 hkl
      unfold PV.val at hy
      simp only at hy
      clear hlk htk hmem hbk hc0 hcj hkl
      gi_wp2
      refine ⟨fun h => by simp [Fence.wide] at h, hR.mono ?_⟩
      rintro e W3 (⟨rfl, hJ3, hk3⟩ | ⟨rfl, hJx3⟩)
      · have hs3 := hk3.size
        simp at hs3
        have hk4 := (((Below.refl n₀ wr).alloc (by omega) _).trans hk3)
        gi_wp2
        go_roundw
        case rel => exact ⟨k + 1, by omega, by simp, by rw [HTK.out]; exact hJ3, hnx.trans hk4, by omega⟩
        case measure => simp [intOf]; omega
      · gi_wp2
        refine bodyPost_ret (results_none rfl _ _ _) rfl ?_
        exact ⟨⟨_, rfl⟩, .inr ⟨_, ⟨zs.drop (k + 1), by rw [← HTK.out, List.take_append_drop]⟩, hJx3⟩⟩
    · obtain rfl : k = n := by omega
      have hall : zs.take k = zs := List.take_of_length_le (by have := HZ.out; omega)
      gi_wp2
      go_end0
      exact ⟨⟨_, rfl⟩, .inl ⟨_, rfl, by rw [← hall]; exact hJs⟩⟩

/-- slices.Values at a slice of prefixes gives all of them in order. -/
theorem values_stops {A : Option Addr} {n c Bs n₀ : Nat} {zs : List PV} (hz : zs.length = n) (hnc : n ≤ 100000) {w : World} (hb : Bs < w.heap.size) (hn₀ : n₀ ≤ w.heap.size) (hc : w.cell? ⟨Bs, 0, none⟩ = some (.slice A n c)) (hr : Reads w n₀ 4 A n (zs.flatMap PV.cells)) (m : Nat) :
    SeqStopsK Fence.wide m Try.prog 238 #[.pointer (some ⟨Bs, 0, none⟩)] (fun x : PV => #[x.val]) (Below n₀) (fun ys => ys = zs) (fun pre => pre <+: zs) n w := by
  intro l J Jx W hW hJ hJx hY h0
  refine values1_pv hz hnc m hJ hY ((hW.cell (p := ⟨Bs, 0, none⟩) hb).trans hc) (hr.below (hW.mono hn₀)) (Nat.le_trans hn₀ hW.size) h0

end Go.Proofs.Ytonelibgaceflaa

namespace Go.Proofs.Ytonelibgaceflaa
open Go.ChangeShapes Go.WideShapes Go.ChangeAt Go.RowKit Go.Sort

/-- Nothing that was there has changed, and the tape was asked no less often. -/
def Grew (w w' : World) : Prop := Below w.heap.size w w' ∧ w.drawn ≤ w'.drawn
theorem Grew.refl (w : World) : Grew w w := ⟨Below.refl _ _, Nat.le_refl _⟩
theorem Grew.alloc {w w' : World} (h : Grew w w') (o : Obj) : Grew w (w'.alloc o) := ⟨h.1.alloc h.1.size o, h.2⟩
theorem Grew.drew {w w' : World} (h : Grew w w') : Grew w w'.drew := ⟨h.1.drew, Nat.le_succ_of_le h.2⟩
theorem Grew.drewN {w w' : World} (h : Grew w w') (n : Nat) : Grew w (w'.drewN n) := ⟨below_drewN h.1 n, Nat.le_trans h.2 (Nat.le_add_right _ _)⟩
theorem Grew.trans {w w' w'' : World} (h : Grew w w') (h' : Grew w' w'') : Grew w w'' := ⟨below_step h.1 h'.1, Nat.le_trans h.2 h'.2⟩
theorem Grew.grows {w w' : World} (h : Grew w w') : ∃ q os, w' = grow (w.drewN q) os := by
  obtain ⟨p, hp⟩ := regrown_of_below h.1
  refine ⟨p.d - w.drawn, p.os, ?_⟩
  have h2 := h.2
  rw [hp] at h2 ⊢
  have e : redrawn w p.d = w.drewN (p.d - w.drawn) := by
    unfold redrawn World.drewN
    have h3 : w.drawn ≤ p.d := h2
    congr 1
    omega
  rw [e]

variable {α : Type} [Inhabited α]
theorem flatK_list {enc : α → List Value} {k : Nat} (hk : ∀ x, (enc x).length = k) (hk0 : 0 < k) (d : Array α) : (flatK enc k d).toList = d.toList.flatMap enc := by
  apply List.ext_getElem?
  intro t
  by_cases ht : t < d.size * k
  · have h1 : t / k < d.size := by rw [Nat.div_lt_iff_lt_mul hk0]; exact ht
    have h2 : t % k < k := Nat.mod_lt _ hk0
    have e1 := get_flatK enc k d t ht
    rw [getElem!_pos _ t (by simpa using ht), getElem!_pos d (t / k) h1, getElem!_pos _ (t % k) (by rw [hk]; exact h2)] at e1
    rw [Array.getElem?_toList, Array.getElem?_eq_getElem (by simpa using ht), e1]
    have h3 := flat_at hk d.toList (t / k) d[t / k] (t % k) _ (by simp [h1]) (List.getElem?_eq_getElem (by rw [hk]; exact h2))
    rw [show t / k * k + t % k = t by rw [Nat.mul_comm]; exact Nat.div_add_mod t k] at h3
    exact h3.symm
  · rw [List.getElem?_eq_none (by simp; omega), List.getElem?_eq_none (by
      have hlen : ∀ l : List α, (l.flatMap enc).length = l.length * k := by
        intro l
        induction l with
        | nil => simp
        | cons x l ih => rw [List.flatMap_cons, List.length_append, ih, hk, List.length_cons, Nat.add_mul]; omega
      rw [hlen]
      simp
      omega)]
theorem holdsK_of_block {enc : α → List Value} {k : Nat} (hk : ∀ x, (enc x).length = k) (hk0 : 0 < k) {w : World} {g : Nat} {cur : Array Value} {e : TypeId} {l : List α} (hb : w.heap[g]? = some (.cells cur e (0, 0))) (ht : cur.toList.take (l.length * k) = l.flatMap enc) : HoldsK enc k w g 0 l.toArray := by
  intro j hj
  have hj' : j < l.length * k := by simpa using hj
  refine ⟨?_, by simp [World.frozen?, hb]⟩
  have e0 := flatK_list hk hk0 l.toArray
  have h1 : (cur.toList.take (l.length * k))[j]? = (flatK enc k l.toArray).toList[j]? := by rw [ht, e0]
  rw [List.getElem?_take_of_lt hj', Array.getElem?_toList, Array.getElem?_toList] at h1
  simp only [World.cell?, hb, Nat.zero_add, Option.isSome_none, Bool.false_eq_true, if_false]
  rw [h1, getElem!_pos _ j hj, Array.getElem?_eq_getElem hj]
  rfl
theorem heap_sortedK {enc : α → List Value} {k : Nat} {w : World} {g n : Nat} {os : Array Obj} {cur : Array Value} {e : TypeId} {fr : Nat × Nat} (d : Array α) (hb : w.heap[g]? = some (.cells cur e fr)) :
    (sortWorldK enc k w g 0 n d os).heap[g]? = some (.cells (putCells id 0 (flatK enc k d) cur) e fr) := by
  have hg : g < w.heap.size := (Array.getElem?_eq_some_iff.1 hb).1
  unfold sortWorldK putRowK
  rw [heap_grow_old _ _ (by simpa using hg)]
  simp [putRow, mapBlock, Sort.ahead, Array.getElem?_modify, hb, onCells]
theorem grownBy_sortedK {enc : α → List Value} {k : Nat} {w : World} {g n : Nat} {os : Array Obj} (d : Array α) : w.grownBy (sortWorldK enc k w g 0 n d os) (some g) := by
  refine ⟨rfl, rfl, rfl, by simp [sortWorldK, putRowK], fun j hj hne => ?_⟩
  unfold sortWorldK putRowK
  rw [heap_grow_old _ _ (by simpa using hj)]
  have : g ≠ j := fun e => hne (by rw [e])
  simp [putRow, mapBlock, Sort.ahead, Array.getElem?_modify, this]
theorem take_putCellsK (cur F : Array Value) (h : F.size ≤ cur.size) : (putCells id 0 F cur).toList.take F.size = F.toList := by
  apply List.ext_getElem?
  intro j
  by_cases hj : j < F.size
  · rw [List.getElem?_take_of_lt hj, Array.getElem?_toList]
    simp [putCells, hj, show j < cur.size by omega]
  · rw [List.getElem?_take_eq_none (by omega), List.getElem?_eq_none (by simp; omega)]
/-- Behind the sort the same slice owns the sorted row. -/
theorem ownsRow_sortedK {enc : α → List Value} {k : Nat} (hk : ∀ x, (enc x).length = k) (hk0 : 0 < k) {w : World} {base g cap n : Nat} {e : TypeId} {os : Array Obj} {l m : List α} (hl : m.length = l.length)
    (h : w.ownsRow base e k (.slice (some ⟨g, 0, none⟩) l.length cap) l.length (l.flatMap enc)) :
    (sortWorldK enc k w g 0 n m.toArray os).ownsRow base e k (.slice (some ⟨g, 0, none⟩) l.length cap) l.length (m.flatMap enc) := by
  rcases h.2 with ⟨hx, _⟩ | ⟨g', cap', cur, hx, hbase, hb, h1, h2, h3, h4⟩
  · cases hx
  · simp only [Value.slice.injEq, Option.some.injEq, Addr.mk.injEq, and_true, true_and] at hx
    obtain ⟨rfl, rfl⟩ := hx
    have e0 := flatK_list hk hk0 m.toArray
    have hs : (flatK enc k m.toArray).size = l.length * k := by simp [hl]
    refine ⟨?_, .inr ⟨g, cap, _, rfl, hbase, heap_sortedK _ hb, h1, h2, by simp [putCells, h3], ?_⟩⟩
    · rw [← e0]; simpa using hs
    · rw [← hs, take_putCellsK _ _ (by rw [hs, h3]; exact Nat.mul_le_mul_right k h1), e0]
theorem own_holdsK {enc : α → List Value} {k : Nat} (hk : ∀ x, (enc x).length = k) (hk0 : 0 < k) {w : World} {base g cap : Nat} {e : TypeId} {l : List α}
    (h : w.ownsRow base e k (.slice (some ⟨g, 0, none⟩) l.length cap) l.length (l.flatMap enc)) : HoldsK enc k w g 0 l.toArray ∧ base ≤ g ∧ g < w.heap.size := by
  rcases h.2 with ⟨hx, _⟩ | ⟨g', cap', cur, hx, hbase, hb, h1, h2, h3, h4⟩
  · cases hx
  · simp only [Value.slice.injEq, Option.some.injEq, Addr.mk.injEq, and_true, true_and] at hx
    obtain ⟨rfl, rfl⟩ := hx
    exact ⟨holdsK_of_block hk hk0 hb h4, hbase, (Array.getElem?_eq_some_iff.1 hb).1⟩
/-- A permutation sorted by a comparison, as lists. -/
theorem perm_sorted {lt : α → α → Bool} {l : List α} {d' : Array α} (hp : PermIn 0 l.toArray.size l.toArray d') (hs : SortedIn lt 0 l.toArray.size d') : d'.toList.Perm l ∧ d'.toList.Pairwise fun x y => lt y x = false := by
  obtain ⟨h1, _, h3⟩ := hp
  simp only [List.size_toArray] at h1 h3 hs
  refine ⟨?_, ?_⟩
  · rw [Array.extract_eq_self_of_le (by omega), Array.extract_eq_self_of_le (by simp)] at h3
    exact h3
  · rw [List.pairwise_iff_getElem]
    intro i j hi hj hij
    have := hs i j (Nat.zero_le _) hij (by simpa [h1] using hj)
    rwa [getElem!_pos d' j (by simpa using hj), getElem!_pos d' i (by simpa using hi)] at this

end Go.Proofs.Ytonelibgaceflaa

namespace Go.Proofs
open Go.Shelf
def Try.sortP_ren : Go.Shelf.Ren := ⟨fun | 6 => 237 | 15 => 189 | 14 => 255 | 28 => 225 | 29 => 226 | 20 => 262 | 21 => 263 | 22 => 264 | 23 => 265 | 24 => 266 | 25 => 267 | 26 => 268 | 27 => 269 | 46 => 275 | 47 => 247 | 48 => 248 | 49 => 276 | 50 => 277 | 57 => 279 | n => n, fun | 22 => 30 | 24 => 35 | 25 => 220 | 3 => 3 | 39 => 234 | 0 => 0 | 53 => 310 | 55 => 22 | 4 => 4 | 46 => 322 | 45 => 321 | 50 => 326 | 5 => 5 | 9 => 9 | 66 => 346 | 70 => 350 | 76 => 357 | 77 => 358 | n => n, fun | n => n⟩
theorem Try.sortP : Go.Proofs.SlLaysF0.n6 Try.prog Try.sortP_ren := {
  mixed := by kernel_rfl
  f6 := ⟨Try.f237.name, by decide, Try.func237.trans (congrArg some (by kernel_rfl))⟩
  f14 := ⟨Try.f255.name, by decide, Try.func255.trans (congrArg some (by kernel_rfl))⟩
  f15 := Try.func189.trans (congrArg some (by kernel_rfl))
  f20 := ⟨Try.f262.name, by decide, Try.func262.trans (congrArg some (by kernel_rfl))⟩
  f21 := ⟨Try.f263.name, by decide, Try.func263.trans (congrArg some (by kernel_rfl))⟩
  f22 := ⟨Try.f264.name, by decide, Try.func264.trans (congrArg some (by kernel_rfl))⟩
  f23 := ⟨Try.f265.name, by decide, Try.func265.trans (congrArg some (by kernel_rfl))⟩
  f24 := ⟨Try.f266.name, by decide, Try.func266.trans (congrArg some (by kernel_rfl))⟩
  f25 := ⟨Try.f267.name, by decide, Try.func267.trans (congrArg some (by kernel_rfl))⟩
  f26 := ⟨Try.f268.name, by decide, Try.func268.trans (congrArg some (by kernel_rfl))⟩
  f27 := ⟨Try.f269.name, by decide, Try.func269.trans (congrArg some (by kernel_rfl))⟩
  f28 := Try.func225.trans (congrArg some (by kernel_rfl))
  f29 := Try.func226.trans (congrArg some (by kernel_rfl))
  f46 := ⟨Try.f275.name, by decide, Try.func275.trans (congrArg some (by kernel_rfl))⟩
  f47 := Try.func247.trans (congrArg some (by kernel_rfl))
  f48 := Try.func248.trans (congrArg some (by kernel_rfl))
  f49 := ⟨Try.f276.name, by decide, Try.func276.trans (congrArg some (by kernel_rfl))⟩
  f50 := ⟨Try.f277.name, by decide, Try.func277.trans (congrArg some (by kernel_rfl))⟩
  f57 := ⟨Try.f279.name, by decide, Try.func279.trans (congrArg some (by kernel_rfl))⟩
  t0 := Try.underlying0
  a0 := Try.isAgg0
  z0 := Try.sizeOf0
  v0 := Try.zeroValue0
  t3 := Try.underlying3
  a3 := Try.isAgg3
  z3 := Try.sizeOf3
  v3 := Try.zeroValue3
  t4 := Try.underlying4
  a4 := Try.isAgg4
  z4 := Try.sizeOf4
  v4 := Try.zeroValue4
  t5 := Try.underlying5
  a5 := Try.isAgg5
  z5 := Try.sizeOf5
  v5 := Try.zeroValue5
  t9 := Try.underlying9
  a9 := Try.isAgg9
  z9 := Try.sizeOf9
  v9 := Try.zeroValue9
  t22 := Try.underlying30
  a22 := Try.isAgg30
  z22 := Try.sizeOf30
  v22 := Try.zeroValue30
  t25 := Try.underlying220
  a25 := Try.isAgg220
  z25 := Try.sizeOf220
  v25 := Try.zeroValue220
  t39 := Try.underlying234
  a39 := Try.isAgg234
  z39 := Try.sizeOf234
  v39 := Try.zeroValue234
  t45 := Try.underlying321
  a45 := Try.isAgg321
  z45 := Try.sizeOf321
  v45 := Try.zeroValue321
  t46 := Try.underlying322
  a46 := Try.isAgg322
  z46 := Try.sizeOf322
  v46 := Try.zeroValue322
  t50 := Try.underlying326
  a50 := Try.isAgg326
  z50 := Try.sizeOf326
  v50 := Try.zeroValue326
  t53 := Try.underlying310
  a53 := Try.isAgg310
  z53 := Try.sizeOf310
  v53 := Try.zeroValue310
  t55 := Try.underlying22
  a55 := Try.isAgg22
  z55 := Try.sizeOf22
  v55 := Try.zeroValue22
  t66 := Try.underlying346
  a66 := Try.isAgg346
  z66 := Try.sizeOf346
  v66 := Try.zeroValue346
  t70 := Try.underlying350
  a70 := Try.isAgg350
  z70 := Try.sizeOf350
  v70 := Try.zeroValue350
  t76 := Try.underlying357
  a76 := Try.isAgg357
  z76 := Try.sizeOf357
  v76 := Try.zeroValue357
  t77 := Try.underlying358
  a77 := Try.isAgg358
  z77 := Try.sizeOf358
  v77 := Try.zeroValue358 }
def Try.sortV_ren : Go.Shelf.Ren := ⟨fun | 6 => 123 | 15 => 189 | 14 => 188 | 28 => 225 | 29 => 226 | 20 => 217 | 21 => 218 | 22 => 219 | 23 => 220 | 24 => 221 | 25 => 222 | 26 => 223 | 27 => 224 | 46 => 246 | 47 => 247 | 48 => 248 | 49 => 249 | 50 => 250 | 57 => 260 | n => n, fun | 22 => 97 | 24 => 101 | 25 => 208 | 3 => 3 | 39 => 234 | 0 => 0 | 53 => 310 | 55 => 22 | 4 => 4 | 46 => 322 | 45 => 321 | 50 => 326 | 5 => 5 | 9 => 9 | 66 => 346 | 70 => 350 | 76 => 357 | 77 => 358 | n => n, fun | n => n⟩
theorem Try.sortV : Go.Proofs.SlLaysF0.n6 Try.prog Try.sortV_ren := {
  mixed := by kernel_rfl
  f6 := ⟨Try.f123.name, by decide, Try.func123.trans (congrArg some (by kernel_rfl))⟩
  f14 := ⟨Try.f188.name, by decide, Try.func188.trans (congrArg some (by kernel_rfl))⟩
  f15 := Try.func189.trans (congrArg some (by kernel_rfl))
  f20 := ⟨Try.f217.name, by decide, Try.func217.trans (congrArg some (by kernel_rfl))⟩
  f21 := ⟨Try.f218.name, by decide, Try.func218.trans (congrArg some (by kernel_rfl))⟩
  f22 := ⟨Try.f219.name, by decide, Try.func219.trans (congrArg some (by kernel_rfl))⟩
  f23 := ⟨Try.f220.name, by decide, Try.func220.trans (congrArg some (by kernel_rfl))⟩
  f24 := ⟨Try.f221.name, by decide, Try.func221.trans (congrArg some (by kernel_rfl))⟩
  f25 := ⟨Try.f222.name, by decide, Try.func222.trans (congrArg some (by kernel_rfl))⟩
  f26 := ⟨Try.f223.name, by decide, Try.func223.trans (congrArg some (by kernel_rfl))⟩
  f27 := ⟨Try.f224.name, by decide, Try.func224.trans (congrArg some (by kernel_rfl))⟩
  f28 := Try.func225.trans (congrArg some (by kernel_rfl))
  f29 := Try.func226.trans (congrArg some (by kernel_rfl))
  f46 := ⟨Try.f246.name, by decide, Try.func246.trans (congrArg some (by kernel_rfl))⟩
  f47 := Try.func247.trans (congrArg some (by kernel_rfl))
  f48 := Try.func248.trans (congrArg some (by kernel_rfl))
  f49 := ⟨Try.f249.name, by decide, Try.func249.trans (congrArg some (by kernel_rfl))⟩
  f50 := ⟨Try.f250.name, by decide, Try.func250.trans (congrArg some (by kernel_rfl))⟩
  f57 := ⟨Try.f260.name, by decide, Try.func260.trans (congrArg some (by kernel_rfl))⟩
  t0 := Try.underlying0
  a0 := Try.isAgg0
  z0 := Try.sizeOf0
  v0 := Try.zeroValue0
  t3 := Try.underlying3
  a3 := Try.isAgg3
  z3 := Try.sizeOf3
  v3 := Try.zeroValue3
  t4 := Try.underlying4
  a4 := Try.isAgg4
  z4 := Try.sizeOf4
  v4 := Try.zeroValue4
  t5 := Try.underlying5
  a5 := Try.isAgg5
  z5 := Try.sizeOf5
  v5 := Try.zeroValue5
  t9 := Try.underlying9
  a9 := Try.isAgg9
  z9 := Try.sizeOf9
  v9 := Try.zeroValue9
  t22 := Try.underlying97
  a22 := Try.isAgg97
  z22 := Try.sizeOf97
  v22 := Try.zeroValue97
  t25 := Try.underlying208
  a25 := Try.isAgg208
  z25 := Try.sizeOf208
  v25 := Try.zeroValue208
  t39 := Try.underlying234
  a39 := Try.isAgg234
  z39 := Try.sizeOf234
  v39 := Try.zeroValue234
  t45 := Try.underlying321
  a45 := Try.isAgg321
  z45 := Try.sizeOf321
  v45 := Try.zeroValue321
  t46 := Try.underlying322
  a46 := Try.isAgg322
  z46 := Try.sizeOf322
  v46 := Try.zeroValue322
  t50 := Try.underlying326
  a50 := Try.isAgg326
  z50 := Try.sizeOf326
  v50 := Try.zeroValue326
  t53 := Try.underlying310
  a53 := Try.isAgg310
  z53 := Try.sizeOf310
  v53 := Try.zeroValue310
  t55 := Try.underlying22
  a55 := Try.isAgg22
  z55 := Try.sizeOf22
  v55 := Try.zeroValue22
  t66 := Try.underlying346
  a66 := Try.isAgg346
  z66 := Try.sizeOf346
  v66 := Try.zeroValue346
  t70 := Try.underlying350
  a70 := Try.isAgg350
  z70 := Try.sizeOf350
  v70 := Try.zeroValue350
  t76 := Try.underlying357
  a76 := Try.isAgg357
  z76 := Try.sizeOf357
  v76 := Try.zeroValue357
  t77 := Try.underlying358
  a77 := Try.isAgg358
  z77 := Try.sizeOf358
  v77 := Try.zeroValue358 }
def Try.sortO_ren : Go.Shelf.Ren := ⟨fun | 6 => 130 | 15 => 189 | 14 => 193 | 28 => 225 | 29 => 226 | 20 => 228 | 21 => 229 | 22 => 230 | 23 => 231 | 24 => 232 | 25 => 233 | 26 => 234 | 27 => 235 | 46 => 251 | 47 => 247 | 48 => 248 | 49 => 252 | 50 => 253 | 57 => 261 | n => n, fun | 22 => 103 | 24 => 107 | 25 => 218 | 3 => 3 | 39 => 234 | 0 => 0 | 53 => 310 | 55 => 22 | 4 => 4 | 46 => 322 | 45 => 321 | 50 => 326 | 5 => 5 | 9 => 9 | 66 => 346 | 70 => 350 | 76 => 357 | 77 => 358 | n => n, fun | n => n⟩
theorem Try.sortO : Go.Proofs.SlLaysF0.n6 Try.prog Try.sortO_ren := {
  mixed := by kernel_rfl
  f6 := ⟨Try.f130.name, by decide, Try.func130.trans (congrArg some (by kernel_rfl))⟩
  f14 := ⟨Try.f193.name, by decide, Try.func193.trans (congrArg some (by kernel_rfl))⟩
  f15 := Try.func189.trans (congrArg some (by kernel_rfl))
  f20 := ⟨Try.f228.name, by decide, Try.func228.trans (congrArg some (by kernel_rfl))⟩
  f21 := ⟨Try.f229.name, by decide, Try.func229.trans (congrArg some (by kernel_rfl))⟩
  f22 := ⟨Try.f230.name, by decide, Try.func230.trans (congrArg some (by kernel_rfl))⟩
  f23 := ⟨Try.f231.name, by decide, Try.func231.trans (congrArg some (by kernel_rfl))⟩
  f24 := ⟨Try.f232.name, by decide, Try.func232.trans (congrArg some (by kernel_rfl))⟩
  f25 := ⟨Try.f233.name, by decide, Try.func233.trans (congrArg some (by kernel_rfl))⟩
  f26 := ⟨Try.f234.name, by decide, Try.func234.trans (congrArg some (by kernel_rfl))⟩
  f27 := ⟨Try.f235.name, by decide, Try.func235.trans (congrArg some (by kernel_rfl))⟩
  f28 := Try.func225.trans (congrArg some (by kernel_rfl))
  f29 := Try.func226.trans (congrArg some (by kernel_rfl))
  f46 := ⟨Try.f251.name, by decide, Try.func251.trans (congrArg some (by kernel_rfl))⟩
  f47 := Try.func247.trans (congrArg some (by kernel_rfl))
  f48 := Try.func248.trans (congrArg some (by kernel_rfl))
  f49 := ⟨Try.f252.name, by decide, Try.func252.trans (congrArg some (by kernel_rfl))⟩
  f50 := ⟨Try.f253.name, by decide, Try.func253.trans (congrArg some (by kernel_rfl))⟩
  f57 := ⟨Try.f261.name, by decide, Try.func261.trans (congrArg some (by kernel_rfl))⟩
  t0 := Try.underlying0
  a0 := Try.isAgg0
  z0 := Try.sizeOf0
  v0 := Try.zeroValue0
  t3 := Try.underlying3
  a3 := Try.isAgg3
  z3 := Try.sizeOf3
  v3 := Try.zeroValue3
  t4 := Try.underlying4
  a4 := Try.isAgg4
  z4 := Try.sizeOf4
  v4 := Try.zeroValue4
  t5 := Try.underlying5
  a5 := Try.isAgg5
  z5 := Try.sizeOf5
  v5 := Try.zeroValue5
  t9 := Try.underlying9
  a9 := Try.isAgg9
  z9 := Try.sizeOf9
  v9 := Try.zeroValue9
  t22 := Try.underlying103
  a22 := Try.isAgg103
  z22 := Try.sizeOf103
  v22 := Try.zeroValue103
  t25 := Try.underlying218
  a25 := Try.isAgg218
  z25 := Try.sizeOf218
  v25 := Try.zeroValue218
  t39 := Try.underlying234
  a39 := Try.isAgg234
  z39 := Try.sizeOf234
  v39 := Try.zeroValue234
  t45 := Try.underlying321
  a45 := Try.isAgg321
  z45 := Try.sizeOf321
  v45 := Try.zeroValue321
  t46 := Try.underlying322
  a46 := Try.isAgg322
  z46 := Try.sizeOf322
  v46 := Try.zeroValue322
  t50 := Try.underlying326
  a50 := Try.isAgg326
  z50 := Try.sizeOf326
  v50 := Try.zeroValue326
  t53 := Try.underlying310
  a53 := Try.isAgg310
  z53 := Try.sizeOf310
  v53 := Try.zeroValue310
  t55 := Try.underlying22
  a55 := Try.isAgg22
  z55 := Try.sizeOf22
  v55 := Try.zeroValue22
  t66 := Try.underlying346
  a66 := Try.isAgg346
  z66 := Try.sizeOf346
  v66 := Try.zeroValue346
  t70 := Try.underlying350
  a70 := Try.isAgg350
  z70 := Try.sizeOf350
  v70 := Try.zeroValue350
  t76 := Try.underlying357
  a76 := Try.isAgg357
  z76 := Try.sizeOf357
  v76 := Try.zeroValue357
  t77 := Try.underlying358
  a77 := Try.isAgg358
  z77 := Try.sizeOf358
  v77 := Try.zeroValue358 }
def Try.insI_ren : Go.Shelf.Ren := ⟨fun | 20 => 242 | n => n, fun | 24 => 3 | 22 => 44 | 3 => 3 | 25 => 29 | 4 => 4 | 0 => 0 | n => n, fun | n => n⟩
theorem Try.insI : Go.Proofs.SlLaysF.n20 Try.prog Try.insI_ren := {
  mixed := by kernel_rfl
  f20 := ⟨Try.f242.name, by decide, Try.func242.trans (congrArg some (by kernel_rfl))⟩
  t0 := Try.underlying0
  a0 := Try.isAgg0
  z0 := Try.sizeOf0
  v0 := Try.zeroValue0
  t3 := Try.underlying3
  a3 := Try.isAgg3
  z3 := Try.sizeOf3
  v3 := Try.zeroValue3
  t4 := Try.underlying4
  a4 := Try.isAgg4
  z4 := Try.sizeOf4
  v4 := Try.zeroValue4
  t22 := Try.underlying44
  a22 := Try.isAgg44
  z22 := Try.sizeOf44
  v22 := Try.zeroValue44
  a24 := Try.isAgg3
  z24 := Try.sizeOf3
  t25 := Try.underlying29
  a25 := Try.isAgg29
  z25 := Try.sizeOf29
  v25 := Try.zeroValue29 }
end Go.Proofs

namespace Go.Proofs.Ytonelibgaceflaa
open Classical
set_option linter.unusedVariables false

structure SV where
  f : AV
  l : AV
def SV.cells (s : SV) : List Value := [.bool s.f.six, .int .u64 s.f.hi, .int .u64 s.f.lo, .bool s.l.six, .int .u64 s.l.hi, .int .u64 s.l.lo]
theorem SV.cells_length (s : SV) : s.cells.length = 6 := rfl
structure SV.Ok (s : SV) : Prop where
  f : s.f.Ok
  l : s.l.Ok
  six : s.f.six = s.l.six
  le : s.f.v ≤ s.l.v
def SV.has (s : SV) (six : Bool) (x : Nat) : Prop := s.f.six = six ∧ s.f.v ≤ x ∧ x ≤ s.l.v
/-- One lies ahead of another, with a gap between. -/
def sepS (s t : SV) : Prop := (s.f.six = false ∧ t.f.six = true) ∨ (s.f.six = t.f.six ∧ s.l.v + 1 < t.f.v)
/-- One begins no later than another. -/
def leS (s t : SV) : Prop := (s.f.six = false ∧ t.f.six = true) ∨ (s.f.six = t.f.six ∧ s.f.v ≤ t.f.v)
structure Joined (l : List SV) : Prop where
  sep : l.Pairwise sepS
  ok : ∀ s ∈ l, s.Ok
def hasS (l : List SV) (six : Bool) (x : Nat) : Prop := ∃ s ∈ l, s.has six x
noncomputable def prefixesL (l : List SV) : List PV := l.flatMap fun s => rangeL s.f.six s.f.v s.l.v
def fam (l : List SV) (six : Bool) : List (Nat × Nat) := (l.filter fun s => s.f.six == six).map fun s => (s.f.v, s.l.v)

theorem fam_apart {l : List SV} (h : Joined l) (six : Bool) : Apart (fam l six) := by
  induction l with
  | nil => trivial
  | cons s l ih =>
    have hp := List.pairwise_cons.1 h.sep
    have hl : Joined l := ⟨hp.2, fun t ht => h.ok t (by simp [ht])⟩
    unfold fam
    rw [List.filter_cons]
    by_cases h6 : s.f.six = six
    · rw [if_pos (by simpa using h6), List.map_cons]
      refine ⟨(h.ok s (by simp)).le, fun t ht => ?_, ih hl⟩
      obtain ⟨u, hu, rfl⟩ := List.mem_map.1 ht
      obtain ⟨hu1, hu2⟩ := List.mem_filter.1 hu
      have hu2 : u.f.six = six := by simpa using hu2
      rcases hp.1 u hu1 with ⟨a, b⟩ | ⟨a, b⟩
      · rw [h6] at a; rw [hu2, a] at b; cases b
      · exact b
    · rw [if_neg (by simpa using h6)]
      exact ih hl
theorem fam_in {l : List SV} {six : Bool} {x : Nat} : InL (fam l six) x ↔ hasS l six x := by
  unfold InL fam hasS SV.has InI
  constructor
  · rintro ⟨t, ht, h1, h2⟩
    obtain ⟨u, hu, rfl⟩ := List.mem_map.1 ht
    obtain ⟨hu1, hu2⟩ := List.mem_filter.1 hu
    exact ⟨u, hu1, by simpa using hu2, h1, h2⟩
  · rintro ⟨u, hu, h6, h1, h2⟩
    exact ⟨(u.f.v, u.l.v), List.mem_map.2 ⟨u, List.mem_filter.2 ⟨hu, by simpa using h6⟩, rfl⟩, h1, h2⟩
theorem joined_parts {l : List SV} (h : Joined l) : l = (l.filter fun s => s.f.six == false) ++ (l.filter fun s => s.f.six == true) := by
  induction l with
  | nil => rfl
  | cons s l ih =>
    have hp := List.pairwise_cons.1 h.sep
    have hl : Joined l := ⟨hp.2, fun t ht => h.ok t (by simp [ht])⟩
    have ih := ih hl
    rw [List.filter_cons, List.filter_cons]
    cases h6 : s.f.six with
    | false =>
      rw [if_pos (by rfl), if_neg (by simp), List.cons_append, ← ih]
    | true =>
      have hall : ∀ t ∈ l, t.f.six = true := by
        intro t ht
        rcases hp.1 t ht with ⟨a, b⟩ | ⟨a, b⟩
        · exact b
        · rw [← a]; exact h6
      have h1 : (l.filter fun s => s.f.six == false) = [] := List.filter_eq_nil_iff.2 fun t ht => by rw [hall t ht]; simp
      have h2 : (l.filter fun s => s.f.six == true) = l := List.filter_eq_self.2 fun t ht => by rw [hall t ht]; rfl
      rw [if_neg (by simp), if_pos (by rfl), h1, h2]
      rfl
theorem prefixes_fam {l : List SV} (h : Joined l) (six : Bool) : prefixesL (l.filter fun s => s.f.six == six) = (canon (InL (fam l six)) (widN six) 0).map (ofBlk six) := by
  rw [canon_apart _ _ _ (fam_apart h six)]
  unfold prefixesL fam rangeL
  rw [List.flatMap_map, List.map_flatMap]
  have : ∀ l : List SV, (∀ s ∈ l, s.f.six = six) → (l.flatMap fun s => (canon (InI s.f.v s.l.v) (widN s.f.six) 0).map (ofBlk s.f.six)) = l.flatMap fun s => (canon (InI s.f.v s.l.v) (widN six) 0).map (ofBlk six) := by
    intro l
    induction l with
    | nil => intro _; rfl
    | cons s l ih =>
      intro hl
      rw [List.flatMap_cons, List.flatMap_cons, ih (fun t ht => hl t (by simp [ht])), hl s (by simp)]
  exact this _ fun s hs => by simpa using (List.mem_filter.1 hs).2
theorem joined_set {l : List SV} (h : Joined l) {S : Bool → Nat → Prop} (hS : ∀ six x, x < 2 ^ widN six → (hasS l six x ↔ S six x)) :
    prefixesL l = canonP (S false) ⟨false, 0, 0, 0⟩ ++ canonP (S true) ⟨true, 0, 0, 0⟩ := by
  have key : ∀ six, prefixesL (l.filter fun s => s.f.six == six) = canonP (S six) ⟨six, 0, 0, 0⟩ := by
    intro six
    rw [prefixes_fam h six]
    unfold canonP
    rw [(top_num six).1, (top_num six).2]
    rw [canon_congr (T := S six)]
    intro x _ hx
    rw [fam_in]
    exact hS six x (by omega)
  have hp : prefixesL l = prefixesL (l.filter fun s => s.f.six == false) ++ prefixesL (l.filter fun s => s.f.six == true) := by
    conv => lhs; rw [joined_parts h]
    unfold prefixesL
    rw [List.flatMap_append]
  rw [hp, key false, key true]

/-- One more span behind sorted ones. -/
def joinStep (out : List SV) (s : SV) : List SV :=
  match out.getLast? with
  | none => out ++ [s]
  | some t => if t.f.six = s.f.six ∧ s.f.v ≤ t.l.v + 1 then (if t.l.v < s.l.v then out.dropLast ++ [⟨t.f, s.l⟩] else out) else out ++ [s]
theorem joinStep_law {out : List SV} {s : SV} (h : Joined out) (hs : s.Ok) (hle : ∀ t ∈ out, leS t s) :
    Joined (joinStep out s) ∧ (∀ six x, hasS (joinStep out s) six x ↔ hasS out six x ∨ s.has six x) ∧ ∀ t ∈ joinStep out s, t.f = s.f ∨ ∃ u ∈ out, t.f = u.f := by
  rcases List.eq_nil_or_concat out with rfl | ⟨init, t, rfl⟩
  · refine ⟨⟨by simp [joinStep], fun u hu => by simp [joinStep] at hu; subst hu; exact hs⟩, fun six x => by simp [joinStep, hasS], fun u hu => by simp [joinStep] at hu; subst hu; exact .inl rfl⟩
  rw [List.concat_eq_append] at *
  have hl : (init ++ [t]).getLast? = some t := by simp
  have hd : (init ++ [t]).dropLast = init := by simp
  have ht := h.ok t (by simp)
  have hts := hle t (by simp)
  obtain ⟨hp1, _, hp3⟩ := List.pairwise_append.1 h.sep
  have hpt : ∀ u ∈ init, sepS u t := fun u hu => hp3 u hu t (by simp)
  unfold joinStep
  rw [hl]
  simp only
  by_cases hc : t.f.six = s.f.six ∧ s.f.v ≤ t.l.v + 1
  · rw [if_pos hc]
    have hfv : t.f.v ≤ s.f.v := by
      rcases hts with ⟨a, b⟩ | ⟨a, b⟩
      · rw [hc.1, b] at a; cases a
      · exact b
    by_cases hlt : t.l.v < s.l.v
    · rw [if_pos hlt, hd]
      have hnew : SV.Ok ⟨t.f, s.l⟩ := ⟨ht.f, hs.l, hc.1.trans hs.six, by have := ht.le; show t.f.v ≤ s.l.v; omega⟩
      refine ⟨⟨List.pairwise_append.2 ⟨hp1, by simp, fun u hu v hv => ?_⟩, fun u hu => ?_⟩, fun six x => ?_, fun u hu => ?_⟩
      · obtain rfl := List.mem_singleton.1 hv
        exact hpt u hu
      · rcases List.mem_append.1 hu with hu | hu
        · exact h.ok u (by simp [hu])
        · obtain rfl := List.mem_singleton.1 hu; exact hnew
      · unfold hasS
        simp only [List.mem_append, List.mem_singleton]
        constructor
        · rintro ⟨u, hu | rfl, hx⟩
          · exact .inl ⟨u, .inl hu, hx⟩
          · obtain ⟨a, b, c⟩ := hx
            by_cases hxt : x ≤ t.l.v
            · exact .inl ⟨t, .inr rfl, a, b, hxt⟩
            · exact .inr ⟨hc.1.symm.trans a, by omega, c⟩
        · rintro (⟨u, hu | rfl, hx⟩ | hx)
          · exact ⟨u, .inl hu, hx⟩
          · obtain ⟨a, b, c⟩ := hx
            exact ⟨_, .inr rfl, a, b, by show x ≤ s.l.v; omega⟩
          · obtain ⟨a, b, c⟩ := hx
            exact ⟨_, .inr rfl, hc.1.trans a, by show t.f.v ≤ x; omega, c⟩
      · rcases List.mem_append.1 hu with hu | hu
        · exact .inr ⟨u, by simp [hu], rfl⟩
        · obtain rfl := List.mem_singleton.1 hu
          exact .inr ⟨t, by simp, rfl⟩
    · rw [if_neg hlt]
      refine ⟨h, fun six x => ⟨fun hx => .inl hx, fun hx => ?_⟩, fun u hu => .inr ⟨u, hu, rfl⟩⟩
      rcases hx with hx | ⟨a, b, c⟩
      · exact hx
      · exact ⟨t, by simp, hc.1.trans a, by omega, by omega⟩
  · rw [if_neg hc]
    have hsep : sepS t s := by
      rcases hts with hx | ⟨a, b⟩
      · exact .inl hx
      · refine .inr ⟨a, ?_⟩
        apply Classical.byContradiction
        intro hh
        exact hc ⟨a, by omega⟩
    refine ⟨⟨List.pairwise_append.2 ⟨h.sep, by simp, fun u hu v hv => ?_⟩, fun u hu => ?_⟩, fun six x => ?_, fun u hu => ?_⟩
    · obtain rfl := List.mem_singleton.1 hv
      rcases List.mem_append.1 hu with hu | hu
      · have h1 := hpt u hu
        have hu2 := h.ok u (by simp [hu])
        rcases h1 with ⟨a, b⟩ | ⟨a, b⟩
        · rcases hsep with ⟨c, d⟩ | ⟨c, d⟩
          · exact .inl ⟨a, d⟩
          · exact .inl ⟨a, by rw [← c]; exact b⟩
        · rcases hsep with ⟨c, d⟩ | ⟨c, d⟩
          · exact .inl ⟨by rw [a]; exact c, d⟩
          · have := ht.le
            exact .inr ⟨a.trans c, by omega⟩
      · obtain rfl := List.mem_singleton.1 hu; exact hsep
    · rcases List.mem_append.1 hu with hu | hu
      · exact h.ok u hu
      · obtain rfl := List.mem_singleton.1 hu; exact hs
    · unfold hasS
      simp only [List.mem_append, List.mem_singleton]
      constructor
      · rintro ⟨u, hu | rfl, hx⟩
        · exact .inl ⟨u, hu, hx⟩
        · exact .inr hx
      · rintro (⟨u, hu, hx⟩ | hx)
        · exact ⟨u, .inl hu, hx⟩
        · exact ⟨s, .inr rfl, hx⟩
    · rcases List.mem_append.1 hu with hu | hu
      · exact .inr ⟨u, hu, rfl⟩
      · obtain rfl := List.mem_singleton.1 hu; exact .inl rfl

/-- The span of a prefix. -/
def spanP (p : PV) : SV := ⟨p.a, p.last⟩
theorem spanP_ok {p : PV} (hp : p.Ok) : (spanP p).Ok := by
  have hln := last_num hp
  have hpp := Nat.two_pow_pos p.k
  exact ⟨hp.addr, PV.last_ok p, rfl, by show p.v ≤ p.last.v; omega⟩
theorem spanP_has {p : PV} (hp : p.Ok) (six : Bool) (x : Nat) : (spanP p).has six x ↔ p.has six x := by
  have hln := last_num hp
  have hpp := Nat.two_pow_pos p.k
  have e1 : (spanP p).f.six = p.six := rfl
  have e2 : (spanP p).f.v = p.v := rfl
  have e3 : (spanP p).l.v = p.last.v := rfl
  unfold SV.has PV.has
  rw [e1, e2, e3, hln]
  constructor
  · rintro ⟨a, b, c⟩; exact ⟨a, b, by omega⟩
  · rintro ⟨a, b, c⟩; exact ⟨a, b, by omega⟩
def joinL (l : List PV) : List SV := l.foldl (fun out p => joinStep out (spanP p)) []
theorem joinL_snoc (l : List PV) (p : PV) : joinL (l ++ [p]) = joinStep (joinL l) (spanP p) := by unfold joinL; rw [List.foldl_append]; rfl
/-- One prefix begins no later than another. -/
def leP (p q : PV) : Prop := (p.six = false ∧ q.six = true) ∨ (p.six = q.six ∧ p.v ≤ q.v)
theorem joinL_law : ∀ (l : List PV), (∀ p ∈ l, p.Ok) → l.Pairwise leP → Joined (joinL l) ∧ (∀ six x, hasS (joinL l) six x ↔ hasL l six x) ∧ ∀ t ∈ joinL l, ∃ p ∈ l, t.f = p.a := by
  intro l
  induction hn : l.length generalizing l with
  | zero =>
    intro _ _
    have : l = [] := List.eq_nil_of_length_eq_zero hn
    subst this
    exact ⟨⟨by simp [joinL], fun s hs => by simp [joinL] at hs⟩, fun six x => by simp [joinL, hasS, hasL], fun t ht => by simp [joinL] at ht⟩
  | succ n ih =>
    intro hok hsort
    rcases List.eq_nil_or_concat l with rfl | ⟨l', p, rfl⟩
    · simp at hn
    rw [List.concat_eq_append] at *
    obtain ⟨hp1, _, hp3⟩ := List.pairwise_append.1 hsort
    obtain ⟨j1, j2, j3⟩ := ih l' (by simpa using hn) (fun q hq => hok q (by simp [hq])) hp1
    have hp := hok p (by simp)
    obtain ⟨k1, k2, k3⟩ := joinStep_law j1 (spanP_ok hp) (fun t ht => by
      obtain ⟨q, hq, he⟩ := j3 t ht
      have := hp3 q hq p (by simp)
      unfold leS
      rw [he]
      exact this)
    rw [joinL_snoc]
    refine ⟨k1, fun six x => ?_, fun t ht => ?_⟩
    · rw [k2, j2, spanP_has hp]
      unfold hasL
      simp only [List.mem_append, List.mem_singleton]
      constructor
      · rintro (⟨q, hq, hx⟩ | hx)
        · exact ⟨q, .inl hq, hx⟩
        · exact ⟨p, .inr rfl, hx⟩
      · rintro ⟨q, hq | rfl, hx⟩
        · exact .inl ⟨q, hq, hx⟩
        · exact .inr hx
    · rcases k3 t ht with he | ⟨u, hu, he⟩
      · exact ⟨p, by simp, he⟩
      · obtain ⟨q, hq, he2⟩ := j3 u hu
        exact ⟨q, by simp [hq], he.trans he2⟩
/-- Sorted prefixes, joined and cut again: the prefixes that the document says. -/
theorem merge_law {l l' : List PV} (hok : ∀ p ∈ l, p.Ok) (hsort : l'.Pairwise leP) (hmem : ∀ p, p ∈ l' ↔ p ∈ l) : prefixesL (joinL l') = walkL (fun a _ => a) l [] ⟨false, 0, 0, 0⟩ ++ walkL (fun a _ => a) l [] ⟨true, 0, 0, 0⟩ := by
  obtain ⟨j1, j2, _⟩ := joinL_law l' (fun p hp => hok p ((hmem p).1 hp)) hsort
  refine joined_set j1 (S := fun six => setOf (fun a _ => a) l [] six) fun six x _ => ?_
  rw [j2]
  unfold setOf
  rw [decide_eq_true_iff]
  constructor
  · rintro ⟨q, hq, hx⟩; exact ⟨q, (hmem q).1 hq, hx⟩
  · rintro ⟨q, hq, hx⟩; exact ⟨q, (hmem q).2 hq, hx⟩

end Go.Proofs.Ytonelibgaceflaa

namespace Go.Proofs.Ytonelibgaceflaa
open Go.ChangeShapes Go.WideShapes Go.ChangeAt Go.RowKit

/-- How two prefixes stand in their order. -/
def ordP (p q : PV) : Int := if lessB p.a q.a then -1 else if lessB q.a p.a then 1 else p.n - q.n

set_option maxRecDepth 100000 in
set_option maxHeartbeats 1600000 in
theorem order_any (six : Bool) (hi lo n : Int) (six' : Bool) (hi' lo' n' : Int) (w : World) (h1 : 0 ≤ n ∧ n ≤ 128) (h2 : 0 ≤ n' ∧ n' ≤ 128) :
    Calls Try.prog 132 #[.agg #[.bool six, .int .u64 hi, .int .u64 lo, .int .i64 n], .agg #[.bool six', .int .u64 hi', .int .u64 lo', .int .i64 n']] w fun e w' => e = .returned (.int .i64 (ordP ⟨six, hi, lo, n⟩ ⟨six', hi', lo', n'⟩)) ∧ Below w.heap.size w w' := by
  have C1 := Lib.hid (fun w => less_any six hi lo six' hi' lo' w)
  have C2 := Lib.hid (fun w => less_any six' hi' lo' six hi lo w)
  have hr : ordP ⟨six, hi, lo, n⟩ ⟨six', hi', lo', n'⟩ = if lessB ⟨six, hi, lo⟩ ⟨six', hi', lo'⟩ then -1 else if lessB ⟨six', hi', lo'⟩ ⟨six, hi, lo⟩ then 1 else n - n' := rfl
  rw [hr]
  clear hr
  have hsub : IntKind.i64.wrap (n - n') = n - n' := IntWalk.i64_in (n - n') (by omega)
  generalize lessB ⟨six, hi, lo⟩ ⟨six', hi', lo'⟩ = b1 at *
  generalize lessB ⟨six', hi', lo'⟩ ⟨six, hi, lo⟩ = b2 at *
  have hb0 := Lib.hid ((((Below.refl w.heap.size w).alloc (Nat.le_refl _) (.cells #[.bool six, .int .u64 hi, .int .u64 lo, .int .i64 n] 35)).alloc (by simp) (.cells #[.bool six', .int .u64 hi', .int .u64 lo', .int .i64 n'] 35)))
  cases b1
  · cases b2
    · obtain ⟨r, hrr⟩ : ∃ r, n - n' = r := ⟨_, rfl⟩
      rw [hrr] at hsub
      simp only [Bool.false_eq_true, ↓reduceIte, hrr]
      go_enter Try.func132, Try.ntmps132
      go_wp2_with fail
      refine (C1.out _).mono ?_
      rintro e w3 ⟨rfl, hb3⟩
      obtain ⟨fc3, ff3⟩ := bcell hb3
      have hz3 := hb3.size
      try simp at hz3
      have HB3 := Lib.hid (below_step hb0.out (by simpa using hb3))
      clear hb3
      have sa : w.heap.size < w3.heap.size := by omega
      have sb : w.heap.size + 1 < w3.heap.size := by omega
      go_wp2_with fail
      refine (C2.out _).mono ?_
      rintro e w4 ⟨rfl, hb4⟩
      obtain ⟨fc4, ff4⟩ := bcell hb4
      have hz4 := hb4.size
      try simp at hz4
      have HB4 := Lib.hid (below_step HB3.out (by simpa using hb4))
      clear hb4
      go_wp2
      go_ret
      exact ⟨rfl, by (repeat' first | with_reducible exact HB4.out | with_reducible exact HB3.out | with_reducible exact hb0.out | with_reducible exact Below.refl _ _ | with_reducible refine Below.drew ?_ | with_reducible refine below_drewN ?_ _ | with_reducible refine Below.setCell ?_ ?_ _ | with_reducible refine Below.alloc ?_ ?_ _ | (simp; done) | (simp; omega) | omega)⟩
    · simp only [Bool.false_eq_true, ↓reduceIte]
      go_enter Try.func132, Try.ntmps132
      go_wp2_with fail
      refine (C1.out _).mono ?_
      rintro e w3 ⟨rfl, hb3⟩
      obtain ⟨fc3, ff3⟩ := bcell hb3
      have hz3 := hb3.size
      try simp at hz3
      have HB3 := Lib.hid (below_step hb0.out (by simpa using hb3))
      clear hb3
      have sa : w.heap.size < w3.heap.size := by omega
      have sb : w.heap.size + 1 < w3.heap.size := by omega
      go_wp2_with fail
      refine (C2.out _).mono ?_
      rintro e w4 ⟨rfl, hb4⟩
      obtain ⟨fc4, ff4⟩ := bcell hb4
      have hz4 := hb4.size
      try simp at hz4
      have HB4 := Lib.hid (below_step HB3.out (by simpa using hb4))
      clear hb4
      go_wp2
      go_ret
      exact ⟨rfl, by (repeat' first | with_reducible exact HB4.out | with_reducible exact HB3.out | with_reducible exact hb0.out | with_reducible exact Below.refl _ _ | with_reducible refine Below.drew ?_ | with_reducible refine below_drewN ?_ _ | with_reducible refine Below.setCell ?_ ?_ _ | with_reducible refine Below.alloc ?_ ?_ _ | (simp; done) | (simp; omega) | omega)⟩
  · simp only [↓reduceIte]
    go_enter Try.func132, Try.ntmps132
    go_wp2_with fail
    refine (C1.out _).mono ?_
    rintro e w3 ⟨rfl, hb3⟩
    obtain ⟨fc3, ff3⟩ := bcell hb3
    have hz3 := hb3.size
    try simp at hz3
    have HB3 := Lib.hid (below_step hb0.out (by simpa using hb3))
    clear hb3
    go_wp2
    go_ret
    exact ⟨rfl, by (repeat' first | with_reducible exact HB3.out | with_reducible exact hb0.out | with_reducible exact Below.refl _ _ | with_reducible refine Below.drew ?_ | with_reducible refine below_drewN ?_ _ | with_reducible refine Below.setCell ?_ ?_ _ | with_reducible refine Below.alloc ?_ ?_ _ | (simp; done) | (simp; omega) | omega)⟩

set_option maxRecDepth 100000 in
set_option maxHeartbeats 1600000 in
theorem end_any (six : Bool) (hi lo : Int) (w : World) (h1 : 0 ≤ hi ∧ hi < 18446744073709551616) (h2 : 0 ≤ lo ∧ lo < 18446744073709551616) :
    Calls Try.prog 198 #[.agg #[.bool six, .int .u64 hi, .int .u64 lo]] w fun e w' => e = .returned (.bool (!plusOk six hi lo 1)) ∧ Below w.heap.size w w' := by
  have CP := Lib.hid (fun w => plus_any six hi lo 1 w h1 h2 (by omega))
  generalize plusHi hi lo 1 = ph at *
  generalize plusLo hi lo 1 = pl at *
  generalize plusOk six hi lo 1 = po at *
  have hb0 := Lib.hid ((Below.refl w.heap.size w).alloc (Nat.le_refl _) (.cells #[.bool six, .int .u64 hi, .int .u64 lo] 24))
  go_enter Try.func198, Try.ntmps198
  go_wp2_with fail
  refine (CP.out _).mono ?_
  rintro e w3 ⟨rfl, hb3⟩
  have HB3 := Lib.hid (below_step hb0.out hb3)
  have hz3 := HB3.out.size
  clear hb3
  go_wp2
  go_ret
  exact ⟨rfl, by (repeat' first | with_reducible exact HB3.out | with_reducible exact hb0.out | with_reducible exact Below.refl _ _ | with_reducible refine Below.drew ?_ | with_reducible refine below_drewN ?_ _ | with_reducible refine Below.setCell ?_ ?_ _ | with_reducible refine Below.alloc ?_ ?_ _ | (simp; done) | (simp; omega) | omega)⟩

end Go.Proofs.Ytonelibgaceflaa

namespace Go.Proofs.Ytonelibgaceflaa

structure ActV where
  kind : Int
  p : PV
  hop : Int
  a : AV
structure AnsV where
  code : Int
  hop : Int
  len : Int

def delR (l : List RouteV) (p : PV) : List RouteV := l.filter fun r => decide (¬ r.p = p)
def setR (l : List RouteV) (p : PV) (hop : Int) : List RouteV := if hasR l p = true then l.map (fun r => if r.p = p then ⟨p, hop⟩ else r) else l ++ [⟨p, hop⟩]

theorem hasR_iff {l : List RouteV} {p : PV} : hasR l p = true ↔ ∃ r ∈ l, r.p = p := by
  unfold hasR
  simp [List.any_eq_true]
theorem hasR_get {l : List RouteV} {p : PV} (hv : ∀ r ∈ l, 1 ≤ r.hop) : hasR l p = true ↔ ¬ getR l p = 0 := by
  constructor
  · exact getR_some hv
  · intro h
    cases hh : hasR l p with
    | true => rfl
    | false => exact absurd (getR_none hh) h

theorem getR_del (l : List RouteV) (p p' : PV) : getR (delR l p) p' = if p' = p then 0 else getR l p' := by
  induction l with
  | nil => unfold delR getR; simp
  | cons r l ih =>
    unfold delR at ih ⊢
    rw [List.filter_cons]
    by_cases h : r.p = p
    · rw [if_neg (by simp [h]), ih]
      conv => rhs; rhs; unfold getR
      by_cases e : p' = p
      · rw [if_pos e, if_pos e]
      · rw [if_neg e, if_neg e, if_neg (fun h' => e (h'.symm.trans h))]
    · rw [if_pos (by simp [h])]
      show (if r.p = p' then r.hop else getR (l.filter _) p') = _
      rw [ih]
      conv => rhs; rhs; unfold getR
      by_cases e : r.p = p'
      · rw [if_pos e, if_neg (fun h' => h (e.trans h')), if_pos e]
      · rw [if_neg e, if_neg e]
theorem del_none {l : List RouteV} {p : PV} (h : hasR l p = false) : delR l p = l := by
  unfold delR
  refine List.filter_eq_self.2 fun r hr => ?_
  unfold hasR at h
  rw [List.any_eq_false] at h
  simpa using h r hr
theorem del_length {l : List RouteV} {p : PV} (hn : (l.map RouteV.p).Nodup) (h : hasR l p = true) : (delR l p).length + 1 = l.length := by
  induction l with
  | nil => simp [hasR] at h
  | cons r l ih =>
    rw [List.map_cons, List.nodup_cons] at hn
    by_cases e : r.p = p
    · have : hasR l p = false := by
        cases hh : hasR l p with
        | false => rfl
        | true =>
          obtain ⟨x, hx, hx2⟩ := hasR_iff.1 hh
          exact absurd (List.mem_map.2 ⟨x, hx, hx2.trans e.symm⟩) hn.1
      have hd := del_none this
      unfold delR at hd ⊢
      rw [List.filter_cons, if_neg (by simp [e]), hd, List.length_cons]
    · have h2 : hasR l p = true := by
        obtain ⟨x, hx, hx2⟩ := hasR_iff.1 h
        rcases List.mem_cons.1 hx with rfl | hx
        · exact absurd hx2 e
        · exact hasR_iff.2 ⟨x, hx, hx2⟩
      have := ih hn.2 h2
      unfold delR at this ⊢
      rw [List.filter_cons, if_pos (by simp [e]), List.length_cons, List.length_cons]
      omega
theorem valid_del {l : List RouteV} (hv : Valid l) (p : PV) : Valid (delR l p) :=
  ⟨fun r hr => hv.1 r (List.mem_filter.1 hr).1, hv.2.sublist (List.filter_sublist.map _)⟩

theorem getR_map {l : List RouteV} {p : PV} {hop : Int} (h : hasR l p = true) (p' : PV) : getR (l.map fun r => if r.p = p then ⟨p, hop⟩ else r) p' = if p' = p then hop else getR l p' := by
  induction l with
  | nil => simp [hasR] at h
  | cons r l ih =>
    rw [List.map_cons]
    by_cases e : r.p = p
    · rw [if_pos e]
      show (if p = p' then hop else getR _ p') = _
      by_cases e' : p' = p
      · rw [if_pos e', if_pos e'.symm]
      · rw [if_neg e', if_neg (fun x => e' x.symm)]
        conv => rhs; unfold getR
        rw [if_neg (fun x => e' (x.symm.trans e))]
        cases hh : hasR l p with
        | true => rw [ih hh, if_neg e']
        | false =>
          congr 1
          conv => rhs; rw [← List.map_id l]
          refine List.map_congr_left fun x hx => ?_
          unfold hasR at hh
          rw [List.any_eq_false] at hh
          rw [if_neg (by simpa using hh x hx)]
          rfl
    · rw [if_neg e]
      show (if r.p = p' then r.hop else getR _ p') = _
      have h2 : hasR l p = true := by
        obtain ⟨x, hx, hx2⟩ := hasR_iff.1 h
        rcases List.mem_cons.1 hx with rfl | hx
        · exact absurd hx2 e
        · exact hasR_iff.2 ⟨x, hx, hx2⟩
      rw [ih h2]
      conv => rhs; rhs; unfold getR
      by_cases e' : r.p = p'
      · rw [if_pos e', if_neg (fun x => e (e'.trans x)), if_pos e']
      · rw [if_neg e', if_neg e']
theorem getR_set (l : List RouteV) (p : PV) (hop : Int) (p' : PV) : getR (setR l p hop) p' = if p' = p then hop else getR l p' := by
  unfold setR
  by_cases h : hasR l p = true
  · rw [if_pos h]; exact getR_map h p'
  · rw [if_neg h]; exact getR_snoc (by simpa using h)
theorem map_p (l : List RouteV) (p : PV) (hop : Int) : (l.map fun r => if r.p = p then (⟨p, hop⟩ : RouteV) else r).map RouteV.p = l.map RouteV.p := by
  rw [List.map_map]
  refine List.map_congr_left fun r _ => ?_
  by_cases e : r.p = p
  · simp [e]
  · simp [e]
theorem valid_set {l : List RouteV} (hv : Valid l) {p : PV} {hop : Int} (hp : p.Ok) (hh : 1 ≤ hop ∧ hop ≤ 999) : Valid (setR l p hop) := by
  unfold setR
  by_cases h : hasR l p = true
  · rw [if_pos h]
    refine ⟨fun r hr => ?_, by rw [map_p]; exact hv.2⟩
    obtain ⟨x, hx, rfl⟩ := List.mem_map.1 hr
    by_cases e : x.p = p
    · rw [if_pos e]; exact ⟨hp, hh.1, hh.2⟩
    · rw [if_neg e]; exact hv.1 x hx
  · rw [if_neg h]; exact valid_snoc hv hp hh (by simpa using h)
theorem set_length (l : List RouteV) (p : PV) (hop : Int) : (setR l p hop).length = if hasR l p = true then l.length else l.length + 1 := by
  unfold setR
  split <;> simp

/-- What an act comes to. -/
def doA (l : List RouteV) (a : ActV) : AnsV :=
  if a.kind < 1 ∨ 4 < a.kind then ⟨3, 0, 0⟩
  else if a.kind = 3 then (if mayB a.a.six a.a.hi a.a.lo = false then ⟨4, 0, 0⟩ else ⟨0, (goesR l a.a.six a.a.hi a.a.lo).1, (goesR l a.a.six a.a.hi a.a.lo).2⟩)
  else if ¬ a.p.chk = 0 then ⟨a.p.chk, 0, 0⟩
  else if a.kind = 2 then (if getR l a.p = 0 then ⟨7, 0, 0⟩ else ⟨0, getR l a.p, 0⟩)
  else if a.kind = 4 then (if getR l a.p = 0 then ⟨7, 0, 0⟩ else ⟨0, getR l a.p, a.p.n⟩)
  else if a.hop < 1 ∨ 999 < a.hop then ⟨2, 0, 0⟩
  else if l.length = 60 ∧ getR l a.p = 0 then ⟨9, 0, 0⟩
  else ⟨0, getR l a.p, 0⟩
/-- The routes behind an act. -/
def doL (l : List RouteV) (a : ActV) : List RouteV :=
  if ¬ (a.kind = 1 ∨ a.kind = 2) then l
  else if ¬ a.p.chk = 0 then l
  else if a.kind = 2 then delR l a.p
  else if a.hop < 1 ∨ 999 < a.hop then l
  else if l.length = 60 ∧ getR l a.p = 0 then l
  else setR l a.p a.hop

end Go.Proofs.Ytonelibgaceflaa

namespace Go.Proofs.Ytonelibgaceflaa
set_option linter.unusedVariables false

def routesT : Tr → List RouteV
  | .nil => []
  | .node _ q h l r => (if h = 0 then [] else [⟨q, h⟩]) ++ (routesT l ++ routesT r)
/-- One prefix stands ahead of another. -/
def ltP (p q : PV) : Prop := lessB p.a q.a = true ∨ (p.a = q.a ∧ p.n < q.n)

theorem lessB_six {a b : AV} (h1 : a.six = false) (h2 : b.six = true) : lessB a b = true := by
  unfold lessB
  rw [if_neg (by rw [h1, h2]; simp)]
  exact h2
theorem lessB_num {a b : AV} (ha : a.Ok) (hb : b.Ok) : lessB a b = true ↔ (a.six = false ∧ b.six = true) ∨ (a.six = b.six ∧ a.v < b.v) := by
  by_cases h6 : a.six = b.six
  · rw [less_num ha hb h6]
    constructor
    · intro h; exact .inr ⟨h6, h⟩
    · rintro (⟨h1, h2⟩ | ⟨_, h⟩)
      · rw [h6, h2] at h1; cases h1
      · exact h
  · unfold lessB
    rw [if_neg h6]
    cases h1 : a.six <;> cases h2 : b.six <;> simp_all
theorem ltP_num {p q : PV} (hp : p.Ok) (hq : q.Ok) : ltP p q ↔ (p.six = false ∧ q.six = true) ∨ (p.six = q.six ∧ (p.v < q.v ∨ p.v = q.v ∧ p.n < q.n)) := by
  unfold ltP
  rw [lessB_num hp.addr hq.addr]
  show (((p.six = false ∧ q.six = true) ∨ (p.six = q.six ∧ p.v < q.v)) ∨ (p.a = q.a ∧ p.n < q.n)) ↔ _
  constructor
  · rintro ((h | ⟨h, h'⟩) | ⟨h, h'⟩)
    · exact .inl h
    · exact .inr ⟨h, .inl h'⟩
    · exact .inr ⟨congrArg AV.six h, .inr ⟨congrArg AV.v h, h'⟩⟩
  · rintro (h | ⟨h, h' | ⟨h', h''⟩⟩)
    · exact .inl (.inl h)
    · exact .inl (.inr ⟨h, h'⟩)
    · exact .inr ⟨AV.v_inj hp.addr hq.addr h h', h''⟩
theorem ltP_irrefl {p : PV} (hp : p.Ok) : ¬ ltP p p := by
  rw [ltP_num hp hp]
  rintro (⟨h1, h2⟩ | ⟨_, h | ⟨_, h⟩⟩)
  · rw [h1] at h2; cases h2
  · omega
  · omega
theorem ltP_asymm {p q : PV} (hp : p.Ok) (hq : q.Ok) (h : ltP p q) : ¬ ltP q p := by
  rw [ltP_num hp hq] at h
  rw [ltP_num hq hp]
  rintro (⟨h1, h2⟩ | ⟨h6, h'⟩)
  · rcases h with ⟨h3, h4⟩ | ⟨h6, _⟩
    · rw [h2] at h3; cases h3
    · rw [h1, h2] at h6; cases h6
  · rcases h with ⟨h3, h4⟩ | ⟨_, h⟩
    · rw [h3, h4] at h6; cases h6
    · omega
theorem ltP_trans {p q r : PV} (hp : p.Ok) (hq : q.Ok) (hr : r.Ok) (h : ltP p q) (h' : ltP q r) : ltP p r := by
  rw [ltP_num hp hq] at h
  rw [ltP_num hq hr] at h'
  rw [ltP_num hp hr]
  rcases h with ⟨a, b⟩ | ⟨a, b⟩ <;> rcases h' with ⟨c, d⟩ | ⟨c, d⟩
  · exact .inl ⟨a, d⟩
  · exact .inl ⟨a, by rw [← c]; exact b⟩
  · exact .inl ⟨by rw [a]; exact c, d⟩
  · exact .inr ⟨a.trans c, by omega⟩
theorem ltP_total {p q : PV} (hp : p.Ok) (hq : q.Ok) (h1 : ¬ ltP p q) (h2 : ¬ ltP q p) : p = q := by
  rw [ltP_num hp hq] at h1
  rw [ltP_num hq hp] at h2
  have h6 : p.six = q.six := by
    cases e1 : p.six <;> cases e2 : q.six <;> simp_all
  have hv : p.v = q.v := by
    rcases Nat.lt_trichotomy p.v q.v with h | h | h
    · exact absurd (.inr ⟨h6, .inl h⟩) h1
    · exact h
    · exact absurd (.inr ⟨h6.symm, .inl h⟩) h2
  have hn : p.n = q.n := by
    rcases Int.lt_trichotomy p.n q.n with h | h | h
    · exact absurd (.inr ⟨h6, .inr ⟨hv, h⟩⟩) h1
    · exact h
    · exact absurd (.inr ⟨h6.symm, .inr ⟨hv.symm, h⟩⟩) h2
  have ha := AV.v_inj hp.addr hq.addr h6 hv
  have e1 := congrArg AV.hi ha
  have e2 := congrArg AV.lo ha
  exact PV.ext' h6 e1 e2 hn

theorem under_lt {q x : PV} {b : Bool} (hq : q.Ok) (hx : x.Ok) (h : Under q b x) : ltP q x := by
  obtain ⟨h1, h2, _⟩ := h
  obtain ⟨a, b, _⟩ := (over_num hq hx).1 h2
  rw [ltP_num hq hx]
  refine .inr ⟨a, ?_⟩
  rcases Nat.lt_or_ge q.v x.v with h | h
  · exact .inl h
  · exact .inr ⟨by omega, h1⟩
theorem under_two {q x y : PV} (hq : q.Ok) (hx : x.Ok) (hy : y.Ok) (h : Under q true x) (h' : Under q false y) : ltP x y := by
  obtain ⟨a1, a2, a3⟩ := h
  obtain ⟨b1, b2, b3⟩ := h'
  obtain ⟨s1, l1, u1⟩ := (over_num hq hx).1 a2
  obtain ⟨s2, l2, u2⟩ := (over_num hq hy).1 b2
  obtain ⟨k1, k2⟩ := PV.k_le hq
  obtain ⟨x1, x2⟩ := PV.k_le hx
  obtain ⟨y1, y2⟩ := PV.k_le hy
  have hk0 : 0 < q.k := by rw [s1] at k2; omega
  obtain ⟨m, hm⟩ : ∃ m, q.k = m + 1 := ⟨q.k - 1, by omega⟩
  have hd := PV.dvd hq
  rw [hm] at hd u1 u2
  obtain ⟨c, hc⟩ := hd
  have hqn : q.n = ((widN q.six - 1 - m : Nat) : Int) := by omega
  have hlt : widN q.six - 1 - m < widN q.six := by omega
  have ex := AV.bitN hx.addr (i := widN q.six - 1 - m) (by show _ < widN x.six; rw [← s1]; exact hlt)
  have ey := AV.bitN hy.addr (i := widN q.six - 1 - m) (by show _ < widN y.six; rw [← s2]; exact hlt)
  have bx : PV.bit x q.n = 0 := a3.2 rfl
  have by' : ¬ PV.bit y q.n = 0 := fun e => by cases b3.1 e
  have ex' : PV.bit x q.n = ((x.v / 2 ^ (widN x.six - 1 - (widN q.six - 1 - m)) % 2 : Nat) : Int) := by rw [hqn]; exact ex
  have ey' : PV.bit y q.n = ((y.v / 2 ^ (widN y.six - 1 - (widN q.six - 1 - m)) % 2 : Nat) : Int) := by rw [hqn]; exact ey
  rw [← s1, show widN q.six - 1 - (widN q.six - 1 - m) = m by omega] at ex'
  rw [← s2, show widN q.six - 1 - (widN q.six - 1 - m) = m by omega] at ey'
  rw [ex'] at bx
  rw [ey'] at by'
  have hpx := Nat.two_pow_pos x.k
  have hpy := Nat.two_pow_pos y.k
  have hpm := Nat.two_pow_pos m
  have e2 : 2 ^ (m + 1) = 2 ^ m + 2 ^ m := by rw [Nat.pow_succ]; omega
  rw [e2] at hc u1 u2
  rw [ltP_num hx hy]
  refine .inr ⟨s1.symm.trans s2, .inl ?_⟩
  apply Classical.byContradiction
  intro hge
  -- both in the same half
  have dx : x.v / 2 ^ m = 2 * c ∨ x.v / 2 ^ m = 2 * c + 1 := by
    have h1 : x.v / 2 ^ m * 2 ^ m ≤ x.v := Nat.div_mul_le_self _ _
    have h2 : x.v < (x.v / 2 ^ m + 1) * 2 ^ m := by rw [Nat.mul_comm]; exact Nat.lt_mul_div_succ _ hpm
    have hcv : q.v = 2 * c * 2 ^ m := by rw [hc, Nat.add_mul, Nat.mul_comm 2 c, Nat.mul_assoc, Nat.two_mul, Nat.mul_add, Nat.mul_comm c]
    have h3 : 2 * c * 2 ^ m < (x.v / 2 ^ m + 1) * 2 ^ m := by omega
    have h4 : x.v / 2 ^ m * 2 ^ m < (2 * c + 2) * 2 ^ m := by rw [Nat.add_mul]; omega
    have h5 := Nat.lt_of_mul_lt_mul_right h3
    have h6 := Nat.lt_of_mul_lt_mul_right h4
    omega
  have dy : y.v / 2 ^ m = 2 * c ∨ y.v / 2 ^ m = 2 * c + 1 := by
    have h1 : y.v / 2 ^ m * 2 ^ m ≤ y.v := Nat.div_mul_le_self _ _
    have h2 : y.v < (y.v / 2 ^ m + 1) * 2 ^ m := by rw [Nat.mul_comm]; exact Nat.lt_mul_div_succ _ hpm
    have hcv : q.v = 2 * c * 2 ^ m := by rw [hc, Nat.add_mul, Nat.mul_comm 2 c, Nat.mul_assoc, Nat.two_mul, Nat.mul_add, Nat.mul_comm c]
    have h3 : 2 * c * 2 ^ m < (y.v / 2 ^ m + 1) * 2 ^ m := by omega
    have h4 : y.v / 2 ^ m * 2 ^ m < (2 * c + 2) * 2 ^ m := by rw [Nat.add_mul]; omega
    have h5 := Nat.lt_of_mul_lt_mul_right h3
    have h6 := Nat.lt_of_mul_lt_mul_right h4
    omega
  have hle : y.v / 2 ^ m ≤ x.v / 2 ^ m := Nat.div_le_div_right (by omega)
  omega

/-- All routes of a tree keep what its places keep. -/
theorem routes_all {six : Bool} : ∀ (t : Tr) (U : PV → Prop), (∀ x y b, x.Ok → y.Ok → U x → Under x b y → U y) → Inv six U t → ∀ r ∈ routesT t, r.p.Ok ∧ r.p.six = six ∧ U r.p ∧ 1 ≤ r.hop ∧ r.hop ≤ 999 := by
  intro t
  induction t with
  | nil => intro U _ _ r hr; simp [routesT] at hr
  | node g q h l r ihl ihr =>
    intro U hc hi x hx
    obtain ⟨hq, h6, hU, hh, hl, hr⟩ := hi
    have cl : ∀ b, ∀ x y b', x.Ok → y.Ok → Under q b x → Under x b' y → Under q b y := by
      intro b x y b' hx hy hU hV
      refine ⟨by have := hU.1; have := hV.1; omega, over_trans hq hx hy hU.2.1 hV.2.1, ?_⟩
      rw [← over_bit hx hy hV.2.1 (ok_n hq).1 hU.1]
      exact hU.2.2
    unfold routesT at hx
    rcases List.mem_append.1 hx with hx | hx
    · by_cases h0 : h = 0
      · rw [if_pos h0] at hx; cases hx
      · rw [if_neg h0, List.mem_singleton] at hx
        subst hx
        exact ⟨hq, h6, hU, by show 1 ≤ h; omega, hh.2⟩
    · rcases List.mem_append.1 hx with hx | hx
      · obtain ⟨a, b, c, d⟩ := ihl _ (cl true) hl x hx
        exact ⟨a, b, hc q x.p true hq a hU c, d⟩
      · obtain ⟨a, b, c, d⟩ := ihr _ (cl false) hr x hx
        exact ⟨a, b, hc q x.p false hq a hU c, d⟩
theorem under_closed {q : PV} (hq : q.Ok) (b : Bool) : ∀ x y b', x.Ok → y.Ok → Under q b x → Under x b' y → Under q b y := by
  intro x y b' hx hy hU hV
  refine ⟨by have := hU.1; have := hV.1; omega, over_trans hq hx hy hU.2.1 hV.2.1, ?_⟩
  rw [← over_bit hx hy hV.2.1 (ok_n hq).1 hU.1]
  exact hU.2.2
theorem routes_sorted {six : Bool} : ∀ (t : Tr) (U : PV → Prop), Inv six U t → (routesT t).Pairwise fun x y => ltP x.p y.p := by
  intro t
  induction t with
  | nil => intro U _; exact List.Pairwise.nil
  | node g q h l r ihl ihr =>
    intro U hi
    obtain ⟨hq, h6, hU, hh, hl, hr⟩ := hi
    have al := routes_all l _ (under_closed hq true) hl
    have ar := routes_all r _ (under_closed hq false) hr
    unfold routesT
    rw [List.pairwise_append]
    refine ⟨?_, ?_, ?_⟩
    · by_cases h0 : h = 0
      · rw [if_pos h0]; exact List.Pairwise.nil
      · rw [if_neg h0]; exact List.pairwise_singleton _ _
    · rw [List.pairwise_append]
      exact ⟨ihl _ hl, ihr _ hr, fun x hx y hy => under_two hq (al x hx).1 (ar y hy).1 (al x hx).2.2.1 (ar y hy).2.2.1⟩
    · intro x hx y hy
      by_cases h0 : h = 0
      · rw [if_pos h0] at hx; cases hx
      · rw [if_neg h0, List.mem_singleton] at hx
        subst hx
        rcases List.mem_append.1 hy with hy | hy
        · exact under_lt hq (al y hy).1 (al y hy).2.2.1
        · exact under_lt hq (ar y hy).1 (ar y hy).2.2.1
/-- They are those that are there. -/
theorem routes_mem {six : Bool} : ∀ (t : Tr) (U : PV → Prop), Inv six U t → ∀ x : RouteV, x.p.Ok → (x ∈ routesT t ↔ ¬ x.hop = 0 ∧ hopAt t x.p = x.hop) := by
  intro t
  induction t with
  | nil =>
    intro U _ x _
    constructor
    · intro h; simp [routesT] at h
    · rintro ⟨h1, h2⟩; exact absurd h2.symm h1
  | node g q h l r ihl ihr =>
    intro U hi x hx
    obtain ⟨hq, h6, hU, hh, hl, hr⟩ := hi
    have al := routes_all l _ (under_closed hq true) hl
    have ar := routes_all r _ (under_closed hq false) hr
    have il := ihl _ hl x hx
    have ir := ihr _ hr x hx
    unfold routesT
    rw [List.mem_append, List.mem_append]
    show _ ↔ ¬ x.hop = 0 ∧ (if q = x.p then h else if q.over x.p = false then 0 else if x.p.bit q.n = 0 then hopAt l x.p else hopAt r x.p) = x.hop
    constructor
    · rintro (h1 | h1 | h1)
      · by_cases h0 : h = 0
        · rw [if_pos h0] at h1; cases h1
        · rw [if_neg h0, List.mem_singleton] at h1
          subst h1
          exact ⟨h0, by rw [if_pos rfl]⟩
      · obtain ⟨_, _, ⟨u1, u2, u3⟩, _⟩ := al x h1
        obtain ⟨e1, e2⟩ := il.1 h1
        refine ⟨e1, ?_⟩
        rw [if_neg (fun e => by rw [e] at u1; omega), if_neg (by rw [u2]; simp), if_pos (u3.2 rfl)]
        exact e2
      · obtain ⟨_, _, ⟨u1, u2, u3⟩, _⟩ := ar x h1
        obtain ⟨e1, e2⟩ := ir.1 h1
        refine ⟨e1, ?_⟩
        rw [if_neg (fun e => by rw [e] at u1; omega), if_neg (by rw [u2]; simp), if_neg (fun e => by cases u3.1 e)]
        exact e2
    · rintro ⟨e1, e2⟩
      by_cases hqx : q = x.p
      · rw [if_pos hqx] at e2
        left
        rw [if_neg (by rw [e2]; exact e1), List.mem_singleton]
        obtain ⟨p, hop⟩ := x
        simp only at hqx e2
        rw [hqx, e2]
      · rw [if_neg hqx] at e2
        right
        by_cases ho : q.over x.p = false
        · rw [if_pos ho] at e2; exact absurd e2.symm e1
        · rw [if_neg ho] at e2
          by_cases hb : x.p.bit q.n = 0
          · rw [if_pos hb] at e2; exact .inl (il.2 ⟨e1, e2⟩)
          · rw [if_neg hb] at e2; exact .inr (ir.2 ⟨e1, e2⟩)

/-- Two lists sorted without two alike, with the same things. -/
theorem sorted_unique {l m : List RouteV} (hl : l.Pairwise fun x y => ltP x.p y.p) (hm : m.Pairwise fun x y => ltP x.p y.p) (ol : ∀ r ∈ l, r.p.Ok) (he : ∀ r, r ∈ l ↔ r ∈ m) : l = m := by
  induction l generalizing m with
  | nil =>
    cases m with
    | nil => rfl
    | cons y m => exact absurd ((he y).2 (by simp)) (by simp)
  | cons x l ih =>
    cases m with
    | nil => exact absurd ((he x).1 (by simp)) (by simp)
    | cons y m =>
      rw [List.pairwise_cons] at hl hm
      have hx := ol x (by simp)
      have hy := ol y ((he y).2 (by simp))
      have hxy : x = y := by
        rcases List.mem_cons.1 ((he x).1 (by simp)) with h | h
        · exact h
        · rcases List.mem_cons.1 ((he y).2 (by simp)) with h' | h'
          · exact h'.symm
          · exact absurd (hl.1 y h') (ltP_asymm hy hx (hm.1 x h))
      subst hxy
      congr 1
      refine ih hl.2 hm.2 (fun r hr => ol r (by simp [hr])) fun r => ?_
      constructor
      · intro hr
        rcases List.mem_cons.1 ((he r).1 (by simp [hr])) with h | h
        · subst h; exact absurd (hl.1 r hr) (ltP_irrefl hx)
        · exact h
      · intro hr
        rcases List.mem_cons.1 ((he r).2 (by simp [hr])) with h | h
        · subst h; exact absurd (hm.1 r hr) (ltP_irrefl hx)
        · exact h
/-- The routes of both trees. -/
def routesR (R : Bool → Tr) : List RouteV := routesT (R false) ++ routesT (R true)
theorem routesR_sorted {R : Bool → Tr} (hI : ∀ s, Inv s (fun _ => True) (R s)) : (routesR R).Pairwise fun x y => ltP x.p y.p := by
  unfold routesR
  rw [List.pairwise_append]
  have c0 : ∀ x y b, x.Ok → y.Ok → (fun _ : PV => True) x → Under x b y → (fun _ : PV => True) y := fun _ _ _ _ _ _ _ => trivial
  refine ⟨routes_sorted _ _ (hI false), routes_sorted _ _ (hI true), fun x hx y hy => .inl (lessB_six (routes_all _ _ c0 (hI false) x hx).2.1 (routes_all _ _ c0 (hI true) y hy).2.1)⟩
theorem routesR_mem {R : Bool → Tr} (hI : ∀ s, Inv s (fun _ => True) (R s)) {l : List RouteV} (hv : Valid l) (hm : ∀ p : PV, p.Ok → hopAt (R p.six) p = getR l p) (x : RouteV) : x ∈ routesR R ↔ x ∈ l := by
  have c0 : ∀ x y b, x.Ok → y.Ok → (fun _ : PV => True) x → Under x b y → (fun _ : PV => True) y := fun _ _ _ _ _ _ _ => trivial
  have key : ∀ s, x ∈ routesT (R s) → x ∈ l := by
    intro s hx
    obtain ⟨ok, h6, _, _⟩ := routes_all _ _ c0 (hI s) x hx
    obtain ⟨h1, h2⟩ := (routes_mem _ _ (hI s) x ok).1 hx
    subst h6
    rw [hm x.p ok] at h2
    obtain ⟨y, hy, e⟩ := getR_ne (l := l) (p := x.p) (by rw [h2]; exact h1)
    have := getR_mem hv y hy
    rw [e, h2] at this
    have : x = y := by
      obtain ⟨p, hop⟩ := x
      obtain ⟨p', hop'⟩ := y
      simp only at e this
      rw [e, this]
    rw [this]; exact hy
  unfold routesR
  constructor
  · intro hx
    rcases List.mem_append.1 hx with hx | hx
    · exact key _ hx
    · exact key _ hx
  · intro hx
    obtain ⟨ok, h1, h2⟩ := hv.1 x hx
    have hin : x ∈ routesT (R x.p.six) := (routes_mem _ _ (hI _) x ok).2 ⟨by omega, by rw [hm x.p ok, getR_mem hv x hx]⟩
    rw [List.mem_append]
    cases e : x.p.six with
    | false => rw [e] at hin; exact .inl hin
    | true => rw [e] at hin; exact .inr hin

end Go.Proofs.Ytonelibgaceflaa

namespace Go.Proofs.Ytonelibgaceflaa
open Go.ChangeShapes Go.WideShapes Go.ChangeAt Go.RowKit

set_option maxRecDepth 100000 in
set_option maxHeartbeats 3200000 in
theorem fault_one {A : Option Addr} {n c : Nat} {l : List PV} {w : World} {b : Nat} (h : IsPres w A n c l) (hl : ∀ q ∈ l, q.Raw) (hk : Blk w b 30 #[.slice A n c]) :
    Calls Try.prog 139 #[.slice (some ⟨b, 0, none⟩) 1 1] w fun e w' => e = .returned (.int .i64 (presE l [])) ∧ Below w.heap.size w w' := by
  have HZ1 := Lib.hid h.1
  have HR1 := Lib.hid h.2.2
  have HL := Lib.hid hl
  have HK := Lib.hid hk
  have lb := hk.lt
  have hc1 := h.2.1
  unfold maxLen at hc1
  have g0 := hk.cell 0
  simp at g0
  obtain ⟨res, hres⟩ : ∃ res, presE l [] = res := ⟨_, rfl⟩
  rw [hres]
  have HRES := Lib.hid hres
  clear h hl hk hres
  by_cases hn : 80 < n
  · have hr : res = 1 := by rw [← HRES.out]; unfold presE; rw [if_pos (by rw [HZ1.out]; exact hn)]
    subst hr
    go_enter Try.func139, Try.ntmps139
    go_wp2
    go_loop [12, 4] (fun i _ => i = .int .i64 0) (fun i _ => 1 - (intOf i).toNat)
    case atStart => rfl
    case round =>
      obtain rfl := hrel
      go_wp2
      go_ret
      exact ⟨rfl, Below.refl _ _⟩
  · have hr : res = firstF chkP l := by
      rw [← HRES.out]; unfold presE; rw [if_neg (by rw [HZ1.out]; omega), if_neg (by simp)]
      by_cases hz : firstF chkP l = 0
      · rw [if_pos hz, hz]; rfl
      · rw [if_neg hz]
    have HR := Lib.hid hr
    clear hr HRES
    go_enter Try.func139, Try.ntmps139
    go_wp2
    go_loop [12, 4] (fun i _ => i = .int .i64 0 ∨ i = .int .i64 1) (fun i _ => 1 - (intOf i).toNat)
    case atStart => exact .inl rfl
    case round =>
      rcases hrel with rfl | rfl
      · go_wp2
        go_round
        case rel => exact .inr (by go_num)
        case measure => simp [intOf]
      · go_wp2
        go_loopw [22, 6, 8, 9] (fun i _ _ _ wr => ((i = .int .i64 0) ∨ (i = .int .i64 1 ∧ firstF chkP l = 0)) ∧ Below w.heap.size w wr) (fun i _ _ _ _ => 1 - (intOf i).toNat)
        case atStart => exact ⟨.inl rfl, Below.refl _ _⟩
        case round =>
          obtain ⟨hj, hb⟩ := hrel
          obtain ⟨wo, rfl⟩ : ∃ wo : World, wo = wr := ⟨_, rfl⟩
          have HB := Lib.hid hb
          have kk := HK.out.below hb lb
          have f0 := kk.cell 0
          simp at f0
          clear kk hb
          rcases hj with rfl | ⟨rfl, h1⟩
          · go_wp2
            go_loopw [28, 8, 9] (fun i _ _ wr => ∃ k : Nat, k ≤ n ∧ i = .int .i64 k ∧ NoneTo chkP l k ∧ Below w.heap.size w wr) (fun i _ _ _ => n - (intOf i).toNat)
            case atStart => exact ⟨0, by omega, rfl, rfl, HB.out⟩
            case round =>
              obtain ⟨k, hk, rfl, hto, hb⟩ := hrel
              have HT := Lib.hid hto
              clear hto
              by_cases hlt : k < n
              · obtain ⟨ad, ⟨qs, qh, ql, qn⟩, rfl, hlk, htk, hmem, hbk, hc0, hcj⟩ := HR1.out.atS PV.cells_length HZ1.out hlt
                have q0 := (hb.cell (p := ad.add (k * 4)) (by rw [block_of_add]; exact hbk)).trans (hc0 _ rfl)
                have q1 := (hb.cell (p := ⟨(ad.add (k * 4)).block, (ad.add (k * 4)).off + 1, none⟩) (by rw [block_of_add]; exact hbk)).trans (hcj 1 _ rfl)
                have q2 := (hb.cell (p := ⟨(ad.add (k * 4)).block, (ad.add (k * 4)).off + 2, none⟩) (by rw [block_of_add]; exact hbk)).trans (hcj 2 _ rfl)
                have q3 := (hb.cell (p := ⟨(ad.add (k * 4)).block, (ad.add (k * 4)).off + 3, none⟩) (by rw [block_of_add]; exact hbk)).trans (hcj 3 _ rfl)
                obtain ⟨r1, r2⟩ := HL.out _ hmem
                have CP := Lib.hid (fun w => check_any qs qh ql qn w r1 r2)
                have hcv : chkP ⟨qs, qh, ql, qn⟩ = chk qs qh ql qn := rfl
                have HBK := Lib.hid hb
                have hszb := hb.size
                obtain ⟨cv, hcve⟩ : ∃ cv, chk qs qh ql qn = cv := ⟨_, rfl⟩
                rw [hcve] at CP hcv
                clear hcve
                by_cases hcz : cv = 0
                · subst hcz
                  have HT2 := Lib.hid (noneTo_succ HT.out htk hcv)
                  clear hlk htk hmem hbk hc0 hcj hb r1 r2 hcv
                  go_wp2_with fail
                  refine (CP.out _).mono ?_
                  rintro e w4 ⟨rfl, hb4⟩
                  have HB4 := Lib.hid (below_step HBK.out (balloc1 hb4))
                  clear hb4
                  go_wp2
                  go_roundw
                  case rel => exact ⟨k + 1, by omega, by go_num, HT2.out, HB4.out⟩
                  case measure => simp [intOf]; omega
                · have HF := Lib.hid (firstF_at HT.out hlk (by rw [hcv]; exact hcz))
                  have HF : Hid (firstF chkP l = cv) := HF.out.trans hcv
                  have hcb : (cv != 0) = true := by simpa using hcz
                  clear hlk htk hmem hbk hc0 hcj hb r1 r2 hcv
                  go_wp2_with fail
                  refine (CP.out _).mono ?_
                  rintro e w4 ⟨rfl, hb4⟩
                  have HB4 := Lib.hid (below_step HBK.out (balloc1 hb4))
                  clear hb4
                  go_wp2
                  go_ret
                  exact ⟨ret_int (by rw [HR.out, HF.out]), HB4.out⟩
              · obtain rfl : k = n := by omega
                have HE := Lib.hid (firstF_end HT.out HZ1.out)
                go_wp2
                go_roundw
                case rel => exact ⟨.inr ⟨by go_num, HE.out⟩, hb⟩
                case measure => simp [intOf]
          · go_wp2
            go_ret
            exact ⟨ret_int (by rw [HR.out, h1]), HB.out⟩

set_option maxRecDepth 100000 in
set_option maxHeartbeats 3200000 in
theorem fault_two {A A' : Option Addr} {n c n' c' : Nat} {l m : List PV} {w : World} {b : Nat} (h : IsPres w A n c l) (h' : IsPres w A' n' c' m) (hl : ∀ q ∈ l, q.Raw) (hm : ∀ q ∈ m, q.Raw) (hk : Blk w b 30 #[.slice A n c, .slice A' n' c']) :
    Calls Try.prog 139 #[.slice (some ⟨b, 0, none⟩) 2 2] w fun e w' => e = .returned (.int .i64 (presE l m)) ∧ Below w.heap.size w w' := by
  have HZ1 := Lib.hid h.1
  have HZ2 := Lib.hid h'.1
  have HR1 := Lib.hid h.2.2
  have HR2 := Lib.hid h'.2.2
  have HL := Lib.hid hl
  have HM := Lib.hid hm
  have HK := Lib.hid hk
  have lb := hk.lt
  have hc1 := h.2.1
  have hc2 := h'.2.1
  unfold maxLen at hc1 hc2
  have g0 := hk.cell 0
  have g1 := hk.cell 1
  simp at g0 g1
  obtain ⟨res, hres⟩ : ∃ res, presE l m = res := ⟨_, rfl⟩
  rw [hres]
  have HRES := Lib.hid hres
  clear h h' hl hm hk hres
  by_cases hn : 80 < n
  · have hr : res = 1 := by rw [← HRES.out]; unfold presE; rw [if_pos (by rw [HZ1.out]; exact hn)]
    subst hr
    go_enter Try.func139, Try.ntmps139
    go_wp2
    go_loop [12, 4] (fun i _ => i = .int .i64 0) (fun i _ => 2 - (intOf i).toNat)
    case atStart => rfl
    case round =>
      obtain rfl := hrel
      go_wp2
      go_ret
      exact ⟨rfl, Below.refl _ _⟩
  by_cases hn' : 80 < n'
  · have hr : res = 1 := by rw [← HRES.out]; unfold presE; rw [if_neg (by rw [HZ1.out]; omega), if_pos (by rw [HZ2.out]; exact hn')]
    subst hr
    go_enter Try.func139, Try.ntmps139
    go_wp2
    go_loop [12, 4] (fun i _ => i = .int .i64 0 ∨ i = .int .i64 1) (fun i _ => 2 - (intOf i).toNat)
    case atStart => exact .inl rfl
    case round =>
      rcases hrel with rfl | rfl
      · go_wp2
        go_round
        case rel => exact .inr (by go_num)
        case measure => simp [intOf]
      · go_wp2
        go_ret
        exact ⟨rfl, Below.refl _ _⟩
  · have hr : res = if firstF chkP l = 0 then firstF chkP m else firstF chkP l := by rw [← HRES.out]; unfold presE; rw [if_neg (by rw [HZ1.out]; omega), if_neg (by rw [HZ2.out]; omega)]
    have HR := Lib.hid hr
    clear hr HRES
    go_enter Try.func139, Try.ntmps139
    go_wp2
    go_loop [12, 4] (fun i _ => i = .int .i64 0 ∨ i = .int .i64 1 ∨ i = .int .i64 2) (fun i _ => 2 - (intOf i).toNat)
    case atStart => exact .inl rfl
    case round =>
      rcases hrel with rfl | rfl | rfl
      · go_wp2
        go_round
        case rel => exact .inr (.inl (by go_num))
        case measure => simp [intOf]
      · go_wp2
        go_round
        case rel => exact .inr (.inr (by go_num))
        case measure => simp [intOf]
      · go_wp2
        go_loopw [22, 6, 8, 9] (fun i _ _ _ wr => ((i = .int .i64 0) ∨ (i = .int .i64 1 ∧ firstF chkP l = 0) ∨ (i = .int .i64 2 ∧ firstF chkP l = 0 ∧ firstF chkP m = 0)) ∧ Below w.heap.size w wr) (fun i _ _ _ _ => 2 - (intOf i).toNat)
        case atStart => exact ⟨.inl rfl, Below.refl _ _⟩
        case round =>
          obtain ⟨hj, hb⟩ := hrel
          obtain ⟨wo, rfl⟩ : ∃ wo : World, wo = wr := ⟨_, rfl⟩
          have HB := Lib.hid hb
          have kk := HK.out.below hb lb
          have f0 := kk.cell 0
          have f1 := kk.cell 1
          simp at f0 f1
          clear kk hb
          rcases hj with rfl | ⟨rfl, h1⟩ | ⟨rfl, h1, h2⟩
          · go_wp2
            go_loopw [28, 8, 9] (fun i _ _ wr => ∃ k : Nat, k ≤ n ∧ i = .int .i64 k ∧ NoneTo chkP l k ∧ Below w.heap.size w wr) (fun i _ _ _ => n - (intOf i).toNat)
            case atStart => exact ⟨0, by omega, rfl, rfl, HB.out⟩
            case round =>
              obtain ⟨k, hk, rfl, hto, hb⟩ := hrel
              have HT := Lib.hid hto
              clear hto
              by_cases hlt : k < n
              · obtain ⟨ad, ⟨qs, qh, ql, qn⟩, rfl, hlk, htk, hmem, hbk, hc0, hcj⟩ := HR1.out.atS PV.cells_length HZ1.out hlt
                have q0 := (hb.cell (p := ad.add (k * 4)) (by rw [block_of_add]; exact hbk)).trans (hc0 _ rfl)
                have q1 := (hb.cell (p := ⟨(ad.add (k * 4)).block, (ad.add (k * 4)).off + 1, none⟩) (by rw [block_of_add]; exact hbk)).trans (hcj 1 _ rfl)
                have q2 := (hb.cell (p := ⟨(ad.add (k * 4)).block, (ad.add (k * 4)).off + 2, none⟩) (by rw [block_of_add]; exact hbk)).trans (hcj 2 _ rfl)
                have q3 := (hb.cell (p := ⟨(ad.add (k * 4)).block, (ad.add (k * 4)).off + 3, none⟩) (by rw [block_of_add]; exact hbk)).trans (hcj 3 _ rfl)
                obtain ⟨r1, r2⟩ := HL.out _ hmem
                have CP := Lib.hid (fun w => check_any qs qh ql qn w r1 r2)
                have hcv : chkP ⟨qs, qh, ql, qn⟩ = chk qs qh ql qn := rfl
                have HBK := Lib.hid hb
                have hszb := hb.size
                obtain ⟨cv, hcve⟩ : ∃ cv, chk qs qh ql qn = cv := ⟨_, rfl⟩
                rw [hcve] at CP hcv
                clear hcve
                by_cases hcz : cv = 0
                · subst hcz
                  have HT2 := Lib.hid (noneTo_succ HT.out htk hcv)
                  clear hlk htk hmem hbk hc0 hcj hb r1 r2 hcv
                  go_wp2_with fail
                  refine (CP.out _).mono ?_
                  rintro e w4 ⟨rfl, hb4⟩
                  have HB4 := Lib.hid (below_step HBK.out (balloc1 hb4))
                  clear hb4
                  go_wp2
                  go_roundw
                  case rel => exact ⟨k + 1, by omega, by go_num, HT2.out, HB4.out⟩
                  case measure => simp [intOf]; omega
                · have HF := Lib.hid (firstF_at HT.out hlk (by rw [hcv]; exact hcz))
                  have HF : Hid (firstF chkP l = cv) := HF.out.trans hcv
                  have hcb : (cv != 0) = true := by simpa using hcz
                  clear hlk htk hmem hbk hc0 hcj hb r1 r2 hcv
                  go_wp2_with fail
                  refine (CP.out _).mono ?_
                  rintro e w4 ⟨rfl, hb4⟩
                  have HB4 := Lib.hid (below_step HBK.out (balloc1 hb4))
                  clear hb4
                  go_wp2
                  go_ret
                  exact ⟨ret_int (by rw [HR.out, if_neg (by rw [HF.out]; exact hcz), HF.out]), HB4.out⟩
              · obtain rfl : k = n := by omega
                have HE := Lib.hid (firstF_end HT.out HZ1.out)
                go_wp2
                go_roundw
                case rel => exact ⟨.inr (.inl ⟨by go_num, HE.out⟩), hb⟩
                case measure => simp [intOf]
          · have H1 := Lib.hid h1
            clear h1
            go_wp2
            go_loopw [28, 8, 9] (fun i _ _ wr => ∃ k : Nat, k ≤ n' ∧ i = .int .i64 k ∧ NoneTo chkP m k ∧ Below w.heap.size w wr) (fun i _ _ _ => n' - (intOf i).toNat)
            case atStart => exact ⟨0, by omega, rfl, rfl, HB.out⟩
            case round =>
              obtain ⟨k, hk, rfl, hto, hb⟩ := hrel
              have HT := Lib.hid hto
              clear hto
              by_cases hlt : k < n'
              · obtain ⟨ad, ⟨qs, qh, ql, qn⟩, rfl, hlk, htk, hmem, hbk, hc0, hcj⟩ := HR2.out.atS PV.cells_length HZ2.out hlt
                have q0 := (hb.cell (p := ad.add (k * 4)) (by rw [block_of_add]; exact hbk)).trans (hc0 _ rfl)
                have q1 := (hb.cell (p := ⟨(ad.add (k * 4)).block, (ad.add (k * 4)).off + 1, none⟩) (by rw [block_of_add]; exact hbk)).trans (hcj 1 _ rfl)
                have q2 := (hb.cell (p := ⟨(ad.add (k * 4)).block, (ad.add (k * 4)).off + 2, none⟩) (by rw [block_of_add]; exact hbk)).trans (hcj 2 _ rfl)
                have q3 := (hb.cell (p := ⟨(ad.add (k * 4)).block, (ad.add (k * 4)).off + 3, none⟩) (by rw [block_of_add]; exact hbk)).trans (hcj 3 _ rfl)
                obtain ⟨r1, r2⟩ := HM.out _ hmem
                have CP := Lib.hid (fun w => check_any qs qh ql qn w r1 r2)
                have hcv : chkP ⟨qs, qh, ql, qn⟩ = chk qs qh ql qn := rfl
                have HBK := Lib.hid hb
                have hszb := hb.size
                obtain ⟨cv, hcve⟩ : ∃ cv, chk qs qh ql qn = cv := ⟨_, rfl⟩
                rw [hcve] at CP hcv
                clear hcve
                by_cases hcz : cv = 0
                · subst hcz
                  have HT2 := Lib.hid (noneTo_succ HT.out htk hcv)
                  clear hlk htk hmem hbk hc0 hcj hb r1 r2 hcv
                  go_wp2_with fail
                  refine (CP.out _).mono ?_
                  rintro e w4 ⟨rfl, hb4⟩
                  have HB4 := Lib.hid (below_step HBK.out (balloc1 hb4))
                  clear hb4
                  go_wp2
                  go_roundw
                  case rel => exact ⟨k + 1, by omega, by go_num, HT2.out, HB4.out⟩
                  case measure => simp [intOf]; omega
                · have HF := Lib.hid (firstF_at HT.out hlk (by rw [hcv]; exact hcz))
                  have HF : Hid (firstF chkP m = cv) := HF.out.trans hcv
                  have hcb : (cv != 0) = true := by simpa using hcz
                  clear hlk htk hmem hbk hc0 hcj hb r1 r2 hcv
                  go_wp2_with fail
                  refine (CP.out _).mono ?_
                  rintro e w4 ⟨rfl, hb4⟩
                  have HB4 := Lib.hid (below_step HBK.out (balloc1 hb4))
                  clear hb4
                  go_wp2
                  go_ret
                  exact ⟨ret_int (by rw [HR.out, if_pos H1.out, HF.out]), HB4.out⟩
              · obtain rfl : k = n' := by omega
                have HE := Lib.hid (firstF_end HT.out HZ2.out)
                go_wp2
                go_roundw
                case rel => exact ⟨.inr (.inr ⟨by go_num, H1.out, HE.out⟩), hb⟩
                case measure => simp [intOf]
          · go_wp2
            go_ret
            exact ⟨ret_int (by rw [HR.out, if_pos h1, h2]), HB.out⟩

end Go.Proofs.Ytonelibgaceflaa

namespace Go.Proofs.Ytonelibgaceflaa
open Go.ChangeShapes Go.WideShapes Go.ChangeAt Go.RowKit Go.Sort

set_option maxHeartbeats 1600000 in
theorem less_grew (six : Bool) (hi lo : Int) (six' : Bool) (hi' lo' : Int) (w : World) :
    Calls Try.prog 73 #[.agg #[.bool six, .int .u64 hi, .int .u64 lo], .agg #[.bool six', .int .u64 hi', .int .u64 lo']] w fun e w' => e = .returned (.bool (lessB ⟨six, hi, lo⟩ ⟨six', hi', lo'⟩)) ∧ Grew w w' := by
  have HB : ∀ w : World, Hid (Grew w ((w.alloc (.cells #[.bool six, .int .u64 hi, .int .u64 lo] 24)).alloc (.cells #[.bool six', .int .u64 hi', .int .u64 lo'] 24))) := fun w => ((Grew.refl w).alloc _).alloc _
  by_cases h6 : six = six'
  · subst h6
    by_cases h1 : hi < hi'
    · have hr : lessB ⟨six, hi, lo⟩ ⟨six, hi', lo'⟩ = true := by unfold lessB; simp [h1]
      rw [hr]
      have hd : decide (hi < hi') = true := by simpa using h1
      clear hr
      go_enter Try.func73, Try.ntmps73
      go_wp2
      go_ret
      exact ⟨rfl, (HB w).out⟩
    · have hd : decide (hi < hi') = false := by simpa using h1
      by_cases h2 : hi = hi'
      · subst h2
        have hr : lessB ⟨six, hi, lo⟩ ⟨six, hi, lo'⟩ = decide (lo < lo') := by unfold lessB; simp
        rw [hr]
        clear hr h1
        go_enter Try.func73, Try.ntmps73
        go_wp2
        go_ret
        exact ⟨by simp, (HB w).out⟩
      · have hr : lessB ⟨six, hi, lo⟩ ⟨six, hi', lo'⟩ = false := by unfold lessB; simp [h2]; omega
        rw [hr]
        have hd2 : (hi == hi') = false := by simpa using h2
        clear hr
        go_enter Try.func73, Try.ntmps73
        go_wp2
        go_ret
        exact ⟨rfl, (HB w).out⟩
  · have hr : lessB ⟨six, hi, lo⟩ ⟨six', hi', lo'⟩ = six' := by unfold lessB; rw [if_neg h6]
    rw [hr]
    have hn := ne_bool h6
    subst hn
    clear hr h6
    go_enter Try.func73, Try.ntmps73
    go_wp2
    go_ret
    exact ⟨rfl, (HB w).out⟩

set_option maxRecDepth 100000 in
set_option maxHeartbeats 1600000 in
theorem order_grew (six : Bool) (hi lo n : Int) (six' : Bool) (hi' lo' n' : Int) (w : World) (h1 : 0 ≤ n ∧ n ≤ 128) (h2 : 0 ≤ n' ∧ n' ≤ 128) :
    Calls Try.prog 132 #[.agg #[.bool six, .int .u64 hi, .int .u64 lo, .int .i64 n], .agg #[.bool six', .int .u64 hi', .int .u64 lo', .int .i64 n']] w fun e w' => e = .returned (.int .i64 (ordP ⟨six, hi, lo, n⟩ ⟨six', hi', lo', n'⟩)) ∧ Grew w w' := by
  have C1 := Lib.hid (fun w => less_grew six hi lo six' hi' lo' w)
  have C2 := Lib.hid (fun w => less_grew six' hi' lo' six hi lo w)
  have hr : ordP ⟨six, hi, lo, n⟩ ⟨six', hi', lo', n'⟩ = if lessB ⟨six, hi, lo⟩ ⟨six', hi', lo'⟩ then -1 else if lessB ⟨six', hi', lo'⟩ ⟨six, hi, lo⟩ then 1 else n - n' := rfl
  rw [hr]
  clear hr
  have hsub : IntKind.i64.wrap (n - n') = n - n' := IntWalk.i64_in (n - n') (by omega)
  generalize lessB ⟨six, hi, lo⟩ ⟨six', hi', lo'⟩ = b1 at *
  generalize lessB ⟨six', hi', lo'⟩ ⟨six, hi, lo⟩ = b2 at *
  have HG4 := Lib.hid (Grew.refl w)
  cases b1
  · cases b2
    · obtain ⟨r, hrr⟩ : ∃ r, n - n' = r := ⟨_, rfl⟩
      rw [hrr] at hsub
      simp only [Bool.false_eq_true, ↓reduceIte, hrr]
      go_enter Try.func132, Try.ntmps132
      go_wp2_with fail
      refine (C1.out _).mono ?_
      rintro e w3 ⟨rfl, hg3⟩
      obtain ⟨fc3, ff3⟩ := bcell hg3.1
      have hz3 := hg3.1.size
      try simp at hz3
      have HG3 := Lib.hid hg3
      clear hg3
      have sa : w.heap.size < w3.heap.size := by omega
      have sb : w.heap.size + 1 < w3.heap.size := by omega
      go_wp2_with fail
      refine (C2.out _).mono ?_
      rintro e w4 ⟨rfl, hg4⟩
      obtain ⟨fc4, ff4⟩ := bcell hg4.1
      have hz4 := hg4.1.size
      try simp at hz4
      have HG4 := Lib.hid hg4
      clear hg4
      go_wp2
      go_ret
      exact ⟨rfl, by (repeat' first | with_reducible exact HG4.out | with_reducible exact HG3.out | with_reducible exact Grew.refl _ | with_reducible refine Grew.drew ?_ | with_reducible refine Grew.trans ?_ HG4.out | with_reducible refine Grew.trans ?_ HG3.out | with_reducible refine Grew.alloc ?_ _)⟩
    · simp only [Bool.false_eq_true, ↓reduceIte]
      go_enter Try.func132, Try.ntmps132
      go_wp2_with fail
      refine (C1.out _).mono ?_
      rintro e w3 ⟨rfl, hg3⟩
      obtain ⟨fc3, ff3⟩ := bcell hg3.1
      have hz3 := hg3.1.size
      try simp at hz3
      have HG3 := Lib.hid hg3
      clear hg3
      have sa : w.heap.size < w3.heap.size := by omega
      have sb : w.heap.size + 1 < w3.heap.size := by omega
      go_wp2_with fail
      refine (C2.out _).mono ?_
      rintro e w4 ⟨rfl, hg4⟩
      obtain ⟨fc4, ff4⟩ := bcell hg4.1
      have hz4 := hg4.1.size
      try simp at hz4
      have HG4 := Lib.hid hg4
      clear hg4
      go_wp2
      go_ret
      exact ⟨rfl, by (repeat' first | with_reducible exact HG4.out | with_reducible exact HG3.out | with_reducible exact Grew.refl _ | with_reducible refine Grew.drew ?_ | with_reducible refine Grew.trans ?_ HG4.out | with_reducible refine Grew.trans ?_ HG3.out | with_reducible refine Grew.alloc ?_ _)⟩
  · simp only [↓reduceIte]
    go_enter Try.func132, Try.ntmps132
    go_wp2_with fail
    refine (C1.out _).mono ?_
    rintro e w3 ⟨rfl, hg3⟩
    obtain ⟨fc3, ff3⟩ := bcell hg3.1
    have hz3 := hg3.1.size
    try simp at hz3
    have HG3 := Lib.hid hg3
    clear hg3
    go_wp2
    go_ret
    exact ⟨rfl, by (repeat' first | with_reducible exact HG4.out | with_reducible exact HG3.out | with_reducible exact Grew.refl _ | with_reducible refine Grew.drew ?_ | with_reducible refine Grew.trans ?_ HG4.out | with_reducible refine Grew.trans ?_ HG3.out | with_reducible refine Grew.alloc ?_ _)⟩

/-- Prefixes that may be. -/
abbrev PVOk := { p : PV // p.Ok }
instance : Inhabited PVOk := ⟨⟨⟨false, 0, 0, 0⟩, top_ok false⟩⟩
theorem ordP_lt {p q : PV} (hp : p.Ok) (hq : q.Ok) : ordP p q < 0 ↔ ltP p q := by
  unfold ordP ltP
  by_cases h1 : lessB p.a q.a = true
  · rw [if_pos h1]; simp [h1]
  · rw [if_neg h1]
    by_cases h2 : lessB q.a p.a = true
    · rw [if_pos h2]
      constructor
      · intro h; omega
      · rintro (h | ⟨h, _⟩)
        · exact absurd h h1
        · rw [h] at h1 h2; exact absurd h2 h1
    · rw [if_neg h2]
      constructor
      · intro h
        refine .inr ⟨?_, by omega⟩
        rw [lessB_num hp.addr hq.addr] at h1
        rw [lessB_num hq.addr hp.addr] at h2
        have h6 : p.a.six = q.a.six := by
          cases e1 : p.a.six <;> cases e2 : q.a.six <;> simp_all
        refine AV.v_inj hp.addr hq.addr h6 ?_
        have n1 : ¬ p.a.v < q.a.v := fun h => h1 (.inr ⟨h6, h⟩)
        have n2 : ¬ q.a.v < p.a.v := fun h => h2 (.inr ⟨h6.symm, h⟩)
        omega
      · rintro (h | ⟨_, h⟩)
        · exact absurd h h1
        · omega
def cfP (x y : PVOk) : Int := ordP x.1 y.1
theorem cfP_lt (x y : PVOk) : ltOf cfP x y = true ↔ ltP x.1 y.1 := by
  unfold ltOf cfP
  rw [decide_eq_true_iff, ordP_lt x.2 y.2]
theorem cfP_le (x y : PVOk) : ltOf cfP x y = false ↔ ¬ ltP x.1 y.1 := by
  rw [← cfP_lt]; simp
theorem swoP : SWO (ltOf cfP) where
  irrefl x := (cfP_le x x).2 (ltP_irrefl x.2)
  trans x y z h1 h2 := (cfP_lt x z).2 (ltP_trans x.2 y.2 z.2 ((cfP_lt x y).1 h1) ((cfP_lt y z).1 h2))
  ntrans x y z h1 h2 := by
    rw [cfP_le] at *
    intro h
    by_cases hyx : ltP y.1 x.1
    · exact h2 (ltP_trans y.2 x.2 z.2 hyx h)
    · have := ltP_total x.2 y.2 h1 hyx
      exact h2 (by rw [← this]; exact h)
theorem le_of_not_lt {p q : PV} (hp : p.Ok) (hq : q.Ok) (h : ¬ ltP q p) : leP p q := by
  rw [ltP_num hq hp] at h
  unfold leP
  by_cases h6 : p.six = q.six
  · refine .inr ⟨h6, ?_⟩
    apply Classical.byContradiction
    intro hv
    exact h (.inr ⟨h6.symm, .inl (by omega)⟩)
  · cases e1 : p.six <;> cases e2 : q.six <;> simp_all
def encP (x : PVOk) : List Value := x.1.cells
theorem cmpP (blk off size : Nat) (w : World) : CmpLays Try.prog 132 #[] encP 4 cfP blk off size w := by
  intro m os dk _ x y
  obtain ⟨⟨six, hi, lo, n⟩, hx⟩ := x
  obtain ⟨⟨six', hi', lo', n'⟩, hy⟩ := y
  have h1 := ok_n hx
  have h2 := ok_n hy
  have w1 := wideI_le six
  have w2 := wideI_le six'
  refine (order_grew six hi lo n six' hi' lo' n' _ ⟨h1.1, by have := h1.2; simp only at this; omega⟩ ⟨h2.1, by have := h2.2; simp only at this; omega⟩).mono fun e w' h => ⟨h.1, ?_⟩
  exact h.2.grows

set_option maxRecDepth 100000 in
theorem sortP_is {w : World} {base : Nat} {v : Value} {l : List PV} (hok : ∀ p ∈ l, p.Ok) (hl : l.length ≤ 100000) (h : w.ownsRow base 35 4 v l.length (l.flatMap PV.cells)) (hbase : base ≤ w.heap.size) :
    Calls Try.prog 237 #[v, .func (.func 132) #[] #[]] w fun e w' => e = .returned (.tuple #[]) ∧
      ∃ l' : List PV, l'.Perm l ∧ l'.Pairwise leP ∧ w'.ownsRow base 35 4 v l'.length (l'.flatMap PV.cells) ∧ Below base w w' := by
  obtain ⟨ls, rfl⟩ : ∃ ls : List PVOk, l = ls.map Subtype.val := ⟨l.attachWith _ hok, by simp⟩
  have hfm : ∀ m : List PVOk, (m.map Subtype.val).flatMap PV.cells = m.flatMap encP := fun m => by rw [List.flatMap_map]; rfl
  rw [hfm, List.length_map] at h
  rw [List.length_map] at hl
  rcases h.2 with ⟨rfl, h0⟩ | ⟨g, cap, cur, rfl, _⟩
  · have hls : ls = [] := List.eq_nil_of_length_eq_zero h0
    subst hls
    refine (AnyF.slices_SortFunc_none Try.sortP none 0 (.func (.func 132) #[] #[]) w).mono ?_
    rintro e w' ⟨he, rfl⟩
    exact ⟨he, [], List.Perm.refl _, List.Pairwise.nil, World.ownsRow_nil _ _ _ _, Below.refl _ _⟩
  · obtain ⟨hH, hb, hg⟩ := own_holdsK (enc := encP) (fun _ => rfl) (by decide) h
    have hc := AnyQ.slices_SortFunc Try.sortP 4 (fun w => by exact Try.isAgg35 w) (fun w => by exact Try.sizeOf35 w) encP (fun _ => rfl) (fun x u hu => by simp [encP, PV.cells] at hu; rcases hu with rfl | rfl | rfl | rfl <;> rfl) cfP swoP 132 #[] g 0 cap ls.toArray w
      (enters_of Try.func132 (by kernel_rfl) rfl) (cmpP g 0 _ w) hH hg (by simp; omega)
    change Calls Try.prog 237 _ _ _ at hc
    refine hc.mono ?_
    rintro e w' ⟨he, d', n, os, hp, hs, rfl⟩
    obtain ⟨p1, p2⟩ := perm_sorted hp hs
    have hlen : d'.toList.length = ls.length := p1.length_eq
    refine ⟨he, d'.toList.map Subtype.val, p1.map _, ?_, ?_, ?_⟩
    · rw [List.pairwise_map]
      exact p2.imp fun {x y} hxy => le_of_not_lt x.2 y.2 ((cfP_le y x).1 hxy)
    · have := ownsRow_sortedK (enc := encP) (fun _ => rfl) (by decide) (n := n) (os := os) hlen h
      rw [hfm, List.length_map, hlen]
      simpa using this
    · exact (Below.refl _ _).grown (grownBy_sortedK _) hbase (fun j e => by cases e; exact hb)

set_option maxRecDepth 100000 in
set_option maxHeartbeats 1600000 in
/-- The sorted prefixes of a slice. -/
theorem sorted_any {A : Option Addr} {n c b : Nat} {l : List PV} {w : World} (h : IsPres w A n c l) (hok : ∀ p ∈ l, p.Ok) (hn : n ≤ 100000) (hb : b < w.heap.size) (hc : w.cell? ⟨b, 0, none⟩ = some (.slice A n c)) :
    Calls Try.prog 196 #[.func (.func 238) #[] #[.pointer (some ⟨b, 0, none⟩)], .func (.func 132) #[] #[]] w fun e w' => ∃ (v : Value) (l' : List PV), e = .returned v ∧ l'.Perm l ∧ l'.Pairwise leP ∧ w'.ownsRow w.heap.size 35 4 v l'.length (l'.flatMap PV.cells) ∧ Below w.heap.size w w' := by
  have hz := h.1
  have CC := Lib.hid (collect_pv (w := w) (enters_of Try.func238 (by kernel_rfl) rfl) (Nat.le_refl _) hn (fun m => values_stops hz hn hb (Nat.le_refl _) hc h.2.2 m))
  have HOK := Lib.hid hok
  have HZ := Lib.hid hz
  clear h hok hz hc
  go_enter Try.func196, Try.ntmps196
  go_wp2_with fail
  refine CC.out.mono ?_
  rintro e w1 ⟨v, l1, rfl, rfl, hrow, hb1⟩
  have CS := Lib.hid (sortP_is HOK.out (by have := HZ.out; omega) hrow hb1.size)
  have HB1 := Lib.hid hb1
  clear hrow hb1
  go_wp2_with fail
  refine CS.out.mono ?_
  rintro e w2 ⟨rfl, l2, hp, hs, hrow, hb2⟩
  have HP := Lib.hid hp
  have HS := Lib.hid hs
  have HR := Lib.hid hrow
  have HB2 := Lib.hid hb2
  clear hp hs hrow hb2
  go_wp2
  go_ret
  exact ⟨_, l2, rfl, HP.out, HS.out, HR.out, HB1.out.trans HB2.out⟩

end Go.Proofs.Ytonelibgaceflaa

namespace Go.Proofs.Ytonelibgaceflaa
open Go.ChangeShapes Go.WideShapes Go.ChangeAt Go.RowKit

/-- What is known of a slice of spans. -/
def IsSpans (w : World) (A : Option Addr) (n c : Nat) (l : List SV) : Prop :=
  l.length = n ∧ (n ≤ c ∧ c ≤ maxLen) ∧ Reads w w.heap.size 6 A n (l.flatMap SV.cells)
theorem IsSpans.below {w w' : World} {A : Option Addr} {n c : Nat} {l : List SV} (h : IsSpans w A n c l) (hb : Below w.heap.size w w') : IsSpans w' A n c l :=
  ⟨h.1, h.2.1, (h.2.2.below hb).more hb.size⟩
theorem IsSpans.of_own {w : World} {base : Nat} {v : Value} {l : List SV} (h : w.ownsRow base 117 6 v l.length (l.flatMap SV.cells)) : ∃ A c, v = .slice A l.length c ∧ IsSpans w A l.length c l := by
  obtain ⟨A, c, rfl, hc, hr⟩ := own_reads h
  exact ⟨A, c, rfl, rfl, hc, hr⟩
theorem prefixesL_len (l : List SV) : (prefixesL l).length ≤ 258 * l.length := by
  unfold prefixesL
  induction l with
  | nil => simp
  | cons s l ih =>
    rw [List.flatMap_cons, List.length_append, List.length_cons]
    have := rangeL_len s.f.six s.f.v s.l.v
    omega
theorem prefixesL_snoc (l : List SV) (s : SV) : prefixesL (l ++ [s]) = prefixesL l ++ rangeL s.f.six s.f.v s.l.v := by
  unfold prefixesL
  simp

set_option maxRecDepth 100000 in
set_option maxHeartbeats 1600000 in
theorem prefixes_any {A : Option Addr} {n c : Nat} {l : List SV} {w : World} (h : IsSpans w A n c l) (hok : ∀ s ∈ l, s.Ok) (hn : n ≤ 3000) :
    Calls Try.prog 140 #[.slice A n c] w fun e w' => ∃ v, e = .returned v ∧ w'.ownsRow w.heap.size 35 4 v (prefixesL l).length ((prefixesL l).flatMap PV.cells) ∧ Below w.heap.size w w' := by
  have HZ := Lib.hid h.1
  have HR := Lib.hid h.2.2
  have HOK := Lib.hid hok
  have hc1 := h.2.1
  unfold maxLen at hc1
  clear h hok
  go_enter Try.func140, Try.ntmps140
  go_wp2
  go_loopw [8, 3, 5] (fun i v _ wr => ∃ k : Nat, k ≤ n ∧ i = .int .i64 k ∧ wr.ownsRow w.heap.size 35 4 v (prefixesL (l.take k)).length ((prefixesL (l.take k)).flatMap PV.cells) ∧ Below w.heap.size w wr) (fun i _ _ _ => n - (intOf i).toNat)
  case atStart => exact ⟨0, by omega, rfl, ⟨rfl, .inl ⟨rfl, rfl⟩⟩, Below.refl _ _⟩
  case round =>
    obtain ⟨k, hk, rfl, hown, hb⟩ := hrel
    obtain ⟨wo, rfl⟩ : ∃ wo : World, wo = wr := ⟨_, rfl⟩
    have HOWN := Lib.hid hown
    have hpl := prefixesL_len (l.take k)
    have htl : (l.take k).length ≤ n := by rw [List.length_take]; omega
    clear hown
    by_cases hlt : k < n
    · obtain ⟨ad, ⟨⟨six, fh, fl⟩, ⟨six', lh, ll⟩⟩, rfl, hlk, htk, hmem, hbk, hc0, hcj⟩ := HR.out.atS SV.cells_length HZ.out hlt
      have q0 := (hb.cell (p := ad.add (k * 6)) (by rw [block_of_add]; exact hbk)).trans (hc0 _ rfl)
      have q1 := (hb.cell (p := ⟨(ad.add (k * 6)).block, (ad.add (k * 6)).off + 1, none⟩) (by rw [block_of_add]; exact hbk)).trans (hcj 1 _ rfl)
      have q2 := (hb.cell (p := ⟨(ad.add (k * 6)).block, (ad.add (k * 6)).off + 2, none⟩) (by rw [block_of_add]; exact hbk)).trans (hcj 2 _ rfl)
      have q3 := (hb.cell (p := ⟨(ad.add (k * 6)).block, (ad.add (k * 6)).off + 3, none⟩) (by rw [block_of_add]; exact hbk)).trans (hcj 3 _ rfl)
      have q4 := (hb.cell (p := ⟨(ad.add (k * 6)).block, (ad.add (k * 6)).off + 4, none⟩) (by rw [block_of_add]; exact hbk)).trans (hcj 4 _ rfl)
      have q5 := (hb.cell (p := ⟨(ad.add (k * 6)).block, (ad.add (k * 6)).off + 5, none⟩) (by rw [block_of_add]; exact hbk)).trans (hcj 5 _ rfl)
      obtain ⟨k1, k2, k3, k4⟩ := HOK.out _ hmem
      simp only at k1 k2 k3 k4
      subst k3
      have CC := Lib.hid (fun (v0 : Value) (w' : World) ho hbs => spanCut_any six fh fl lh ll w.heap.size v0 (prefixesL (l.take k)).length ((prefixesL (l.take k)).flatMap PV.cells) w' k1 k2 k4 ho hbs (by omega))
      have hnx : prefixesL (l.take (k + 1)) = prefixesL (l.take k) ++ rangeL six (AV.v ⟨six, fh, fl⟩) (AV.v ⟨six, lh, ll⟩) := by rw [htk, prefixesL_snoc]
      have HN := Lib.hid hnx
      have HB := Lib.hid hb
      have hsz := hb.size
      clear hlk htk hmem hbk hc0 hcj hb k1 k2 k4 hnx hpl htl
      go_wp2_with fail
      refine (CC.out _ _ (HOWN.out.alloc _) (by simp; omega)).mono ?_
      rintro e w4 ⟨v4, rfl, ho4, hb4⟩
      have HO4 := Lib.hid ho4
      have HB4 := Lib.hid ((HB.out.alloc hsz _).trans hb4)
      clear ho4 hb4
      go_wp2
      go_roundw
      case rel =>
        refine ⟨k + 1, by omega, by go_num, ?_, HB4.out⟩
        rw [HN.out, List.length_append, List.flatMap_append]
        exact HO4.out
      case measure => simp [intOf]; omega
    · obtain rfl : k = n := by omega
      have hE : l.take k = l := List.take_of_length_le (by have := HZ.out; omega)
      rw [hE] at HOWN
      have HB := Lib.hid hb
      clear hb hpl htl hE
      go_wp2
      go_ret
      exact ⟨_, rfl, HOWN.out, HB.out⟩

end Go.Proofs.Ytonelibgaceflaa

namespace Go.Proofs.Ytonelibgaceflaa

/-- One span lies within another. -/
def subS (s t : SV) : Prop := s.f.six = t.f.six ∧ t.f.v ≤ s.f.v ∧ s.l.v ≤ t.l.v
theorem sepS_sub {s t s' t' : SV} (h : sepS s t) (hs : subS s' s) (ht : subS t' t) : sepS s' t' := by
  obtain ⟨a1, a2, a3⟩ := hs
  obtain ⟨b1, b2, b3⟩ := ht
  rcases h with ⟨h1, h2⟩ | ⟨h1, h2⟩
  · exact .inl ⟨a1.trans h1, b1.trans h2⟩
  · exact .inr ⟨a1.trans (h1.trans b1.symm), by omega⟩
/-- What two spans have together. -/
def headM (x y : SV) : List SV :=
  if (if lessB x.f y.f then y.f else x.f).six = (if lessB y.l x.l then y.l else x.l).six ∧ lessB (if lessB y.l x.l then y.l else x.l) (if lessB x.f y.f then y.f else x.f) = false then [⟨if lessB x.f y.f then y.f else x.f, if lessB y.l x.l then y.l else x.l⟩] else []
theorem less_six {a b : AV} (h : a.six ≠ b.six) : lessB a b = b.six := by unfold lessB; rw [if_neg h]
theorem less_false {a b : AV} (ha : a.Ok) (hb : b.Ok) (h6 : a.six = b.six) : lessB a b = false ↔ b.v ≤ a.v := by
  have := less_num ha hb h6
  cases h : lessB a b
  · rw [h] at this; simp at this; simp; omega
  · rw [h] at this; simp at this; simp; omega
theorem headM_law {x y : SV} (hx : x.Ok) (hy : y.Ok) : (∀ s ∈ headM x y, s.Ok ∧ subS s x ∧ subS s y) ∧ (∀ six z, (∃ s ∈ headM x y, s.has six z) ↔ x.has six z ∧ y.has six z) ∧ (headM x y).length ≤ 1 := by
  obtain ⟨x1, x2, x3, x4⟩ := hx
  obtain ⟨y1, y2, y3, y4⟩ := hy
  by_cases h6 : x.f.six = y.f.six
  · have e1 := less_num x1 y1 h6
    have e2 := less_num y2 x2 (by rw [← x3, ← y3, h6])
    have hlo : ∃ lo : AV, (if lessB x.f y.f then y.f else x.f) = lo ∧ lo.Ok ∧ lo.six = x.f.six ∧ x.f.v ≤ lo.v ∧ y.f.v ≤ lo.v ∧ (lo.v = x.f.v ∨ lo.v = y.f.v) := by
      by_cases hc : lessB x.f y.f = true
      · rw [if_pos hc]
        have := e1.1 hc
        exact ⟨_, rfl, y1, h6.symm, by omega, by omega, .inr rfl⟩
      · rw [if_neg hc]
        have : ¬ x.f.v < y.f.v := fun h => hc (e1.2 h)
        exact ⟨_, rfl, x1, rfl, by omega, by omega, .inl rfl⟩
    have hhi : ∃ hi : AV, (if lessB y.l x.l then y.l else x.l) = hi ∧ hi.Ok ∧ hi.six = x.f.six ∧ hi.v ≤ x.l.v ∧ hi.v ≤ y.l.v ∧ (hi.v = x.l.v ∨ hi.v = y.l.v) := by
      by_cases hc : lessB y.l x.l = true
      · rw [if_pos hc]
        have := e2.1 hc
        exact ⟨_, rfl, y2, by rw [← y3, h6], by omega, by omega, .inr rfl⟩
      · rw [if_neg hc]
        have : ¬ y.l.v < x.l.v := fun h => hc (e2.2 h)
        exact ⟨_, rfl, x2, x3.symm, by omega, by omega, .inl rfl⟩
    obtain ⟨lo, hlo, l1, l2, l3, l4, l5⟩ := hlo
    obtain ⟨hi, hhi, m1, m2, m3, m4, m5⟩ := hhi
    unfold headM
    rw [hlo, hhi]
    have e3 := less_false m1 l1 (by rw [m2, l2])
    by_cases hc : lo.v ≤ hi.v
    · rw [if_pos ⟨by rw [m2, l2], e3.2 hc⟩]
      refine ⟨?_, ?_, by simp⟩
      · intro s hs
        rw [List.mem_singleton] at hs
        subst hs
        exact ⟨⟨l1, m1, by rw [m2, l2], hc⟩, ⟨l2, l3, m3⟩, ⟨l2.trans h6, l4, m4⟩⟩
      · intro six z
        simp only [List.mem_singleton, exists_eq_left, SV.has]
        rw [l2, ← h6]
        constructor
        · rintro ⟨a, b, c⟩; exact ⟨⟨a, by omega, by omega⟩, a, by omega, by omega⟩
        · rintro ⟨⟨a, b, c⟩, d, e, f⟩; exact ⟨a, by omega, by omega⟩
    · rw [if_neg (fun h => hc (e3.1 h.2))]
      refine ⟨by simp, ?_, by simp⟩
      intro six z
      simp only [List.not_mem_nil, false_and, exists_false, false_iff, SV.has]
      rintro ⟨⟨a, b, c⟩, d, e, f⟩
      omega
  · have e1 := less_six h6
    have e2 := less_six (a := y.l) (b := x.l) (by rw [← x3, ← y3]; exact fun h => h6 h.symm)
    have hne : ¬ ((if lessB x.f y.f then y.f else x.f).six = (if lessB y.l x.l then y.l else x.l).six ∧ lessB (if lessB y.l x.l then y.l else x.l) (if lessB x.f y.f then y.f else x.f) = false) := by
      rw [e1, e2, ← x3]
      intro ⟨h, h'⟩
      cases ha : x.f.six <;> cases hb : y.f.six <;> simp_all
    unfold headM
    rw [if_neg hne]
    refine ⟨by simp, ?_, by simp⟩
    intro six z
    simp only [List.not_mem_nil, false_and, exists_false, false_iff, SV.has]
    rintro ⟨⟨a, b, c⟩, d, e, f⟩
    exact h6 (a.trans d.symm)

def meetL : List SV → List SV → List SV
  | [], _ => []
  | _ :: _, [] => []
  | x :: a, y :: b => headM x y ++ (if lessB x.l y.l then meetL a (y :: b) else meetL (x :: a) b)
termination_by a b => a.length + b.length
theorem meetL_nil (a : List SV) : meetL a [] = [] := by cases a <;> unfold meetL <;> rfl
theorem hasS_cons (x : SV) (a : List SV) (six : Bool) (z : Nat) : hasS (x :: a) six z ↔ x.has six z ∨ hasS a six z := by
  unfold hasS; simp
theorem joined_tail {x : SV} {a : List SV} (h : Joined (x :: a)) : Joined a := ⟨(List.pairwise_cons.1 h.sep).2, fun s hs => h.ok s (by simp [hs])⟩
/-- What lies behind the last of a span does not lie within it. -/
theorem past_has {x y z : SV} (hx : x.Ok) (hy : y.Ok) (hs : sepS y z) (hl : lessB x.l y.l = true ∨ lessB y.l x.l = false) {six : Bool} {v : Nat} (h1 : x.has six v) (h2 : z.has six v) : False := by
  obtain ⟨x1, x2, x3, x4⟩ := hx
  obtain ⟨y1, y2, y3, y4⟩ := hy
  obtain ⟨a1, a2, a3⟩ := h1
  obtain ⟨b1, b2, b3⟩ := h2
  rcases hs with ⟨c1, c2⟩ | ⟨c1, c2⟩
  · have hx6 : x.l.six = true := by rw [← x3, a1, ← b1, c2]
    have hy6 : y.l.six = false := by rw [← y3, c1]
    have hn : x.l.six ≠ y.l.six := by rw [hx6, hy6]; simp
    rcases hl with h | h
    · rw [less_six hn, hy6] at h; cases h
    · rw [less_six (fun h => hn h.symm), hx6] at h; cases h
  · have h6 : x.l.six = y.l.six := by rw [← x3, ← y3, a1, c1, b1]
    have hle : x.l.v ≤ y.l.v := by
      rcases hl with h | h
      · exact Nat.le_of_lt ((less_num x2 y2 h6).1 h)
      · exact (less_false y2 x2 h6.symm).1 h
    omega
theorem meet_law : ∀ (a b : List SV), Joined a → Joined b → Joined (meetL a b) ∧ (∀ six z, hasS (meetL a b) six z ↔ hasS a six z ∧ hasS b six z) ∧ (∀ s ∈ meetL a b, (∃ t ∈ a, subS s t) ∧ ∃ t ∈ b, subS s t) ∧ (meetL a b).length ≤ a.length + b.length := by
  intro a b
  induction hm : a.length + b.length generalizing a b with
  | zero =>
    intro _ _
    have ha : a = [] := List.eq_nil_of_length_eq_zero (by omega)
    subst ha
    unfold meetL
    exact ⟨⟨.nil, by simp⟩, by simp [hasS], by simp, by simp⟩
  | succ k ih =>
    intro ha hb
    cases a with
    | nil =>
      unfold meetL
      exact ⟨⟨.nil, by simp⟩, by simp [hasS], by simp, by simp⟩
    | cons x a =>
      cases b with
      | nil =>
        rw [meetL_nil]
        exact ⟨⟨.nil, by simp⟩, by simp [hasS], by simp, by simp⟩
      | cons y b =>
        have hx := ha.ok x (by simp)
        have hy := hb.ok y (by simp)
        have sa := (List.pairwise_cons.1 ha.sep).1
        have sb := (List.pairwise_cons.1 hb.sep).1
        obtain ⟨g1, g2, g3⟩ := headM_law hx hy
        have key : ∀ R : List SV, Joined R → (∀ s ∈ headM x y, ∀ t ∈ R, sepS s t) → Joined (headM x y ++ R) := by
          intro R hR hs
          refine ⟨List.pairwise_append.2 ⟨?_, hR.sep, hs⟩, ?_⟩
          · match headM x y, g3 with
            | [], _ => exact .nil
            | [_], _ => exact List.pairwise_singleton _ _
            | _ :: _ :: _, h => simp at h
          · intro s hs
            rcases List.mem_append.1 hs with h | h
            · exact (g1 s h).1
            · exact hR.ok s h
        have hap : ∀ (R : List SV) six z, hasS (headM x y ++ R) six z ↔ (x.has six z ∧ y.has six z) ∨ hasS R six z := by
          intro R six z
          rw [← g2 six z]
          unfold hasS
          simp only [List.mem_append]
          constructor
          · rintro ⟨s, hs | hs, h⟩
            · exact .inl ⟨s, hs, h⟩
            · exact .inr ⟨s, hs, h⟩
          · rintro (⟨s, hs, h⟩ | ⟨s, hs, h⟩)
            · exact ⟨s, .inl hs, h⟩
            · exact ⟨s, .inr hs, h⟩
        unfold meetL
        by_cases hc : lessB x.l y.l = true
        · rw [if_pos hc]
          obtain ⟨i1, i2, i3, i4⟩ := ih a (y :: b) (by simp only [List.length_cons] at hm ⊢; omega) (joined_tail ha) hb
          refine ⟨key _ i1 ?_, ?_, ?_, ?_⟩
          · intro s hs t ht
            obtain ⟨u, hu, hsu⟩ := (i3 t ht).1
            exact sepS_sub (sa u hu) (g1 s hs).2.1 hsu
          · intro six z
            rw [hap, i2, hasS_cons, hasS_cons]
            constructor
            · rintro (⟨h1, h2⟩ | ⟨h1, h2⟩)
              · exact ⟨.inl h1, .inl h2⟩
              · exact ⟨.inr h1, h2⟩
            · rintro ⟨h1 | h1, h2⟩
              · rcases h2 with h2 | ⟨u, hu, h2⟩
                · exact .inl ⟨h1, h2⟩
                · exact (past_has hx hy (sb u hu) (.inl hc) h1 h2).elim
              · exact .inr ⟨h1, h2⟩
          · intro s hs
            rcases List.mem_append.1 hs with h | h
            · exact ⟨⟨x, by simp, (g1 s h).2.1⟩, ⟨y, by simp, (g1 s h).2.2⟩⟩
            · obtain ⟨⟨u, hu, h1⟩, h2⟩ := i3 s h
              exact ⟨⟨u, by simp [hu], h1⟩, h2⟩
          · simp only [List.length_append, List.length_cons] at hm i4 ⊢
            omega
        · rw [if_neg hc]
          have hc' : lessB x.l y.l = false := by simpa using hc
          obtain ⟨i1, i2, i3, i4⟩ := ih (x :: a) b (by simp only [List.length_cons] at hm ⊢; omega) ha (joined_tail hb)
          refine ⟨key _ i1 ?_, ?_, ?_, ?_⟩
          · intro s hs t ht
            obtain ⟨u, hu, hsu⟩ := (i3 t ht).2
            exact sepS_sub (sb u hu) (g1 s hs).2.2 hsu
          · intro six z
            rw [hap, i2, hasS_cons, hasS_cons]
            constructor
            · rintro (⟨h1, h2⟩ | ⟨h1, h2⟩)
              · exact ⟨.inl h1, .inl h2⟩
              · exact ⟨h1, .inr h2⟩
            · rintro ⟨h1, h2 | h2⟩
              · rcases h1 with h1 | ⟨u, hu, h1⟩
                · exact .inl ⟨h1, h2⟩
                · exact (past_has hy hx (sa u hu) (.inr hc') h2 h1).elim
              · exact .inr ⟨h1, h2⟩
          · intro s hs
            rcases List.mem_append.1 hs with h | h
            · exact ⟨⟨x, by simp, (g1 s h).2.1⟩, ⟨y, by simp, (g1 s h).2.2⟩⟩
            · obtain ⟨h1, ⟨u, hu, h2⟩⟩ := i3 s h
              exact ⟨h1, ⟨u, by simp [hu], h2⟩⟩
          · simp only [List.length_append, List.length_cons] at hm i4 ⊢
            omega

end Go.Proofs.Ytonelibgaceflaa

namespace Go.Proofs.Ytonelibgaceflaa

/-- The greatest address of a family. -/
def topA (six : Bool) : AV := (⟨six, 0, 0, 0⟩ : PV).last
def zeroA (six : Bool) : AV := ⟨six, 0, 0⟩
theorem zero_pv (six : Bool) : PV.Ok ⟨six, 0, 0, 0⟩ := top_ok six
theorem zeroA_ok (six : Bool) : (zeroA six).Ok := (zero_pv six).addr
theorem zeroA_v (six : Bool) : (zeroA six).v = 0 := by
  have := AV.v_val (zeroA_ok six)
  cases six <;> simp [zeroA, valI] at this ⊢ <;> omega
theorem topA_ok (six : Bool) : (topA six).Ok := PV.last_ok _
theorem topA_six (six : Bool) : (topA six).six = six := rfl
theorem topA_v (six : Bool) : (topA six).v + 1 = 2 ^ widN six := by
  have h := last_num (zero_pv six)
  have hz : PV.v ⟨six, 0, 0, 0⟩ = 0 := zeroA_v six
  have hk : PV.k ⟨six, 0, 0, 0⟩ = widN six := by cases six <;> rfl
  rw [hz, hk] at h
  have := Nat.two_pow_pos (widN six)
  show (PV.last ⟨six, 0, 0, 0⟩).v + 1 = _
  omega

/-- What spans do not have of one family, from an address on. -/
def restG (six : Bool) : AV → List SV → List SV
  | at', [] => [⟨at', topA six⟩]
  | at', s :: l => if s.f.six = six then (if lessB at' s.f then [⟨at', s.f.plus (-1)⟩] else []) ++ (if plusOk s.l.six s.l.hi s.l.lo 1 then restG six (s.l.plus 1) l else []) else restG six at' l
def restL (l : List SV) : List SV := restG false (zeroA false) l ++ restG true (zeroA true) l
theorem restG_law (six : Bool) : ∀ (l : List SV) (at' : AV), Joined l → at'.Ok → at'.six = six → (∀ s ∈ l, s.f.six = six → at'.v ≤ s.f.v) →
    Joined (restG six at' l) ∧ (∀ z, hasS (restG six at' l) six z ↔ (at'.v ≤ z ∧ z < 2 ^ widN six ∧ ¬ hasS l six z)) ∧ (∀ t ∈ restG six at' l, t.f.six = six ∧ at'.v ≤ t.f.v) ∧ (restG six at' l).length ≤ l.length + 1 := by
  intro l
  induction l with
  | nil =>
    intro at' _ ha h6 _
    have ht := topA_v six
    have hlt := AV.v_lt ha
    rw [h6] at hlt
    unfold restG
    refine ⟨⟨List.pairwise_singleton _ _, ?_⟩, ?_, ?_, by simp⟩
    · intro s hs
      rw [List.mem_singleton] at hs
      subst hs
      exact ⟨ha, topA_ok six, h6, by show at'.v ≤ (topA six).v; omega⟩
    · intro z
      simp only [hasS, List.mem_singleton, exists_eq_left, SV.has, h6, true_and, List.not_mem_nil, false_and, exists_false, not_false_eq_true, and_true]
      constructor
      · rintro ⟨a, b⟩; exact ⟨a, by omega⟩
      · rintro ⟨a, b⟩; exact ⟨a, by omega⟩
    · intro t ht
      rw [List.mem_singleton] at ht
      subst ht
      exact ⟨h6, Nat.le_refl _⟩
  | cons s l ih =>
    intro at' hj ha h6 hle
    have hs := hj.ok s (by simp)
    have sl := (List.pairwise_cons.1 hj.sep).1
    obtain ⟨s1, s2, s3, s4⟩ := hs
    unfold restG
    by_cases hf : s.f.six = six
    · rw [if_pos hf]
      have hav := hle s (by simp) hf
      have hgap : ∀ t ∈ l, t.f.six = six → s.l.v + 1 < t.f.v := by
        intro t ht h
        rcases sl t ht with ⟨c1, c2⟩ | ⟨c1, c2⟩
        · rw [hf] at c1; rw [h] at c2; rw [c1] at c2; cases c2
        · exact c2
      -- the part ahead of the span
      have hlow : ∃ P : List SV, (if lessB at' s.f then [⟨at', s.f.plus (-1)⟩] else []) = P ∧ P.length ≤ 1 ∧ (∀ t ∈ P, t.Ok ∧ t.f.six = six ∧ t.f.v = at'.v ∧ t.l.v + 1 = s.f.v) ∧ (∀ z, hasS P six z ↔ at'.v ≤ z ∧ z < s.f.v) := by
        by_cases hc : lessB at' s.f = true
        · rw [if_pos hc]
          have hlt := (less_num ha s1 (by rw [h6, hf])).1 hc
          obtain ⟨d1, d2⟩ := down_num s1 (by omega)
          refine ⟨_, rfl, by simp, ?_, ?_⟩
          · intro t ht
            rw [List.mem_singleton] at ht
            subst ht
            exact ⟨⟨ha, d1, by show at'.six = s.f.six; rw [h6, hf], by show at'.v ≤ (s.f.plus (-1)).v; omega⟩, h6, rfl, by show (s.f.plus (-1)).v + 1 = s.f.v; omega⟩
          · intro z
            simp only [hasS, List.mem_singleton, exists_eq_left, SV.has, h6, true_and]
            constructor
            · rintro ⟨a, b⟩; exact ⟨a, by omega⟩
            · rintro ⟨a, b⟩; exact ⟨a, by omega⟩
        · rw [if_neg hc]
          have : ¬ at'.v < s.f.v := fun h => hc ((less_num ha s1 (by rw [h6, hf])).2 h)
          refine ⟨_, rfl, by simp, by simp, ?_⟩
          intro z
          simp only [hasS, List.not_mem_nil, false_and, exists_false, false_iff]
          omega
      obtain ⟨P, hP, p1, p2, p3⟩ := hlow
      rw [hP]
      -- the part behind it
      have hhigh : ∃ R : List SV, (if plusOk s.l.six s.l.hi s.l.lo 1 then restG six (s.l.plus 1) l else []) = R ∧ R.length ≤ l.length + 1 ∧ Joined R ∧ (∀ t ∈ R, t.f.six = six ∧ s.l.v + 1 ≤ t.f.v) ∧ (∀ z, hasS R six z ↔ s.l.v + 1 ≤ z ∧ z < 2 ^ widN six ∧ ¬ hasS l six z) := by
        have hup := up_num s2
        rw [← s3, hf] at hup
        rw [← s3, hf]
        by_cases hc : plusOk six s.l.hi s.l.lo 1 = true
        · rw [if_pos hc]
          obtain ⟨u1, u2⟩ := hup.2 hc
          obtain ⟨i1, i2, i3, i4⟩ := ih (s.l.plus 1) (joined_tail hj) u1 (by show s.l.six = six; rw [← s3, hf]) (fun t ht h => by have := hgap t ht h; omega)
          rw [u2] at i2 i3
          exact ⟨_, rfl, i4, i1, i3, i2⟩
        · rw [if_neg hc]
          have hlt := AV.v_lt s2
          rw [← s3, hf] at hlt
          have : ¬ s.l.v + 1 < 2 ^ widN six := fun h => hc (hup.1.2 h)
          refine ⟨_, rfl, by simp, ⟨.nil, by simp⟩, by simp, ?_⟩
          intro z
          simp only [hasS, List.not_mem_nil, false_and, exists_false, false_iff]
          omega
      obtain ⟨R, hR, r1, r2, r3, r4⟩ := hhigh
      rw [hR]
      refine ⟨⟨List.pairwise_append.2 ⟨?_, r2.sep, ?_⟩, ?_⟩, ?_, ?_, ?_⟩
      · match P, p1 with
        | [], _ => exact .nil
        | [_], _ => exact List.pairwise_singleton _ _
        | _ :: _ :: _, h => simp at h
      · intro a haP b hbR
        obtain ⟨q1, q2, q3, q4⟩ := p2 a haP
        obtain ⟨q5, q6⟩ := r3 b hbR
        exact .inr ⟨q2.trans q5.symm, by omega⟩
      · intro t ht
        rcases List.mem_append.1 ht with h | h
        · exact (p2 t h).1
        · exact r2.ok t h
      · intro z
        have : hasS (P ++ R) six z ↔ hasS P six z ∨ hasS R six z := by
          unfold hasS
          simp only [List.mem_append]
          constructor
          · rintro ⟨s, hs | hs, h⟩
            · exact .inl ⟨s, hs, h⟩
            · exact .inr ⟨s, hs, h⟩
          · rintro (⟨s, hs, h⟩ | ⟨s, hs, h⟩)
            · exact ⟨s, .inl hs, h⟩
            · exact ⟨s, .inr hs, h⟩
        rw [this, p3, r4, hasS_cons]
        have hlt := AV.v_lt s2
        rw [← s3, hf] at hlt
        have hsh : s.has six z ↔ s.f.v ≤ z ∧ z ≤ s.l.v := by unfold SV.has; rw [hf]; simp
        rw [hsh]
        constructor
        · rintro (⟨a, b⟩ | ⟨a, b, c⟩)
          · refine ⟨a, by omega, ?_⟩
            rintro (h | ⟨t, ht, h1, h2, h3⟩)
            · omega
            · have := hgap t ht h1
              omega
          · exact ⟨by omega, b, by rintro (h | h); · omega
                                   · exact c h⟩
        · rintro ⟨a, b, c⟩
          by_cases hz : z < s.f.v
          · exact .inl ⟨a, hz⟩
          · refine .inr ⟨?_, b, fun h => c (.inr h)⟩
            by_cases hz2 : z ≤ s.l.v
            · exact (c (.inl ⟨by omega, hz2⟩)).elim
            · omega
      · intro t ht
        rcases List.mem_append.1 ht with h | h
        · obtain ⟨_, q2, q3, _⟩ := p2 t h
          exact ⟨q2, by omega⟩
        · obtain ⟨q5, q6⟩ := r3 t h
          exact ⟨q5, by omega⟩
      · simp only [List.length_append, List.length_cons]
        omega
    · rw [if_neg hf]
      obtain ⟨i1, i2, i3, i4⟩ := ih at' (joined_tail hj) ha h6 (fun t ht => hle t (by simp [ht]))
      refine ⟨i1, ?_, i3, by simp only [List.length_cons]; omega⟩
      intro z
      rw [i2, hasS_cons]
      have : ¬ s.has six z := fun h => hf h.1
      simp [this]
theorem rest_law {l : List SV} (h : Joined l) : Joined (restL l) ∧ (∀ six z, z < 2 ^ widN six → (hasS (restL l) six z ↔ ¬ hasS l six z)) ∧ (restL l).length ≤ 2 * l.length + 2 := by
  obtain ⟨a1, a2, a3, a4⟩ := restG_law false l (zeroA false) h (zeroA_ok _) rfl (fun s _ _ => by rw [zeroA_v]; omega)
  obtain ⟨b1, b2, b3, b4⟩ := restG_law true l (zeroA true) h (zeroA_ok _) rfl (fun s _ _ => by rw [zeroA_v]; omega)
  unfold restL
  refine ⟨⟨List.pairwise_append.2 ⟨a1.sep, b1.sep, fun x hx y hy => .inl ⟨(a3 x hx).1, (b3 y hy).1⟩⟩, ?_⟩, ?_, ?_⟩
  · intro s hs
    rcases List.mem_append.1 hs with h | h
    · exact a1.ok s h
    · exact b1.ok s h
  · intro six z hz
    have hsp : hasS (restG false (zeroA false) l ++ restG true (zeroA true) l) six z ↔ hasS (restG false (zeroA false) l) six z ∨ hasS (restG true (zeroA true) l) six z := by
      unfold hasS
      simp only [List.mem_append]
      constructor
      · rintro ⟨s, hs | hs, h⟩
        · exact .inl ⟨s, hs, h⟩
        · exact .inr ⟨s, hs, h⟩
      · rintro (⟨s, hs, h⟩ | ⟨s, hs, h⟩)
        · exact ⟨s, .inl hs, h⟩
        · exact ⟨s, .inr hs, h⟩
    rw [hsp]
    cases six
    · have hn : ¬ hasS (restG true (zeroA true) l) false z := by
        rintro ⟨s, hs, h1, _⟩
        rw [(b3 s hs).1] at h1
        cases h1
      rw [a2, zeroA_v]
      simp [hn, hz]
    · have hn : ¬ hasS (restG false (zeroA false) l) true z := by
        rintro ⟨s, hs, h1, _⟩
        rw [(a3 s hs).1] at h1
        cases h1
      rw [b2, zeroA_v]
      simp [hn, hz]
  · rw [List.length_append]
    omega

end Go.Proofs.Ytonelibgaceflaa
