/-
  
  
  
  
  
  
  
  
  
  
  
  
  
-/
import Derived.Test.YtmljdjakbbedlaaC6
import Derived.Test.YtmljdjakbbedlaaC3
import Derived.Shelf.RegionOpen
import Derived.Maps.AppendAt
import Derived.Test.YtmljdjakbbedlaaC5
import Derived.Test.YtmljdjakbbedlaaC2
import Derived.StillTailTactics
import Derived.Deep.DeepCutAuto
import Derived.Deep.CutBlock
import Derived.Test.YtmljdjakbbedlaaChecked
namespace Go.Proofs.Ytmljdjakbbedlaa
open Go.BigFrame Go.ChangeShapes Go.WideShapes Go.ChangeAt Go.RowKit Go.Shelf

attribute [local go_sem] Oper.semAt_some

set_option maxRecDepth 100000 in
set_option maxHeartbeats 2000000 in
theorem tabEach_all {w : World} {B tb : Nat} {R : Bool → Tr} {c : Int} {N : Nat} (ht : Tab w B tb R c) (hN : (routesR R).length ≤ N) :
    SeqAll Try.prog 91 #[.pointer (some ⟨tb, 0, none⟩)] (fun x : RouteV => #[x.val]) w.heap.size (fun xs => xs = routesR R) N w := by
  intro n l J W hW hJal hY hJ
  have HL := Lib.hid (fun s (W1 : World) (hb1 : Below w.heap.size w W1) => (ht.lies s).keep (w' := W1) fun g hg => hb1.block g (ht.lt g (mem_tab hg)).2)
  have hbl := Lib.hid (fun s g (hg : g ∈ (R s).blocks) => (ht.lt g (mem_tab hg)).2)
  have NE := Lib.hid (nodeEach_in (n₀ := w.heap.size) (B := B) (N := N) (J := J) (l := l) (fun pre W1 q h => hJal pre W1 _ none h ⟨rfl, rfl, rfl, Nat.le_refl _, fun _ _ _ => rfl⟩ (fun r e => by cases e)) hY)
  have htb : tb < w.heap.size := (ht.lt tb (by simp [tabBlocks])).2
  have c0 := (hW.cell (p := ⟨tb, 0, none⟩) htb).trans (ht.blk.cell 0)
  have c1 := (hW.cell (p := ⟨tb, 1, none⟩) htb).trans (ht.blk.cell 1)
  simp at c0 c1
  have HR : Hid (routesR R = routesT (R false) ++ routesT (R true)) := rfl
  have hN1 : Hid ((routesT (R false)).length ≤ N) := by rw [HR.out, List.length_append] at hN; exact Lib.hid (by omega)
  have hN2 : Hid (([] ++ routesT (R false)).length + (routesT (R true)).length ≤ N) := by rw [HR.out, List.length_append] at hN; exact Lib.hid (by simpa using hN)
  obtain ⟨p0, hp0⟩ : ∃ p, p = (R false).ptr := ⟨_, rfl⟩
  obtain ⟨p1, hp1⟩ : ∃ p, p = (R true).ptr := ⟨_, rfl⟩
  rw [← hp0] at c0
  rw [← hp1] at c1
  have HP0 := Lib.hid hp0
  have HP1 := Lib.hid hp1
  clear hp0 hp1 ht hY hN
  have i0 : ∀ w, (Instr.index 188 (.agg #[p0, p1]) (.int .i64 0)).run Try.prog w = .ok p0 w := fun _ => by kernel_rfl
  have i1 : ∀ w, (Instr.index 188 (.agg #[p0, p1]) (.int .i64 1)).run Try.prog w = .ok p1 w := fun _ => by kernel_rfl
  show CallsIn _ _ _ _ #[.pointer (some ⟨tb, 0, none⟩), .func (.yield l) #[] #[]] W _
  refine callsIn_of_wp Try.func91 rfl trivial ?_ rfl
  simp only [Try.ntmps91, List.size_toArray, List.length_cons, List.length_nil, Nat.reduceAdd, Nat.reduceSub, Array.replicate_succ, Array.replicate_zero, List.push_toArray, List.append_toArray, List.nil_append, List.cons_append]
  gi_wp2
  gi_loopw [10, 5] (fun i _ wr => Below w.heap.size W wr ∧ ((i = .int .i64 0 ∧ J [] wr) ∨ (i = .int .i64 1 ∧ J ([] ++ routesT (R false)) wr) ∨ (i = .int .i64 2 ∧ J ([] ++ routesT (R false) ++ routesT (R true)) wr))) (fun i _ _ => 2 - (intOf i).toNat)
  case atStart => exact ⟨Below.refl _ _, .inl ⟨rfl, hJ⟩⟩
  case round =>
    obtain ⟨hb, hs⟩ := hrel
    have HB := Lib.hid (hW.trans hb)
    rcases hs with ⟨rfl, hJ0⟩ | ⟨rfl, hJ1⟩ | ⟨rfl, hJ2⟩
    · have CL := Lib.hid (fun m => NE.out (R false) m [] _ (HL.out false _ HB.out) (hbl.out false) hJ0 (by simpa using hN1.out))
      rw [← HP0.out] at CL
      gi_wp2_with fail
      refine ⟨trivial, fun h => (by cases h), (CL.out _).mono ?_⟩
      rintro e W2 ⟨rfl, hJ2, hb2⟩
      gi_wp2
      go_roundw
      case rel => exact ⟨hb.trans hb2, .inr (.inl ⟨rfl, hJ2⟩)⟩
      case measure => simp [intOf]
    · have CL := Lib.hid (fun m => NE.out (R true) m _ _ (HL.out true _ HB.out) (hbl.out true) hJ1 hN2.out)
      rw [← HP1.out] at CL
      gi_wp2_with fail
      refine ⟨trivial, fun h => (by cases h), (CL.out _).mono ?_⟩
      rintro e W2 ⟨rfl, hJ2, hb2⟩
      gi_wp2
      go_roundw
      case rel => exact ⟨hb.trans hb2, .inr (.inr ⟨rfl, hJ2⟩)⟩
      case measure => simp [intOf]
    · gi_wp2
      go_end0
      exact ⟨⟨_, rfl⟩, _, rfl, by rw [HR.out]; simpa using hJ2⟩

end Go.Proofs.Ytmljdjakbbedlaa

namespace Go.Proofs.Ytmljdjakbbedlaa
open Go.ChangeShapes Go.WideShapes Go.ChangeAt Go.RowKit Go.Shelf

attribute [local go_sem] Oper.semAt_some

/-- append of one element, laid just before in a block of its own, in a round of a loop over an iterator. -/
theorem wpListIn_append_r {F : Fence} {n : Nat} {P : Program} {ops : Array Oper} {rest : List Oper} {o : Oper} {a : Act} {Q : Exit → Act → World → Prop} {w0 : World} {us : List Value} {fr : Nat × Nat} {e : TypeId} (hgd : o.guard = none) (s x : Operand) (t : TypeId)
    (ho : o.op = .call { callee := .builtin .append, args := #[s, x], argTypes := #[t, t] })
    (base : Nat) (z : Value) (size bytes : Nat) (ht : P.underlying t = some (.slice e)) (hi : (P.info? e).map (fun i => (i.zero, i.size, i.bytes)) = some (some z, size, bytes))
    (hzs : z.cells.size = size) (hsz : 0 < size) (v : Value) (k : Nat) (xs : List Value) (hs : a.eval s = v) (hown : w0.ownsRow base e size v k xs) (hbase : base ≤ w0.heap.size)
    (hl : us.length = size) (h1 : ∀ u ∈ us, u.oneCell' = true)
    (hx : a.eval x = .slice (some ⟨w0.heap.size, 0, none⟩) 1 1) (h63 : k + 1 ≤ maxLen) (hbytes : (k + 1) * bytes ≤ 140737488355328)
    (h : ∀ v' w', w'.ownsRow base e size v' (k + 1) (xs ++ us) → (w0.alloc (.cells us.toArray e fr)).grownBy w' v.ownBlock → wpListIn F n P ops Q rest (a.put o.dst v') w') :
    wpListIn F n P ops Q (o :: rest) a (w0.alloc (.cells us.toArray e fr)) := by
  obtain ⟨i0, hi, hz0, hz1, hz2⟩ := info_parts hi
  refine wpListIn_append_own _ hgd s x t ho base e i0 z size bytes ht hi hz0 hz1 hz2 hzs hsz v k xs hs (hown.alloc _) ⟨w0.heap.size, 0, none⟩ 1 1 us hx (by omega) ?_ h1 h63 hbytes (by simp; omega) ?_
  · intro j u hj
    have e1 : (⟨w0.heap.size, 0, none⟩ : Addr).add j = ⟨w0.heap.size, j, none⟩ := by unfold Addr.add; split <;> simp_all
    rw [e1]
    have : (w0.alloc (.cells us.toArray e fr)).heap[w0.heap.size]? = some (.cells us.toArray e fr) := heap_alloc_new w0 _
    unfold World.cell?
    simp only [this]
    simpa using hj
  · intro v' w' hown' hg _
    exact h v' w' hown' hg

theorem rinfoC : (Try.prog.info? 48).map (fun i => (i.zero, i.size, i.bytes)) = some (some (.agg #[.bool false, .int .u64 0, .int .u64 0, .int .i64 0, .int .i64 0]), 5, 40) := by kernel_rfl

set_option maxRecDepth 100000 in
set_option maxHeartbeats 2000000 in
/-- slices.AppendSeq onto nil, against whatever iterator that is not stopped. -/
theorem appendSeq_rv {g : Nat} {la : Array Value} (eg : ∀ args w, (callFunc g args).run Try.prog w = .ok (.enter g args) w) {S : List RouteV → Prop} {N : Nat} {w0 w : World} (hn₀ : w0.heap.size ≤ w.heap.size) (hb0 : Below w0.heap.size w0 w) (hN : N ≤ 100000)
    (hseq : SeqAll Try.prog g la (fun x : RouteV => #[x.val]) w0.heap.size S N w0) :
    Calls Try.prog 137 #[.slice none 0 0, .func (.func g) la #[]] w fun e w' => ∃ (v : Value) (l : List RouteV), e = .returned v ∧ S l ∧ w'.ownsRow w.heap.size 48 5 v l.length (l.flatMap RouteV.cells) ∧ Below w.heap.size w w' := by
  refine (callsIn_wide (n := 9)).1 ?_
  refine callsIn_of_wp_marks Try.func137 rfl trivial ?_ rfl
  simp only [Try.ntmps137, List.size_toArray, List.length_cons, List.length_nil, Nat.reduceAdd, Nat.reduceSub, Array.replicate_succ, Array.replicate_zero, List.push_toArray, List.append_toArray, List.nil_append, List.cons_append]
  gi_wp2
  have bO := Boxed.new w 26 (.slice none 0 0)
  obtain ⟨W0, hW0⟩ : ∃ W0, w.alloc (.cells #[.slice none 0 0] 26) = W0 := ⟨_, rfl⟩
  have hB0 : Below w.heap.size w W0 := by rw [← hW0]; exact (Below.refl _ w).alloc (Nat.le_refl _) _
  have hsz : W0.heap.size = w.heap.size + 1 := by rw [← hW0]; simp
  rw [hW0] at bO ⊢
  clear hW0
  refine wpIn_range_recv (gf := g) (la := la) rfl eg hseq (by omega) (hb0.trans (hB0.mono hn₀)) (fun _ => rfl)
    (fun pre W => (∃ v, Boxed W w.heap.size 26 v ∧ W.ownsRow w.heap.size 48 5 v pre.length (pre.flatMap RouteV.cells) ∧ True) ∧ Below w.heap.size w W)
    (OwnFrom.and (Own.from (holdsRow_own w.heap.size w.heap.size 26 48 5 (fun pre : List RouteV => pre.length) (fun pre => pre.flatMap RouteV.cells) (fun _ _ => True)) _) (ownFrom_below (Nat.le_refl _) (by omega)))
    ⟨⟨_, bO, World.ownsRow_nil _ _ _ _, trivial⟩, hB0⟩
    (fun x a' W => ∃ Bx, w.heap.size < Bx ∧ W.heap[Bx]? = some (.cells #[.bool x.p.six, .int .u64 x.p.hi, .int .u64 x.p.lo, .int .i64 x.p.n, .int .i64 x.hop] 48 (0, 0)) ∧ a' = { tmps := #[.slice none 0 0, .func (.func g) la #[], .pointer (some ⟨w.heap.size, 0, none⟩), undef, .slice none 0 0, .pointer (some ⟨Bx, 0, none⟩), .func (.func g) la #[], x.val, undef, undef, undef, undef, undef], defers := [] })
    (fun x a' _ X Y row hs hg hr => by
      obtain ⟨Bx, h1, h2, h3⟩ := hs
      refine ⟨Bx, h1, (hg.block Bx (Array.getElem?_eq_some_iff.1 h2).1 (fun e => ?_)).trans h2, h3⟩
      obtain ⟨_, o, ho, hc⟩ := hr Bx e.symm
      rw [h2] at ho; cases ho; cases hc)
    ?assign ?body ?done
  case assign =>
    rintro l m pre x W K ⟨⟨v, hv, hrow, _⟩, hB⟩ hK
    unfold RouteV.val
    gi_wp2
    exact hK _ _ ((KeepsOthers.alloc _ _).from _) ((Below.refl _ W).alloc (by have := hB.size; omega) _) ⟨⟨v, hv.alloc _, hrow.alloc _, trivial⟩, hB.alloc hB.size _⟩ ⟨W.heap.size, hv.lt, heap_alloc_new W _, rfl⟩
  case body =>
    rintro l m pre x a' W ⟨⟨v, hv, hrow, _⟩, hB⟩ ⟨Bx, hBx, bX, rfl⟩ hlt
    have hc := hv.cell
    have x0 := cell_of_row W Bx 0 _ _ _ bX
    have x1 := cell_of_row W Bx 1 _ _ _ bX
    have x2 := cell_of_row W Bx 2 _ _ _ bX
    have x3 := cell_of_row W Bx 3 _ _ _ bX
    have x4 := cell_of_row W Bx 4 _ _ _ bX
    simp at x0 x1 x2 x3 x4
    have hBx2 := (Array.getElem?_eq_some_iff.1 bX).1
    clear bX
    unfold RouteV.val
    gi_wp2_with (gi_at_builtin; refine wpListIn_append_r (us := x.cells) rfl _ _ 26 rfl w.heap.size _ 5 40 Try.underlying26 rinfoC rfl (by decide) v _ _ rfl hrow hB.size rfl (by intro u hu; simp [RouteV.cells] at hu; rcases hu with rfl | rfl | rfl | rfl | rfl <;> rfl) rfl (by unfold maxLen; omega) (by omega) ?_; intro v' w1 hown' hgrow; obtain ⟨g', cap', rfl⟩ := ownsRow_succ hown'; obtain ⟨hv1, hv2, hr2, hk2, hb2⟩ := hv.appended (by decide) hrow hB.size (Nat.le_refl _) hown' hgrow; have hc1 := hv1.cell; have hf1 := hv1.frozen)
    exact ⟨hk2.from _, hb2.mono hn₀, ⟨_, hv2, by rw [List.length_append, List.flatMap_append]; simpa using hr2, trivial⟩, hB.trans hb2⟩
  case done =>
    rintro D ys W hD hS ⟨⟨v, hv, hrow, _⟩, hB⟩ hK
    have hc := hv.cell
    gi_wp2
    refine ⟨by simp, .inl ⟨_, _, rfl, run_takeDeferred hK, ?_⟩⟩
    exact ⟨_, results_tmp rfl _ _ _, v, ys, rfl, hS, ownsRow_putObj hrow _ hK rfl, hB.trans (belowK_b (w := w) (Nat.le_refl _) W D _ _ (by omega) hK rfl rfl)⟩

theorem collect_rv {g : Nat} {la : Array Value} (eg : ∀ args w, (callFunc g args).run Try.prog w = .ok (.enter g args) w) {S : List RouteV → Prop} {N : Nat} {w0 w : World} (hn₀ : w0.heap.size ≤ w.heap.size) (hb0 : Below w0.heap.size w0 w) (hN : N ≤ 100000)
    (hseq : SeqAll Try.prog g la (fun x : RouteV => #[x.val]) w0.heap.size S N w0) :
    Calls Try.prog 90 #[.func (.func g) la #[]] w fun e w' => ∃ (v : Value) (l : List RouteV), e = .returned v ∧ S l ∧ w'.ownsRow w.heap.size 48 5 v l.length (l.flatMap RouteV.cells) ∧ Below w.heap.size w w' := by
  have h := Lib.hid (appendSeq_rv eg hn₀ hb0 hN hseq)
  clear hseq
  go_enter Try.func90, Try.ntmps90
  go_wp2_with fail
  refine h.out.mono ?_
  rintro e w1 ⟨v, l, rfl, hS, hrow, hb⟩
  go_wp2
  go_ret
  exact ⟨v, l, rfl, hS, hrow, hb⟩

end Go.Proofs.Ytmljdjakbbedlaa

namespace Go.Proofs.Ytmljdjakbbedlaa
open Go.ChangeShapes Go.WideShapes Go.ChangeAt Go.RowKit

theorem hopAt_over {g : Nat} {q p : PV} {h : Int} {l r : Tr} (hne : ¬ q = p) (ho : q.over p = false) : hopAt (.node g q h l r) p = 0 := by
  unfold hopAt
  rw [if_neg hne, if_pos ho]

set_option maxRecDepth 100000 in
set_option maxHeartbeats 1600000 in
theorem get_any {w : World} {B tb : Nat} {R : Bool → Tr} {c : Int} (h : Tab w B tb R c) (p : PV) (hp : p.Ok) (hI : ∀ s, Inv s (fun _ => True) (R s)) :
    Calls Try.prog 228 #[.pointer (some ⟨tb, 0, none⟩), p.val] w fun e w' => e = .returned (.int .i64 (hopAt (R p.six) p)) ∧ Below w.heap.size w w' := by
  have HT := Lib.hid h
  have HI := Lib.hid hI
  have CP := Lib.hid (fun (Y : World) (hb : Below w.heap.size w Y) => place_any (h.below hb) p hp hI)
  obtain ⟨V, hV⟩ : ∃ V, hopAt (R p.six) p = V := ⟨_, rfl⟩
  have HV := Lib.hid hV
  rw [hV]
  obtain ⟨six, hi, lo, n⟩ := p
  clear h hp hI hV
  unfold PV.val at CP ⊢
  simp only at CP ⊢
  go_enter Try.func228, Try.ntmps228
  go_wp2_with fail
  refine (CP.out _ ((Below.refl _ _).alloc (Nat.le_refl _) _)).mono ?_
  rintro e X ⟨C, cur, hR, hon, hst, rfl, hb⟩
  obtain ⟨HBX, hsx, hbx⟩ := box1 (cs := [.bool six, .int .u64 hi, .int .u64 lo, .int .i64 n]) hb
  have e0 := hbx 0 _ rfl
  have e1 := hbx 1 _ rfl
  have e2 := hbx 2 _ rfl
  have e3 := hbx 3 _ rfl
  have hTX := HT.out.below HBX
  have hs1 := (hTX.slot hR).1
  have HTX := Lib.hid hTX
  have HB := Lib.hid HBX
  have HR := Lib.hid hR
  have HV2 : Hid (V = hopAt cur ⟨six, hi, lo, n⟩) := by show _ = _; rw [← HV.out, hR]; exact plug_hop (p := ⟨six, hi, lo, n⟩) C cur hon
  obtain ⟨sl, hsl⟩ : ∃ sl, Ctx.slot tb six C = sl := ⟨_, rfl⟩
  simp only at hs1
  rw [hsl] at hs1 ⊢
  clear hsl hb hbx HBX hTX hR hon
  cases cur with
  | nil =>
    change X.cell? sl = some (.pointer none) at hs1
    have HV3 : Hid (V = 0) := HV2.out
    go_wp2
    try go_quiet (fail)
    try go_wp2
    go_ret
    exact ⟨ret_int HV3.out.symm, by (repeat' first | with_reducible exact HB.out | with_reducible exact Below.refl _ _ | with_reducible refine Below.drew ?_ | with_reducible refine below_drewN ?_ _ | with_reducible refine Below.setCell ?_ ?_ _ | with_reducible refine Below.alloc ?_ ?_ _ | (simp; done) | (simp; omega) | omega)⟩
  | node g q h l r =>
    obtain ⟨hblk, hgm⟩ := HTX.out.node HR.out
    have n0 := hblk.cell 0
    have n1 := hblk.cell 1
    have n2 := hblk.cell 2
    have n3 := hblk.cell 3
    have n4 := hblk.cell 4
    have hgl := hblk.lt
    obtain ⟨qs, qh, ql, qn⟩ := q
    simp only [nodeCs] at n0 n1 n2 n3 n4
    simp at n0 n1 n2 n3 n4
    change X.cell? sl = some (.pointer (some ⟨g, 0, none⟩)) at hs1
    have HEQ := fun w => eqPV ⟨qs, qh, ql, qn⟩ ⟨six, hi, lo, n⟩ w
    unfold PV.val at HEQ
    simp only at HEQ
    clear hgm hblk
    by_cases he : (⟨qs, qh, ql, qn⟩ : PV) = ⟨six, hi, lo, n⟩
    · have HV3 : Hid (V = h) := by show _ = _; rw [HV2.out]; unfold hopAt; rw [if_pos he]
      rw [decide_eq_true he] at HEQ
      clear he hst
      go_wp2
      go_quiet (fail)
      go_wp2
      try go_quiet (fail)
      try go_wp2
      go_ret
      exact ⟨ret_int HV3.out.symm, by (repeat' first | with_reducible exact HB.out | with_reducible exact Below.refl _ _ | with_reducible refine Below.drew ?_ | with_reducible refine below_drewN ?_ _ | with_reducible refine Below.setCell ?_ ?_ _ | with_reducible refine Below.alloc ?_ ?_ _ | (simp; done) | (simp; omega) | omega)⟩
    · have HV3 : Hid (V = 0) := by
        show _ = _
        rw [HV2.out]
        exact hopAt_over he (by rcases hst with hx | hx; exact absurd hx he; exact hx)
      rw [decide_eq_false he] at HEQ
      clear he hst
      go_wp2
      go_quiet (fail)
      go_wp2
      try go_quiet (fail)
      try go_wp2
      go_ret
      exact ⟨ret_int HV3.out.symm, by (repeat' first | with_reducible exact HB.out | with_reducible exact Below.refl _ _ | with_reducible refine Below.drew ?_ | with_reducible refine below_drewN ?_ _ | with_reducible refine Below.setCell ?_ ?_ _ | with_reducible refine Below.alloc ?_ ?_ _ | (simp; done) | (simp; omega) | omega)⟩

end Go.Proofs.Ytmljdjakbbedlaa

namespace Go.Proofs.Ytmljdjakbbedlaa
open Classical
set_option linter.unusedVariables false

/-- What is left of a node without a hop. -/
def onlyZ (g : Nat) (q : PV) : Tr → Tr → Tr
  | .nil, r => r
  | .node g1 q1 h1 l1 r1, .nil => .node g1 q1 h1 l1 r1
  | .node g1 q1 h1 l1 r1, .node g2 q2 h2 l2 r2 => .node g q 0 (.node g1 q1 h1 l1 r1) (.node g2 q2 h2 l2 r2)
/-- What is left of a node. -/
def onlyT : Tr → Tr
  | .nil => .nil
  | .node g q h l r => if h = 0 then onlyZ g q l r else .node g q h l r

theorem only_keep {g : Nat} {q : PV} {h : Int} {l r : Tr} (hh : ¬ h = 0) : onlyT (.node g q h l r) = .node g q h l r := by
  simp [onlyT, hh]
theorem only_nil {g : Nat} {q : PV} {r : Tr} : onlyT (.node g q 0 .nil r) = r := by
  simp [onlyT, onlyZ]
theorem only_left {g : Nat} {q : PV} {l : Tr} : onlyT (.node g q 0 l .nil) = l := by
  cases l <;> simp [onlyT, onlyZ]
theorem only_two {g g1 g2 : Nat} {q q1 q2 : PV} {h1 h2 : Int} {l1 r1 l2 r2 : Tr} :
    onlyT (.node g q 0 (.node g1 q1 h1 l1 r1) (.node g2 q2 h2 l2 r2)) = .node g q 0 (.node g1 q1 h1 l1 r1) (.node g2 q2 h2 l2 r2) := by
  simp [onlyT, onlyZ]

/-- The four ways. -/
theorem only_ways (g : Nat) (q : PV) (h : Int) (l r : Tr) :
    onlyT (.node g q h l r) = .node g q h l r ∨ (h = 0 ∧ l = .nil ∧ onlyT (.node g q h l r) = r) ∨ (h = 0 ∧ r = .nil ∧ onlyT (.node g q h l r) = l) := by
  by_cases hh : h = 0
  · subst hh
    cases l with
    | nil => exact .inr (.inl ⟨rfl, rfl, only_nil⟩)
    | node g1 q1 h1 l1 r1 =>
      cases r with
      | nil => exact .inr (.inr ⟨rfl, rfl, only_left⟩)
      | node g2 q2 h2 l2 r2 => exact .inl only_two
  · exact .inl (only_keep hh)

theorem hopAt_only {six : Bool} {U : PV → Prop} {t : Tr} (hi : Inv six U t) {p : PV} (hp : p.Ok) : hopAt (onlyT t) p = hopAt t p := by
  cases t with
  | nil => rfl
  | node g q h l r =>
    obtain ⟨hq, h6, _, _, hl, hr⟩ := hi
    rcases only_ways g q h l r with e | ⟨rfl, rfl, e⟩ | ⟨rfl, rfl, e⟩
    · rw [e]
    · rw [e]
      show _ = if q = p then (0 : Int) else if q.over p = false then 0 else if p.bit q.n = 0 then hopAt .nil p else hopAt r p
      by_cases h0 : hopAt r p = 0
      · rw [h0]
        split
        · rfl
        · split
          · rfl
          · split <;> rfl
      · obtain ⟨u1, u2, u3⟩ := hopAt_under hq hp hr h0
        rw [if_neg (by rintro rfl; omega), if_neg (by rw [u2]; simp), if_neg (by simpa using u3)]
    · rw [e]
      show _ = if q = p then (0 : Int) else if q.over p = false then 0 else if p.bit q.n = 0 then hopAt l p else hopAt .nil p
      by_cases h0 : hopAt l p = 0
      · rw [h0]
        split
        · rfl
        · split
          · rfl
          · split <;> rfl
      · obtain ⟨u1, u2, u3⟩ := hopAt_under hq hp hl h0
        rw [if_neg (by rintro rfl; omega), if_neg (by rw [u2]; simp), if_pos (by simpa using u3)]

/-- What is asked of all below a place is asked of all below those. -/
def Closed (U : PV → Prop) : Prop := ∀ x y b, x.Ok → y.Ok → U x → Under x b y → U y
theorem closed_true : Closed fun _ => True := fun _ _ _ _ _ _ _ => trivial
theorem closed_under {q : PV} (hq : q.Ok) (b : Bool) : Closed (Under q b) := by
  intro x y b' hx hy hU hV
  refine ⟨by have := hU.1; have := hV.1; omega, over_trans hq hx hy hU.2.1 hV.2.1, ?_⟩
  rw [← over_bit hx hy hV.2.1 (ok_n hq).1 hU.1]
  exact hU.2.2

theorem inv_only {six : Bool} {U : PV → Prop} (hc : Closed U) {t : Tr} (hi : Inv six U t) : Inv six U (onlyT t) := by
  cases t with
  | nil => trivial
  | node g q h l r =>
    rcases only_ways g q h l r with e | ⟨_, _, e⟩ | ⟨_, _, e⟩
    · rw [e]; exact hi
    · rw [e]; exact hi.2.2.2.2.2.weak fun p hp hu => hc q p _ hi.1 hp hi.2.2.1 hu
    · rw [e]; exact hi.2.2.2.2.1.weak fun p hp hu => hc q p _ hi.1 hp hi.2.2.1 hu

theorem only_blocks {t : Tr} : (onlyT t).blocks.Sublist t.blocks := by
  cases t with
  | nil => exact List.Sublist.refl _
  | node g q h l r =>
    rcases only_ways g q h l r with e | ⟨_, rfl, e⟩ | ⟨_, rfl, e⟩
    · rw [e]; exact List.Sublist.refl _
    · rw [e]; exact List.Sublist.cons _ (List.sublist_append_right _ _)
    · rw [e]; exact List.Sublist.cons _ (List.sublist_append_left _ _)
theorem only_lies {w : World} {B : Nat} {t : Tr} (h : t.Lies w B) : (onlyT t).Lies w B := by
  cases t with
  | nil => trivial
  | node g q hh l r =>
    rcases only_ways g q hh l r with e | ⟨_, rfl, e⟩ | ⟨_, rfl, e⟩
    · rw [e]; exact h
    · rw [e]; exact h.2.2.2
    · rw [e]; exact h.2.2.1

theorem plug_congr {p : PV} : ∀ (C : Ctx) (t t' : Tr), hopAt t p = hopAt t' p → hopAt (C.plug t) p = hopAt (C.plug t') p
  | .top, _, _, h => h
  | .left C g q hh r, t, t', h => plug_congr C _ _ (by
      show (if q = p then hh else if q.over p = false then 0 else if p.bit q.n = 0 then hopAt t p else hopAt r p) = if q = p then hh else if q.over p = false then 0 else if p.bit q.n = 0 then hopAt t' p else hopAt r p
      rw [h])
  | .right C g q hh l, t, t', h => plug_congr C _ _ (by
      show (if q = p then hh else if q.over p = false then 0 else if p.bit q.n = 0 then hopAt l p else hopAt t p) = if q = p then hh else if q.over p = false then 0 else if p.bit q.n = 0 then hopAt l p else hopAt t' p
      rw [h])
theorem plug_set {six : Bool} : ∀ (C : Ctx) (t t' : Tr) (U : PV → Prop), Closed U → Inv six U (C.plug t) → (∀ U', Closed U' → Inv six U' t → Inv six U' t') → Inv six U (C.plug t')
  | .top, _, _, U, hc, hi, h => h U hc hi
  | .left C g q hh r, t, t', U, hc, hi, h => plug_set C (.node g q hh t r) (.node g q hh t' r) U hc hi fun U' hc' hi' =>
      ⟨hi'.1, hi'.2.1, hi'.2.2.1, hi'.2.2.2.1, h _ (closed_under hi'.1 true) hi'.2.2.2.2.1, hi'.2.2.2.2.2⟩
  | .right C g q hh l, t, t', U, hc, hi, h => plug_set C (.node g q hh l t) (.node g q hh l t') U hc hi fun U' hc' hi' =>
      ⟨hi'.1, hi'.2.1, hi'.2.2.1, hi'.2.2.2.1, hi'.2.2.2.2.1, h _ (closed_under hi'.1 false) hi'.2.2.2.2.2⟩

/-- The tree behind a cut, at its place: with the node above, if there is one. -/
def cutC (new : Tr) : Ctx → Tr
  | .top => new
  | .left C g q h r => C.plug (onlyT (.node g q h new r))
  | .right C g q h l => C.plug (onlyT (.node g q h l new))

theorem cut_hops {six : Bool} {C : Ctx} {g : Nat} {p : PV} {h : Int} {l r : Tr} (hi : Inv six (fun _ => True) (C.plug (.node g p h l r))) (hon : C.OnPath p) {x : PV} (hx : x.Ok) :
    hopAt (cutC (onlyT (.node g p 0 l r)) C) x = if x = p then 0 else hopAt (C.plug (.node g p h l r)) x := by
  have h0 : hopAt (C.plug (.node g p 0 l r)) x = if x = p then 0 else hopAt (C.plug (.node g p h l r)) x := by
    by_cases e : x = p
    · subst e
      rw [if_pos rfl, plug_hop C _ hon]
      show (if x = x then (0 : Int) else _) = 0
      rw [if_pos rfl]
    · rw [if_neg e]
      refine plug_congr C _ _ ?_
      have e2 : ¬ p = x := fun e' => e e'.symm
      simp only [hopAt, if_neg e2]
  have hi0 : Inv six (fun _ => True) (C.plug (.node g p 0 l r)) := plug_set C _ _ _ closed_true hi fun U' _ h' => ⟨h'.1, h'.2.1, h'.2.2.1, ⟨Int.le_refl _, by omega⟩, h'.2.2.2.2⟩
  obtain ⟨U', hi1⟩ := inv_plug C _ _ hi0
  have h1 : hopAt (C.plug (onlyT (.node g p 0 l r))) x = hopAt (C.plug (.node g p 0 l r)) x := plug_congr C _ _ (hopAt_only hi1 hx)
  have hi2 : Inv six (fun _ => True) (C.plug (onlyT (.node g p 0 l r))) := plug_set C _ _ _ closed_true hi0 fun U' hc h' => inv_only hc h'
  rw [← h0, ← h1]
  cases C with
  | top => rfl
  | left C g' q' h' r' =>
    obtain ⟨U'', hi3⟩ := inv_plug C _ _ hi2
    exact plug_congr C _ _ (hopAt_only hi3 hx)
  | right C g' q' h' l' =>
    obtain ⟨U'', hi3⟩ := inv_plug C _ _ hi2
    exact plug_congr C _ _ (hopAt_only hi3 hx)
theorem cut_inv {six : Bool} {C : Ctx} {g : Nat} {p : PV} {h : Int} {l r : Tr} (hi : Inv six (fun _ => True) (C.plug (.node g p h l r))) :
    Inv six (fun _ => True) (cutC (onlyT (.node g p 0 l r)) C) := by
  have hi0 : Inv six (fun _ => True) (C.plug (.node g p 0 l r)) := plug_set C _ _ _ closed_true hi fun U' _ h' => ⟨h'.1, h'.2.1, h'.2.2.1, ⟨Int.le_refl _, by omega⟩, h'.2.2.2.2⟩
  have hi2 : Inv six (fun _ => True) (C.plug (onlyT (.node g p 0 l r))) := plug_set C _ _ _ closed_true hi0 fun U' hc h' => inv_only hc h'
  cases C with
  | top => exact hi2
  | left C g' q' h' r' => exact plug_set C _ _ _ closed_true hi2 fun U' hc h' => inv_only hc h'
  | right C g' q' h' l' => exact plug_set C _ _ _ closed_true hi2 fun U' hc h' => inv_only hc h'

end Go.Proofs.Ytmljdjakbbedlaa

namespace Go.Proofs.Ytmljdjakbbedlaa
open Go.ChangeShapes Go.WideShapes Go.ChangeAt Go.RowKit

theorem upd_upd (R : Bool → Tr) (s : Bool) (t t' : Tr) : upd (upd R s t) s t' = upd R s t' := by
  funext s'
  unfold upd
  by_cases h : s' = s
  · rw [if_pos h, if_pos h]
  · rw [if_neg h, if_neg h, if_neg h]

/-- What is left of the node at a place is stored at the place. -/
theorem Tab.only {w : World} {B tb : Nat} {R : Bool → Tr} {c : Int} {s : Bool} {C : Ctx} {cur : Tr} (h : Tab w B tb R c) (hR : R s = C.plug cur) :
    Tab (w.setCell (C.slot tb s) (onlyT cur).ptr) B tb (upd R s (C.plug (onlyT cur))) c := by
  have hl := ((plug_lies C cur).1 (hR ▸ h.lies s)).2
  have hn := (nodup_parts h hR).2.2.2.1
  exact h.store hR (only_lies hl) (hn.sublist only_blocks) fun g hg => .inl (only_blocks.subset hg)

/-- The places above, from the top on. -/
def aboveL (tb : Nat) (six : Bool) : Ctx → List Value
  | .top => []
  | .left C _ _ _ _ => aboveL tb six C ++ [.pointer (some (C.slot tb six))]
  | .right C _ _ _ _ => aboveL tb six C ++ [.pointer (some (C.slot tb six))]
theorem above_deep {six s : Bool} {tb : Nat} : ∀ (C : Ctx) (g : Nat) (q : PV) (h : Int) (l r : Tr) (U : PV → Prop), Inv six U (C.plug (.node g q h l r)) → ((aboveL tb s C).length : Int) ≤ q.n
  | .top, g, q, h, l, r, U, hi => (ok_n hi.1).1
  | .left C g' q' h' r', g, q, h, l, r, U, hi => by
    obtain ⟨U', hi'⟩ := inv_plug C _ _ hi
    have := above_deep (tb := tb) (s := s) C g' q' h' (.node g q h l r) r' U hi
    have hu := hi'.2.2.2.2.1.2.2.1.1
    unfold aboveL
    rw [List.length_append]
    simp
    omega
  | .right C g' q' h' l', g, q, h, l, r, U, hi => by
    obtain ⟨U', hi'⟩ := inv_plug C _ _ hi
    have := above_deep (tb := tb) (s := s) C g' q' h' l' (.node g q h l r) U hi
    have hu := hi'.2.2.2.2.2.2.2.1.1
    unfold aboveL
    rw [List.length_append]
    simp
    omega

theorem holds_cut {w' : World} {B tb : Nat} {R : Bool → Tr} {c : Int} {l : List RouteV} {p : PV} {C : Ctx} {g : Nat} {h : Int} {lt rt : Tr} (hI : ∀ s, Inv s (fun _ => True) (R s)) (hm : ∀ p : PV, p.Ok → hopAt (R p.six) p = getR l p) (hc : c = l.length)
    (hv : Valid l) (hp : p.Ok) (hR : R p.six = C.plug (.node g p h lt rt)) (hon : C.OnPath p) (hh : ¬ h = 0) (hT : Tab w' B tb (upd R p.six (cutC (onlyT (.node g p 0 lt rt)) C)) (c - 1)) : Holds w' B tb (delR l p) := by
  have hget : getR l p = h := by
    rw [← hm p hp, hR, plug_hop C _ hon]
    show (if p = p then h else _) = h
    rw [if_pos rfl]
  have hhas : hasR l p = true := (hasR_get fun r hr => (hv.1 r hr).2.1).2 (by rw [hget]; exact hh)
  have hi := hI p.six
  rw [hR] at hi
  refine ⟨_, _, hT, fun s => ?_, fun p' hp' => ?_, ?_⟩
  · unfold upd
    split
    · rename_i e; subst e
      exact cut_inv hi
    · exact hI s
  · rw [getR_del]
    unfold upd
    by_cases e : p'.six = p.six
    · rw [if_pos e, cut_hops hi hon hp', ← hR, ← hm p' hp', e]
    · rw [if_neg e, if_neg (fun h => e (by rw [h]))]
      exact hm p' hp'
  · have := del_length hv.2 hhas
    omega
theorem holds_set {w' : World} {B tb G1 G2 : Nat} {R : Bool → Tr} {c : Int} {l : List RouteV} {p : PV} {hop : Int} (hI : ∀ s, Inv s (fun _ => True) (R s)) (hm : ∀ p : PV, p.Ok → hopAt (R p.six) p = getR l p) (hc : c = l.length)
    (hv : Valid l) (hp : p.Ok) (hh : 1 ≤ hop ∧ hop ≤ 999) (hT : Tab w' B tb (upd R p.six (putT p hop G1 G2 (R p.six))) (if hopAt (R p.six) p = 0 then c + 1 else c)) : Holds w' B tb (setR l p hop) := by
  have hg : hasR l p = true ↔ ¬ getR l p = 0 := hasR_get fun r hr => (hv.1 r hr).2.1
  refine ⟨_, _, hT, fun s => ?_, fun p' hp' => ?_, ?_⟩
  · unfold upd
    split
    · rename_i e; subst e
      exact inv_put hp rfl (by omega) _ _ (hI p.six) trivial (fun _ _ _ _ _ _ _ _ => trivial)
    · exact hI s
  · rw [getR_set]
    unfold upd
    by_cases e : p'.six = p.six
    · rw [if_pos e]
      have := hopAt_put (hop := hop) (G1 := G1) (G2 := G2) hp rfl p' hp' (R p.six) _ (hI p.six)
      rw [this, ← e, hm p' hp']
    · have e2 : ¬ p' = p := fun h => e (by rw [h])
      rw [if_neg e, if_neg e2]
      exact hm p' hp'
  · rw [set_length, hm p hp]
    by_cases h0 : getR l p = 0
    · rw [if_pos h0, if_neg (fun x => hg.1 x h0)]; omega
    · rw [if_neg h0, if_pos (hg.2 h0)]; exact hc

end Go.Proofs.Ytmljdjakbbedlaa

namespace Go.Proofs.Ytmljdjakbbedlaa
open Go.ChangeShapes Go.WideShapes Go.ChangeAt Go.RowKit

set_option maxHeartbeats 800000 in
theorem only_any {w : World} {g : Nat} {q : PV} {h : Int} {l r : Tr} (hk : Blk w g 193 (nodeCs q h l.ptr r.ptr)) :
    Calls Try.prog 233 #[.pointer (some ⟨g, 0, none⟩)] w fun e w' => e = .returned (onlyT (.node g q h l r)).ptr ∧ w' = w := by
  have n4 := hk.cell 4
  have n5 := hk.cell 5
  have n6 := hk.cell 6
  simp [nodeCs] at n4 n5 n6
  clear hk
  by_cases h0 : h = 0
  · subst h0
    cases l with
    | nil =>
      simp only [Tr.ptr] at n5
      obtain ⟨rp, hrp⟩ : ∃ rp, r.ptr = rp := ⟨_, rfl⟩
      rw [hrp] at n6
      have HV : Hid ((onlyT (.node g q 0 .nil r)).ptr = rp) := by show _ = _; rw [only_nil, hrp]
      clear hrp
      go_enter Try.func233, Try.ntmps233
      go_wp2
      go_ret
      exact ⟨(congrArg Ending.returned HV.out).symm, rfl⟩
    | node g1 q1 h1 l1 r1 =>
      simp only [Tr.ptr] at n5
      cases r with
      | nil =>
        simp only [Tr.ptr] at n6
        have HV : Hid ((onlyT (.node g q 0 (.node g1 q1 h1 l1 r1) .nil)).ptr = .pointer (some ⟨g1, 0, none⟩)) := by show _ = _; rw [only_left]; rfl
        go_enter Try.func233, Try.ntmps233
        go_wp2
        go_ret
        exact ⟨(congrArg Ending.returned HV.out).symm, rfl⟩
      | node g2 q2 h2 l2 r2 =>
        simp only [Tr.ptr] at n6
        have HV : Hid ((onlyT (.node g q 0 (.node g1 q1 h1 l1 r1) (.node g2 q2 h2 l2 r2))).ptr = .pointer (some ⟨g, 0, none⟩)) := by show _ = _; rw [only_two]; rfl
        go_enter Try.func233, Try.ntmps233
        go_wp2
        go_ret
        exact ⟨(congrArg Ending.returned HV.out).symm, rfl⟩
  · have HV : Hid ((onlyT (.node g q h l r)).ptr = .pointer (some ⟨g, 0, none⟩)) := by show _ = _; rw [only_keep h0]; rfl
    have hne : (h != 0) = true := by simpa using h0
    clear h0
    go_enter Try.func233, Try.ntmps233
    go_wp2
    go_ret
    exact ⟨(congrArg Ending.returned HV.out).symm, rfl⟩

theorem infoPP : (Try.prog.info? 195).map (fun i => (i.zero, i.size, i.bytes)) = some (some (.pointer none), 1, 8) := by kernel_rfl
theorem ctx_up {C : Ctx} (h : ¬ C = .top) (new : Tr) : ∃ (C' : Ctx) (g' : Nat) (q' : PV) (h' : Int) (l' r' : Tr), C.plug new = C'.plug (.node g' q' h' l' r') ∧ cutC new C = C'.plug (onlyT (.node g' q' h' l' r')) ∧ (∀ tb s, aboveL tb s C = aboveL tb s C' ++ [.pointer (some (C'.slot tb s))]) ∧ ∀ cur, ∃ l2 r2, C.plug cur = C'.plug (.node g' q' h' l2 r2) := by
  cases C with
  | top => exact absurd rfl h
  | left C g q hh r => exact ⟨C, g, q, hh, new, r, rfl, rfl, fun _ _ => rfl, fun cur => ⟨cur, r, rfl⟩⟩
  | right C g q hh l => exact ⟨C, g, q, hh, l, new, rfl, rfl, fun _ _ => rfl, fun cur => ⟨l, cur, rfl⟩⟩
theorem Kept.setCellS {S : List Nat} {w w' : World} (h : Kept S w w') {p : Addr} (hp : p.block ∈ S) (u : Value) : Kept S w (w'.setCell p u) :=
  ⟨h.os, h.tape, h.output, by simp; exact h.size, fun k hk hn => (Below.heap_setCell _ _ _ _ (fun e => by subst e; exact hn hp)).trans (h.block k hk hn)⟩
theorem Kept.drewS {S : List Nat} {w w' : World} (h : Kept S w w') : Kept S w w'.drew := by
  have hb : Below w'.heap.size w' w'.drew := (Below.refl _ _).drew
  exact ⟨hb.os.trans h.os, hb.tape.trans h.tape, hb.output.trans h.output, Nat.le_trans h.size hb.size, fun k hk hn => (hb.block k (by have := h.size; omega)).trans (h.block k hk hn)⟩
/-- Behind the first store: the node at the place is without a hop, and what is left of it stands there. -/
def CutMid (w : World) (B tb : Nat) (R : Bool → Tr) (c : Int) (p : PV) (C : Ctx) (g : Nat) (h : Int) (l r : Tr) (v5 v7 : Value) (wx : World) : Prop :=
  v7 = .int .i64 h ∧ Tab wx B tb (upd R p.six (C.plug (onlyT (.node g p 0 l r)))) c ∧ wx.ownsRow (w.heap.size + 1) 195 1 v5 (aboveL tb p.six C).length (aboveL tb p.six C) ∧ Kept (tabBlocks tb R) w wx
theorem cut_mid {w wo : World} {B tb : Nat} {R : Bool → Tr} {c : Int} {p : PV} {C : Ctx} {g : Nat} {h : Int} {l r : Tr} {v5 : Value} (hT : Tab w B tb R c) (hTo : Tab wo B tb R c) (hR : R p.six = C.plug (.node g p h l r)) (hb : Below w.heap.size w wo)
    (hown : wo.ownsRow (w.heap.size + 1) 195 1 v5 (aboveL tb p.six C).length (aboveL tb p.six C)) (d : Nat) :
    CutMid w B tb R c p C g h l r v5 (.int .i64 h) (((wo.drewN d).setCell ⟨g, 4, none⟩ (.int .i64 0)).setCell (C.slot tb p.six) (onlyT (.node g p 0 l r)).ptr) := by
  have hg := (hT.node hR).2
  have hs := (hT.slot hR).2.2
  have hgl := (hT.lt g hg).2
  have hsl := (hT.lt _ hs).2
  have t1 : Tab (wo.drewN d) B tb R c := hTo.below (below_drewN (Below.refl _ _) _)
  have t2 := t1.hop hR 0
  have t3 := t2.only (C := C) (cur := .node g p 0 l r) (s := p.six) (upd_same _ _ _)
  rw [upd_upd] at t3
  refine ⟨rfl, t3, ?_, ?_⟩
  · exact ownsRow_setCell_other (ownsRow_setCell_other (own_below hown (below_drewN (Below.refl _ _) _)) (fun he => by have h : w.heap.size + 1 ≤ g := (hown.lt _ he).1; omega) _) (fun he => by have h : w.heap.size + 1 ≤ (C.slot tb p.six).block := (hown.lt _ he).1; omega) _
  · have hk : Kept (tabBlocks tb R) w (wo.drewN d) := ⟨hb.os, hb.tape, hb.output, hb.size, fun k hk _ => hb.block k hk⟩
    refine ⟨hk.os, hk.tape, hk.output, by simpa using hk.size, fun k hkl hkn => ?_⟩
    rw [Below.heap_setCell _ _ _ _ (fun e => by rw [e] at hkn; exact hkn hs), Below.heap_setCell _ _ _ _ (fun e => by rw [e] at hkn; exact hkn hg)]
    exact hk.block k hkl hkn
theorem still_tailT {P : Program} {id : Nat} {Q : Exit → Act → World → Prop} {a : Act} {w : World} {l : List Oper} (n : Nat) (hm : P.follows .mixedOrders = true) (hB : Region.lexTailB .any l.toArray n = true)
    (h : wpStill P l.toArray w.drew (fun a' => wpList P l.toArray Q (l.drop n) a' w.drew) (l.take n) a) : (Code.region id l.toArray true).wp P Q a w := wp_region_still_tail n hm hB h
theorem tr_ptr (t : Tr) : ∃ o, t.ptr = .pointer o := by
  cases t with
  | nil => exact ⟨_, rfl⟩
  | node g q h l r => exact ⟨_, rfl⟩
/-- Where the search stands, with the places above. -/
def AtC (tb : Nat) (R : Bool → Tr) (p : PV) (k : Nat) (B1 : Nat) (va v : Value) (wr : World) : Prop :=
  ∃ (C : Ctx) (cur : Tr), R p.six = C.plug cur ∧ C.OnPath p ∧ cur.size ≤ k ∧ v = .pointer (some (C.slot tb p.six)) ∧ wr.ownsRow B1 195 1 va (aboveL tb p.six C).length (aboveL tb p.six C)
/-- What Cut returns, and what it leaves. -/
def CutPost (w : World) (B tb : Nat) (R : Bool → Tr) (c : Int) (p : PV) (e : Ending) (w' : World) : Prop :=
  e = .returned (.int .i64 (hopAt (R p.six) p)) ∧ (hopAt (R p.six) p = 0 → Below w.heap.size w w') ∧ Kept (tabBlocks tb R) w w' ∧
    (¬ hopAt (R p.six) p = 0 → ∃ (C : Ctx) (g : Nat) (h : Int) (lt rt : Tr), R p.six = C.plug (.node g p h lt rt) ∧ C.OnPath p ∧ ¬ h = 0 ∧ Tab w' B tb (upd R p.six (cutC (onlyT (.node g p 0 lt rt)) C)) (c - 1))
theorem cut_none {w w' : World} {B tb : Nat} {R : Bool → Tr} {c : Int} {p : PV} (h : hopAt (R p.six) p = 0) (hb : Below w.heap.size w w') : CutPost w B tb R c p (.returned (.int .i64 0)) w' :=
  ⟨by rw [h], fun _ => hb, ⟨hb.os, hb.tape, hb.output, hb.size, fun k hk _ => hb.block k hk⟩, fun hn => absurd h hn⟩
theorem slot_off {C : Ctx} {tb g : Nat} {six : Bool} : ¬ C.slot tb six = ⟨g, 4, none⟩ := by
  intro hx
  cases C with
  | top => simp only [Ctx.slot, slotOf] at hx; cases six <;> simp at hx
  | left C g q h r => simp [Ctx.slot] at hx
  | right C g q h r => simp [Ctx.slot] at hx
theorem slot_off2 {C : Ctx} {tb : Nat} {six : Bool} : ¬ C.slot tb six = ⟨tb, 2, none⟩ := by
  intro hx
  cases C with
  | top => simp only [Ctx.slot, slotOf] at hx; cases six <;> simp at hx
  | left C g q h r => simp [Ctx.slot] at hx
  | right C g q h r => simp [Ctx.slot] at hx

set_option maxRecDepth 100000 in
set_option maxHeartbeats 3200000 in
theorem tcut_any {w : World} {B tb : Nat} {R : Bool → Tr} {c : Int} (h : Tab w B tb R c) (p : PV) (hp : p.Ok) (hI : ∀ s, Inv s (fun _ => True) (R s)) (hc : 0 ≤ c ∧ c ≤ 1000000) :
    Calls Try.prog 227 #[.pointer (some ⟨tb, 0, none⟩), p.val] w (CutPost w B tb R c p) := by
  have HT := Lib.hid h
  have HP := Lib.hid hp
  have HI := Lib.hid hI
  have hRt := Lib.hid (fun w => root_any p tb w)
  obtain ⟨post, hpost⟩ : ∃ post, CutPost w B tb R c p = post := ⟨_, rfl⟩
  have HPO := Lib.hid hpost
  rw [hpost]
  clear hpost
  obtain ⟨six, hi, lo, n⟩ := p
  have hrng := hp
  unfold PV.Ok at hrng
  simp only at hrng
  have r1 := hrng.rhi
  have r2 := hrng.rlo
  have hm5 := Lib.hid (fun hs : six = false => by have := hrng.may; rw [hs] at this; exact (mayB_four this).2 : six = false → lo < 4294967296)
  have hlen := hrng.len
  have hwl := wideI_le six
  clear h hp hI hrng
  unfold PV.val at hRt ⊢
  simp only at hRt ⊢
  go_enter Try.func227, Try.ntmps227
  go_wp2_with fail
  refine (hRt.out _).mono ?_
  rintro e X ⟨rfl, hb⟩
  obtain ⟨HBX, hsx, hbx⟩ := box1 (cs := [.bool six, .int .u64 hi, .int .u64 lo, .int .i64 n]) hb
  have e0 := hbx 0 _ rfl
  have e1 := hbx 1 _ rfl
  have e2 := hbx 2 _ rfl
  have e3 := hbx 3 _ rfl
  have HTX := Lib.hid (HT.out.below HBX)
  have HB := Lib.hid HBX
  clear hb hbx HBX
  go_wp2
  go_loopg [5, 6] (R six).size (fun k va at_ wr => AtC tb R ⟨six, hi, lo, n⟩ k (w.heap.size + 1) va at_ wr ∧ Below (w.heap.size + 1) X wr)
  case atStart => exact ⟨⟨.top, R six, rfl, trivial, Nat.le_refl _, rfl, World.ownsRow_nil _ _ _ _⟩, Below.refl _ _⟩
  case round =>
    obtain ⟨⟨C, cur, hR, hon, hsz, rfl, hown⟩, hb⟩ := hrel
    obtain ⟨wo, rfl⟩ : ∃ wo : World, wo = wr := ⟨_, rfl⟩
    have hTW : Tab wo B tb R c := HTX.out.keep fun g hg => hb.block g (by have := (HT.out.lt g hg).2; omega)
    have HTW := Lib.hid hTW
    have hs := (hTW.slot hR).1
    have hsf := (hTW.slot hR).2.1
    have q0 := (hb.cell (p := ⟨w.heap.size, 0, none⟩) (by simp)).trans e0
    have q1 := (hb.cell (p := ⟨w.heap.size, 1, none⟩) (by simp)).trans e1
    have q2 := (hb.cell (p := ⟨w.heap.size, 2, none⟩) (by simp)).trans e2
    have q3 := (hb.cell (p := ⟨w.heap.size, 3, none⟩) (by simp)).trans e3
    have HR := Lib.hid hR
    have HON := Lib.hid hon
    have HBW := Lib.hid hb
    have HOWN := Lib.hid hown
    have hsw := hb.size
    have HBWW : Hid (Below w.heap.size w wo) := HB.out.trans (hb.mono (by omega))
    obtain ⟨U', hiv⟩ := inv_plug C cur _ (by rw [← hR]; exact HI.out six)
    have HVC : Hid (hopAt (R six) ⟨six, hi, lo, n⟩ = hopAt cur ⟨six, hi, lo, n⟩) := by show _ = _; rw [HR.out]; exact plug_hop (p := ⟨six, hi, lo, n⟩) C cur HON.out
    cases cur with
    | nil =>
      clear hR hon hb hiv hown hTW
      change wo.cell? (Ctx.slot tb six C) = some (.pointer none) at hs
      show Code.wp _ _ _ _ _
      simp only at hs hsf ⊢
      generalize hsl : Ctx.slot tb six C = sl at *
      clear hsl
      go_wp2_with fail
      go_quiet (fail)
      go_wp2_with fail
      go_quiet (fail)
      go_wp2
      rw [← HPO.out]
      exact cut_none (p := ⟨six, hi, lo, n⟩) (HVC.out.trans rfl) (by (repeat' first | with_reducible exact HBWW.out | with_reducible exact Below.refl _ _ | with_reducible refine Below.drew ?_ | with_reducible refine below_drewN ?_ _ | with_reducible refine Below.setCell ?_ ?_ _ | with_reducible refine Below.alloc ?_ ?_ _ | (simp; done) | (simp; omega) | omega))
    | node g q h l r =>
      obtain ⟨hq, hq6, _, hh, _, _⟩ := hiv
      obtain ⟨hblk, hgm⟩ := hTW.node hR
      have n0 := hblk.cell 0
      have n1 := hblk.cell 1
      have n2 := hblk.cell 2
      have n3 := hblk.cell 3
      have n4 := hblk.cell 4
      have f4 := hblk.frozen 4
      have HQ := Lib.hid hq
      obtain ⟨qs, qh, ql, qn⟩ := q
      simp only [nodeCs] at n0 n1 n2 n3 n4 hq6
      simp at n0 n1 n2 n3 n4
      subst hq6
      have hgl := hblk.lt
      have HGM := Lib.hid hgm
      have HBK := Lib.hid hblk
      have hcl := hTW.blk.cell 2
      have hcf := hTW.blk.frozen 2
      simp at hcl
      have HSLT := Lib.hid (hTW.slot hR).2.2
      clear hR hon hb hblk hgm hq hown hTW
      change wo.cell? (Ctx.slot tb qs C) = some (.pointer (some ⟨g, 0, none⟩)) at hs
      simp only at hsf HSLT ⊢
      have HSO : Hid (¬ Ctx.slot tb qs C = ⟨g, 4, none⟩) := slot_off
      have HSO2 : Hid (¬ Ctx.slot tb qs C = ⟨tb, 2, none⟩) := slot_off2
      generalize hsl : Ctx.slot tb qs C = sl at *
      have HSL := Lib.hid hsl
      clear hsl
      have HEQ := fun w => eqPV ⟨qs, qh, ql, qn⟩ ⟨qs, hi, lo, n⟩ w
      unfold PV.val at HEQ
      simp only at HEQ
      by_cases he : (⟨qs, qh, ql, qn⟩ : PV) = ⟨qs, hi, lo, n⟩
      · rw [decide_eq_true he] at HEQ
        injection he with _ a1 a2 a3
        subst a1 a2 a3
        have hv : hopAt (R qs) ⟨qs, qh, ql, qn⟩ = h := by rw [HVC.out]; unfold hopAt; rw [if_pos rfl]
        have HV := Lib.hid hv
        clear hv
        by_cases h0 : h = 0
        · subst h0
          go_wp2_with fail
          go_quiet (fail)
          go_wp2_with fail
          go_quiet (fail)
          go_wp2
          rw [← HPO.out]
          exact cut_none (p := ⟨qs, qh, ql, qn⟩) HV.out (by (repeat' first | with_reducible exact HBWW.out | with_reducible exact Below.refl _ _ | with_reducible refine Below.drew ?_ | with_reducible refine below_drewN ?_ _ | with_reducible refine Below.setCell ?_ ?_ _ | with_reducible refine Below.alloc ?_ ?_ _ | (simp; done) | (simp; omega) | omega))
        · have hn0 : (h == 0) = false := by simpa using h0
          have H0 := Lib.hid h0
          clear h0
          have hso := HSO.out
          have hso' : ¬ (⟨g, 4, none⟩ : Addr) = sl := fun e => HSO.out e.symm
          have con := fun d => only_any (w := (wo.drewN d).setCell ⟨g, 4, none⟩ (.int .i64 0)) (q := ⟨qs, qh, ql, qn⟩) (h := 0) (l := l) (r := r) (by simpa [nodeCs] using ((HBK.out.drewN d).set_ 4 (.int .i64 0)))
          obtain ⟨po, hpo⟩ := tr_ptr (onlyT (.node g ⟨qs, qh, ql, qn⟩ 0 l r))
          simp only [hpo] at con
          have CON := Lib.hid con
          have HPT := Lib.hid hpo
          clear con hpo
          go_wp2_with fail
          go_quiet (fail)
          go_wp2_with fail
          go_quiet (fail)
          go_upto_region 10 with fail
          go_cut [5, 7] (fun v5 v7 wx => CutMid w B tb R c ⟨qs, qh, ql, qn⟩ C g h l r v5 v7 wx)
          case first =>
            go_wp2_with fail
            refine (CON.out _).mono ?_
            rintro e w5 ⟨rfl, rfl⟩
            go_wp2
            go_meet
            case rel =>
              rw [← HSL.out, ← HPT.out]
              exact cut_mid HT.out HTW.out HR.out HBWW.out HOWN.out _
          case rest =>
            obtain ⟨rfl, ht, ho, hkp⟩ := hcut
            obtain ⟨W, rfl⟩ : ∃ W : World, W = wc := ⟨_, rfl⟩
            have hFIN : ∀ w', Tab w' B tb (upd R qs (cutC (onlyT (.node g ⟨qs, qh, ql, qn⟩ 0 l r)) C)) (c - 1) → Kept (tabBlocks tb R) w w' → CutPost w B tb R c ⟨qs, qh, ql, qn⟩ (.returned (.int .i64 h)) w' := fun w' h1 h2 =>
              ⟨by simp only; rw [HV.out], fun hx => absurd (HV.out.symm.trans hx) H0.out, h2, fun _ => ⟨C, g, h, l, r, HR.out, HON.out, H0.out, h1⟩⟩
            have HFIN := Lib.hid hFIN
            have hcl := ht.blk.cell 2
            have hcf := ht.blk.frozen 2
            simp at hcl
            simp only at ho
            obtain ⟨A5, c5, rfl, -, hrd⟩ := own_reads ho
            clear hFIN
            by_cases htop : C = .top
            · subst htop
              change Tab W B tb (upd R qs (onlyT (.node g ⟨qs, qh, ql, qn⟩ 0 l r))) c at ht
              have HTQ := Lib.hid ht
              have HKP := Lib.hid hkp
              have hl0 : (aboveL tb qs .top).length = 0 := rfl
              rw [hl0]
              clear ht ho hkp hrd hl0
              go_wp2
              rw [← HPO.out]
              exact HFIN.out _ (HTQ.out.count (c - 1)) (Kept.setCellS HKP.out (by simp [tabBlocks]) _)
            · obtain ⟨C', g', q', h', l', r', hpl, hcc, hab, hcu2⟩ := ctx_up htop (onlyT (.node g ⟨qs, qh, ql, qn⟩ 0 l r))
              rw [hcc] at HFIN
              have habq := hab tb qs
              obtain ⟨m, hm⟩ : ∃ m, (aboveL tb qs C').length = m := ⟨_, rfl⟩
              have hlen : (aboveL tb qs C).length = m + 1 := by rw [habq, List.length_append, hm]; rfl
              have hRR : upd R qs (C.plug (onlyT (.node g ⟨qs, qh, ql, qn⟩ 0 l r))) qs = C'.plug (.node g' q' h' l' r') := by rw [upd_same, hpl]
              simp only at ht
              have hs1 := (ht.slot hRR).1
              have hs2 := (ht.slot hRR).2.1
              have hsm := (ht.slot hRR).2.2
              have hnd := ht.node hRR
              obtain ⟨l2, r2, hp2⟩ := hcu2 (.node g ⟨qs, qh, ql, qn⟩ h l r)
              have hs2m := (HTW.out.slot (HR.out.trans hp2)).2.2
              have t4 := ht.only hRR
              rw [upd_upd] at t4
              have hml : (m : Int) ≤ 128 := by
                have := above_deep (tb := tb) (s := qs) C g ⟨qs, qh, ql, qn⟩ h l r _ (HR.out ▸ HI.out qs)
                rw [hlen] at this
                simp only at this
                omega
              rw [hlen] at hrd ⊢
              obtain ⟨ad, u, rfl, -, hxu, hcu⟩ := hrd.at_ (k := m) (by omega)
              have : u = .pointer (some (C'.slot tb qs)) := by
                rw [habq, List.getElem?_append_right (by omega), hm, Nat.sub_self] at hxu
                simpa using hxu.symm
              subst this
              obtain ⟨s2, hs2e⟩ : ∃ s2, C'.slot tb qs = s2 := ⟨_, rfl⟩
              have con := only_any (w := W.drew) (q := q') (h := h') (l := l') (r := r') hnd.1.drew
              obtain ⟨po2, hpo2⟩ := tr_ptr (onlyT (.node g' q' h' l' r'))
              rw [hpo2] at con
              rw [hpo2] at t4
              change W.cell? (C'.slot tb qs) = some (.pointer (some ⟨g', 0, none⟩)) at hs1
              have hoff : ¬ C'.slot tb qs = ⟨tb, 2, none⟩ := slot_off2
              have wm : IntKind.i64.wrap (m : Int) = (m : Int) := by rw [IntWalk.i64_in _ (by omega)]
              have hm0 : (0 : Int) ≤ (m : Int) := by omega
              have hm1 : (m : Int) < (m : Int) + 1 := by omega
              rw [hs2e] at hs1 hs2 hsm t4 hcu hoff hs2m
              have HS2 := Lib.hid hs2m
              have T4 := Lib.hid t4
              have CON2 := Lib.hid con
              have HKP := Lib.hid hkp
              have hoff' : ¬ (⟨tb, 2, none⟩ : Addr) = s2 := fun e => hoff e.symm
              have hsm' := True.intro
              clear hs2m hp2 hcu2 ht ho hkp hrd hpl hcc hab habq hm hlen hRR hsm hnd t4 con hpo2 hs2e hxu htop HEQ
              go_wp2_with fail
              refine still_tailT 14 (by kernel_rfl) (by kernel_rfl) ?_
              simp only [List.take_succ_cons, List.take_zero, List.drop_succ_cons, List.drop_zero]
              repeat still_step
              refine wpStill_step (fun K hK => ?_)
              go_simp
              refine ⟨_, CON2.out, hK _ ?_⟩
              clear hK K
              repeat still_step
              try refine wpStill_nil ?_
              go_wp2
              rw [← HPO.out]
              exact HFIN.out _ ((T4.out.count (c - 1)).keep fun _ _ => rfl) ((HKP.out.setCellS HS2.out _).setCellS (by simp [tabBlocks]) _).drewS
      · have CO := Lib.hid (fun w => over_any qs qh ql qn qs hi lo n w r1 r2 hm5.out (by have := ok_n HQ.out; simp only at this; have := wideI_le qs; omega) (by have := ok_n HQ.out; simp only at this; have := wideI_le qs; omega))
        have CA := Lib.hid (fun w h3 h4 => at_any qs hi lo qn w r1 r2 h3 h4)
        have HE := Lib.hid he
        have hsxw : w.heap.size < wo.heap.size := by omega
        rw [decide_eq_false he] at HEQ
        obtain ⟨sb, so, rfl⟩ : ∃ sb so, sl = ⟨sb, so, none⟩ := by rw [← HSL.out]; cases C <;> exact ⟨_, _, rfl⟩
        have hslt : sb < wo.heap.size := by have h : sb < w.heap.size := (HT.out.lt _ HSLT.out).2; omega
        obtain ⟨ov, hov⟩ : ∃ ov : Bool, overB qs qh ql qn qs hi lo n = ov := ⟨_, rfl⟩
        rw [hov] at CO
        have HOV := Lib.hid hov
        clear hov
        cases ov with
        | false =>
          have hv : hopAt (R qs) ⟨qs, hi, lo, n⟩ = 0 := by
            rw [HVC.out]
            unfold hopAt
            rw [if_neg HE.out, if_pos (show PV.over ⟨qs, qh, ql, qn⟩ ⟨qs, hi, lo, n⟩ = false from HOV.out)]
          have HV := Lib.hid hv
          clear hv he
          go_wp2_with fail
          go_region_held3 (fun w' => (∀ b o, b < wo.heap.size → w'.cell? ⟨b, o, none⟩ = wo.cell? ⟨b, o, none⟩) ∧ wo.heap.size ≤ w'.heap.size ∧ Hid (Below wo.heap.size wo w'))
            ((first | assumption | exact keep0 _ | exact keep1 (by assumption) (by assumption) | exact keepD (by assumption) | exact keepB (by assumption) (by assumption) | exact keepA (by assumption) _ | exact ⟨fun _ _ _ => rfl, Nat.le_refl _, Below.refl _ _⟩))
            (first | (go_at_call 46; refine (CO.out _).mono ?_; rintro e w2 ⟨rfl, hb2⟩))
          obtain ⟨fc2, z2, H2⟩ : (∀ b o, b < wo.heap.size → w2.cell? ⟨b, o, none⟩ = wo.cell? ⟨b, o, none⟩) ∧ wo.heap.size ≤ w2.heap.size ∧ Hid (Below wo.heap.size wo w2) := by assumption
          have HB2 : Hid (Below w.heap.size w w2) := HBWW.out.trans (H2.out.mono HBWW.out.size)
          go_wp2_with fail
          go_quiet (fail)
          go_wp2
          rw [← HPO.out]
          exact cut_none (p := ⟨qs, hi, lo, n⟩) HV.out (by (repeat' first | with_reducible exact HB2.out | with_reducible exact Below.refl _ _ | with_reducible refine Below.drew ?_ | with_reducible refine below_drewN ?_ _ | with_reducible refine Below.setCell ?_ ?_ _ | with_reducible refine Below.alloc ?_ ?_ _ | (simp; done) | (simp; omega) | omega))
        | true =>
          have hnn := over_n HQ.out HP.out HOV.out
          simp only at hnn
          have hlt : qn < n := by
            rcases Int.lt_or_le qn n with hx | hx
            · exact hx
            · exact absurd (over_eq HQ.out HP.out HOV.out hx) HE.out
          have hq0 := (ok_n HQ.out).1
          simp only at hq0
          have CB := Lib.hid (fun w => CA.out w hq0 (by omega))
          obtain ⟨bv, hbv⟩ : ∃ bv, bitI qs hi lo qn = bv := ⟨_, rfl⟩
          have hb01 : bv = 0 ∨ bv = 1 := by rw [← hbv]; exact PV.bit01 ⟨qs, hi, lo, n⟩ qn
          rw [hbv] at CB
          have HBV : Hid (PV.bit ⟨qs, hi, lo, n⟩ qn = bv) := hbv
          have hdeep : ((aboveL tb qs C).length : Int) ≤ 128 := by
            have := above_deep (tb := tb) (s := qs) C g ⟨qs, qh, ql, qn⟩ h l r _ (HR.out ▸ HI.out qs)
            simp only at this
            omega
          simp only at HOWN
          clear hbv he
          go_wp2_with fail
          go_region_held3 (fun w' => (∀ b o, b < wo.heap.size → w'.cell? ⟨b, o, none⟩ = wo.cell? ⟨b, o, none⟩) ∧ wo.heap.size ≤ w'.heap.size ∧ Hid (Below wo.heap.size wo w'))
            ((first | assumption | exact keep0 _ | exact keep1 (by assumption) (by assumption) | exact keepD (by assumption) | exact keepB (by assumption) (by assumption) | exact keepA (by assumption) _ | exact ⟨fun _ _ _ => rfl, Nat.le_refl _, Below.refl _ _⟩))
            (first | (go_at_call 46; refine (CO.out _).mono ?_; rintro e w2 ⟨rfl, hb2⟩))
          obtain ⟨fc2, z2, H2⟩ : (∀ b o, b < wo.heap.size → w2.cell? ⟨b, o, none⟩ = wo.cell? ⟨b, o, none⟩) ∧ wo.heap.size ≤ w2.heap.size ∧ Hid (Below wo.heap.size wo w2) := by assumption
          have HOW2 := Lib.hid (own_below HOWN.out H2.out)
          have hbz : w.heap.size + 1 ≤ w2.heap.size := by omega
          clear fc2
          go_wp2_with (at_builtin; go_loud (refine wpList_append_oneN (us := [.pointer (some ⟨sb, so, none⟩)]) rfl _ _ 329 rfl (w.heap.size + 1) _ 1 8 Try.underlying329 infoPP rfl (by decide) _ _ _ rfl rfl rfl HOW2.out ?c1 rfl ?c4 ?c2 ?c3 ?_))
          case c1 => exact hbz
          case c2 => unfold maxLen; omega
          case c3 => omega
          case c4 => intro u hu; simp at hu; subst hu; rfl
          intro v' w9 hown' hb9 hs9 hk9
          have hb92 : Below (w.heap.size + 1) wo w9 := (H2.out.mono (by omega)).trans hb9
          have HB9 := Lib.hid hb92
          have HB9X : Hid (Below (w.heap.size + 1) X w9) := HBW.out.trans hb92
          have HO9 := Lib.hid hown'
          have hgw := (HT.out.lt _ HGM.out).2
          have hsw9 : sb < w.heap.size := (HT.out.lt _ HSLT.out).2
          have s9 := (hb92.cell (p := ⟨sb, so, none⟩) (by show sb < _; omega)).trans hs
          have hs9' : sb < w9.heap.size := by have := hb92.size; omega
          have m0 := (hb92.cell (p := ⟨g, 0, none⟩) (by show g < _; omega)).trans n0
          have m1 := (hb92.cell (p := ⟨g, 1, none⟩) (by show g < _; omega)).trans n1
          have m2 := (hb92.cell (p := ⟨g, 2, none⟩) (by show g < _; omega)).trans n2
          have m3 := (hb92.cell (p := ⟨g, 3, none⟩) (by show g < _; omega)).trans n3
          have p0 := (hb92.cell (p := ⟨w.heap.size, 0, none⟩) (by simp)).trans q0
          have p1 := (hb92.cell (p := ⟨w.heap.size, 1, none⟩) (by simp)).trans q1
          have p2 := (hb92.cell (p := ⟨w.heap.size, 2, none⟩) (by simp)).trans q2
          have p3 := (hb92.cell (p := ⟨w.heap.size, 3, none⟩) (by simp)).trans q3
          have hg9 : g < w9.heap.size := by have := hb92.size; omega
          have hw9 : w.heap.size < w9.heap.size := by have := hb92.size; omega
          clear hown' hb9 hs9 hk9 hb92
          rcases hb01 with rfl | rfl
          all_goals
            go_wp2_with fail
            go_region_held3 (fun w' => (∀ b o, b < w9.heap.size → w'.cell? ⟨b, o, none⟩ = w9.cell? ⟨b, o, none⟩) ∧ w9.heap.size ≤ w'.heap.size ∧ Hid (Below w9.heap.size w9 w'))
              ((first | assumption | exact keep0 _ | exact keep1 (by assumption) (by assumption) | exact keepD (by assumption) | exact keepB (by assumption) (by assumption) | exact keepA (by assumption) _ | exact ⟨fun _ _ _ => rfl, Nat.le_refl _, Below.refl _ _⟩))
              (first | (go_at_call 132; refine (CB.out _).mono ?_; rintro e w3 ⟨rfl, hb3⟩))
            obtain ⟨fc3, z5, H3⟩ : (∀ b o, b < w9.heap.size → w3.cell? ⟨b, o, none⟩ = w9.cell? ⟨b, o, none⟩) ∧ w9.heap.size ≤ w3.heap.size ∧ Hid (Below w9.heap.size w9 w3) := by assumption
            have HB3 : Hid (Below (w.heap.size + 1) X w3) := HB9X.out.trans (H3.out.mono (by omega))
            have HO3 := Lib.hid (own_below HO9.out H3.out)
            go_wp2
            first
              | (go_roundg l.size
                 case measure => (simp [Tr.size] at hsz; omega)
                 case rel => exact ⟨⟨.left C g _ h r, l, HR.out, ⟨HE.out, HOV.out, HBV.out, HON.out⟩, Nat.le_refl _, rfl, by have := HO3.out; rw [← HSL.out] at this; simpa [aboveL] using this⟩, HB3.out⟩)
              | (go_roundg r.size
                 case measure => (simp [Tr.size] at hsz; omega)
                 case rel => exact ⟨⟨.right C g _ h l, r, HR.out, ⟨HE.out, HOV.out, by rw [HBV.out]; decide, HON.out⟩, Nat.le_refl _, rfl, by have := HO3.out; rw [← HSL.out] at this; simpa [aboveL] using this⟩, HB3.out⟩)

end Go.Proofs.Ytmljdjakbbedlaa

namespace Go.Proofs.Ytmljdjakbbedlaa
open Go.ChangeShapes Go.WideShapes Go.ChangeAt Go.RowKit

set_option maxHeartbeats 400000 in
theorem no_any (e0 : Int) (w : World) : Calls Try.prog 225 #[.int .i64 e0] w fun e w' => e = .returned (.agg #[.int .i64 e0, .int .i64 0, .int .i64 0]) ∧ Below w.heap.size w w' := by
  go_enter Try.func225, Try.ntmps225
  go_wp2
  refine bodyPost_ret (v := .agg #[.int .i64 e0, .int .i64 0, .int .i64 0]) (by simp [results, Try.results225, go_sem]) rfl ⟨rfl, ?_⟩
  (repeat' first | with_reducible exact Below.refl _ _ | with_reducible refine Below.setCell ?_ ?_ _ | with_reducible refine Below.alloc ?_ ?_ _ | exact Nat.le_refl _ | (simp; done) | (simp; omega) | omega)
set_option maxHeartbeats 400000 in
theorem had_any (hop wide : Int) (w : World) : Calls Try.prog 226 #[.int .i64 hop, .int .i64 wide] w fun e w' => e = .returned (if hop = 0 then .agg #[.int .i64 7, .int .i64 0, .int .i64 0] else .agg #[.int .i64 0, .int .i64 hop, .int .i64 wide]) ∧ Below w.heap.size w w' := by
  by_cases h0 : hop = 0
  · subst h0
    have C := fun w => no_any 7 w
    have HC := Lib.hid C
    clear C
    go_enter Try.func226, Try.ntmps226
    go_wp2_with fail
    refine (HC.out _).mono ?_
    rintro e w1 ⟨rfl, hb⟩
    obtain ⟨fc, ff⟩ := bcell hb
    have s1 := bsize1 hb
    have HB := Lib.hid (balloc1 hb)
    clear hb
    go_wp2
    refine bodyPost_ret (v := .agg #[.int .i64 7, .int .i64 0, .int .i64 0]) ?_ rfl ⟨rfl, ?_⟩
    · simp [results, Try.results226, go_sem, fc]
    · (repeat' first | with_reducible exact HB.out | with_reducible exact Below.refl _ _ | with_reducible refine Below.drew ?_ | with_reducible refine below_drewN ?_ _ | with_reducible refine Below.setCell ?_ ?_ _ | with_reducible refine Below.alloc ?_ ?_ _ | (simp; done) | (simp; omega) | omega)
  · have d : (hop == 0) = false := by simpa using h0
    rw [if_neg h0]
    clear h0
    go_enter Try.func226, Try.ntmps226
    go_wp2
    refine bodyPost_ret (v := .agg #[.int .i64 0, .int .i64 hop, .int .i64 wide]) (by simp [results, Try.results226, go_sem]) rfl ⟨rfl, ?_⟩
    (repeat' first | with_reducible exact Below.refl _ _ | with_reducible refine Below.setCell ?_ ?_ _ | with_reducible refine Below.alloc ?_ ?_ _ | exact Nat.le_refl _ | (simp; done) | (simp; omega) | omega)

theorem Tr.Lies.typ {w : World} {B : Nat} : ∀ {t : Tr}, t.Lies w B → ∀ g ∈ t.blocks, ∃ cs, Blk w g 193 cs
  | .nil, _, g, hg => by simp [Tr.blocks] at hg
  | .node g p h l r, h1, k, hk => by
    simp only [Tr.blocks, List.mem_cons, List.mem_append] at hk
    rcases hk with rfl | hk | hk
    · exact ⟨_, h1.2.1⟩
    · exact h1.2.2.1.typ k hk
    · exact h1.2.2.2.typ k hk
theorem Tab.notin {w : World} {B tb : Nat} {R : Bool → Tr} {c : Int} (h : Tab w B tb R c) {g : Nat} {t : TypeId} {cs : Array Value} (hk : Blk w g t cs) (h1 : ¬ t = 193) (h2 : ¬ t = 190) : g ∉ tabBlocks tb R := by
  intro hg
  simp only [tabBlocks, List.mem_cons, List.mem_append] at hg
  have hn : ∀ cs', Blk w g 193 cs' → False := fun cs' h' => hk.ne_ h' h1 rfl
  rcases hg with rfl | hg | hg
  · exact hk.ne_ h.blk h2 rfl
  · obtain ⟨cs', h'⟩ := (h.lies false).typ g hg; exact hn _ h'
  · obtain ⟨cs', h'⟩ := (h.lies true).typ g hg; exact hn _ h'
theorem Tab.far {w : World} {B tb : Nat} {R : Bool → Tr} {c : Int} (h : Tab w B tb R c) {p : Addr} (hp : p.block ∉ tabBlocks tb R) (u : Value) : Tab (w.setCell p u) B tb R c :=
  h.keep fun g hg => Below.heap_setCell w p u g (fun e => by subst e; exact hp hg)

/-- A table whose blocks and trees are named. -/
def HoldsR (w : World) (B tb : Nat) (R : Bool → Tr) (l : List RouteV) : Prop :=
  Tab w B tb R l.length ∧ (∀ s, Inv s (fun _ => True) (R s)) ∧ ∀ p : PV, p.Ok → hopAt (R p.six) p = getR l p
theorem HoldsR.holds {w : World} {B tb : Nat} {R : Bool → Tr} {l : List RouteV} (h : HoldsR w B tb R l) : Holds w B tb l := ⟨R, _, h.1, h.2.1, h.2.2, rfl⟩
theorem Holds.named {w : World} {B tb : Nat} {l : List RouteV} (h : Holds w B tb l) : ∃ R, HoldsR w B tb R l := by
  obtain ⟨R, c, h1, h2, h3, rfl⟩ := h
  exact ⟨R, h1, h2, h3⟩
theorem HoldsR.keep {w w' : World} {B tb : Nat} {R : Bool → Tr} {l : List RouteV} (h : HoldsR w B tb R l) (hk : ∀ g ∈ tabBlocks tb R, w'.heap[g]? = w.heap[g]?) : HoldsR w' B tb R l := ⟨h.1.keep hk, h.2⟩

def AnsV.val (x : AnsV) : Value := .agg #[.int .i64 x.code, .int .i64 x.hop, .int .i64 x.len]
def AnsV.cells (x : AnsV) : List Value := [.int .i64 x.code, .int .i64 x.hop, .int .i64 x.len]
def ActV.valD (a : ActV) : Value := .agg #[.int .i64 a.kind, .bool a.p.six, .int .u64 a.p.hi, .int .u64 a.p.lo, .int .i64 a.p.n, .int .i64 a.hop, .bool a.a.six, .int .u64 a.a.hi, .int .u64 a.a.lo]
/-- What Do returns, and what it leaves. -/
def DidA (w : World) (B tb : Nat) (R : Bool → Tr) (l : List RouteV) (a : ActV) (e : Ending) (w' : World) : Prop :=
  e = .returned (doA l a).val ∧ Holds w' B tb (doL l a) ∧ Kept (tabBlocks tb R) w w'
theorem Kept.far3 {S : List Nat} {w w' : World} (h : Kept S w w') (x y z : Value) : Kept S w (((w'.setCell ⟨w.heap.size + 1, 0, none⟩ x).setCell ⟨w.heap.size + 1, 1, none⟩ y).setCell ⟨w.heap.size + 1, 2, none⟩ z) :=
  ((h.setCell (p := ⟨w.heap.size + 1, 0, none⟩) (.inr (by simp)) x).setCell (p := ⟨w.heap.size + 1, 1, none⟩) (.inr (by simp)) y).setCell (p := ⟨w.heap.size + 1, 2, none⟩) (.inr (by simp)) z
theorem did_fin {w wx : World} {B tb : Nat} {R : Bool → Tr} {l : List RouteV} {a : ActV} {cs : Array Value} {e : Ending} (he : e = .returned (doA l a).val) (hH : Holds wx B tb (doL l a)) (hk : Kept (tabBlocks tb R) w wx) (hb : Blk wx (w.heap.size + 1) 38 cs) (x y z : Value) :
    DidA w B tb R l a e (((wx.setCell ⟨w.heap.size + 1, 0, none⟩ x).setCell ⟨w.heap.size + 1, 1, none⟩ y).setCell ⟨w.heap.size + 1, 2, none⟩ z) := by
  refine ⟨he, ?_, hk.far3 x y z⟩
  obtain ⟨R', c', h1, h2⟩ := hH
  have hn := h1.notin hb (by decide) (by decide)
  exact ⟨R', c', ((h1.far (p := ⟨w.heap.size + 1, 0, none⟩) hn x).far (p := ⟨w.heap.size + 1, 1, none⟩) hn y).far (p := ⟨w.heap.size + 1, 2, none⟩) hn z, h2⟩

theorem Kept.belowS {S : List Nat} {w w1 w2 : World} (h : Kept S w w1) (hb : Below w1.heap.size w1 w2) : Kept S w w2 :=
  ⟨hb.os.trans h.os, hb.tape.trans h.tape, hb.output.trans h.output, Nat.le_trans h.size hb.size, fun k hk hn => (hb.block k (by have := h.size; omega)).trans (h.block k hk hn)⟩
theorem HoldsR.below {w w' : World} {B tb : Nat} {R : Bool → Tr} {l : List RouteV} (h : HoldsR w B tb R l) (hb : Below w.heap.size w w') : HoldsR w' B tb R l := h.keep fun g hg => hb.block g (h.1.lt g hg).2

set_option maxRecDepth 100000 in
set_option maxHeartbeats 3200000 in
theorem tabDo_any {w : World} {B tb : Nat} {R : Bool → Tr} {l : List RouteV} (h : HoldsR w B tb R l) (hv : Valid l) (hl : l.length ≤ 60) (a : ActV) (ho1 : 0 ≤ a.p.hi ∧ a.p.hi < 18446744073709551616) (ho2 : 0 ≤ a.p.lo ∧ a.p.lo < 18446744073709551616) (ha1 : 0 ≤ a.a.hi ∧ a.a.hi < 18446744073709551616) (ha2 : 0 ≤ a.a.lo ∧ a.a.lo < 18446744073709551616) :
    Calls Try.prog 209 #[.pointer (some ⟨tb, 0, none⟩), a.valD] w (DidA w B tb R l a) := by
  have H := Lib.hid h
  have HV := Lib.hid hv
  obtain ⟨post, hpost⟩ : ∃ post, DidA w B tb R l a = post := ⟨_, rfl⟩
  have HPO := Lib.hid hpost
  rw [hpost]
  obtain ⟨av, hav⟩ : ∃ av, a = av := ⟨_, rfl⟩
  rw [hav] at HPO
  have HAV := Lib.hid hav
  obtain ⟨kd, ⟨six, hi, lo, n⟩, hop, ⟨six2, hi2, lo2⟩⟩ := a
  simp only at ho1 ho2 ha1 ha2
  unfold ActV.valD
  simp only
  clear hpost hav h hv
  obtain ⟨X, hX⟩ : ∃ X : World, X = (w.alloc (.cells #[.int .i64 kd, .bool six, .int .u64 hi, .int .u64 lo, .int .i64 n, .int .i64 hop, .bool six2, .int .u64 hi2, .int .u64 lo2] 132)).alloc (.cells #[.int .i64 0, .int .i64 0, .int .i64 0] 38) := ⟨_, rfl⟩
  have kA : Blk X w.heap.size 132 #[.int .i64 kd, .bool six, .int .u64 hi, .int .u64 lo, .int .i64 n, .int .i64 hop, .bool six2, .int .u64 hi2, .int .u64 lo2] := by rw [hX]; exact (Blk.new _ _ _).alloc _
  have kR : Blk X (w.heap.size + 1) 38 #[.int .i64 0, .int .i64 0, .int .i64 0] := by
    rw [hX]
    have := Blk.new (w.alloc (.cells #[.int .i64 kd, .bool six, .int .u64 hi, .int .u64 lo, .int .i64 n, .int .i64 hop, .bool six2, .int .u64 hi2, .int .u64 lo2] 132)) 38 #[.int .i64 0, .int .i64 0, .int .i64 0]
    rwa [World.size_alloc] at this
  have hXs : X.heap.size = w.heap.size + 1 + 1 := by rw [hX]; simp
  have hXb : Below w.heap.size w X := by rw [hX]; exact ((Below.refl _ _).alloc (Nat.le_refl _) _).alloc (by simp) _
  have a0 := kA.cell 0
  have a1 := kA.cell 1
  have a2 := kA.cell 2
  have a3 := kA.cell 3
  have a4 := kA.cell 4
  have a5 := kA.cell 5
  have a6 := kA.cell 6
  have a7 := kA.cell 7
  have a8 := kA.cell 8
  have b0 := kR.cell 0
  have b1 := kR.cell 1
  have b2 := kR.cell 2
  have f0 := kR.frozen 0
  have f1 := kR.frozen 1
  have f2 := kR.frozen 2
  simp at a0 a1 a2 a3 a4 a5 a6 a7 a8 b0 b1 b2
  have HX := Lib.hid (H.out.below hXb)
  have HXB := Lib.hid hXb
  have HKR := Lib.hid kR
  have HKA := Lib.hid kA
  have hXl : w.heap.size < X.heap.size := by omega
  have hXl1 : w.heap.size + 1 < X.heap.size := by omega
  have htb : tb < X.heap.size := (HX.out.1.blk).lt
  have hc2 := HX.out.1.blk.cell 2
  simp at hc2
  have HXS := Lib.hid hXs
  have CNO := Lib.hid no_any
  have CHAD := Lib.hid had_any
  -- a path on which the table stays as it is
  have HSTAY : Hid (∀ (wx : World) (x y z : Value), Below X.heap.size X wx → doL l av = l → ∀ e, e = .returned (doA l av).val → post e (((wx.setCell ⟨w.heap.size + 1, 0, none⟩ x).setCell ⟨w.heap.size + 1, 1, none⟩ y).setCell ⟨w.heap.size + 1, 2, none⟩ z)) := by
    intro wx x y z hb hd e he
    rw [← HPO.out]
    refine did_fin he (by rw [hd]; exact (HX.out.below hb).holds) ((Kept.of_below HXB.out).belowS hb) (HKR.out.below hb (by omega)) x y z
  have HXE := Lib.hid hX
  clear hX kA kR hXs hXb
  by_cases hk : kd < 1 ∨ 4 < kd
  · have hd : doA l av = ⟨3, 0, 0⟩ := by rw [← HAV.out]; unfold doA; rw [if_pos hk]
    have hL : doL l av = l := by rw [← HAV.out]; unfold doL; rw [if_pos (by simp only; omega)]
    have HD := Lib.hid hd
    have HL := Lib.hid hL
    clear hd hL
    have CN := Lib.hid (CNO.out 3)
    by_cases h1 : kd < 1
    · have d1 : decide (kd < 1) = true := by simpa using h1
      clear hk h1
      go_enter Try.func209, Try.ntmps209
      go_wp2_with fail
      rw [← HXE.out]
      refine (CN.out _).mono ?_
      rintro e w1 ⟨rfl, hb1⟩
      obtain ⟨fc, ff⟩ := bcell hb1
      have HB1 := Lib.hid hb1
      clear hb1
      go_wp2
      refine bodyPost_ret (v := .agg #[.int .i64 3, .int .i64 0, .int .i64 0]) ?_ rfl ?_
      · simp [results, Try.results209, go_sem, fc, hXl1, b0, b1, b2]
      · exact HSTAY.out _ _ _ _ HB1.out HL.out _ (by rw [HD.out]; rfl)
    · have d1 : decide (kd < 1) = false := by simpa using h1
      have d2 : decide (4 < kd) = true := by simp; omega
      clear hk h1
      go_enter Try.func209, Try.ntmps209
      go_wp2_with fail
      rw [← HXE.out]
      refine (CN.out _).mono ?_
      rintro e w1 ⟨rfl, hb1⟩
      obtain ⟨fc, ff⟩ := bcell hb1
      have HB1 := Lib.hid hb1
      clear hb1
      go_wp2
      refine bodyPost_ret (v := .agg #[.int .i64 3, .int .i64 0, .int .i64 0]) ?_ rfl ?_
      · simp [results, Try.results209, go_sem, fc, hXl1, b0, b1, b2]
      · exact HSTAY.out _ _ _ _ HB1.out HL.out _ (by rw [HD.out]; rfl)
  · by_cases hk3 : kd = 3
    · subst hk3
      clear hk
      have CM := Lib.hid (fun w => may_any six2 hi2 lo2 w ha2.1)
      obtain ⟨mb, hmb⟩ : ∃ mb, mayB six2 hi2 lo2 = mb := ⟨_, rfl⟩
      rw [hmb] at CM
      have hL : doL l av = l := by rw [← HAV.out]; unfold doL; rw [if_pos (by simp)]
      have HL := Lib.hid hL
      have HMB := Lib.hid hmb
      clear hL hmb
      cases mb with
      | false =>
        have hd : doA l av = ⟨4, 0, 0⟩ := by rw [← HAV.out]; unfold doA; rw [if_neg (by simp), if_pos rfl, if_pos HMB.out]
        have HD := Lib.hid hd
        have CN := Lib.hid (CNO.out 4)
        clear hd
        go_enter Try.func209, Try.ntmps209
        go_wp2_with fail
        rw [← HXE.out]
        refine (CM.out _).mono ?_
        rintro e w1 ⟨rfl, hb1⟩
        obtain ⟨fc, ff⟩ := bcell hb1
        have s1 : w.heap.size < w1.heap.size := by have := hb1.size; omega
        have s2 : w.heap.size + 1 < w1.heap.size := by have := hb1.size; omega
        have HB1 := Lib.hid hb1
        clear hb1
        go_wp2_with fail
        refine (CN.out _).mono ?_
        rintro e w2 ⟨rfl, hb2⟩
        obtain ⟨fc2, ff2⟩ := bcell hb2
        have HB2 := Lib.hid (below_step HB1.out hb2)
        clear hb2
        go_wp2
        refine bodyPost_ret (v := .agg #[.int .i64 4, .int .i64 0, .int .i64 0]) ?_ rfl ?_
        · simp [results, Try.results209, go_sem, fc, fc2, hXl1, s2, b0, b1, b2]
        · exact HSTAY.out _ _ _ _ HB2.out HL.out _ (by rw [HD.out]; rfl)
      | true =>
        have hlk := look_goes (t := R six2) (six := six2) (hi := hi2) (lo := lo2) HV.out (addr_pfx (a := ⟨six2, hi2, lo2⟩) ⟨ha1, ha2, HMB.out⟩) (HX.out.2.1 six2) (fun p hp h6 => by rw [← h6]; exact HX.out.2.2 p hp)
        have CT := Lib.hid (fun (Y : World) (hb : Below X.heap.size X Y) => tlook_any (HX.out.below hb).1 HX.out.2.1 six2 hi2 lo2 ⟨ha1, ha2, HMB.out⟩)
        rw [hlk] at CT
        obtain ⟨res, hres⟩ : ∃ res, goesR l six2 hi2 lo2 = res := ⟨_, rfl⟩
        rw [hres] at CT
        have hd : doA l av = ⟨0, res.1, res.2⟩ := by rw [← HAV.out]; unfold doA; rw [if_neg (by simp), if_pos rfl, if_neg (by simp only; rw [HMB.out]; simp), hres]
        have HD := Lib.hid hd
        clear hd hlk hres
        go_enter Try.func209, Try.ntmps209
        go_wp2_with fail
        rw [← HXE.out]
        refine (CM.out _).mono ?_
        rintro e w1 ⟨rfl, hb1⟩
        obtain ⟨fc, ff⟩ := bcell hb1
        have s1 : w.heap.size < w1.heap.size := by have := hb1.size; omega
        have s2 : w.heap.size + 1 < w1.heap.size := by have := hb1.size; omega
        have HB1 := Lib.hid hb1
        clear hb1
        go_wp2_with fail
        refine (CT.out _ HB1.out).mono ?_
        rintro e w2 ⟨rfl, hb2⟩
        obtain ⟨fc2, ff2⟩ := bcell hb2
        have HB2 := Lib.hid (below_step HB1.out hb2)
        clear hb2
        go_wp2
        refine bodyPost_ret (v := .agg #[.int .i64 0, .int .i64 res.1, .int .i64 res.2]) ?_ rfl ?_
        · simp [results, Try.results209, go_sem, fc, fc2, hXl1, s2, b0, b1, b2]
        · exact HSTAY.out _ _ _ _ HB2.out HL.out _ (by rw [HD.out]; rfl)
    · have CK := Lib.hid (fun w => check_any six hi lo n w ho1 ho2)
      obtain ⟨ck, hck⟩ : ∃ ck, chk six hi lo n = ck := ⟨_, rfl⟩
      rw [hck] at CK
      have HCK := Lib.hid hck
      have HCP : Hid (PV.chk ⟨six, hi, lo, n⟩ = ck) := hck
      clear hck
      have key : kd = 1 ∨ kd = 2 ∨ kd = 4 := by omega
      clear hk hk3
      by_cases hz : ck = 0
      · subst hz
        have hpok : PV.Ok ⟨six, hi, lo, n⟩ := chk_zero ho1 ho2 HCK.out
        have HPK := Lib.hid hpok
        have hgv := HX.out.2.2 ⟨six, hi, lo, n⟩ hpok
        simp only at hgv
        obtain ⟨gv, hg⟩ : ∃ gv, getR l ⟨six, hi, lo, n⟩ = gv := ⟨_, rfl⟩
        rw [hg] at hgv
        have HGV := Lib.hid hgv
        have HG := Lib.hid hg
        have hll : 0 ≤ (l.length : Int) ∧ (l.length : Int) ≤ 60 := by omega
        have CG := Lib.hid (fun (Y : World) (hb : Below X.heap.size X Y) => get_any (HX.out.below hb).1 ⟨six, hi, lo, n⟩ hpok HX.out.2.1)
        have CC := Lib.hid (fun (Y : World) (hb : Below X.heap.size X Y) => tcut_any (HX.out.below hb).1 ⟨six, hi, lo, n⟩ hpok HX.out.2.1 (by omega))
        have CP := Lib.hid (fun (Y : World) (hb : Below X.heap.size X Y) => put_any (HX.out.below hb).1 ⟨six, hi, lo, n⟩ hpok HX.out.2.1 hop (by omega))
        unfold PV.val at CG CC CP
        unfold CutPost at CC
        unfold PutPost at CP
        simp only at CG CC CP
        rw [hgv] at CG CC CP
        clear hpok hgv hg
        rcases key with rfl | rfl | rfl
        · clear CC CHAD
          by_cases hh : hop < 1 ∨ 999 < hop
          · have hL : doL l av = l := by rw [← HAV.out]; unfold doL; rw [if_neg (by simp), if_neg (by simp only; rw [HCP.out]; simp), if_neg (by simp), if_pos hh]
            have hd : doA l av = ⟨2, 0, 0⟩ := by rw [← HAV.out]; unfold doA; rw [if_neg (by simp), if_neg (by simp), if_neg (by simp only; rw [HCP.out]; simp), if_neg (by simp), if_neg (by simp), if_pos hh]
            have HL := Lib.hid hL
            have HD := Lib.hid hd
            have CN := Lib.hid (CNO.out 2)
            clear hL hd CG CP CNO
            by_cases h1 : hop < 1
            · have d1 : decide (hop < 1) = true := by simpa using h1
              clear hh h1
              go_enter Try.func209, Try.ntmps209
              go_wp2_with fail
              rw [← HXE.out]
              refine (CK.out _).mono ?_
              rintro e w1 ⟨rfl, hb1⟩
              obtain ⟨fc, ff⟩ := bcell hb1
              have s1 : w.heap.size < w1.heap.size := by have := hb1.size; omega
              have s2 : w.heap.size + 1 < w1.heap.size := by have := hb1.size; omega
              have htb1 : tb < w1.heap.size := by have := hb1.size; omega
              have HB1 := Lib.hid hb1
              clear hb1
              go_wp2_with fail
              refine (CN.out _).mono ?_
              rintro e w2 ⟨rfl, hb2⟩
              obtain ⟨fc2, ff2⟩ := bcell hb2
              have HB2 := Lib.hid (below_step HB1.out hb2)
              clear hb2
              go_wp2
              refine bodyPost_ret (v := .agg #[.int .i64 2, .int .i64 0, .int .i64 0]) ?_ rfl ?_
              · simp [results, Try.results209, go_sem, fc, fc2, hXl1, s2, b0, b1, b2]
              · exact HSTAY.out _ _ _ _ HB2.out HL.out _ (by rw [HD.out]; rfl)
            · have d1 : decide (hop < 1) = false := by simpa using h1
              have d2 : decide (999 < hop) = true := by simp; omega
              clear hh h1
              go_enter Try.func209, Try.ntmps209
              go_wp2_with fail
              rw [← HXE.out]
              refine (CK.out _).mono ?_
              rintro e w1 ⟨rfl, hb1⟩
              obtain ⟨fc, ff⟩ := bcell hb1
              have s1 : w.heap.size < w1.heap.size := by have := hb1.size; omega
              have s2 : w.heap.size + 1 < w1.heap.size := by have := hb1.size; omega
              have htb1 : tb < w1.heap.size := by have := hb1.size; omega
              have HB1 := Lib.hid hb1
              clear hb1
              go_wp2_with fail
              refine (CN.out _).mono ?_
              rintro e w2 ⟨rfl, hb2⟩
              obtain ⟨fc2, ff2⟩ := bcell hb2
              have HB2 := Lib.hid (below_step HB1.out hb2)
              clear hb2
              go_wp2
              refine bodyPost_ret (v := .agg #[.int .i64 2, .int .i64 0, .int .i64 0]) ?_ rfl ?_
              · simp [results, Try.results209, go_sem, fc, fc2, hXl1, s2, b0, b1, b2]
              · exact HSTAY.out _ _ _ _ HB2.out HL.out _ (by rw [HD.out]; rfl)
          · have d1 : decide (hop < 1) = false := by simp; omega
            have d2 : decide (999 < hop) = false := by simp; omega
            have hop1 : 1 ≤ hop ∧ hop ≤ 999 := by omega
            have HHH := Lib.hid hh
            clear hh
            by_cases hfull : l.length = 60 ∧ gv = 0
            · obtain ⟨h60, rfl⟩ := hfull
              have dc : ((l.length : Int) == 60) = true := by simp; omega
              have hL : doL l av = l := by rw [← HAV.out]; unfold doL; rw [if_neg (by simp), if_neg (by simp only; rw [HCP.out]; simp), if_neg (by simp), if_neg HHH.out, if_pos ⟨h60, HG.out⟩]
              have hd : doA l av = ⟨9, 0, 0⟩ := by rw [← HAV.out]; unfold doA; rw [if_neg (by simp), if_neg (by simp), if_neg (by simp only; rw [HCP.out]; simp), if_neg (by simp), if_neg (by simp), if_neg HHH.out, if_pos ⟨h60, HG.out⟩]
              have HL := Lib.hid hL
              have HD := Lib.hid hd
              have CN := Lib.hid (CNO.out 9)
              clear hL hd CP CNO h60
              go_enter Try.func209, Try.ntmps209
              go_wp2_with fail
              rw [← HXE.out]
              refine (CK.out _).mono ?_
              rintro e w1 ⟨rfl, hb1⟩
              obtain ⟨fc, ff⟩ := bcell hb1
              have s1 : w.heap.size < w1.heap.size := by have := hb1.size; omega
              have s2 : w.heap.size + 1 < w1.heap.size := by have := hb1.size; omega
              have htb1 : tb < w1.heap.size := by have := hb1.size; omega
              have HB1 := Lib.hid hb1
              clear hb1
              go_wp2_with fail
              refine (CG.out _ HB1.out).mono ?_
              rintro e w2 ⟨rfl, hb2⟩
              obtain ⟨fc2, ff2⟩ := bcell hb2
              have s1' : w.heap.size < w2.heap.size := by have := hb2.size; omega
              have s2' : w.heap.size + 1 < w2.heap.size := by have := hb2.size; omega
              have HB2 := Lib.hid (below_step HB1.out hb2)
              clear hb2
              go_wp2_with fail
              refine (CN.out _).mono ?_
              rintro e w3 ⟨rfl, hb3⟩
              obtain ⟨fc3, ff3⟩ := bcell hb3
              have HB3 := Lib.hid (below_step HB2.out hb3)
              clear hb3
              go_wp2
              refine bodyPost_ret (v := .agg #[.int .i64 9, .int .i64 0, .int .i64 0]) ?_ rfl ?_
              · simp [results, Try.results209, go_sem, fc, fc2, fc3, hXl1, s2, s2', b0, b1, b2]
              · exact HSTAY.out _ _ _ _ HB3.out HL.out _ (by rw [HD.out]; rfl)
            · have hL : doL l av = setR l ⟨six, hi, lo, n⟩ hop := by rw [← HAV.out]; unfold doL; rw [if_neg (by simp), if_neg (by simp only; rw [HCP.out]; simp), if_neg (by simp), if_neg HHH.out, if_neg (by simp only; rw [HG.out]; exact hfull)]
              have hd : doA l av = ⟨0, gv, 0⟩ := by rw [← HAV.out]; unfold doA; rw [if_neg (by simp), if_neg (by simp), if_neg (by simp only; rw [HCP.out]; simp), if_neg (by simp), if_neg (by simp), if_neg HHH.out, if_neg (by simp only; rw [HG.out]; exact hfull)]; simp only; rw [HG.out]
              have HL := Lib.hid hL
              have HD := Lib.hid hd
              clear hL hd CNO
              by_cases h60 : l.length = 60
              · have dc : ((l.length : Int) == 60) = true := by simp; omega
                have hg0 : (gv == 0) = false := by simpa using fun h => hfull ⟨h60, h⟩
                clear hfull h60
                go_enter Try.func209, Try.ntmps209
                go_wp2_with fail
                rw [← HXE.out]
                refine (CK.out _).mono ?_
                rintro e w1 ⟨rfl, hb1⟩
                obtain ⟨fc, ff⟩ := bcell hb1
                have s1 : w.heap.size < w1.heap.size := by have := hb1.size; omega
                have s2 : w.heap.size + 1 < w1.heap.size := by have := hb1.size; omega
                have htb1 : tb < w1.heap.size := by have := hb1.size; omega
                have HB1 := Lib.hid hb1
                clear hb1
                go_wp2_with fail
                refine (CG.out _ HB1.out).mono ?_
                rintro e w2 ⟨rfl, hb2⟩
                obtain ⟨fc2, ff2⟩ := bcell hb2
                have s1' : w.heap.size < w2.heap.size := by have := hb2.size; omega
                have s2' : w.heap.size + 1 < w2.heap.size := by have := hb2.size; omega
                have HB2 := Lib.hid (below_step HB1.out hb2)
                clear hb2
                go_wp2_with fail
                refine (CP.out _ HB2.out).mono ?_
                rintro e wp ⟨rfl, ⟨G1, G2, htp⟩, hk2⟩
                have hn := (HX.out.below HB2.out).1.notin (HKR.out.below HB2.out hXl1) (by decide) (by decide)
                have kr2 := (HKR.out.below HB2.out hXl1).keep1 hk2 hn
                have HKR2 := Lib.hid kr2
                have HK2 := Lib.hid (((Kept.of_below HXB.out).belowS HB2.out).trans hk2)
                have s3 : w.heap.size + 1 < wp.heap.size := by have := hk2.size; omega
                have b0' := kr2.cell 0
                have b1' := kr2.cell 1
                have b2' := kr2.cell 2
                have f0' := kr2.frozen 0
                have f1' := kr2.frozen 1
                have f2' := kr2.frozen 2
                simp at b0' b1' b2'
                have hH2 : Holds wp B tb (setR l ⟨six, hi, lo, n⟩ hop) := holds_set HX.out.2.1 HX.out.2.2 rfl HV.out HPK.out (by omega) (by simp only; rw [HGV.out]; exact htp)
                have HH2 := Lib.hid hH2
                clear htp hk2 hn kr2 hH2
                go_wp2
                refine bodyPost_ret (v := .agg #[.int .i64 0, .int .i64 gv, .int .i64 0]) ?_ rfl ?_
                · simp [results, Try.results209, go_sem, b0', b1', b2']
                · rw [← HPO.out]
                  exact did_fin (by rw [HD.out]; rfl) (by rw [HL.out]; exact HH2.out) HK2.out HKR2.out _ _ _
              · have dc : ((l.length : Int) == 60) = false := by simp; omega
                clear hfull h60 CG
                go_enter Try.func209, Try.ntmps209
                go_wp2_with fail
                rw [← HXE.out]
                refine (CK.out _).mono ?_
                rintro e w1 ⟨rfl, hb1⟩
                obtain ⟨fc, ff⟩ := bcell hb1
                have s1 : w.heap.size < w1.heap.size := by have := hb1.size; omega
                have s2 : w.heap.size + 1 < w1.heap.size := by have := hb1.size; omega
                have htb1 : tb < w1.heap.size := by have := hb1.size; omega
                have HB1 := Lib.hid hb1
                clear hb1
                go_wp2_with fail
                refine (CP.out _ HB1.out).mono ?_
                rintro e wp ⟨rfl, ⟨G1, G2, htp⟩, hk2⟩
                have hn := (HX.out.below HB1.out).1.notin (HKR.out.below HB1.out hXl1) (by decide) (by decide)
                have kr2 := (HKR.out.below HB1.out hXl1).keep1 hk2 hn
                have HKR2 := Lib.hid kr2
                have HK2 := Lib.hid (((Kept.of_below HXB.out).belowS HB1.out).trans hk2)
                have s3 : w.heap.size + 1 < wp.heap.size := by have := hk2.size; omega
                have b0' := kr2.cell 0
                have b1' := kr2.cell 1
                have b2' := kr2.cell 2
                have f0' := kr2.frozen 0
                have f1' := kr2.frozen 1
                have f2' := kr2.frozen 2
                simp at b0' b1' b2'
                have hH2 : Holds wp B tb (setR l ⟨six, hi, lo, n⟩ hop) := holds_set HX.out.2.1 HX.out.2.2 rfl HV.out HPK.out (by omega) (by simp only; rw [HGV.out]; exact htp)
                have HH2 := Lib.hid hH2
                clear htp hk2 hn kr2 hH2
                go_wp2
                refine bodyPost_ret (v := .agg #[.int .i64 0, .int .i64 gv, .int .i64 0]) ?_ rfl ?_
                · simp [results, Try.results209, go_sem, b0', b1', b2']
                · rw [← HPO.out]
                  exact did_fin (by rw [HD.out]; rfl) (by rw [HL.out]; exact HH2.out) HK2.out HKR2.out _ _ _
        · clear CG CP CNO
          have hl : doL l av = delR l ⟨six, hi, lo, n⟩ := by rw [← HAV.out]; unfold doL; rw [if_neg (by simp), if_neg (by simp only; rw [HCP.out]; simp), if_pos rfl]
          have hd : doA l av = if gv = 0 then ⟨7, 0, 0⟩ else ⟨0, gv, 0⟩ := by rw [← HAV.out]; unfold doA; rw [if_neg (by simp), if_neg (by simp), if_neg (by simp only; rw [HCP.out]; simp), if_pos rfl]; simp only; rw [HG.out]
          have HL := Lib.hid hl
          have HD := Lib.hid hd
          have CH := Lib.hid (fun w => CHAD.out gv 0 w)
          clear hl hd CHAD
          go_enter Try.func209, Try.ntmps209
          go_wp2_with fail
          rw [← HXE.out]
          refine (CK.out _).mono ?_
          rintro e w1 ⟨rfl, hb1⟩
          obtain ⟨fc, ff⟩ := bcell hb1
          have s1 : w.heap.size < w1.heap.size := by have := hb1.size; omega
          have s2 : w.heap.size + 1 < w1.heap.size := by have := hb1.size; omega
          have HB1 := Lib.hid hb1
          clear hb1
          go_wp2_with fail
          refine (CC.out _ HB1.out).mono ?_
          rintro e w2 ⟨rfl, hz2, hk2, hn2⟩
          have hn := (HX.out.below HB1.out).1.notin (HKR.out.below HB1.out hXl1) (by decide) (by decide)
          have kr2 := (HKR.out.below HB1.out hXl1).keep1 hk2 hn
          have HKR2 := Lib.hid kr2
          have HK2 := Lib.hid (((Kept.of_below HXB.out).belowS HB1.out).trans hk2)
          have s3 : w.heap.size + 1 < w2.heap.size := by have := hk2.size; omega
          have b0' := kr2.cell 0
          have b1' := kr2.cell 1
          have b2' := kr2.cell 2
          have f0' := kr2.frozen 0
          have f1' := kr2.frozen 1
          have f2' := kr2.frozen 2
          simp at b0' b1' b2'
          have hH2 : Holds w2 B tb (delR l ⟨six, hi, lo, n⟩) := by
            by_cases h0 : gv = 0
            · have hno : hasR l ⟨six, hi, lo, n⟩ = false := by
                cases hh : hasR l ⟨six, hi, lo, n⟩ with
                | false => rfl
                | true => exact absurd (HG.out.trans h0) (getR_some (fun r hr => (HV.out.1 r hr).2.1) hh)
              rw [del_none hno]
              exact ((HX.out.below HB1.out).below (hz2 h0)).holds
            · obtain ⟨C, g, hv, lt, rt, hR, hon, hv0, ht⟩ := hn2 h0
              exact holds_cut HX.out.2.1 HX.out.2.2 rfl HV.out HPK.out hR hon hv0 ht
          have HH2 := Lib.hid hH2
          clear hz2 hk2 hn2 hn kr2 hH2 fc ff
          go_wp2_with fail
          refine (CH.out _).mono ?_
          rintro e w3 ⟨rfl, hb3⟩
          obtain ⟨fc3, ff3⟩ := bcell hb3
          have HB3 := Lib.hid hb3
          clear hb3
          by_cases h0 : gv = 0
          · rw [if_pos h0] at HD ⊢
            clear h0
            go_wp2
            refine bodyPost_ret (v := .agg #[.int .i64 7, .int .i64 0, .int .i64 0]) ?_ rfl ?_
            · simp [results, Try.results209, go_sem, fc3, s3, b0', b1', b2']
            · rw [← HPO.out]
              exact did_fin (by rw [HD.out]; rfl) (by rw [HL.out]; exact HH2.out.below HB3.out) (HK2.out.belowS HB3.out) (HKR2.out.below HB3.out s3) _ _ _
          · rw [if_neg h0] at HD ⊢
            clear h0
            go_wp2
            refine bodyPost_ret (v := .agg #[.int .i64 0, .int .i64 gv, .int .i64 0]) ?_ rfl ?_
            · simp [results, Try.results209, go_sem, fc3, s3, b0', b1', b2']
            · rw [← HPO.out]
              exact did_fin (by rw [HD.out]; rfl) (by rw [HL.out]; exact HH2.out.below HB3.out) (HK2.out.belowS HB3.out) (HKR2.out.below HB3.out s3) _ _ _
        · clear CC CP CNO
          have hl : doL l av = l := by rw [← HAV.out]; unfold doL; rw [if_pos (by simp)]
          have hd : doA l av = if gv = 0 then ⟨7, 0, 0⟩ else ⟨0, gv, n⟩ := by rw [← HAV.out]; unfold doA; rw [if_neg (by simp), if_neg (by simp), if_neg (by simp only; rw [HCP.out]; simp), if_neg (by simp), if_pos rfl]; simp only; rw [HG.out]
          have HL := Lib.hid hl
          have HD := Lib.hid hd
          obtain ⟨x, y, z, hif, hdz⟩ : ∃ x y z : Int, (if gv = 0 then Value.agg #[.int .i64 7, .int .i64 0, .int .i64 0] else .agg #[.int .i64 0, .int .i64 gv, .int .i64 n]) = .agg #[.int .i64 x, .int .i64 y, .int .i64 z] ∧ doA l av = ⟨x, y, z⟩ := by
            by_cases h0 : gv = 0
            · exact ⟨7, 0, 0, if_pos h0, by rw [HD.out, if_pos h0]⟩
            · exact ⟨0, gv, n, if_neg h0, by rw [HD.out, if_neg h0]⟩
          have ch := fun w => CHAD.out gv n w
          simp only [hif] at ch
          have CH := Lib.hid ch
          have HDZ := Lib.hid hdz
          clear hl hd CHAD ch hif hdz HD
          go_enter Try.func209, Try.ntmps209
          go_wp2_with fail
          rw [← HXE.out]
          refine (CK.out _).mono ?_
          rintro e w1 ⟨rfl, hb1⟩
          obtain ⟨fc, ff⟩ := bcell hb1
          have s1 : w.heap.size < w1.heap.size := by have := hb1.size; omega
          have s2 : w.heap.size + 1 < w1.heap.size := by have := hb1.size; omega
          have htb1 : tb < w1.heap.size := by have := hb1.size; omega
          have HB1 := Lib.hid hb1
          clear hb1
          go_wp2_with fail
          have HKA1 := Lib.hid (HKA.out.below HB1.out hXl)
          have hka1 := HKA1.out
          have c1 := hka1.cell 1
          have c2 := hka1.cell 2
          have c3 := hka1.cell 3
          have c4 := hka1.cell 4
          have e0 := (HKR.out.below HB1.out hXl1).cell 0
          have e1 := (HKR.out.below HB1.out hXl1).cell 1
          have e2 := (HKR.out.below HB1.out hXl1).cell 2
          simp at c1 c2 c3 c4 e0 e1 e2
          have cg1 := fun (W : World) (hW : W.heap = w1.heap) => get_any ((HX.out.below HB1.out).1.keep (w' := W) (fun g _ => by rw [hW])) ⟨six, hi, lo, n⟩ HPK.out HX.out.2.1
          unfold PV.val at cg1
          simp only at cg1
          have hgv1 := HGV.out
          simp only [hgv1] at cg1
          have CG1 : Hid (∀ W : World, W.heap = w1.heap → Calls Try.prog 228 #[.pointer (some ⟨tb, 0, none⟩), .agg #[.bool six, .int .u64 hi, .int .u64 lo, .int .i64 n]] W fun e w' => e = .returned (.int .i64 gv) ∧ Below w1.heap.size W w') := fun W hW => (cg1 W hW).mono fun e w' h => ⟨h.1, by rw [← hW]; exact h.2⟩
          have HKR1 := Lib.hid (HKR.out.below HB1.out hXl1)
          have hne1 : ¬ w.heap.size = w.heap.size + 1 := by omega
          have keepF : ∀ (W : World), Blk W w.heap.size 132 #[.int .i64 4, .bool six, .int .u64 hi, .int .u64 lo, .int .i64 n, .int .i64 hop, .bool six2, .int .u64 hi2, .int .u64 lo2] → W.cell? ⟨w.heap.size, 1, none⟩ = some (.bool six) ∧ W.cell? ⟨w.heap.size, 2, none⟩ = some (.int .u64 hi) ∧ W.cell? ⟨w.heap.size, 3, none⟩ = some (.int .u64 lo) ∧ W.cell? ⟨w.heap.size, 4, none⟩ = some (.int .i64 n) := fun _ h => ⟨h.cell 1, h.cell 2, h.cell 3, h.cell 4⟩
          have KEEPF := Lib.hid keepF
          clear hka1 cg1 hgv1 CG keepF
          go_region_held3 (fun w' => w'.cell? ⟨w.heap.size, 1, none⟩ = some (.bool six) ∧ w'.cell? ⟨w.heap.size, 2, none⟩ = some (.int .u64 hi) ∧ w'.cell? ⟨w.heap.size, 3, none⟩ = some (.int .u64 lo) ∧ w'.cell? ⟨w.heap.size, 4, none⟩ = some (.int .i64 n))
            ((first | with_reducible assumption | exact KEEPF.out _ HKA1.out | exact KEEPF.out _ ka2 | exact KEEPF.out _ ka3 | exact KEEPF.out _ (((ka3.far (p := ⟨w.heap.size + 1, 0, none⟩) hne1 _).far (p := ⟨w.heap.size + 1, 1, none⟩) hne1 _).far (p := ⟨w.heap.size + 1, 2, none⟩) hne1 _)))
            (first
              | (go_at_call 228; refine (CG1.out _ (by rfl)).mono ?_; rintro e w2 ⟨rfl, hb2⟩; have ka2 := Blk.below (show Blk w1.drew w.heap.size 132 #[.int .i64 4, .bool six, .int .u64 hi, .int .u64 lo, .int .i64 n, .int .i64 hop, .bool six2, .int .u64 hi2, .int .u64 lo2] from HKA1.out) hb2 s1; have kr2 := Blk.below (show Blk w1.drew (w.heap.size + 1) 38 #[.int .i64 0, .int .i64 0, .int .i64 0] from HKR1.out) hb2 s2; have hq2 : Below X.heap.size X w2 := below_step HB1.out ((Below.refl w1.heap.size w1).drew.trans hb2))
              | (go_at_call 226; refine (CH.out _).mono ?_; rintro e w3 ⟨rfl, hb3⟩; (first | have ka3 := Blk.below ka2 hb3 ka2.lt | have ka3 := Blk.below (show Blk w2.drew w.heap.size 132 #[.int .i64 4, .bool six, .int .u64 hi, .int .u64 lo, .int .i64 n, .int .i64 hop, .bool six2, .int .u64 hi2, .int .u64 lo2] from ka2) hb3 ka2.lt); (first | have kr3 := Blk.below kr2 hb3 kr2.lt | have kr3 := Blk.below (show Blk w2.drew (w.heap.size + 1) 38 #[.int .i64 0, .int .i64 0, .int .i64 0] from kr2) hb3 kr2.lt); have z0 := kr3.cell 0; have z1 := kr3.cell 1; have z2 := kr3.cell 2; have g0 := kr3.frozen 0; have g1 := kr3.frozen 1; have g2 := kr3.frozen 2; simp at z0 z1 z2; (first | have hq3 : Below X.heap.size X w3 := below_step hq2 hb3 | have hq3 : Below X.heap.size X w3 := below_step hq2.drew hb3)))
          go_wp2
          refine bodyPost_ret (v := .agg #[.int .i64 x, .int .i64 y, .int .i64 z]) ?_ rfl ?_
          · simp [results, Try.results209, go_sem, z0, z1, z2]
          · exact HSTAY.out _ _ _ _ hq3 HL.out _ (by rw [HDZ.out]; rfl)
      · have hzb : (ck != 0) = true := by simpa using hz
        have hL : doL l av = l := by
          rw [← HAV.out]; unfold doL
          by_cases h4 : ¬ (kd = 1 ∨ kd = 2)
          · rw [if_pos h4]
          · rw [if_neg h4, if_pos (by simp only; rw [HCP.out]; exact hz)]
        have hd : doA l av = ⟨ck, 0, 0⟩ := by rw [← HAV.out]; unfold doA; rw [if_neg (by simp only; omega), if_neg (by simp only; omega), if_pos (by simp only; rw [HCP.out]; exact hz)]; simp only; rw [HCP.out]
        have HL := Lib.hid hL
        have HD := Lib.hid hd
        have CN := Lib.hid (CNO.out ck)
        clear hL hd hz
        rcases key with rfl | rfl | rfl
        all_goals
          go_enter Try.func209, Try.ntmps209
          go_wp2_with fail
          rw [← HXE.out]
          refine (CK.out _).mono ?_
          rintro e w1 ⟨rfl, hb1⟩
          obtain ⟨fc, ff⟩ := bcell hb1
          have s1 : w.heap.size < w1.heap.size := by have := hb1.size; omega
          have s2 : w.heap.size + 1 < w1.heap.size := by have := hb1.size; omega
          have HB1 := Lib.hid hb1
          clear hb1
          go_wp2_with fail
          refine (CN.out _).mono ?_
          rintro e w2 ⟨rfl, hb2⟩
          obtain ⟨fc2, ff2⟩ := bcell hb2
          have HB2 := Lib.hid (below_step HB1.out hb2)
          clear hb2
          go_wp2
          refine bodyPost_ret (v := .agg #[.int .i64 ck, .int .i64 0, .int .i64 0]) ?_ rfl ?_
          · simp [results, Try.results209, go_sem, fc, fc2, hXl1, s2, b0, b1, b2]
          · exact HSTAY.out _ _ _ _ HB2.out HL.out _ (by rw [HD.out]; rfl)

end Go.Proofs.Ytmljdjakbbedlaa

namespace Go.Proofs.Ytmljdjakbbedlaa
set_option linter.unusedVariables false

structure JobV where
  kind : Int
  act : ActV
  n : Int
structure DoneV where
  code : Int
  merged : Bool
  acts : List ActV

/-- What is refused of an act that is to wait. -/
def faultA (a : ActV) : Int := if ¬ (a.kind = 1 ∨ a.kind = 2) then 3 else if ¬ a.p.chk = 0 then a.p.chk else if a.kind = 1 ∧ (a.hop < 1 ∨ 999 < a.hop) then 2 else 0
def hasW (q : List ActV) (p : PV) : Bool := q.any fun x => decide (x.p = p)
def putW (q : List ActV) (a : ActV) : List ActV := q.map fun x => if x.p = a.p then a else x
/-- What a job comes to, and what waits behind it. -/
def jobD (q : List ActV) (j : JobV) : DoneV :=
  if j.kind = 1 then (if ¬ faultA j.act = 0 then ⟨faultA j.act, false, []⟩ else if hasW q j.act.p = true then ⟨0, true, []⟩ else if 8 ≤ q.length then ⟨9, false, []⟩ else ⟨0, false, []⟩)
  else if ¬ j.kind = 2 then ⟨3, false, []⟩
  else if j.n < 1 ∨ 8 < j.n then ⟨2, false, []⟩
  else if q = [] then ⟨7, false, []⟩ else ⟨0, false, q.take j.n.toNat⟩
def jobQ (q : List ActV) (j : JobV) : List ActV :=
  if j.kind = 1 then (if ¬ faultA j.act = 0 then q else if hasW q j.act.p = true then putW q j.act else if 8 ≤ q.length then q else q ++ [j.act])
  else if ¬ j.kind = 2 then q
  else if j.n < 1 ∨ 8 < j.n then q
  else q.drop j.n.toNat
def playD : List JobV → List ActV → List DoneV
  | [], _ => []
  | j :: l, q => jobD q j :: playD l (jobQ q j)
def playQ : List JobV → List ActV → List ActV
  | [], q => q
  | j :: l, q => playQ l (jobQ q j)
theorem playD_snoc (l : List JobV) (j : JobV) : ∀ q, playD (l ++ [j]) q = playD l q ++ [jobD (playQ l q) j] := by
  induction l with
  | nil => intro q; rfl
  | cons x l ih => intro q; simp only [List.cons_append, playD, playQ, ih]
theorem playQ_snoc (l : List JobV) (j : JobV) : ∀ q, playQ (l ++ [j]) q = jobQ (playQ l q) j := by
  induction l with
  | nil => intro q; rfl
  | cons x l ih => intro q; exact ih _
theorem playD_length (l : List JobV) : ∀ q, (playD l q).length = l.length := by
  induction l with
  | nil => intro q; rfl
  | cons x l ih => intro q; show _ + 1 = _ + 1; rw [ih]

/-- No prefix waits twice, and no more than eight wait. -/
def GoodQ (q : List ActV) : Prop := (q.map ActV.p).Nodup ∧ q.length ≤ 8
theorem putW_p (q : List ActV) (a : ActV) : (putW q a).map ActV.p = q.map ActV.p := by
  unfold putW
  rw [List.map_map]
  refine List.map_congr_left fun x _ => ?_
  by_cases h : x.p = a.p
  · simp [h]
  · simp [h]
theorem good_job {q : List ActV} (h : GoodQ q) (j : JobV) : GoodQ (jobQ q j) := by
  unfold jobQ
  by_cases h1 : j.kind = 1
  · rw [if_pos h1]
    by_cases h2 : ¬ faultA j.act = 0
    · rw [if_pos h2]; exact h
    · rw [if_neg h2]
      by_cases h3 : hasW q j.act.p = true
      · rw [if_pos h3]; exact ⟨by rw [putW_p]; exact h.1, by unfold putW; rw [List.length_map]; exact h.2⟩
      · rw [if_neg h3]
        by_cases h4 : 8 ≤ q.length
        · rw [if_pos h4]; exact h
        · rw [if_neg h4]
          refine ⟨?_, by rw [List.length_append]; simp; omega⟩
          rw [List.map_append, List.nodup_append]
          refine ⟨h.1, by simp, fun x hx y hy e => h3 ?_⟩
          simp at hy
          subst hy
          subst e
          obtain ⟨z, hz, e⟩ := List.mem_map.1 hx
          unfold hasW
          rw [List.any_eq_true]
          exact ⟨z, hz, by simpa using e⟩
  · rw [if_neg h1]
    by_cases h2 : ¬ j.kind = 2
    · rw [if_pos h2]; exact h
    · rw [if_neg h2]
      by_cases h3 : j.n < 1 ∨ 8 < j.n
      · rw [if_pos h3]; exact h
      · rw [if_neg h3]
        exact ⟨h.1.sublist ((List.drop_sublist _ _).map _), by rw [List.length_drop]; have := h.2; omega⟩
theorem good_play {q : List ActV} (h : GoodQ q) : ∀ l : List JobV, GoodQ (playQ l q) := by
  intro l
  induction l generalizing q with
  | nil => exact h
  | cons j l ih => exact ih (good_job h j)

/-- The one that waits is the one at a place. -/
theorem put_at {q : List ActV} (h : (q.map ActV.p).Nodup) {a x : ActV} {i : Nat} (hi : q[i]? = some x) (hx : x.p = a.p) : putW q a = q.set i a := by
  induction q generalizing i with
  | nil => simp at hi
  | cons y q ih =>
    rw [List.map_cons, List.nodup_cons] at h
    cases i with
    | zero =>
      simp at hi
      subst hi
      have : putW q a = q := by
        unfold putW
        conv => rhs; rw [← List.map_id q]
        refine List.map_congr_left fun z hz => ?_
        rw [if_neg (fun e => h.1 (by rw [hx, ← e]; exact List.mem_map.2 ⟨z, hz, rfl⟩))]
        rfl
      unfold putW at this ⊢
      rw [List.map_cons, if_pos hx, this, List.set_cons_zero]
    | succ i =>
      have hi' : q[i]? = some x := by simpa using hi
      have := ih h.2 hi'
      unfold putW at this ⊢
      rw [List.map_cons, this, List.set_cons_succ, if_neg]
      intro e
      refine h.1 ?_
      rw [e, ← hx]
      exact List.mem_map.2 ⟨x, (List.getElem?_eq_some_iff.1 hi').2 ▸ List.getElem_mem _, rfl⟩
theorem has_at {q : List ActV} {p : PV} {i : Nat} {x : ActV} (hi : q[i]? = some x) (hx : x.p = p) : hasW q p = true := by
  unfold hasW
  rw [List.any_eq_true]
  exact ⟨x, (List.getElem?_eq_some_iff.1 hi).2 ▸ List.getElem_mem _, by simpa using hx⟩
theorem has_none {q : List ActV} {p : PV} (h : ∀ (i : Nat) (x : ActV), q[i]? = some x → ¬ x.p = p) : hasW q p = false := by
  unfold hasW
  rw [List.any_eq_false]
  intro x hx
  obtain ⟨i, hi, e⟩ := List.mem_iff_getElem.1 hx
  simpa using h i x (by rw [List.getElem?_eq_getElem hi, e])

/-! A ring of eight. -/
def zeroA : ActV := ⟨0, ⟨false, 0, 0, 0⟩, 0, ⟨false, 0, 0⟩⟩
def ringL (r : List ActV) (f m : Nat) : List ActV := (List.range m).map fun i => r[(f + i) % 8]?.getD zeroA
theorem ring_length (r : List ActV) (f m : Nat) : (ringL r f m).length = m := by unfold ringL; simp
theorem ring_get (r : List ActV) (f : Nat) {m i : Nat} (hi : i < m) : (ringL r f m)[i]? = some (r[(f + i) % 8]?.getD zeroA) := by
  unfold ringL
  rw [List.getElem?_map, List.getElem?_range hi]
  rfl
theorem ring_set {r : List ActV} (hr : r.length = 8) (f : Nat) {m i : Nat} (hi : i < m) (hm : m ≤ 8) (a : ActV) : ringL (r.set ((f + i) % 8) a) f m = (ringL r f m).set i a := by
  apply List.ext_getElem?
  intro k
  by_cases hk : k < m
  · by_cases e : i = k
    · subst e
      rw [ring_get _ _ hk, List.getElem?_set_self (by omega), List.getElem?_set_self (by rw [ring_length]; exact hi)]
      rfl
    · rw [ring_get _ _ hk, List.getElem?_set_ne (by omega), List.getElem?_set_ne (by omega), ring_get _ _ hk]
  · rw [List.getElem?_eq_none (by rw [ring_length]; omega), List.getElem?_eq_none (by rw [List.length_set, ring_length]; omega)]
theorem ring_push {r : List ActV} (hr : r.length = 8) (f : Nat) {m : Nat} (hm : m < 8) (a : ActV) : ringL (r.set ((f + m) % 8) a) f (m + 1) = ringL r f m ++ [a] := by
  apply List.ext_getElem?
  intro k
  by_cases hk : k < m
  · rw [ring_get _ _ (by omega), List.getElem?_append_left (by rw [ring_length]; exact hk), ring_get _ _ hk, List.getElem?_set_ne (by omega)]
  · by_cases e : k = m
    · subst e
      rw [ring_get _ _ (by omega), List.getElem?_set_self (by omega), List.getElem?_append_right (by rw [ring_length]; exact Nat.le_refl _), ring_length, Nat.sub_self]
      rfl
    · rw [List.getElem?_eq_none (by rw [ring_length]; omega), List.getElem?_eq_none (by rw [List.length_append, ring_length]; simp; omega)]
theorem ring_pop (r : List ActV) (f m : Nat) : ringL r ((f + 1) % 8) m = (ringL r f (m + 1)).drop 1 := by
  apply List.ext_getElem?
  intro k
  rw [List.getElem?_drop]
  by_cases hk : k < m
  · rw [ring_get _ _ hk, ring_get _ _ (by omega), show ((f + 1) % 8 + k) % 8 = (f + (1 + k)) % 8 by omega]
  · rw [List.getElem?_eq_none (by rw [ring_length]; omega), List.getElem?_eq_none (by rw [ring_length]; omega)]

end Go.Proofs.Ytmljdjakbbedlaa

namespace Go.Proofs.Ytmljdjakbbedlaa
open Go.ChangeShapes Go.WideShapes Go.ChangeAt Go.RowKit

def ActV.cells (a : ActV) : List Value := [.int .i64 a.kind, .bool a.p.six, .int .u64 a.p.hi, .int .u64 a.p.lo, .int .i64 a.p.n, .int .i64 a.hop, .bool a.a.six, .int .u64 a.a.hi, .int .u64 a.a.lo]
theorem ActV.cells_length (a : ActV) : a.cells.length = 9 := rfl

set_option maxRecDepth 100000 in
set_option maxHeartbeats 1600000 in
theorem qfault_any (kd : Int) (six : Bool) (hi lo n hop : Int) (six2 : Bool) (hi2 lo2 : Int) (w : World) (h1 : 0 ≤ hi ∧ hi < 18446744073709551616) (h2 : 0 ≤ lo ∧ lo < 18446744073709551616) :
    Calls Try.prog 146 #[.agg #[.int .i64 kd, .bool six, .int .u64 hi, .int .u64 lo, .int .i64 n, .int .i64 hop, .bool six2, .int .u64 hi2, .int .u64 lo2]] w fun e w' => e = .returned (.int .i64 (faultA ⟨kd, ⟨six, hi, lo, n⟩, hop, ⟨six2, hi2, lo2⟩⟩)) ∧ Below w.heap.size w w' := by
  have CK := Lib.hid (fun w => check_any six hi lo n w h1 h2)
  have hf : faultA ⟨kd, ⟨six, hi, lo, n⟩, hop, ⟨six2, hi2, lo2⟩⟩ = if ¬ (kd = 1 ∨ kd = 2) then 3 else if ¬ chk six hi lo n = 0 then chk six hi lo n else if kd = 1 ∧ (hop < 1 ∨ 999 < hop) then 2 else 0 := rfl
  rw [hf]
  clear hf h1 h2
  obtain ⟨ck, hck⟩ : ∃ ck, chk six hi lo n = ck := ⟨_, rfl⟩
  rw [hck] at CK ⊢
  clear hck
  by_cases hk : kd = 1 ∨ kd = 2
  · rw [if_neg (fun h => h hk)]
    by_cases hc : ck = 0
    · subst hc
      rw [if_neg (by simp)]
      rcases hk with rfl | rfl
      · by_cases ha : hop < 1
        · rw [if_pos ⟨rfl, .inl ha⟩]
          have hd : decide (hop < 1) = true := by simpa using ha
          clear ha
          go_enter Try.func146, Try.ntmps146
          go_wp2_with fail
          refine (CK.out _).mono ?_
          rintro e w1 ⟨rfl, hb1⟩
          obtain ⟨fc1, ff1⟩ := bcell hb1
          have hz1 := bsize1 hb1
          have HB1 := Lib.hid (balloc1 hb1)
          clear hb1
          go_wp2
          go_ret
          exact ⟨rfl, HB1.out⟩
        · have hd : decide (hop < 1) = false := by simpa using ha
          by_cases hb : 999 < hop
          · rw [if_pos ⟨rfl, .inr hb⟩]
            have hd2 : decide (999 < hop) = true := by simpa using hb
            clear ha hb
            go_enter Try.func146, Try.ntmps146
            go_wp2_with fail
            refine (CK.out _).mono ?_
            rintro e w1 ⟨rfl, hb1⟩
            obtain ⟨fc1, ff1⟩ := bcell hb1
            have hz1 := bsize1 hb1
            have HB1 := Lib.hid (balloc1 hb1)
            clear hb1
            go_wp2
            go_ret
            exact ⟨rfl, HB1.out⟩
          · rw [if_neg (by rintro ⟨_, h | h⟩; exact ha h; exact hb h)]
            have hd2 : decide (999 < hop) = false := by simpa using hb
            clear ha hb
            go_enter Try.func146, Try.ntmps146
            go_wp2_with fail
            refine (CK.out _).mono ?_
            rintro e w1 ⟨rfl, hb1⟩
            obtain ⟨fc1, ff1⟩ := bcell hb1
            have hz1 := bsize1 hb1
            have HB1 := Lib.hid (balloc1 hb1)
            clear hb1
            go_wp2
            go_ret
            exact ⟨rfl, HB1.out⟩
      · rw [if_neg (by rintro ⟨h, _⟩; omega)]
        go_enter Try.func146, Try.ntmps146
        go_wp2_with fail
        refine (CK.out _).mono ?_
        rintro e w1 ⟨rfl, hb1⟩
        obtain ⟨fc1, ff1⟩ := bcell hb1
        have hz1 := bsize1 hb1
        have HB1 := Lib.hid (balloc1 hb1)
        clear hb1
        go_wp2
        go_ret
        exact ⟨rfl, HB1.out⟩
    · rw [if_pos hc]
      have hne : (ck != 0) = true := by simpa using hc
      clear hc
      rcases hk with rfl | rfl
      all_goals
        go_enter Try.func146, Try.ntmps146
        go_wp2_with fail
        refine (CK.out _).mono ?_
        rintro e w1 ⟨rfl, hb1⟩
        obtain ⟨fc1, ff1⟩ := bcell hb1
        have hz1 := bsize1 hb1
        have HB1 := Lib.hid (balloc1 hb1)
        clear hb1
        go_wp2
        go_ret
        exact ⟨rfl, HB1.out⟩
  · rw [if_pos hk]
    have hd1 : (kd != 1) = true := by simpa using fun h => hk (.inl h)
    have hd2 : (kd != 2) = true := by simpa using fun h => hk (.inr h)
    clear hk
    go_enter Try.func146, Try.ntmps146
    go_wp2
    go_ret
    exact ⟨rfl, (Below.refl _ _).alloc (Nat.le_refl _) _⟩

/-- A queue's cells. -/
def qCells (r : List ActV) (f m : Nat) : Array Value := (r.flatMap ActV.cells ++ [Value.int .i64 (f : Int), Value.int .i64 (m : Int)]).toArray
theorem flat_len (r : List ActV) : (r.flatMap ActV.cells).length = r.length * 9 := by
  induction r with
  | nil => rfl
  | cons x l ih => rw [List.flatMap_cons, List.length_append, ih, ActV.cells_length, List.length_cons]; omega
/-! A run of stores. -/
def setsW (w : World) (Q : Nat) : Nat → List Value → World
  | _, [] => w
  | s, u :: us => setsW (w.setCell ⟨Q, s, none⟩ u) Q (s + 1) us
def setsA (cs : Array Value) : Nat → List Value → Array Value
  | _, [] => cs
  | s, u :: us => setsA (cs.setIfInBounds s u) (s + 1) us
def setsL (xs : List Value) : Nat → List Value → List Value
  | _, [] => xs
  | s, u :: us => setsL (xs.set s u) (s + 1) us
theorem Blk.sets {t : TypeId} {Q : Nat} : ∀ (us : List Value) (s : Nat) {w : World} {cs : Array Value}, Blk w Q t cs → Blk (setsW w Q s us) Q t (setsA cs s us)
  | [], _, _, _, h => h
  | u :: us, s, _, _, h => Blk.sets us (s + 1) (h.set_ s u)
theorem setsA_list : ∀ (us : List Value) (s : Nat) (xs : List Value), setsA xs.toArray s us = (setsL xs s us).toArray
  | [], _, _ => rfl
  | u :: us, s, xs => by
    show setsA (xs.toArray.setIfInBounds s u) (s + 1) us = _
    rw [List.setIfInBounds_toArray, setsA_list us]
    rfl
theorem setsL_mid : ∀ (us mid pre post : List Value) (s : Nat), mid.length = us.length → s = pre.length → setsL (pre ++ (mid ++ post)) s us = pre ++ (us ++ post)
  | [], mid, pre, post, s, h, _ => by
    have : mid = [] := List.eq_nil_of_length_eq_zero h
    subst this
    rfl
  | u :: us, [], pre, post, s, h, _ => by cases h
  | u :: us, m :: mid, pre, post, s, h, hs => by
    show setsL ((pre ++ (m :: mid ++ post)).set s u) (s + 1) us = _
    rw [hs, List.set_append_right _ _ (Nat.le_refl _), Nat.sub_self]
    have e : pre ++ ((m :: mid ++ post).set 0 u) = (pre ++ [u]) ++ (mid ++ post) := by simp
    rw [e, setsL_mid us mid (pre ++ [u]) post _ (by simpa using h) (by simp)]
    simp
theorem far_sets {Q b : Nat} (hb : b ≠ Q) : ∀ (us : List Value) (s : Nat) (w : World), (setsW w Q s us).heap[b]? = w.heap[b]?
  | [], _, _ => rfl
  | u :: us, s, w => (far_sets hb us (s + 1) _).trans (Below.heap_setCell w ⟨Q, s, none⟩ u b hb)
end Go.Proofs.Ytmljdjakbbedlaa

namespace Go.Proofs.Ytmljdjakbbedlaa
open Go.ChangeShapes Go.WideShapes Go.ChangeAt Go.RowKit

/-- A slice of acts as it comes in. -/
structure IsActs (w : World) (A : Option Addr) (n : Nat) (l : List ActV) : Prop where
  len : l.length = n
  reads : Reads w w.heap.size 9 A n (l.flatMap ActV.cells)
  ok : ∀ a ∈ l, a.Ok
theorem IsActs.below {w w' : World} {A : Option Addr} {n : Nat} {l : List ActV} (h : IsActs w A n l) (hb : Below w.heap.size w w') : IsActs w' A n l := ⟨h.len, (h.reads.below hb).more hb.size, h.ok⟩
theorem ActV.cells_length' (a : ActV) : a.cells.length = 9 := rfl
theorem infoAns : (Try.prog.info? 38).map (fun i => (i.zero, i.size, i.bytes)) = some (some (.agg #[.int .i64 0, .int .i64 0, .int .i64 0]), 3, 24) := by kernel_rfl
def OwnAs (w : World) (base : Nat) (v : Value) (As : List AnsV) : Prop := w.ownsRow base 38 3 v As.length (As.flatMap AnsV.cells)
theorem own_tab {w w' : World} {B tb base size n : Nat} {e : TypeId} {v : Value} {xs : List Value} {R : Bool → Tr} {l : List RouteV} (h : HoldsR w B tb R l) (hk : Kept (tabBlocks tb R) w w') (ho : w.ownsRow base e size v n xs) (h1 : ¬ e = 193) (h2 : ¬ e = 190) :
    w'.ownsRow base e size v n xs :=
  ⟨ho.1, ho.2.imp id fun ⟨g, cap, cur, x1, x2, x3, x4⟩ => ⟨g, cap, cur, x1, x2, (hk.block g (Array.getElem?_eq_some_iff.1 x3).1 (h.1.notin (cs := cur) x3 h1 h2)).trans x3, x4⟩⟩
theorem Holds.row {w w' : World} {B tb base size n : Nat} {e : TypeId} {v : Value} {xs : List Value} {l : List RouteV} (h : Holds w B tb l) (ho : w.ownsRow base e size v n xs) (h1 : ¬ e = 193) (h2 : ¬ e = 190)
    (hk : ∀ k, k < w.heap.size → v.ownBlock ≠ some k → w'.heap[k]? = w.heap[k]?) : Holds w' B tb l := by
  obtain ⟨R, hR⟩ := h.named
  refine (hR.keep fun g hg => hk g (hR.1.lt g hg).2 fun he => ?_).holds
  rcases ho.2 with ⟨rfl, _⟩ | ⟨g', cap, cur, rfl, _, x3, _⟩
  · simp [Value.ownBlock] at he
  · simp [Value.ownBlock] at he
    subst he
    exact hR.1.notin (cs := cur) x3 h1 h2 hg

def PlayedT (w : World) (n : Nat) (l : List ActV) (e : Ending) (w' : World) : Prop :=
  (100 < n → e = .returned (.tuple #[.pointer none, .slice none 0 0, .int .i64 1]) ∧ Below w.heap.size w w') ∧
    (¬ 100 < n → ∃ tb v, e = .returned (.tuple #[.pointer (some ⟨tb, 0, none⟩), v, .int .i64 0]) ∧ Holds w' w.heap.size tb (actL l []) ∧ OwnAs w' w.heap.size v (ansL l []) ∧ Below w.heap.size w w')

end Go.Proofs.Ytmljdjakbbedlaa

namespace Go.Proofs.Ytmljdjakbbedlaa
open Go.BigFrame Go.ChangeShapes Go.WideShapes Go.ChangeAt Go.RowKit Go.Shelf

attribute [local go_sem] Oper.semAt_some

theorem valid_nodup {l : List RouteV} (hv : Valid l) : l.Nodup := by
  have := hv.2
  rw [List.nodup_iff_pairwise_ne, List.pairwise_map] at this
  rw [List.nodup_iff_pairwise_ne]
  exact this.imp fun h e => h (by rw [e])
theorem sortedOf_routes {w : World} {B tb : Nat} {R : Bool → Tr} {l : List RouteV} (h : HoldsR w B tb R l) (hv : Valid l) : SortedOf l (routesR R) := by
  have hs := routesR_sorted h.2.1
  have hm := routesR_mem h.2.1 hv h.2.2
  refine ⟨?_, hs⟩
  refine (List.perm_ext_iff_of_nodup ?_ (valid_nodup hv)).2 hm
  rw [List.nodup_iff_pairwise_ne]
  refine List.Pairwise.imp_of_mem ?_ hs
  intro a b ha hb hlt e
  subst e
  exact ltP_irrefl (hv.1 a ((hm a).1 ha)).1 hlt
set_option maxRecDepth 100000 in
theorem eachEg : ∀ args w, (callFunc 91 args).run Try.prog w = .ok (.enter 91 args) w := fun _ _ => by kernel_rfl

/-- slices.Collect of a table's Each. -/
theorem collect_tab {w : World} {B tb : Nat} {l : List RouteV} (h : Holds w B tb l) (hv : Valid l) (hl : l.length ≤ 1000) :
    Calls Try.prog 90 #[.func (.func 91) #[.pointer (some ⟨tb, 0, none⟩)] #[]] w fun e w' => ∃ v S, e = .returned v ∧ SortedOf l S ∧ w'.ownsRow w.heap.size 48 5 v S.length (S.flatMap RouteV.cells) ∧ Below w.heap.size w w' := by
  obtain ⟨R, hR⟩ := h.named
  have hS := sortedOf_routes hR hv
  refine (collect_rv eachEg (Nat.le_refl _) (Below.refl _ _) (N := 1000) (by omega) (tabEach_all hR.1 (by rw [hS.1.length_eq]; omega))).mono ?_
  rintro e w1 ⟨v, m, rfl, rfl, h1, h2⟩
  exact ⟨v, _, rfl, hS, h1, h2⟩

def RoutesT (w : World) (n : Nat) (l : List ActV) (e : Ending) (w' : World) : Prop :=
  (100 < n → e = .returned (.tuple #[.slice none 0 0, .int .i64 1]) ∧ Below w.heap.size w w') ∧
    (¬ 100 < n → ∃ v S, e = .returned (.tuple #[v, .int .i64 0]) ∧ SortedOf (actL l []) S ∧ w'.ownsRow w.heap.size 48 5 v S.length (S.flatMap RouteV.cells) ∧ Below w.heap.size w w')

end Go.Proofs.Ytmljdjakbbedlaa

namespace Go.Proofs.Ytmljdjakbbedlaa
open Go.ChangeShapes Go.WideShapes Go.ChangeAt Go.RowKit

set_option maxRecDepth 100000 in
set_option maxHeartbeats 800000 in
theorem sameBytes_any (A A' : Option Addr) (n c n' c' : Nat) (l l' : List Int) (w : World) (hz : l.length = n) (hz' : l'.length = n') (hm : n ≤ maxLen) (hm' : n' ≤ maxLen)
    (hr : Reads w w.heap.size 1 A n (l.map (Value.int .u8))) (hr' : Reads w w.heap.size 1 A' n' (l'.map (Value.int .u8))) :
    Calls Try.prog 39 #[.slice A n c, .slice A' n' c'] w fun e w' => e = .returned (.bool (decide (l = l'))) ∧ Below w.heap.size w w' := by
  unfold maxLen at hm hm'
  by_cases hnn : n = n'
  · subst hnn
    have HZ := Lib.hid hz
    have HZ' := Lib.hid hz'
    have HR := Lib.hid hr
    have HR' := Lib.hid hr'
    obtain ⟨d, hd⟩ : ∃ d, d = decide (l = l') := ⟨_, rfl⟩
    rw [← hd]
    have HD := Lib.hid hd
    clear hz hz' hr hr' hm' hd
    go_enter Try.func39, Try.ntmps39
    go_wp2
    go_loopw [5, 4] (fun i _ wr => ∃ k : Nat, k ≤ n ∧ i = .int .i64 k ∧ l.take k = l'.take k ∧ Below w.heap.size w wr) (fun i _ _ => n - (intOf i).toNat)
    case atStart => exact ⟨0, by omega, rfl, rfl, Below.refl _ _⟩
    case round =>
      obtain ⟨k, hk, rfl, hto, hb⟩ := hrel
      have HT := Lib.hid hto
      clear hto
      by_cases hlt : k < n
      · obtain ⟨ad, x, rfl, hcx, htx, hlx, _⟩ := HR.out.at1 hlt
        have hbx : ad.block < w.heap.size := by
          obtain ⟨ad3, ha3, hb3, _⟩ := HR.out.2 (by omega)
          injection ha3 with ha3
          subst ha3
          exact hb3
        have q0 := (hb.cell (p := ad.add k) (by rw [block_of_add]; exact hbx)).trans hcx
        obtain ⟨ad', x', rfl, hcx', htx', hlx', _⟩ := HR'.out.at1 hlt
        have hbx' : ad'.block < w.heap.size := by
          obtain ⟨ad3, ha3, hb3, _⟩ := HR'.out.2 (by omega)
          injection ha3 with ha3
          subst ha3
          exact hb3
        have q1 := (hb.cell (p := ad'.add k) (by rw [block_of_add]; exact hbx')).trans hcx'
        have HTK := Lib.hid htx
        have HL := Lib.hid hlx
        have HTK' := Lib.hid htx'
        have HL' := Lib.hid hlx'
        have HBO := Lib.hid hb
        clear hcx htx hlx hcx' htx' hlx' hb
        by_cases he : x = x'
        · have HN : Hid (l.take (k + 1) = l'.take (k + 1)) := by show _ = _; rw [HTK.out, HTK'.out, HT.out, he]
          have he1 : (x == x') = true := by simpa using he
          have he2 : (x != x') = false := by simpa using he
          clear he
          go_wp2
          go_quiet (fail)
          go_wp2
          go_roundw
          case rel => exact ⟨k + 1, by omega, by go_num, HN.out, below_drewN HBO.out _⟩
          case measure => simp [intOf]; omega
        · have he1 : (x == x') = false := by simpa using he
          have he2 : (x != x') = true := by simpa using he
          have HN : Hid (d = false) := by
            show _ = _
            rw [HD.out, decide_eq_false_iff_not]
            intro h
            subst h
            have h1 := HL'.out
            rw [HL.out] at h1
            injection h1 with h1
            exact he h1
          clear he
          go_wp2
          go_quiet (fail)
          go_wp2
          go_ret
          exact ⟨by rw [HN.out]; rfl, below_drewN HBO.out _⟩
      · obtain rfl : k = n := by omega
        have HN : Hid (d = true) := by
          show _ = _
          rw [HD.out, decide_eq_true_iff]
          have := HT.out
          rwa [List.take_of_length_le (by rw [HZ.out]; omega), List.take_of_length_le (by rw [HZ'.out]; omega)] at this
        go_wp2
        go_ret
        exact ⟨by rw [HN.out]; rfl, hb⟩
  · have hd : decide (l = l') = false := by rw [decide_eq_false_iff_not]; intro h; subst h; omega
    rw [hd]
    have hne : ¬ (n : Int) = n' := by omega
    clear hz hz' hr hr' hd
    go_enter Try.func39, Try.ntmps39
    go_wp2
    go_ret
    exact ⟨rfl, Below.refl _ _⟩

end Go.Proofs.Ytmljdjakbbedlaa

namespace Go.Proofs.Ytmljdjakbbedlaa
open Go.ChangeShapes Go.WideShapes Go.ChangeAt Go.RowKit

set_option maxRecDepth 100000 in
set_option maxHeartbeats 1600000 in
theorem imgSave_any {w : World} {A : Option Addr} {n c : Nat} {l : List RouteV} (hl : IsRoutes w A n c l) :
    Calls Try.prog 37 #[.slice A n c] w (SavedP w (routesF l) l) := by
  have C1 := Lib.hid (new_is hl)
  have HG1 := Lib.hid (fun h0 => valid_of hl.2.2.1 h0)
  obtain ⟨post, hpost⟩ : ∃ post, SavedP w (routesF l) l = post := ⟨_, rfl⟩
  rw [hpost]
  obtain ⟨f, hf⟩ : ∃ f, routesF l = f := ⟨_, rfl⟩
  rw [hf] at C1 HG1 hpost
  have HP := Lib.hid hpost
  clear hl hpost hf
  by_cases hf : f = 0
  rotate_left
  · have d0 : (f != 0) = true := by simpa using hf
    go_enter Try.func37, Try.ntmps37
    go_wp2_with fail
    refine C1.out.mono ?_
    rintro e w1 ⟨hb1, ⟨-, rfl⟩ | ⟨h0, _⟩⟩
    · have HB1 := Lib.hid hb1
      clear hb1
      go_wp2
      (try go_ret2)
      rw [← HP.out]
      exact savedP_bad hf HB1.out
    · exact absurd h0 hf
  subst hf
  have HV := Lib.hid (HG1.out rfl)
  clear HG1
  go_enter Try.func37, Try.ntmps37
  go_wp2_with fail
  refine C1.out.mono ?_
  rintro e w1 ⟨hb1, ⟨h0, _⟩ | ⟨-, rfl, hH, -⟩⟩
  · exact absurd rfl h0
  have HB1 := Lib.hid hb1
  have hs1 := hb1.size
  have CC := Lib.hid (collect_tab hH HV.out.1 (Nat.le_trans HV.out.2 (by omega)))
  clear hb1 hH C1
  go_wp2_with fail
  refine CC.out.mono ?_
  rintro e w2 ⟨v, S, rfl, hS, hown, hb2⟩
  have hs2 := hb2.size
  have hlen : S.length ≤ 60 := by rw [hS.1.length_eq]; exact HV.out.2
  have HS := Lib.hid hS
  have HB2 := Lib.hid (below_step HB1.out hb2)
  obtain ⟨A2, c2, rfl, -, hr2⟩ := own_reads hown
  obtain ⟨m, hm⟩ : ∃ m, S.length = m := ⟨_, rfl⟩
  rw [hm] at hr2 hlen ⊢
  have CSV := Lib.hid (save_any (c := c2) hm hlen hr2 (routes_b HV.out.1 hS))
  clear hown hr2 hS hb2 CC hm
  go_wp2_with fail
  refine CSV.out.mono ?_
  rintro e w3 ⟨v3, rfl, hown3, hb3⟩
  have HO3 := Lib.hid (own_mono hown3 (Nat.le_trans hs1 hs2))
  have HB3 := Lib.hid (below_step HB2.out hb3)
  clear hown3 hb3
  go_wp2
  (try go_ret2)
  rw [← HP.out]
  exact ⟨v3, 0, _, rfl, .inr ⟨rfl, rfl, S, HS.out, rfl⟩, HO3.out, HB3.out⟩

theorem saveIs_len {f : Int} {l : List RouteV} {E : Int} {bs : List Int} (hv : f = 0 → Valid l ∧ l.length ≤ 60) (h : SaveIs f l E bs) : bs.length ≤ 1300 := by
  rcases h with ⟨_, _, rfl⟩ | ⟨a, _, S, hS, rfl⟩
  · simp
  · have h1 := save_length (routes_b (hv a).1 hS)
    have h2 := (hv a).2
    rw [hS.1.length_eq] at h1
    unfold saveL headL tailL
    simp only [List.length_append, List.length_cons, List.length_nil]
    omega

set_option maxRecDepth 100000 in
set_option maxHeartbeats 800000 in
theorem imageSaves_core {W : World} {Al : Option Addr} {nl cl : Nat} {l : List RouteV} (hl : IsRoutes W Al nl cl l) :
    Calls Try.prog 11 #[.slice Al nl cl] W fun e W' => e = .returned (.bool true) ∧ Below W.heap.size W W' := by
  have C1 := Lib.hid (imgSave_any hl)
  have C2 := Lib.hid (fun (w : World) (hb : Below W.heap.size W w) => refSave_any (hl.below hb))
  have hG1 := fun h0 => valid_of hl.2.2.1 h0
  clear hl
  go_enter Try.func11, Try.ntmps11
  go_wp2_with fail
  refine C1.out.mono ?_
  rintro e w1 ⟨v1, E, bs, rfl, hS1, hd1, hb1⟩
  have HD1 := Lib.hid hd1
  have HB1 := Lib.hid hb1
  clear hd1 hb1
  go_wp2_with fail
  refine (C2.out _ HB1.out).mono ?_
  rintro e w2 ⟨v2, E2, bs2, rfl, hS2, hd2, hb2⟩
  obtain ⟨rfl, rfl⟩ := saveIs_unique (fun h => (hG1 h).1) hS1 hS2
  have hlen : bs.length ≤ 1300 := saveIs_len hG1 hS1
  obtain ⟨A2, c2, rfl, hc2, hr2⟩ := own_reads hd2
  obtain ⟨A1, c1, rfl, hc1, hr1⟩ := own_reads (own_below HD1.out hb2)
  have CS := Lib.hid (sameBytes_any A1 A2 bs.length c1 bs.length c2 bs bs w2 rfl rfl (by unfold maxLen; omega) (by unfold maxLen; omega) hr1 hr2)
  rw [decide_eq_true rfl] at CS
  have HB2 := Lib.hid (below_step HB1.out hb2)
  generalize bs.length = k at *
  clear hd2 hb2 hr1 hr2 C1 C2 HD1 hS1 hS2 hG1
  go_wp2_with fail
  refine CS.out.mono ?_
  rintro e w3 ⟨rfl, hb3⟩
  have HB3 := Lib.hid (below_step HB2.out hb3)
  clear hb3
  go_wp2
  go_ret
  exact ⟨ret_bool (by simp), HB3.out⟩

set_option maxRecDepth 100000 in
set_option maxHeartbeats 800000 in
theorem imageSaves_walk {H : Type} {enc : TypeId × Value → H} (W : World) (vs : Array Value) (ds : List (DataW H)) (ps : List MemPlace) (h : ArgsOk Try.prog [26] H enc W vs.toList ds ps) :
    Calls Try.prog 11 vs W fun e W' => e = .returned (.bool true) ∧ Below W.heap.size W W' := by
  obtain ⟨hA, ⟨base, hval⟩, _, _⟩ := h
  obtain ⟨v0, d0, e0, _, h0⟩ := trodAll_one hA
  obtain ⟨a0, n, c, rfl⟩ := okWide_slice Try.underlying26 (hval 0 _ v0 rfl (by rw [e0]; rfl))
  obtain ⟨l, hr⟩ := open_routes h0
  obtain rfl : vs = #[.slice a0 n c] := by cases vs; simp_all
  exact imageSaves_core hr

end Go.Proofs.Ytmljdjakbbedlaa
