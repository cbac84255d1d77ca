/-
  
  
  
  
  
-/
import Derived.Test.YtmljdjakbbedlaaChecked
import Derived.Test.YtmljdjakbbedlaaC3
import Derived.Test.YtmljdjakbbedlaaC2
import Derived.RangeFuncNested
import Derived.RangeFuncBox
import Derived.RangeFuncBound
import Derived.RangeFuncCalls
import Derived.RangeFuncLeaves
import Derived.Shelf.Abstract
import Derived.WalkKit
import Derived.OwnWalkIn
import Derived.TacticsInMore
import Derived.LoopNIn
import Derived.LoopIn
import Derived.Test.YtmljdjakbbedlaaC6
import Derived.Stop.RegionWithIn
import Derived.Sort.CutIn
import Derived.Sort.QuietIn
import Derived.Outline
import Derived.Shelf.RegionOpen
import Derived.Maps.AppendAt
import Derived.Test.YtmljdjakbbedlaaC7
namespace Go.Proofs.Ytmljdjakbbedlaa
open Go.ChangeShapes Go.WideShapes Go.ChangeAt Go.RowKit Go.Shelf

attribute [local go_sem] Oper.semAt_some

/-- Where no depth is asked the figures are all one. -/
theorem round_any {F : Fence} (hd : F.depth = none) {m m' : Nat} {P : Program} {l : Nat} {f : FuncId} {tmps : Array Value} {assign body : Code} {w : World} {R : Ending → World → Prop}
    (h : RoundIn F m P l f tmps assign body w R) : RoundIn F m' P l f tmps assign body w R := ⟨h.1, fun c cs _ => h.2 c cs (fun d h => by rw [hd] at h; cases h)⟩

/-- A function with bound arguments ahead gives its elements to a yield that always says 'go on'. -/
def SeqAll {α : Type} (P : Program) (gf : Nat) (la : Array Value) (encs : α → Array Value) (n₀ : Nat) (S : List α → Prop) (N : Nat) (w : World) : Prop :=
  ∀ (n l : Nat) (J : List α → World → Prop) (W : World), Below w.heap.size w W → AbidesFrom W.heap.size J →
    (∀ m pre x W1, J pre W1 → pre.length < N → YieldAt Fence.wide m P l (encs x) W1 fun e W' => e = .returned (.bool true) ∧ J (pre ++ [x]) W' ∧ Below n₀ W1 W') →
    J [] W → CallsIn Fence.wide n P gf (la ++ #[.func (.yield l) #[] #[]]) W fun e W' => (∃ v, e = .returned v) ∧ ∃ xs, S xs ∧ J xs W'

theorem wpIn_range_recv {α : Type} {P : Program} {g : Operand} {ps : Array Tmp} {assign body : Code} {Q : Exit → Act → World → Prop} {a : Act} {w w0 : World} {n gf : Nat} {la : Array Value}
    (hg : a.eval g = .func (.func gf) la #[]) (eg : ∀ args w, (callFunc gf args).run P w = .ok (.enter gf args) w)
    {encs : α → Array Value} {n₀ : Nat} {S : List α → Prop} {N : Nat} (hseq : SeqAll P gf la encs n₀ S N w0) (hn₀ : n₀ ≤ w.heap.size) (hb0 : Below w0.heap.size w0 w) (hps : ∀ x, (encs x).size = ps.size)
    (I : List α → World → Prop) (hI : OwnFrom w.heap.size I) (h0 : I [] w) (Ax : α → Act → World → Prop) (hAx : ∀ x a', OwnFrom w.heap.size (fun (_ : Unit) W => Ax x a' W))
    (hassign : ∀ (l m : Nat) (pre : List α) (x : α) (W : World) (K : Act → World → Prop), I pre W → (∀ a' W', KeepsFrom w.heap.size W W' → Below n₀ W W' → I pre W' → Ax x a' W' → K a' W') →
      assign.wpIn (Fence.wide.inRound l) m P (Exit.then K (fun _ _ _ => False)) { tmps := (ps.zip (encs x)).foldl (fun t (p, v) => t.setIfInBounds p v) a.tmps, defers := [] } W)
    (hbody : ∀ (l m : Nat) (pre : List α) (x : α) (a' : Act) (W : World), I pre W → Ax x a' W → pre.length < N →
      body.wpIn (Fence.wide.inRound l) m P (ownPostG w.heap.size (Below n₀) I (fun _ _ _ => False) (pre ++ [x]) W) a' W)
    (hdone : ∀ (D : Nat) (xs : List α) (W : World), w.heap.size ≤ D → S xs → I xs W → W.heap[D]? = some (.deferred (some [])) → Q .normal { a with defers := { target := .collected D, args := #[] } :: a.defers } W) :
    (Code.rangeFunc g ps assign body).wpIn Fence.wide n P Q a w := by
  refine wpIn_rangeFunc ?_
  intro fn hfn
  rw [show Fence.wide.round = none from rfl]
  obtain ⟨rec, hrec⟩ : ∃ rec : LoopState → Option Code → Loop, rec = fun st pe => { state := st, pending := pe, fn, tmps := a.tmps, params := ps, assign, body, defers := w.heap.size } := ⟨_, rfl⟩
  obtain ⟨W1, hW1⟩ : ∃ W1, (w.alloc (.deferred (some []))).alloc (.loop (rec .ready none)) = W1 := ⟨_, rfl⟩
  have hB1 : Below w.heap.size w W1 := by rw [← hW1]; exact (((Below.refl _ w).alloc (Nat.le_refl _) _).alloc (by simp) _)
  have hs1 : W1.heap.size = w.heap.size + 1 + 1 := by rw [← hW1]; simp
  have hL1 : W1.heap[w.heap.size + 1]? = some (.loop (rec .ready none)) := by
    rw [← hW1]
    have := World.alloc_heap_new (w.alloc (.deferred (some []))) (.loop (rec .ready none))
    rwa [World.size_alloc] at this
  have hK1 : W1.heap[w.heap.size]? = some (.deferred (some [])) := by
    rw [← hW1]
    exact (Below.heap_alloc _ _ _ (by simp)).trans (World.alloc_heap_new w _)
  have hI1 : I [] W1 := by rw [← hW1]; exact hI.alloc _ (hI.alloc _ h0)
  refine ⟨w.heap.size + 1, [{ target := .collected w.heap.size, args := #[] }], W1, { target := .fn (.func gf) #[], args := la ++ #[.func (.yield (w.heap.size + 1)) #[] #[]] }, W1, gf, la ++ #[.func (.yield (w.heap.size + 1)) #[] #[]], W1, ?_, ?_, ?_, ?_, fun h => (by cases h), ?_⟩
  · rw [← hW1, hrec]
    exact run_enterLoop_outer _ _ _ _ _
  · simp only [resolve, hg]
    simp [go_sem]
  · intro f' hf'
    trivial
  · simp [invoke, go_sem, eg]
  · refine (hseq (n - 1) (w.heap.size + 1) (fun pre W => I pre W ∧ W.heap[w.heap.size + 1]? = some (.loop (rec .ready none)) ∧ W.heap[w.heap.size]? = some (.deferred (some []))) W1 (hb0.trans (hB1.mono hb0.size)) ?_ ?_ ⟨hI1, hL1, hK1⟩).mono ?_
    · intro s A B row hs hg' hr
      have hw : ∀ r, row = some r → ∃ o : Obj, A.heap[r]? = some o ∧ o.isWalk = true := fun r e => (hr r e).2
      refine ⟨hI s A B row hs.1 hg' (fun r e => ?_), (grownBy_keeps hg' hw hs.2.1 rfl).trans hs.2.1, (grownBy_keeps hg' hw hs.2.2 rfl).trans hs.2.2⟩
      obtain ⟨h1, o, ho, hwk⟩ := hr r e
      exact ⟨by omega, o, ho, Obj.not_cells_of_walk hwk⟩
    · intro m pre x W hJ hlen
      obtain ⟨hi, hl, hk⟩ := hJ
      have hy := run_yield (P := P) (args := encs x) hl (by rw [hrec]; exact hps x)
      rw [hrec] at hy
      refine ⟨fn, _, assign, body, hy, roundIn_of_wpIn hfn (hassign (w.heap.size + 1) m pre x W _ hi ?_)⟩
      clear hy
      intro a' Wa hka hba hia hax
      have hla := hka.same _ _ (by omega) hl rfl
      have hkk := hka.same _ _ (Nat.le_refl _) hk rfl
      have hlt := (Array.getElem?_eq_some_iff.1 hla).1
      refine ⟨_, run_beginRound hla (by rw [hrec]), ?_⟩
      obtain ⟨busy, hbusy⟩ : ∃ busy : Loop, busy = { rec .ready none with state := .busy } := ⟨_, rfl⟩
      rw [← hbusy]
      obtain ⟨Wb, hWb⟩ : ∃ Wb, Wb = Wa.putObj (w.heap.size + 1) (.loop busy) := ⟨_, rfl⟩
      have hl2 : Wb.heap[w.heap.size + 1]? = some (.loop busy) := by rw [hWb]; exact World.putObj_heap_same hlt
      have hk2 : Wb.heap[w.heap.size]? = some (.deferred (some [])) := by rw [hWb]; exact (World.putObj_heap_other (by omega)).trans hkk
      have hbb : Below n₀ Wa Wb := by rw [hWb]; exact belowK_b hn₀ Wa (w.heap.size + 1) _ _ (by omega) hla rfl rfl
      have hib : I pre Wb := by rw [hWb]; exact hI.putObj _ hia (by omega) hla rfl
      have hxb : Ax x a' Wb := by rw [hWb]; exact (hAx x a').putObj (s := ()) _ hax (by omega) hla rfl
      rw [← hWb]
      clear hWb
      refine wpIn_mono (hbody (w.heap.size + 1) m pre x a' Wb hib hxb hlen) ?_
      intro e a3 W3 hp
      cases e with
      | normal =>
        obtain ⟨hk3, hb3, hi3⟩ := hp
        have hl3 := hk3.same _ _ (by omega) hl2 rfl
        have hd3 := hk3.same _ _ (Nat.le_refl _) hk2 rfl
        have hlt3 := (Array.getElem?_eq_some_iff.1 hl3).1
        have hend := run_endRound (P := P) none hl3
        have hback : { busy with state := if (none : Option Code).isNone then LoopState.ready else .done, pending := none } = rec .ready none := by rw [hbusy, hrec]; rfl
        rw [hback] at hend
        refine ⟨_, _, hend, rfl, ⟨hI.putObj _ hi3 (by omega) hl3 rfl, World.putObj_heap_same hlt3, (World.putObj_heap_other (by omega)).trans hd3⟩, ?_⟩
        exact hba.trans (hbb.trans (hb3.trans (belowK_b hn₀ W3 (w.heap.size + 1) _ _ (by omega) hl3 rfl rfl)))
      | ret => exact hp.2.elim
      | exit id => exact hp.2.elim
      | goto t => exact hp.2.elim
      | panic ch => exact hp.elim
      | outgrown => exact hp.elim
    · rintro e W' ⟨⟨v, rfl⟩, xs, hS, hi, hl, hk⟩
      have hend := run_endLoop (P := P) hl (by rw [hrec]; intro h; cases h)
      rw [show (rec .ready none).pending = none from by rw [hrec]] at hend
      refine ⟨none, _, hend, ?_⟩
      exact hdone w.heap.size xs _ (Nat.le_refl _) hS (hI.putObj _ hi (by omega) hl rfl) ((World.putObj_heap_other (by omega)).trans hk)

end Go.Proofs.Ytmljdjakbbedlaa

namespace Go.Proofs.Ytmljdjakbbedlaa
open Go.BigFrame Go.ChangeShapes Go.WideShapes Go.ChangeAt Go.RowKit Go.Shelf

attribute [local go_sem] Oper.semAt_some

set_option maxRecDepth 100000 in
set_option maxHeartbeats 8000000 in
theorem nodeEach_in {l n₀ B N : Nat} {J : List RouteV → World → Prop} (hJd : ∀ pre W q, J pre W → J pre (W.drewN q))
    (hY : ∀ m pre x W, J pre W → pre.length < N → YieldAt Fence.wide m Try.prog l #[x.val] W fun e W' => e = .returned (.bool true) ∧ J (pre ++ [x]) W' ∧ Below n₀ W W') (t : Tr) :
    ∀ (n : Nat) (pre : List RouteV) (W : World), t.Lies W B → (∀ g ∈ t.blocks, g < n₀) → J pre W → pre.length + (routesT t).length ≤ N →
      CallsIn Fence.wide n Try.prog 138 #[t.ptr, .func (.yield l) #[] #[]] W fun e W' => e = .returned (.bool true) ∧ J (pre ++ routesT t) W' ∧ Below n₀ W W' := by
  induction t with
  | nil =>
    intro n pre W _ _ hJ _
    unfold Tr.ptr
    refine callsIn_of_wp Try.func138 rfl trivial ?_ rfl
    simp only [Try.ntmps138, List.size_toArray, List.length_cons, List.length_nil, Nat.reduceAdd, Nat.reduceSub, Array.replicate_succ, Array.replicate_zero, List.push_toArray, List.append_toArray, List.nil_append, List.cons_append]
    gi_wp2
    go_ret
    exact ⟨rfl, by simpa [routesT] using hJ, Below.refl _ _⟩
  | node g p h tl tr ihl ihr =>
    intro n pre W ht hb hJ hN
    obtain ⟨hBg, hk, hl, hr⟩ := ht
    have hgn : g < n₀ := hb g (by simp [Tr.blocks])
    have hbl : ∀ x ∈ tl.blocks, x < n₀ := fun x hx => hb x (by simp [Tr.blocks, hx])
    have hbr : ∀ x ∈ tr.blocks, x < n₀ := fun x hx => hb x (by simp [Tr.blocks, hx])
    obtain ⟨six, hi, lo, pn⟩ := p
    have c0 := hk.cell 0
    have c1 := hk.cell 1
    have c2 := hk.cell 2
    have c3 := hk.cell 3
    have c4 := hk.cell 4
    have c5 := hk.cell 5
    have c6 := hk.cell 6
    simp [nodeCs] at c0 c1 c2 c3 c4 c5 c6
    unfold Tr.ptr
    refine callsIn_of_wp Try.func138 rfl trivial ?_ rfl
    simp only [Try.ntmps138, List.size_toArray, List.length_cons, List.length_nil, Nat.reduceAdd, Nat.reduceSub, Array.replicate_succ, Array.replicate_zero, List.push_toArray, List.append_toArray, List.nil_append, List.cons_append]
    have HJ := Lib.hid hJ
    have HL := Lib.hid (fun (W1 : World) (hb1 : Below n₀ W W1) => hl.keep (w' := W1) (fun x hx => hb1.block x (hbl x hx)))
    have HR := Lib.hid (fun (W1 : World) (hb1 : Below n₀ W W1) => hr.keep (w' := W1) (fun x hx => hb1.block x (hbr x hx)))
    have IL := Lib.hid ihl
    have IR := Lib.hid ihr
    have HY := Lib.hid hY
    clear ihl ihr hY hl hr hJ hk hb
    by_cases h0 : h = 0
    · subst h0
      have hrl : routesT (.node g ⟨six, hi, lo, pn⟩ 0 tl tr) = routesT tl ++ routesT tr := by simp [routesT]
      rw [hrl] at hN
      have HRL := Lib.hid hrl
      have hN1 : pre.length + (routesT tl).length ≤ N := by rw [List.length_append] at hN; omega
      have hN2 : (pre ++ routesT tl).length + (routesT tr).length ≤ N := by rw [List.length_append] at hN ⊢; omega
      have HN1 := Lib.hid hN1
      have HN2 := Lib.hid hN2
      clear hrl hN hN1 hN2
      gi_wp2
      refine wpIn_region_quiet_lit rfl (by kernel_rfl) (by kernel_rfl) ?_
      repeat (gi_big_quiet_step (fail))
      refine wpQuietIn_skip (fun _ _ _ _ => trivial) rfl ?_
      simp only [Act.put, List.setIfInBounds_toArray, List.set_cons_zero, List.set_cons_succ]
      repeat (gi_big_quiet_step (fail))
      refine wpQuietIn_nil ?_
      intro _ hw'
      obtain ⟨nq, hw''⟩ := hw'
      subst hw''
      have HB1 : Hid (Below n₀ W (W.drewN nq)) := below_drewN (Below.refl _ _) nq
      have HJ1 := Lib.hid (hJd pre W nq HJ.out)
      have CL := Lib.hid (fun m => IL.out m pre _ (HL.out _ HB1.out) hbl HJ1.out HN1.out)
      gi_wp2_with fail
      refine ⟨trivial, fun h => (by cases h), (CL.out _).mono ?_⟩
      rintro e W2 ⟨rfl, hJ2, hb2⟩
      have HB2 := Lib.hid (HB1.out.trans hb2)
      have HJ2 := Lib.hid hJ2
      have c6' := (HB2.out.cell (p := ⟨g, 6, none⟩) hgn).trans c6
      have CR := Lib.hid (fun m => IR.out m _ _ (HR.out _ HB2.out) hbr HJ2.out HN2.out)
      clear hJ2 hb2
      gi_wp2_with fail
      refine ⟨trivial, fun h => (by cases h), (CR.out _).mono ?_⟩
      rintro e W3 ⟨rfl, hJ3, hb3⟩
      have HB3 := Lib.hid (HB2.out.trans hb3)
      have HJ3 := Lib.hid hJ3
      clear hJ3 hb3
      gi_wp2
      go_ret
      exact ⟨rfl, by rw [HRL.out, ← List.append_assoc]; exact HJ3.out, HB3.out⟩
    · have d0 : (h != 0) = true := by simpa using h0
      have hrl : routesT (.node g ⟨six, hi, lo, pn⟩ h tl tr) = [⟨⟨six, hi, lo, pn⟩, h⟩] ++ (routesT tl ++ routesT tr) := by simp [routesT, h0]
      rw [hrl] at hN
      have HRL := Lib.hid hrl
      have hN0 : pre.length < N := by simp only [List.length_append, List.length_cons, List.length_nil] at hN; omega
      have hN1 : (pre ++ [(⟨⟨six, hi, lo, pn⟩, h⟩ : RouteV)]).length + (routesT tl).length ≤ N := by simp only [List.length_append, List.length_cons, List.length_nil] at hN ⊢; omega
      have hN2 : ((pre ++ [(⟨⟨six, hi, lo, pn⟩, h⟩ : RouteV)]) ++ routesT tl).length + (routesT tr).length ≤ N := by simp only [List.length_append, List.length_cons, List.length_nil] at hN ⊢; omega
      have HN0 := Lib.hid hN0
      have HN1 := Lib.hid hN1
      have HN2 := Lib.hid hN2
      have HB0 : Hid (Below n₀ W W.drew) := (Below.refl _ _).drew
      have HJ0 : Hid (J pre W.drew) := hJd pre W 1 HJ.out
      clear hrl hN hN0 hN1 hN2
      obtain ⟨fn, tmps, assign, body, hy, hR⟩ := HY.out (n - 1) pre ⟨⟨six, hi, lo, pn⟩, h⟩ _ HJ0.out HN0.out
      have HRR := Lib.hid hR
      unfold RouteV.val at hy
      simp only at hy
      clear hR
      gi_wp2
      gi_region_with (refine ⟨fun h => (by cases h), HRR.out.mono ?_⟩; rintro e W2 ⟨rfl, hJ2, hb2⟩; have HB2 := Lib.hid (HB0.out.trans hb2); have HJ2 := Lib.hid hJ2; clear hJ2 hb2)
      all_goals (
        have CL := Lib.hid (fun m => IL.out m _ _ (HL.out _ HB2.out) hbl HJ2.out HN1.out)
        have c5' := (HB2.out.cell (p := ⟨g, 5, none⟩) hgn).trans c5
        gi_wp2_with fail
        refine ⟨trivial, fun h => (by cases h), (CL.out _).mono ?_⟩
        rintro e W3 ⟨rfl, hJ3, hb3⟩
        have HB3 := Lib.hid (HB2.out.trans hb3)
        have HJ3 := Lib.hid hJ3
        have c6' := (HB3.out.cell (p := ⟨g, 6, none⟩) hgn).trans c6
        have CR := Lib.hid (fun m => IR.out m _ _ (HR.out _ HB3.out) hbr HJ3.out HN2.out)
        clear hJ3 hb3
        gi_wp2_with fail
        refine ⟨trivial, fun h => (by cases h), (CR.out _).mono ?_⟩
        rintro e W4 ⟨rfl, hJ4, hb4⟩
        have HB4 := Lib.hid (HB3.out.trans hb4)
        have HJ4 := Lib.hid hJ4
        clear hJ4 hb4
        gi_wp2
        go_ret
        exact ⟨rfl, by rw [HRL.out, ← List.append_assoc, ← List.append_assoc]; exact HJ4.out, HB4.out⟩)

end Go.Proofs.Ytmljdjakbbedlaa

namespace Go.Proofs.Ytmljdjakbbedlaa
open Go.BigFrame Go.ChangeShapes Go.WideShapes Go.ChangeAt Go.RowKit Go.Shelf

attribute [local go_sem] Oper.semAt_some

set_option maxRecDepth 100000 in
set_option maxHeartbeats 2000000 in
theorem tabEach_all {w : World} {B tb : Nat} {R : Bool → Tr} {c : Int} {N : Nat} (ht : Tab w B tb R c) (hN : (routesR R).length ≤ N) :
    SeqAll Try.prog 91 #[.pointer (some ⟨tb, 0, none⟩)] (fun x : RouteV => #[x.val]) w.heap.size (fun xs => xs = routesR R) N w := by
  intro n l J W hW hJal hY hJ
  have HL := Lib.hid (fun s (W1 : World) (hb1 : Below w.heap.size w W1) => (ht.lies s).keep (w' := W1) fun g hg => hb1.block g (ht.lt g (mem_tab hg)).2)
  have hbl := Lib.hid (fun s g (hg : g ∈ (R s).blocks) => (ht.lt g (mem_tab hg)).2)
  have NE := Lib.hid (nodeEach_in (n₀ := w.heap.size) (B := B) (N := N) (J := J) (l := l) (fun pre W1 q h => hJal pre W1 _ none h ⟨rfl, rfl, rfl, Nat.le_refl _, fun _ _ _ => rfl⟩ (fun r e => by cases e)) hY)
  have htb : tb < w.heap.size := (ht.lt tb (by simp [tabBlocks])).2
  have c0 := (hW.cell (p := ⟨tb, 0, none⟩) htb).trans (ht.blk.cell 0)
  have c1 := (hW.cell (p := ⟨tb, 1, none⟩) htb).trans (ht.blk.cell 1)
  simp at c0 c1
  have HR : Hid (routesR R = routesT (R false) ++ routesT (R true)) := rfl
  have hN1 : Hid ((routesT (R false)).length ≤ N) := by rw [HR.out, List.length_append] at hN; exact Lib.hid (by omega)
  have hN2 : Hid (([] ++ routesT (R false)).length + (routesT (R true)).length ≤ N) := by rw [HR.out, List.length_append] at hN; exact Lib.hid (by simpa using hN)
  obtain ⟨p0, hp0⟩ : ∃ p, p = (R false).ptr := ⟨_, rfl⟩
  obtain ⟨p1, hp1⟩ : ∃ p, p = (R true).ptr := ⟨_, rfl⟩
  rw [← hp0] at c0
  rw [← hp1] at c1
  have HP0 := Lib.hid hp0
  have HP1 := Lib.hid hp1
  clear hp0 hp1 ht hY hN
  have i0 : ∀ w, (Instr.index 188 (.agg #[p0, p1]) (.int .i64 0)).run Try.prog w = .ok p0 w := fun _ => by kernel_rfl
  have i1 : ∀ w, (Instr.index 188 (.agg #[p0, p1]) (.int .i64 1)).run Try.prog w = .ok p1 w := fun _ => by kernel_rfl
  show CallsIn _ _ _ _ #[.pointer (some ⟨tb, 0, none⟩), .func (.yield l) #[] #[]] W _
  refine callsIn_of_wp Try.func91 rfl trivial ?_ rfl
  simp only [Try.ntmps91, List.size_toArray, List.length_cons, List.length_nil, Nat.reduceAdd, Nat.reduceSub, Array.replicate_succ, Array.replicate_zero, List.push_toArray, List.append_toArray, List.nil_append, List.cons_append]
  gi_wp2
  gi_loopw [10, 5] (fun i _ wr => Below w.heap.size W wr ∧ ((i = .int .i64 0 ∧ J [] wr) ∨ (i = .int .i64 1 ∧ J ([] ++ routesT (R false)) wr) ∨ (i = .int .i64 2 ∧ J ([] ++ routesT (R false) ++ routesT (R true)) wr))) (fun i _ _ => 2 - (intOf i).toNat)
  case atStart => exact ⟨Below.refl _ _, .inl ⟨rfl, hJ⟩⟩
  case round =>
    obtain ⟨hb, hs⟩ := hrel
    have HB := Lib.hid (hW.trans hb)
    rcases hs with ⟨rfl, hJ0⟩ | ⟨rfl, hJ1⟩ | ⟨rfl, hJ2⟩
    · have CL := Lib.hid (fun m => NE.out (R false) m [] _ (HL.out false _ HB.out) (hbl.out false) hJ0 (by simpa using hN1.out))
      rw [← HP0.out] at CL
      gi_wp2_with fail
      refine ⟨trivial, fun h => (by cases h), (CL.out _).mono ?_⟩
      rintro e W2 ⟨rfl, hJ2, hb2⟩
      gi_wp2
      go_roundw
      case rel => exact ⟨hb.trans hb2, .inr (.inl ⟨rfl, hJ2⟩)⟩
      case measure => simp [intOf]
    · have CL := Lib.hid (fun m => NE.out (R true) m _ _ (HL.out true _ HB.out) (hbl.out true) hJ1 hN2.out)
      rw [← HP1.out] at CL
      gi_wp2_with fail
      refine ⟨trivial, fun h => (by cases h), (CL.out _).mono ?_⟩
      rintro e W2 ⟨rfl, hJ2, hb2⟩
      gi_wp2
      go_roundw
      case rel => exact ⟨hb.trans hb2, .inr (.inr ⟨rfl, hJ2⟩)⟩
      case measure => simp [intOf]
    · gi_wp2
      go_end0
      exact ⟨⟨_, rfl⟩, _, rfl, by rw [HR.out]; simpa using hJ2⟩

end Go.Proofs.Ytmljdjakbbedlaa

namespace Go.Proofs.Ytmljdjakbbedlaa
open Go.ChangeShapes Go.WideShapes Go.ChangeAt Go.RowKit Go.Shelf

attribute [local go_sem] Oper.semAt_some

/-- append of one element, laid just before in a block of its own, in a round of a loop over an iterator. -/
theorem wpListIn_append_r {F : Fence} {n : Nat} {P : Program} {ops : Array Oper} {rest : List Oper} {o : Oper} {a : Act} {Q : Exit → Act → World → Prop} {w0 : World} {us : List Value} {fr : Nat × Nat} {e : TypeId} (hgd : o.guard = none) (s x : Operand) (t : TypeId)
    (ho : o.op = .call { callee := .builtin .append, args := #[s, x], argTypes := #[t, t] })
    (base : Nat) (z : Value) (size bytes : Nat) (ht : P.underlying t = some (.slice e)) (hi : (P.info? e).map (fun i => (i.zero, i.size, i.bytes)) = some (some z, size, bytes))
    (hzs : z.cells.size = size) (hsz : 0 < size) (v : Value) (k : Nat) (xs : List Value) (hs : a.eval s = v) (hown : w0.ownsRow base e size v k xs) (hbase : base ≤ w0.heap.size)
    (hl : us.length = size) (h1 : ∀ u ∈ us, u.oneCell' = true)
    (hx : a.eval x = .slice (some ⟨w0.heap.size, 0, none⟩) 1 1) (h63 : k + 1 ≤ maxLen) (hbytes : (k + 1) * bytes ≤ 140737488355328)
    (h : ∀ v' w', w'.ownsRow base e size v' (k + 1) (xs ++ us) → (w0.alloc (.cells us.toArray e fr)).grownBy w' v.ownBlock → wpListIn F n P ops Q rest (a.put o.dst v') w') :
    wpListIn F n P ops Q (o :: rest) a (w0.alloc (.cells us.toArray e fr)) := by
  obtain ⟨i0, hi, hz0, hz1, hz2⟩ := info_parts hi
  refine wpListIn_append_own _ hgd s x t ho base e i0 z size bytes ht hi hz0 hz1 hz2 hzs hsz v k xs hs (hown.alloc _) ⟨w0.heap.size, 0, none⟩ 1 1 us hx (by omega) ?_ h1 h63 hbytes (by simp; omega) ?_
  · intro j u hj
    have e1 : (⟨w0.heap.size, 0, none⟩ : Addr).add j = ⟨w0.heap.size, j, none⟩ := by unfold Addr.add; split <;> simp_all
    rw [e1]
    have : (w0.alloc (.cells us.toArray e fr)).heap[w0.heap.size]? = some (.cells us.toArray e fr) := heap_alloc_new w0 _
    unfold World.cell?
    simp only [this]
    simpa using hj
  · intro v' w' hown' hg _
    exact h v' w' hown' hg

theorem rinfoC : (Try.prog.info? 48).map (fun i => (i.zero, i.size, i.bytes)) = some (some (.agg #[.bool false, .int .u64 0, .int .u64 0, .int .i64 0, .int .i64 0]), 5, 40) := by kernel_rfl

set_option maxRecDepth 100000 in
set_option maxHeartbeats 2000000 in
/-- slices.AppendSeq onto nil, against whatever iterator that is not stopped. -/
theorem appendSeq_rv {g : Nat} {la : Array Value} (eg : ∀ args w, (callFunc g args).run Try.prog w = .ok (.enter g args) w) {S : List RouteV → Prop} {N : Nat} {w0 w : World} (hn₀ : w0.heap.size ≤ w.heap.size) (hb0 : Below w0.heap.size w0 w) (hN : N ≤ 100000)
    (hseq : SeqAll Try.prog g la (fun x : RouteV => #[x.val]) w0.heap.size S N w0) :
    Calls Try.prog 137 #[.slice none 0 0, .func (.func g) la #[]] w fun e w' => ∃ (v : Value) (l : List RouteV), e = .returned v ∧ S l ∧ w'.ownsRow w.heap.size 48 5 v l.length (l.flatMap RouteV.cells) ∧ Below w.heap.size w w' := by
  refine (callsIn_wide (n := 9)).1 ?_
  refine callsIn_of_wp_marks Try.func137 rfl trivial ?_ rfl
  simp only [Try.ntmps137, List.size_toArray, List.length_cons, List.length_nil, Nat.reduceAdd, Nat.reduceSub, Array.replicate_succ, Array.replicate_zero, List.push_toArray, List.append_toArray, List.nil_append, List.cons_append]
  gi_wp2
  have bO := Boxed.new w 26 (.slice none 0 0)
  obtain ⟨W0, hW0⟩ : ∃ W0, w.alloc (.cells #[.slice none 0 0] 26) = W0 := ⟨_, rfl⟩
  have hB0 : Below w.heap.size w W0 := by rw [← hW0]; exact (Below.refl _ w).alloc (Nat.le_refl _) _
  have hsz : W0.heap.size = w.heap.size + 1 := by rw [← hW0]; simp
  rw [hW0] at bO ⊢
  clear hW0
  refine wpIn_range_recv (gf := g) (la := la) rfl eg hseq (by omega) (hb0.trans (hB0.mono hn₀)) (fun _ => rfl)
    (fun pre W => (∃ v, Boxed W w.heap.size 26 v ∧ W.ownsRow w.heap.size 48 5 v pre.length (pre.flatMap RouteV.cells) ∧ True) ∧ Below w.heap.size w W)
    (OwnFrom.and (Own.from (holdsRow_own w.heap.size w.heap.size 26 48 5 (fun pre : List RouteV => pre.length) (fun pre => pre.flatMap RouteV.cells) (fun _ _ => True)) _) (ownFrom_below (Nat.le_refl _) (by omega)))
    ⟨⟨_, bO, World.ownsRow_nil _ _ _ _, trivial⟩, hB0⟩
    (fun x a' W => ∃ Bx, w.heap.size < Bx ∧ W.heap[Bx]? = some (.cells #[.bool x.p.six, .int .u64 x.p.hi, .int .u64 x.p.lo, .int .i64 x.p.n, .int .i64 x.hop] 48 (0, 0)) ∧ a' = { tmps := #[.slice none 0 0, .func (.func g) la #[], .pointer (some ⟨w.heap.size, 0, none⟩), undef, .slice none 0 0, .pointer (some ⟨Bx, 0, none⟩), .func (.func g) la #[], x.val, undef, undef, undef, undef, undef], defers := [] })
    (fun x a' _ X Y row hs hg hr => by
      obtain ⟨Bx, h1, h2, h3⟩ := hs
      refine ⟨Bx, h1, (hg.block Bx (Array.getElem?_eq_some_iff.1 h2).1 (fun e => ?_)).trans h2, h3⟩
      obtain ⟨_, o, ho, hc⟩ := hr Bx e.symm
      rw [h2] at ho; cases ho; cases hc)
    ?assign ?body ?done
  case assign =>
    rintro l m pre x W K ⟨⟨v, hv, hrow, _⟩, hB⟩ hK
    unfold RouteV.val
    gi_wp2
    exact hK _ _ ((KeepsOthers.alloc _ _).from _) ((Below.refl _ W).alloc (by have := hB.size; omega) _) ⟨⟨v, hv.alloc _, hrow.alloc _, trivial⟩, hB.alloc hB.size _⟩ ⟨W.heap.size, hv.lt, heap_alloc_new W _, rfl⟩
  case body =>
    rintro l m pre x a' W ⟨⟨v, hv, hrow, _⟩, hB⟩ ⟨Bx, hBx, bX, rfl⟩ hlt
    have hc := hv.cell
    have x0 := cell_of_row W Bx 0 _ _ _ bX
    have x1 := cell_of_row W Bx 1 _ _ _ bX
    have x2 := cell_of_row W Bx 2 _ _ _ bX
    have x3 := cell_of_row W Bx 3 _ _ _ bX
    have x4 := cell_of_row W Bx 4 _ _ _ bX
    simp at x0 x1 x2 x3 x4
    have hBx2 := (Array.getElem?_eq_some_iff.1 bX).1
    clear bX
    unfold RouteV.val
    gi_wp2_with (gi_at_builtin; refine wpListIn_append_r (us := x.cells) rfl _ _ 26 rfl w.heap.size _ 5 40 Try.underlying26 rinfoC rfl (by decide) v _ _ rfl hrow hB.size rfl (by intro u hu; simp [RouteV.cells] at hu; rcases hu with rfl | rfl | rfl | rfl | rfl <;> rfl) rfl (by unfold maxLen; omega) (by omega) ?_; intro v' w1 hown' hgrow; obtain ⟨g', cap', rfl⟩ := ownsRow_succ hown'; obtain ⟨hv1, hv2, hr2, hk2, hb2⟩ := hv.appended (by decide) hrow hB.size (Nat.le_refl _) hown' hgrow; have hc1 := hv1.cell; have hf1 := hv1.frozen)
    exact ⟨hk2.from _, hb2.mono hn₀, ⟨_, hv2, by rw [List.length_append, List.flatMap_append]; simpa using hr2, trivial⟩, hB.trans hb2⟩
  case done =>
    rintro D ys W hD hS ⟨⟨v, hv, hrow, _⟩, hB⟩ hK
    have hc := hv.cell
    gi_wp2
    refine ⟨by simp, .inl ⟨_, _, rfl, run_takeDeferred hK, ?_⟩⟩
    exact ⟨_, results_tmp rfl _ _ _, v, ys, rfl, hS, ownsRow_putObj hrow _ hK rfl, hB.trans (belowK_b (w := w) (Nat.le_refl _) W D _ _ (by omega) hK rfl rfl)⟩

theorem collect_rv {g : Nat} {la : Array Value} (eg : ∀ args w, (callFunc g args).run Try.prog w = .ok (.enter g args) w) {S : List RouteV → Prop} {N : Nat} {w0 w : World} (hn₀ : w0.heap.size ≤ w.heap.size) (hb0 : Below w0.heap.size w0 w) (hN : N ≤ 100000)
    (hseq : SeqAll Try.prog g la (fun x : RouteV => #[x.val]) w0.heap.size S N w0) :
    Calls Try.prog 90 #[.func (.func g) la #[]] w fun e w' => ∃ (v : Value) (l : List RouteV), e = .returned v ∧ S l ∧ w'.ownsRow w.heap.size 48 5 v l.length (l.flatMap RouteV.cells) ∧ Below w.heap.size w w' := by
  have h := Lib.hid (appendSeq_rv eg hn₀ hb0 hN hseq)
  clear hseq
  go_enter Try.func90, Try.ntmps90
  go_wp2_with fail
  refine h.out.mono ?_
  rintro e w1 ⟨v, l, rfl, hS, hrow, hb⟩
  go_wp2
  go_ret
  exact ⟨v, l, rfl, hS, hrow, hb⟩

end Go.Proofs.Ytmljdjakbbedlaa

namespace Go.Proofs.Ytmljdjakbbedlaa
open Go.BigFrame Go.ChangeShapes Go.WideShapes Go.ChangeAt Go.RowKit Go.Shelf

attribute [local go_sem] Oper.semAt_some

theorem valid_nodup {l : List RouteV} (hv : Valid l) : l.Nodup := by
  have := hv.2
  rw [List.nodup_iff_pairwise_ne, List.pairwise_map] at this
  rw [List.nodup_iff_pairwise_ne]
  exact this.imp fun h e => h (by rw [e])
theorem sortedOf_routes {w : World} {B tb : Nat} {R : Bool → Tr} {l : List RouteV} (h : HoldsR w B tb R l) (hv : Valid l) : SortedOf l (routesR R) := by
  have hs := routesR_sorted h.2.1
  have hm := routesR_mem h.2.1 hv h.2.2
  refine ⟨?_, hs⟩
  refine (List.perm_ext_iff_of_nodup ?_ (valid_nodup hv)).2 hm
  rw [List.nodup_iff_pairwise_ne]
  refine List.Pairwise.imp_of_mem ?_ hs
  intro a b ha hb hlt e
  subst e
  exact ltP_irrefl (hv.1 a ((hm a).1 ha)).1 hlt
set_option maxRecDepth 100000 in
theorem eachEg : ∀ args w, (callFunc 91 args).run Try.prog w = .ok (.enter 91 args) w := fun _ _ => by kernel_rfl

/-- slices.Collect of a table's Each. -/
theorem collect_tab {w : World} {B tb : Nat} {l : List RouteV} (h : Holds w B tb l) (hv : Valid l) (hl : l.length ≤ 1000) :
    Calls Try.prog 90 #[.func (.func 91) #[.pointer (some ⟨tb, 0, none⟩)] #[]] w fun e w' => ∃ v S, e = .returned v ∧ SortedOf l S ∧ w'.ownsRow w.heap.size 48 5 v S.length (S.flatMap RouteV.cells) ∧ Below w.heap.size w w' := by
  obtain ⟨R, hR⟩ := h.named
  have hS := sortedOf_routes hR hv
  refine (collect_rv eachEg (Nat.le_refl _) (Below.refl _ _) (N := 1000) (by omega) (tabEach_all hR.1 (by rw [hS.1.length_eq]; omega))).mono ?_
  rintro e w1 ⟨v, m, rfl, rfl, h1, h2⟩
  exact ⟨v, _, rfl, hS, h1, h2⟩

def RoutesT (w : World) (n : Nat) (l : List ActV) (e : Ending) (w' : World) : Prop :=
  (100 < n → e = .returned (.tuple #[.slice none 0 0, .int .i64 1]) ∧ Below w.heap.size w w') ∧
    (¬ 100 < n → ∃ v S, e = .returned (.tuple #[v, .int .i64 0]) ∧ SortedOf (actL l []) S ∧ w'.ownsRow w.heap.size 48 5 v S.length (S.flatMap RouteV.cells) ∧ Below w.heap.size w w')

end Go.Proofs.Ytmljdjakbbedlaa
