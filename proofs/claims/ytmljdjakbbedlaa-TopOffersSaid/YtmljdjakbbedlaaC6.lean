/-
  
  
  
  
  
  
  
  
  
  
  
  
  
  
-/
import Derived.Test.YtmljdjakbbedlaaC5
import Derived.Test.YtmljdjakbbedlaaC2
import Derived.Test.YtmljdjakbbedlaaC3
import Derived.Shelf.GgSortFunc.InsertionK
import Derived.Deep.DeepCutAuto
import Derived.Outline
import Derived.Sort.WalkA
import Derived.Sort.WalkB2
import Derived.Sort.WalkB3
import Derived.Sort.WalkC
import Derived.Sort.WalkC4
import Derived.Deep.CutBlock
namespace Go.Proofs.Ytmljdjakbbedlaa
open Go.ChangeShapes Go.WideShapes Go.ChangeAt Go.RowKit

def ActV.cells (a : ActV) : List Value := [.int .i64 a.kind, .bool a.p.six, .int .u64 a.p.hi, .int .u64 a.p.lo, .int .i64 a.p.n, .int .i64 a.hop, .bool a.a.six, .int .u64 a.a.hi, .int .u64 a.a.lo]
theorem ActV.cells_length (a : ActV) : a.cells.length = 9 := rfl

set_option maxRecDepth 100000 in
set_option maxHeartbeats 1600000 in
theorem qfault_any (kd : Int) (six : Bool) (hi lo n hop : Int) (six2 : Bool) (hi2 lo2 : Int) (w : World) (h1 : 0 ≤ hi ∧ hi < 18446744073709551616) (h2 : 0 ≤ lo ∧ lo < 18446744073709551616) :
    Calls Try.prog 146 #[.agg #[.int .i64 kd, .bool six, .int .u64 hi, .int .u64 lo, .int .i64 n, .int .i64 hop, .bool six2, .int .u64 hi2, .int .u64 lo2]] w fun e w' => e = .returned (.int .i64 (faultA ⟨kd, ⟨six, hi, lo, n⟩, hop, ⟨six2, hi2, lo2⟩⟩)) ∧ Below w.heap.size w w' := by
  have CK := Lib.hid (fun w => check_any six hi lo n w h1 h2)
  have hf : faultA ⟨kd, ⟨six, hi, lo, n⟩, hop, ⟨six2, hi2, lo2⟩⟩ = if ¬ (kd = 1 ∨ kd = 2) then 3 else if ¬ chk six hi lo n = 0 then chk six hi lo n else if kd = 1 ∧ (hop < 1 ∨ 999 < hop) then 2 else 0 := rfl
  rw [hf]
  clear hf h1 h2
  obtain ⟨ck, hck⟩ : ∃ ck, chk six hi lo n = ck := ⟨_, rfl⟩
  rw [hck] at CK ⊢
  clear hck
  by_cases hk : kd = 1 ∨ kd = 2
  · rw [if_neg (fun h => h hk)]
    by_cases hc : ck = 0
    · subst hc
      rw [if_neg (by simp)]
      rcases hk with rfl | rfl
      · by_cases ha : hop < 1
        · rw [if_pos ⟨rfl, .inl ha⟩]
          have hd : decide (hop < 1) = true := by simpa using ha
          clear ha
          go_enter Try.func146, Try.ntmps146
          go_wp2_with fail
          refine (CK.out _).mono ?_
          rintro e w1 ⟨rfl, hb1⟩
          obtain ⟨fc1, ff1⟩ := bcell hb1
          have hz1 := bsize1 hb1
          have HB1 := Lib.hid (balloc1 hb1)
          clear hb1
          go_wp2
          go_ret
          exact ⟨rfl, HB1.out⟩
        · have hd : decide (hop < 1) = false := by simpa using ha
          by_cases hb : 999 < hop
          · rw [if_pos ⟨rfl, .inr hb⟩]
            have hd2 : decide (999 < hop) = true := by simpa using hb
            clear ha hb
            go_enter Try.func146, Try.ntmps146
            go_wp2_with fail
            refine (CK.out _).mono ?_
            rintro e w1 ⟨rfl, hb1⟩
            obtain ⟨fc1, ff1⟩ := bcell hb1
            have hz1 := bsize1 hb1
            have HB1 := Lib.hid (balloc1 hb1)
            clear hb1
            go_wp2
            go_ret
            exact ⟨rfl, HB1.out⟩
          · rw [if_neg (by rintro ⟨_, h | h⟩; exact ha h; exact hb h)]
            have hd2 : decide (999 < hop) = false := by simpa using hb
            clear ha hb
            go_enter Try.func146, Try.ntmps146
            go_wp2_with fail
            refine (CK.out _).mono ?_
            rintro e w1 ⟨rfl, hb1⟩
            obtain ⟨fc1, ff1⟩ := bcell hb1
            have hz1 := bsize1 hb1
            have HB1 := Lib.hid (balloc1 hb1)
            clear hb1
            go_wp2
            go_ret
            exact ⟨rfl, HB1.out⟩
      · rw [if_neg (by rintro ⟨h, _⟩; omega)]
        go_enter Try.func146, Try.ntmps146
        go_wp2_with fail
        refine (CK.out _).mono ?_
        rintro e w1 ⟨rfl, hb1⟩
        obtain ⟨fc1, ff1⟩ := bcell hb1
        have hz1 := bsize1 hb1
        have HB1 := Lib.hid (balloc1 hb1)
        clear hb1
        go_wp2
        go_ret
        exact ⟨rfl, HB1.out⟩
    · rw [if_pos hc]
      have hne : (ck != 0) = true := by simpa using hc
      clear hc
      rcases hk with rfl | rfl
      all_goals
        go_enter Try.func146, Try.ntmps146
        go_wp2_with fail
        refine (CK.out _).mono ?_
        rintro e w1 ⟨rfl, hb1⟩
        obtain ⟨fc1, ff1⟩ := bcell hb1
        have hz1 := bsize1 hb1
        have HB1 := Lib.hid (balloc1 hb1)
        clear hb1
        go_wp2
        go_ret
        exact ⟨rfl, HB1.out⟩
  · rw [if_pos hk]
    have hd1 : (kd != 1) = true := by simpa using fun h => hk (.inl h)
    have hd2 : (kd != 2) = true := by simpa using fun h => hk (.inr h)
    clear hk
    go_enter Try.func146, Try.ntmps146
    go_wp2
    go_ret
    exact ⟨rfl, (Below.refl _ _).alloc (Nat.le_refl _) _⟩

/-- A queue's cells. -/
def qCells (r : List ActV) (f m : Nat) : Array Value := (r.flatMap ActV.cells ++ [Value.int .i64 (f : Int), Value.int .i64 (m : Int)]).toArray
theorem flat_len (r : List ActV) : (r.flatMap ActV.cells).length = r.length * 9 := by
  induction r with
  | nil => rfl
  | cons x l ih => rw [List.flatMap_cons, List.length_append, ih, ActV.cells_length, List.length_cons]; omega
/-! A run of stores. -/
def setsW (w : World) (Q : Nat) : Nat → List Value → World
  | _, [] => w
  | s, u :: us => setsW (w.setCell ⟨Q, s, none⟩ u) Q (s + 1) us
def setsA (cs : Array Value) : Nat → List Value → Array Value
  | _, [] => cs
  | s, u :: us => setsA (cs.setIfInBounds s u) (s + 1) us
def setsL (xs : List Value) : Nat → List Value → List Value
  | _, [] => xs
  | s, u :: us => setsL (xs.set s u) (s + 1) us
theorem Blk.sets {t : TypeId} {Q : Nat} : ∀ (us : List Value) (s : Nat) {w : World} {cs : Array Value}, Blk w Q t cs → Blk (setsW w Q s us) Q t (setsA cs s us)
  | [], _, _, _, h => h
  | u :: us, s, _, _, h => Blk.sets us (s + 1) (h.set_ s u)
theorem setsA_list : ∀ (us : List Value) (s : Nat) (xs : List Value), setsA xs.toArray s us = (setsL xs s us).toArray
  | [], _, _ => rfl
  | u :: us, s, xs => by
    show setsA (xs.toArray.setIfInBounds s u) (s + 1) us = _
    rw [List.setIfInBounds_toArray, setsA_list us]
    rfl
theorem setsL_mid : ∀ (us mid pre post : List Value) (s : Nat), mid.length = us.length → s = pre.length → setsL (pre ++ (mid ++ post)) s us = pre ++ (us ++ post)
  | [], mid, pre, post, s, h, _ => by
    have : mid = [] := List.eq_nil_of_length_eq_zero h
    subst this
    rfl
  | u :: us, [], pre, post, s, h, _ => by cases h
  | u :: us, m :: mid, pre, post, s, h, hs => by
    show setsL ((pre ++ (m :: mid ++ post)).set s u) (s + 1) us = _
    rw [hs, List.set_append_right _ _ (Nat.le_refl _), Nat.sub_self]
    have e : pre ++ ((m :: mid ++ post).set 0 u) = (pre ++ [u]) ++ (mid ++ post) := by simp
    rw [e, setsL_mid us mid (pre ++ [u]) post _ (by simpa using h) (by simp)]
    simp
theorem far_sets {Q b : Nat} (hb : b ≠ Q) : ∀ (us : List Value) (s : Nat) (w : World), (setsW w Q s us).heap[b]? = w.heap[b]?
  | [], _, _ => rfl
  | u :: us, s, w => (far_sets hb us (s + 1) _).trans (Below.heap_setCell w ⟨Q, s, none⟩ u b hb)
end Go.Proofs.Ytmljdjakbbedlaa

namespace Go.Proofs.Ytmljdjakbbedlaa
open Go.ChangeShapes Go.WideShapes Go.ChangeAt Go.RowKit

/-- A slice of acts as it comes in. -/
structure IsActs (w : World) (A : Option Addr) (n : Nat) (l : List ActV) : Prop where
  len : l.length = n
  reads : Reads w w.heap.size 9 A n (l.flatMap ActV.cells)
  ok : ∀ a ∈ l, a.Ok
theorem IsActs.below {w w' : World} {A : Option Addr} {n : Nat} {l : List ActV} (h : IsActs w A n l) (hb : Below w.heap.size w w') : IsActs w' A n l := ⟨h.len, (h.reads.below hb).more hb.size, h.ok⟩
theorem ActV.cells_length' (a : ActV) : a.cells.length = 9 := rfl
theorem infoAns : (Try.prog.info? 38).map (fun i => (i.zero, i.size, i.bytes)) = some (some (.agg #[.int .i64 0, .int .i64 0, .int .i64 0]), 3, 24) := by kernel_rfl
def OwnAs (w : World) (base : Nat) (v : Value) (As : List AnsV) : Prop := w.ownsRow base 38 3 v As.length (As.flatMap AnsV.cells)
theorem own_tab {w w' : World} {B tb base size n : Nat} {e : TypeId} {v : Value} {xs : List Value} {R : Bool → Tr} {l : List RouteV} (h : HoldsR w B tb R l) (hk : Kept (tabBlocks tb R) w w') (ho : w.ownsRow base e size v n xs) (h1 : ¬ e = 193) (h2 : ¬ e = 190) :
    w'.ownsRow base e size v n xs :=
  ⟨ho.1, ho.2.imp id fun ⟨g, cap, cur, x1, x2, x3, x4⟩ => ⟨g, cap, cur, x1, x2, (hk.block g (Array.getElem?_eq_some_iff.1 x3).1 (h.1.notin (cs := cur) x3 h1 h2)).trans x3, x4⟩⟩
theorem Holds.row {w w' : World} {B tb base size n : Nat} {e : TypeId} {v : Value} {xs : List Value} {l : List RouteV} (h : Holds w B tb l) (ho : w.ownsRow base e size v n xs) (h1 : ¬ e = 193) (h2 : ¬ e = 190)
    (hk : ∀ k, k < w.heap.size → v.ownBlock ≠ some k → w'.heap[k]? = w.heap[k]?) : Holds w' B tb l := by
  obtain ⟨R, hR⟩ := h.named
  refine (hR.keep fun g hg => hk g (hR.1.lt g hg).2 fun he => ?_).holds
  rcases ho.2 with ⟨rfl, _⟩ | ⟨g', cap, cur, rfl, _, x3, _⟩
  · simp [Value.ownBlock] at he
  · simp [Value.ownBlock] at he
    subst he
    exact hR.1.notin (cs := cur) x3 h1 h2 hg

def PlayedT (w : World) (n : Nat) (l : List ActV) (e : Ending) (w' : World) : Prop :=
  (100 < n → e = .returned (.tuple #[.pointer none, .slice none 0 0, .int .i64 1]) ∧ Below w.heap.size w w') ∧
    (¬ 100 < n → ∃ tb v, e = .returned (.tuple #[.pointer (some ⟨tb, 0, none⟩), v, .int .i64 0]) ∧ Holds w' w.heap.size tb (actL l []) ∧ OwnAs w' w.heap.size v (ansL l []) ∧ Below w.heap.size w w')

end Go.Proofs.Ytmljdjakbbedlaa

namespace Go.Proofs.Ytmljdjakbbedlaa
open Go.ChangeShapes Go.WideShapes Go.ChangeAt Go.RowKit

/-- All blocks of one element type are kept. -/
def KeepT (t : TypeId) (w w' : World) : Prop := ∀ (g : Nat) (cs : Array Value), w.heap[g]? = some (Obj.cells cs t) → w'.heap[g]? = w.heap[g]?
theorem own_keepT {w w' : World} {base : Nat} {e : TypeId} {size : Nat} {v : Value} {n : Nat} {xs : List Value} (h : w.ownsRow base e size v n xs) (hk : KeepT e w w') : w'.ownsRow base e size v n xs :=
  ⟨h.1, h.2.imp id fun ⟨g, cap, cur, h1, h2, h3, h4⟩ => ⟨g, cap, cur, h1, h2, (hk g cur h3).trans h3, h4⟩⟩
theorem own_type {w : World} {base : Nat} {e : TypeId} {size : Nat} {v : Value} {n : Nat} {xs : List Value} (h : w.ownsRow base e size v n xs) {g : Nat} (hg : v.ownBlock = some g) : ∃ cs, w.heap[g]? = some (Obj.cells cs e) := by
  rcases h.2 with ⟨rfl, _⟩ | ⟨g', cap, cur, rfl, _, hh, _⟩
  · simp [Value.ownBlock] at hg
  · simp [Value.ownBlock] at hg
    subst hg
    exact ⟨cur, hh⟩
theorem KeepT.trans {t : TypeId} {w w1 w2 : World} (h : KeepT t w w1) (h' : KeepT t w1 w2) : KeepT t w w2 := fun g cs hg => (h' g cs ((h g cs hg).trans hg)).trans (h g cs hg)
theorem KeepT.alloc (t : TypeId) (w : World) (o : Obj) : KeepT t w (w.alloc o) := fun g _ hg => Below.heap_alloc w o g (Array.getElem?_eq_some_iff.1 hg).1
theorem KeepT.of_kept {t t' : TypeId} {w w' : World} {Q : Nat} {cs : Array Value} (h : Kept [Q] w w') (hq : Blk w Q t' cs) (hne : t ≠ t') : KeepT t w w' := fun g cs' hg =>
  h.block g (Array.getElem?_eq_some_iff.1 hg).1 (by
    intro hm
    simp at hm
    subst hm
    have e := hg.symm.trans hq
    injection e with e
    injection e with _ e
    exact hne e)
theorem KeepT.of_own {t e : TypeId} {w w' : World} {base size n : Nat} {v : Value} {xs : List Value} (h : ∀ k, k < w.heap.size → v.ownBlock ≠ some k → w'.heap[k]? = w.heap[k]?) (hv : w.ownsRow base e size v n xs) (hne : t ≠ e) : KeepT t w w' := fun g cs hg =>
  h g (Array.getElem?_eq_some_iff.1 hg).1 fun he => by
    obtain ⟨cs', hh⟩ := own_type hv he
    have e := hg.symm.trans hh
    injection e with e
    injection e with _ e
    exact hne e
theorem KeepT.of_below {t : TypeId} {w w' : World} (h : Below w.heap.size w w') : KeepT t w w' := fun g _ hg => h.block g (Array.getElem?_eq_some_iff.1 hg).1

end Go.Proofs.Ytmljdjakbbedlaa

namespace Go.Proofs.Ytmljdjakbbedlaa
open Go.ChangeShapes Go.WideShapes Go.ChangeAt Go.RowKit
open Go.Sort (swp size_swp PermIn SortedIn SWO putRowK HoldsK)

variable {α : Type} [Inhabited α]

/-- The row at blk, off holds d; all else that was there in w0 is as it was. -/
structure RowIn (enc : α → List Value) (k blk off : Nat) (w0 : World) (d : Array α) (W : World) : Prop where
  below : Below w0.heap.size (putRowK enc k w0 blk off d) W
  holds : HoldsK enc k W blk off d
  lt : blk < w0.heap.size

theorem size_putK (enc : α → List Value) (k : Nat) (w : World) (blk off : Nat) (d : Array α) : (putRowK enc k w blk off d).heap.size = w.heap.size := by
  simp [putRowK, Go.Sort.putRow, Go.Sort.mapBlock]
theorem blk_putK {enc : α → List Value} {k : Nat} {w : World} {blk off : Nat} {d : Array α} {b : Nat} (h : b ≠ blk) : (putRowK enc k w blk off d).heap[b]? = w.heap[b]? := by
  simp only [putRowK, Go.Sort.putRow, Go.Sort.mapBlock, Array.getElem?_modify]
  rw [if_neg (fun e => h e.symm)]

variable {enc : α → List Value} {k blk off : Nat} {w0 W W' : World} {d d' : Array α}

theorem RowIn.start (h : HoldsK enc k w0 blk off d) (hlt : blk < w0.heap.size) : RowIn enc k blk off w0 d w0 :=
  ⟨by rw [Go.Sort.putRowK_self enc k w0 blk off d h]; exact Below.refl _ _, h, hlt⟩
theorem RowIn.size (h : RowIn enc k blk off w0 d W) : w0.heap.size ≤ W.heap.size := by
  have := h.below.size
  rw [size_putK] at this
  exact this
theorem RowIn.lt' (h : RowIn enc k blk off w0 d W) : blk < W.heap.size := Nat.lt_of_lt_of_le h.lt h.size
theorem holds_below (h : HoldsK enc k W blk off d) (hb : Below W.heap.size W W') (hlt : blk < W.heap.size) : HoldsK enc k W' blk off d :=
  fun j hj => ⟨(hb.cell (p := ⟨blk, off + j, none⟩) hlt).trans (h j hj).1, (hb.frozen (p := ⟨blk, off + j, none⟩) hlt).trans (h j hj).2⟩
theorem RowIn.step (h : RowIn enc k blk off w0 d W) (hb : Below W.heap.size W W') : RowIn enc k blk off w0 d W' :=
  ⟨h.below.trans (hb.mono h.size), holds_below h.holds hb h.lt', h.lt⟩
theorem RowIn.block (h : RowIn enc k blk off w0 d W) {b : Nat} (hb : b < w0.heap.size) (hne : b ≠ blk) : W.heap[b]? = w0.heap[b]? :=
  (h.below.block b hb).trans (blk_putK hne)
theorem RowIn.cell (h : RowIn enc k blk off w0 d W) {b o : Nat} (hb : b < w0.heap.size) (hne : b ≠ blk) : W.cell? ⟨b, o, none⟩ = w0.cell? ⟨b, o, none⟩ :=
  World.cell?_of_block (w := w0) (h.block hb hne)

theorem putK_putK (enc : α → List Value) (k : Nat) (w W : World) (blk off : Nat) (d d' : Array α) (hs : d'.size = d.size) (h : W.heap[blk]? = (putRowK enc k w blk off d).heap[blk]?) :
    (putRowK enc k W blk off d').heap[blk]? = (putRowK enc k w blk off d').heap[blk]? := by
  simp only [putRowK, Go.Sort.putRow, Go.Sort.mapBlock, Array.getElem?_modify, if_true] at h ⊢
  rw [h]
  cases w.heap[blk]? with
  | none => rfl
  | some o =>
    cases o with
    | cells c e fr =>
      simp only [Option.map_some, Go.Sort.onCells, Option.some.injEq, Obj.cells.injEq, and_true]
      apply Array.ext_getElem?
      intro t
      simp only [Go.Sort.putCells, Array.getElem?_mapIdx, Go.Sort.size_flatK, hs]
      cases c[t]? with
      | none => rfl
      | some y =>
        simp only [Option.map_some]
        by_cases hr : off ≤ t ∧ t < off + d.size * k
        · rw [if_pos hr, if_pos hr]
        · rw [if_neg hr, if_neg hr, if_neg hr]
    | _ => rfl

/-- From a world to one, and on to a third. -/
theorem RowIn.on (h : RowIn enc k blk off w0 d W) (h' : RowIn enc k blk off W d' W') (hs : d'.size = d.size) : RowIn enc k blk off w0 d' W' := by
  refine ⟨⟨?_, ?_, ?_, by rw [size_putK]; exact Nat.le_trans h.size h'.size, ?_⟩, h'.holds, h.lt⟩
  · exact h'.below.os.trans h.below.os
  · exact h'.below.tape.trans h.below.tape
  · exact h'.below.output.trans h.below.output
  · intro b hb
    rw [h'.below.block b (Nat.lt_of_lt_of_le hb h.size)]
    by_cases hne : b = blk
    · subst hne
      exact putK_putK enc k w0 W b off d d' hs (h.below.block b hb)
    · rw [blk_putK hne, blk_putK hne, h.block hb hne]
theorem putK_below (w : World) (blk off : Nat) (d : Array α) (o : Obj) (h : blk < w.heap.size) : Below w.heap.size (putRowK enc k w blk off d) (putRowK enc k (w.alloc o) blk off d) := by
  rw [Go.Sort.alloc_eq_grow, Go.Sort.putRowK_grow enc k w _ blk off d h, ← Go.Sort.alloc_eq_grow]
  exact (Below.refl _ _).alloc (by rw [size_putK]; exact Nat.le_refl _) _
/-- A function's own box is forgotten behind it. -/
theorem RowIn.box {o : Obj} (h : RowIn enc k blk off (w0.alloc o) d W) (hlt : blk < w0.heap.size) : RowIn enc k blk off w0 d W :=
  ⟨(putK_below w0 blk off d o hlt).trans (h.below.mono (by simp)), h.holds, hlt⟩
theorem RowIn.from_box {o : Obj} (h : HoldsK enc k w0 blk off d) (hlt : blk < w0.heap.size) : RowIn enc k blk off (w0.alloc o) d (w0.alloc o) :=
  RowIn.start (holds_below h ((Below.refl _ _).alloc (Nat.le_refl _) _) hlt) (by simp; omega)

/-- Two elements change their places. -/
theorem RowIn.swap (hk : ∀ x, (enc x).length = k) (h : RowIn enc k blk off w0 d W) (i j : Nat) (hi : i < d.size) (hj : j < d.size) :
    RowIn enc k blk off w0 (swp d i j) ((W.setCells blk (off + i * k) (enc d[j]!)).setCells blk (off + j * k) (enc d[i]!)) := by
  have e : (W.setCells blk (off + i * k) (enc d[j]!)).setCells blk (off + j * k) (enc d[i]!) = putRowK enc k W blk off (swp d i j) := by
    have := Go.Sort.swap_worldK enc k hk W 0 0 blk off d i j hi hj
    rw [show Go.Sort.ahead W 0 = W from rfl] at this
    rw [Go.Sort.putRowK_self enc k W blk off d h.holds] at this
    exact this
  rw [e]
  have hh : HoldsK enc k (putRowK enc k W blk off (swp d i j)) blk off (swp d i j) := Go.Sort.holdsK_putRowK enc k W blk off d _ h.holds (size_swp _ _ _)
  exact h.on ⟨Below.refl _ _, hh, h.lt'⟩ (size_swp _ _ _)

/-- What is asked of 'less': it answers by what the row holds; it may make memory. -/
def LessG (P : Program) (g : Nat) (lb : Array Value) (enc : α → List Value) (k : Nat) (lt : α → α → Bool) (blk off : Nat) (w : World) (n : Nat) : Prop :=
  ∀ (W : World) (dk : Array α), RowIn enc k blk off w dk W → dk.size = n → ∀ i j : Nat, i < n → j < n →
    Calls P g (#[.int .i64 i, .int .i64 j] ++ lb) W fun e w' => e = .returned (.bool (lt dk[i]! dk[j]!)) ∧ Below W.heap.size W w'

/-- What a part of the sort is given. -/
structure Srt (P : Program) (enc : α → List Value) (k blk off : Nat) (lt : α → α → Bool) (g : Nat) (lb : Array Value) (sf : Nat) (sb : Array Value) (n : Nat) (w : World) (d : Array α) : Prop where
  hk : ∀ x, (enc x).length = k
  eg : ∀ args w, (callFunc g args).run P w = .ok (.enter g args) w
  less : LessG P g lb enc k lt blk off w n
  swap : Go.Proofs.SwapSwapsK P sf sb enc k blk off n
  holds : HoldsK enc k w blk off d
  lt' : blk < w.heap.size
  sz : d.size = n
  small : n < 4611686018427387904

section
variable {P : Program} {lt : α → α → Bool} {g : Nat} {lb : Array Value} {sf : Nat} {sb : Array Value} {n : Nat} {w : World}
theorem Srt.to (S : Srt P enc k blk off lt g lb sf sb n w d) (h : RowIn enc k blk off w d' W) (hs : d'.size = n) : Srt P enc k blk off lt g lb sf sb n W d' :=
  ⟨S.hk, S.eg, fun X dk hX hd => S.less X dk (h.on hX (by omega)) hd, S.swap, h.holds, h.lt', hs, S.small⟩
theorem RowIn.unbox {o : Obj} (h : RowIn enc k blk off (w0.alloc o) d W) (hlt : blk < w0.heap.size) : RowIn enc k blk off w0 d W := h.box hlt
theorem Srt.box (S : Srt P enc k blk off lt g lb sf sb n w d) (o : Obj) : Srt P enc k blk off lt g lb sf sb n (w.alloc o) d :=
  S.to ((RowIn.start S.holds S.lt').step ((Below.refl _ _).alloc (Nat.le_refl _) _)) S.sz
theorem Srt.start (S : Srt P enc k blk off lt g lb sf sb n w d) : RowIn enc k blk off w d w := RowIn.start S.holds S.lt'
theorem Srt.lessAt (S : Srt P enc k blk off lt g lb sf sb n w d) {dk : Array α} (h : RowIn enc k blk off w dk W) (hs : dk.size = n) (i j : Nat) (x y : Int) (hx : x = i) (hy : y = j) (hi : i < n) (hj : j < n) :
    Calls P g (#[.int .i64 x, .int .i64 y] ++ lb) W fun e w' => e = .returned (.bool (lt dk[i]! dk[j]!)) ∧ Below W.heap.size W w' := by
  subst hx hy
  exact S.less W dk h hs i j hi hj
theorem Srt.swapAt (S : Srt P enc k blk off lt g lb sf sb n w d) {dk : Array α} (h : RowIn enc k blk off w dk W) (hs : dk.size = n) (i j : Nat) (x y : Int) (hx : x = i) (hy : y = j) (hi : i < n) (hj : j < n) :
    ∃ W', (callFunc sf (#[.int .i64 x, .int .i64 y] ++ sb)).run P W = .ok (.value (.tuple #[])) W' ∧ RowIn enc k blk off w (swp dk i j) W' := by
  subst hx hy
  exact ⟨_, S.swap W dk h.holds hs i j hi hj, h.swap S.hk i j (by omega) (by omega)⟩
/-- A function's own box of two cells is as it was. -/
theorem RowIn.boxed {t : TypeId} {fr : Nat × Nat} {x y : Value} (h : RowIn enc k blk off (w.alloc (.cells #[x, y] t fr)) d W) (hlt : blk < w.heap.size) :
    W.cell? ⟨w.heap.size, 0, none⟩ = some x ∧ W.cell? ⟨w.heap.size, 1, none⟩ = some y := by
  have e : (w.alloc (.cells #[x, y] t fr)).heap[w.heap.size]? = some (.cells #[x, y] t fr) := heap_alloc_new w _
  constructor
  · rw [h.cell (by simp) (by omega)]; unfold World.cell?; simp only [e]; rfl
  · rw [h.cell (by simp) (by omega)]; unfold World.cell?; simp only [e]; rfl
end


end Go.Proofs.Ytmljdjakbbedlaa

namespace Go.Proofs.Ytmljdjakbbedlaa
open Go.ChangeShapes Go.WideShapes Go.ChangeAt Go.RowKit
open Go.Sort (swp size_swp PermIn SortedIn SWO putRowK HoldsK flatK size_flatK get_flatK)

variable {α : Type} [Inhabited α] {enc : α → List Value} {k : Nat}

theorem flatMap_get (hk : ∀ x, (enc x).length = k) : ∀ (l : List α) (t : Nat), t < l.length * k → (l.flatMap enc)[t]? = some ((enc (l.toArray[t / k]!))[t % k]!) := by
  intro l
  induction l with
  | nil => intro t h; simp at h
  | cons x l ih =>
    intro t h
    have k0 : 0 < k := by rcases Nat.eq_zero_or_pos k with h0 | h0; · subst h0; simp at h
                          · exact h0
    rw [List.flatMap_cons]
    by_cases ht : t < k
    · rw [List.getElem?_append_left (by rw [hk]; exact ht), Nat.div_eq_of_lt ht, Nat.mod_eq_of_lt ht]
      have hl : t < (enc x).length := by rw [hk]; exact ht
      simp [List.getElem?_eq_getElem hl]
    · rw [List.getElem?_append_right (by rw [hk]; omega), hk]
      have h2 : t - k < l.length * k := by
        simp only [List.length_cons, Nat.add_mul, Nat.one_mul] at h
        omega
      rw [ih (t - k) h2]
      have e1 : t / k = (t - k) / k + 1 := by
        rw [← Nat.add_div_right _ k0, show t - k + k = t by omega]
      have e2 : t % k = (t - k) % k := by
        rw [← Nat.add_mod_right (t - k) k, show t - k + k = t by omega]
      rw [e1, e2]
      congr 2
      simp
theorem flat_toList (hk : ∀ x, (enc x).length = k) (d : Array α) : (flatK enc k d).toList = d.toList.flatMap enc := by
  have hlen : ∀ l : List α, (l.flatMap enc).length = l.length * k := by
    intro l
    induction l with
    | nil => simp
    | cons x l ih => simp [ih, hk, Nat.add_mul, Nat.add_comm]
  apply List.ext_getElem?
  intro t
  by_cases ht : t < d.size * k
  · have h1 : t < (flatK enc k d).size := by rw [size_flatK]; exact ht
    rw [flatMap_get hk d.toList t (by simpa using ht), Array.getElem?_toList, Array.getElem?_eq_getElem h1]
    have := get_flatK enc k d t ht
    rw [getElem!_pos _ t h1] at this
    rw [this]
  · rw [List.getElem?_eq_none (by rw [Array.length_toList, size_flatK]; omega), List.getElem?_eq_none (by rw [hlen, Array.length_toList]; omega)]

theorem own_holdsK (hk : ∀ x, (enc x).length = k) {w : World} {base : Nat} {e : TypeId} {n g c : Nat} {l : List α} (h : w.ownsRow base e k (.slice (some ⟨g, 0, none⟩) n c) n (l.flatMap enc)) (hl : l.length = n) :
    HoldsK enc k w g 0 l.toArray ∧ g < w.heap.size ∧ base ≤ g ∧ n ≤ c ∧ c ≤ maxLen := by
  rcases h.2 with ⟨hv, _⟩ | ⟨g', cap, cur, hv, hg, hh, hn, hc, hs, ht⟩
  · injection hv with h0; cases h0
  · injection hv with h0 _ h2
    injection h0 with h0
    injection h0 with h0
    subst h0 h2
    refine ⟨?_, ?_, hg, hn, hc⟩
    · intro j hj
      rw [size_flatK] at hj
      simp only [List.size_toArray] at hj
      have hb : Blk w g e cur := hh
      refine ⟨?_, hb.frozen _⟩
      rw [Nat.zero_add, hb.cell, get_flatK enc k _ j (by simpa using hj)]
      have hx := flatMap_get hk l j hj
      rw [← ht, List.getElem?_take, if_pos (by rw [← hl]; exact hj)] at hx
      rw [← Array.getElem?_toList]
      exact hx
    · have hb : Blk w g e cur := hh
      exact hb.lt

theorem RowIn.owns (hk : ∀ x, (enc x).length = k) {w W : World} {base : Nat} {e : TypeId} {n g c : Nat} {l : List α} {d' : Array α} (h : w.ownsRow base e k (.slice (some ⟨g, 0, none⟩) n c) n (l.flatMap enc)) (hr : RowIn enc k g 0 w d' W) (hs' : d'.size = n) :
    W.ownsRow base e k (.slice (some ⟨g, 0, none⟩) n c) n (d'.toList.flatMap enc) := by
  rcases h.2 with ⟨hv, _⟩ | ⟨g', cap, cur, hv, hg, hh, hn, hc, hs, ht⟩
  · injection hv with h0; cases h0
  · injection hv with h0 _ h2
    injection h0 with h0
    injection h0 with h0
    subst h0 h2
    have hx := hr.below.block g hr.lt
    have hput : (putRowK enc k w g 0 d').heap[g]? = some (.cells (Go.Sort.putCells id 0 (flatK enc k d') cur) e (0, 0)) := by
      simp only [putRowK, Go.Sort.putRow, Go.Sort.mapBlock, Array.getElem?_modify, if_true, hh]
      rfl
    rw [hput] at hx
    have hnk : n * k ≤ c * k := Nat.mul_le_mul_right k hn
    have hsz : (Go.Sort.putCells id 0 (flatK enc k d') cur).size = c * k := by simp [Go.Sort.putCells, hs]
    have htake : (Go.Sort.putCells id 0 (flatK enc k d') cur).toList.take (n * k) = d'.toList.flatMap enc := by
      rw [← flat_toList hk d']
      apply List.ext_getElem?
      intro t
      by_cases htn : t < n * k
      · rw [List.getElem?_take, if_pos htn, Array.getElem?_toList, Array.getElem?_toList]
        have h1 : t < (flatK enc k d').size := by rw [size_flatK, hs']; exact htn
        have h2 : t < cur.size := by omega
        simp only [Go.Sort.putCells, Array.getElem?_mapIdx, Array.getElem?_eq_getElem h2, Option.map_some]
        rw [if_pos ⟨Nat.zero_le _, by omega⟩, Array.getElem?_eq_getElem h1]
        simp only [id_eq, Nat.sub_zero]
        rw [getElem!_pos _ t h1]
      · rw [List.getElem?_take, if_neg htn, List.getElem?_eq_none (by rw [Array.length_toList, size_flatK, hs']; omega)]
    refine ⟨?_, .inr ⟨g, c, _, rfl, hg, hx, hn, hc, hsz, htake⟩⟩
    rw [← flat_toList hk d', Array.length_toList, size_flatK, hs']

end Go.Proofs.Ytmljdjakbbedlaa

namespace Go.Proofs.Ytmljdjakbbedlaa
open Go.ChangeShapes Go.WideShapes Go.ChangeAt Go.RowKit

set_option maxHeartbeats 1600000 in
theorem less_any (six : Bool) (hi lo : Int) (six' : Bool) (hi' lo' : Int) (w : World) :
    Calls Try.prog 126 #[.agg #[.bool six, .int .u64 hi, .int .u64 lo], .agg #[.bool six', .int .u64 hi', .int .u64 lo']] w fun e w' => e = .returned (.bool (lessB ⟨six, hi, lo⟩ ⟨six', hi', lo'⟩)) ∧ Below w.heap.size w w' := by
  have HB : ∀ w : World, Hid (Below w.heap.size w ((w.alloc (.cells #[.bool six, .int .u64 hi, .int .u64 lo] 35)).alloc (.cells #[.bool six', .int .u64 hi', .int .u64 lo'] 35))) := fun w => ((Below.refl _ _).alloc (Nat.le_refl _) _).alloc (by simp) _
  by_cases h6 : six = six'
  · subst h6
    by_cases h1 : hi < hi'
    · have hr : lessB ⟨six, hi, lo⟩ ⟨six, hi', lo'⟩ = true := by unfold lessB; simp [h1]
      rw [hr]
      have hd : decide (hi < hi') = true := by simpa using h1
      clear hr
      go_enter Try.func126, Try.ntmps126
      go_wp2
      go_ret
      exact ⟨rfl, (HB w).out⟩
    · have hd : decide (hi < hi') = false := by simpa using h1
      by_cases h2 : hi = hi'
      · subst h2
        have hr : lessB ⟨six, hi, lo⟩ ⟨six, hi, lo'⟩ = decide (lo < lo') := by unfold lessB; simp
        rw [hr]
        clear hr h1
        go_enter Try.func126, Try.ntmps126
        go_wp2
        go_ret
        exact ⟨by simp, (HB w).out⟩
      · have hr : lessB ⟨six, hi, lo⟩ ⟨six, hi', lo'⟩ = false := by unfold lessB; simp [h2]; omega
        rw [hr]
        have hd2 : (hi == hi') = false := by simpa using h2
        clear hr
        go_enter Try.func126, Try.ntmps126
        go_wp2
        go_ret
        exact ⟨rfl, (HB w).out⟩
  · have hr : lessB ⟨six, hi, lo⟩ ⟨six', hi', lo'⟩ = six' := by unfold lessB; rw [if_neg h6]
    rw [hr]
    have hn := ne_bool h6
    subst hn
    clear hr h6
    go_enter Try.func126, Try.ntmps126
    go_wp2
    go_ret
    exact ⟨rfl, (HB w).out⟩

end Go.Proofs.Ytmljdjakbbedlaa

namespace Go.Proofs.Ytmljdjakbbedlaa

theorem first_diff {a b : AV} (ha : a.Ok) (hb : b.Ok) (h6 : a.six = b.six) {i : Nat} (hi : i < widN a.six)
    (hs : ∀ j : Nat, j < i → bitI a.six a.hi a.lo j = bitI b.six b.hi b.lo j) (hne : ¬ bitI a.six a.hi a.lo i = bitI b.six b.hi b.lo i) : a.v < b.v ↔ bitI a.six a.hi a.lo i < bitI b.six b.hi b.lo i := by
  have ba := fun i (hi : i < widN a.six) => AV.bitN ha (i := i) hi
  have bb := fun i (hi : i < widN b.six) => AV.bitN hb (i := i) hi
  have la := AV.v_lt ha
  have lb := AV.v_lt hb
  rw [← h6] at bb lb
  rw [← h6] at hs hne ⊢
  obtain ⟨k, hk⟩ : ∃ k, widN a.six - 1 - i = k := ⟨_, rfl⟩
  have hup : a.v / 2 ^ (k + 1) = b.v / 2 ^ (k + 1) := by
    refine nat_div_ext la lb fun j h1 h2 => ?_
    have := hs (widN a.six - 1 - j) (by omega)
    rw [ba _ (by omega), bb _ (by omega), show widN a.six - 1 - (widN a.six - 1 - j) = j from by omega] at this
    omega
  rw [ba i hi, bb i hi, hk] at hne ⊢
  have e : ∀ x : Nat, x / 2 ^ k = 2 * (x / 2 ^ (k + 1)) + x / 2 ^ k % 2 := by
    intro x
    have : x / 2 ^ (k + 1) = x / 2 ^ k / 2 := by rw [Nat.pow_succ, Nat.div_div_eq_div_mul]
    rw [this]; omega
  have ea := e a.v
  have eb := e b.v
  rw [hup] at ea
  constructor
  · intro h
    have : a.v / 2 ^ k ≤ b.v / 2 ^ k := Nat.div_le_div_right (by omega)
    omega
  · intro h
    apply Classical.byContradiction
    intro hc
    have : b.v / 2 ^ k ≤ a.v / 2 ^ k := Nat.div_le_div_right (by omega)
    omega
theorem no_diff {a b : AV} (ha : a.Ok) (hb : b.Ok) (h6 : a.six = b.six) (hs : ∀ j : Nat, j < widN a.six → bitI a.six a.hi a.lo j = bitI b.six b.hi b.lo j) : a.v = b.v := by
  have h := addr_ext a.six a.hi a.lo b.hi b.lo ha.rhi ha.rlo hb.rhi hb.rlo ha.may (by rw [h6]; exact hb.may) (fun i hi => by rw [hs i (by have := widN_eq a.six; omega), h6])
  have : a = b := AV.ext' h6 h.1 h.2
  rw [this]

end Go.Proofs.Ytmljdjakbbedlaa

namespace Go.Proofs.Ytmljdjakbbedlaa
open Go.ChangeShapes Go.WideShapes Go.ChangeAt Go.RowKit

set_option maxHeartbeats 1600000 in
theorem refLess_any (six : Bool) (hi lo : Int) (six' : Bool) (hi' lo' : Int) (w : World) (ha : AV.Ok ⟨six, hi, lo⟩) (hb : AV.Ok ⟨six', hi', lo'⟩) :
    Calls Try.prog 79 #[.agg #[.bool six, .int .u64 hi, .int .u64 lo], .agg #[.bool six', .int .u64 hi', .int .u64 lo']] w fun e w' => e = .returned (.bool (lessB ⟨six, hi, lo⟩ ⟨six', hi', lo'⟩)) ∧ Below w.heap.size w w' := by
  by_cases h6 : six = six'
  · subst h6
    obtain ⟨r, hr0⟩ : ∃ r : Bool, r = lessB ⟨six, hi, lo⟩ ⟨six, hi', lo'⟩ := ⟨_, rfl⟩
    rw [← hr0]
    have hnum := less_num ha hb rfl
    rw [← hr0] at hnum
    obtain ⟨m, hn, hpos, hle⟩ := wideN six
    have hmw : widN six = m := by have := widN_eq six; omega
    have hall : SameTo six hi lo hi' lo' m → r = false := fun h => by
      have := no_diff ha hb rfl (fun j hj => h j (by simp only at hj; omega))
      rw [Bool.eq_false_iff]
      intro hx
      have := hnum.1 hx
      omega
    have hone : ∀ j : Nat, j < m → SameTo six hi lo hi' lo' j → ¬ bitI six hi lo j = bitI six hi' lo' j → r = decide (bitI six hi lo j < bitI six hi' lo' j) := fun j hj hs hne => by
      have := first_diff ha hb rfl (i := j) (by simp only; omega) hs hne
      rw [Bool.eq_iff_iff, decide_eq_true_iff, hnum, this]
    have HA := Lib.hid hall
    have HB := Lib.hid hone
    have h1 := ha.rhi
    have h2 := ha.rlo
    have h3 := hb.rhi
    have h4 := hb.rlo
    simp only at h1 h2 h3 h4
    have HN := Lib.hid hn
    clear hall hone hr0 hnum hn ha hb hmw
    have fB : Hid (Below w.heap.size w ((w.alloc (.cells #[.bool six, .int .u64 hi, .int .u64 lo] 35)).alloc (.cells #[.bool six, .int .u64 hi', .int .u64 lo'] 35))) := ((Below.refl _ _).alloc (Nat.le_refl _) _).alloc (by simp) _
    go_enter Try.func79, Try.ntmps79
    go_wp2_with fail
    refine (bitsOf_any six hi lo _ h1 h2).mono ?_
    rintro e w1 ⟨v1, rfl, own1, hb1, hs1⟩
    obtain ⟨fc, ff⟩ := bcell hb1
    obtain ⟨s1, s2⟩ := bsize2 hb1
    have B1 : Hid (Below w.heap.size w w1) := balloc2 hb1
    clear hb1
    go_wp2_with fail
    refine (bitsOf_any six hi' lo' _ h3 h4).mono ?_
    rintro e w2 ⟨v2, rfl, own2, hb2, hs2⟩
    have B2 : Hid (Below w.heap.size w w2) := below_step B1.out hb2
    rw [HN.out] at own1 own2
    simp only [Int.toNat_natCast] at own1 own2
    have own1' := own_below own1 hb2
    obtain ⟨g1, cap1, rfl, _, hlt1⟩ := own1.form hpos
    obtain ⟨g2, cap2, rfl, _, hlt2⟩ := own2.form hpos
    have H1 := Lib.hid own1'
    have H2 := Lib.hid own2
    clear own1 own2 own1' hb2 fc ff
    have hm1 : (m : Int) ≤ 128 := by omega
    go_wp2
    go_loopw [22, 7, 4] (fun i _ _ wr => ∃ j : Nat, j ≤ m ∧ i = .int .i64 j ∧ SameTo six hi lo hi' lo' j ∧ Below w2.heap.size w2 wr) (fun i _ _ _ => m - (intOf i).toNat)
    case atStart => exact ⟨0, by omega, rfl, fun _ h => by omega, Below.refl _ _⟩
    case round =>
      obtain ⟨j, hj, rfl, hsame, hbr⟩ := hrel
      by_cases hlt : j < m
      · have x1 := cell_step hbr (own_int H1.out (bitsL_at (hi := hi) (lo := lo) HN.out (show j < m by omega)))
        have x2 := cell_step hbr (own_int H2.out (bitsL_at (hi := hi') (lo := lo') HN.out (show j < m by omega)))
        have k1 : (0 : Int) ≤ (j : Int) := by omega
        have k2 : (j : Int) < (m : Int) := by omega
        have HBR := Lib.hid hbr
        by_cases hb : bitI six hi lo j = bitI six hi' lo' j
        · have HS := Lib.hid (hsame.succ hb)
          rw [← hb] at x2
          clear hsame hb hbr
          go_wp2
          go_quiet (fail)
          go_wp2
          go_roundw
          case rel => exact ⟨j + 1, by omega, by go_num, HS.out, below_drewN HBR.out _⟩
          case measure => simp [intOf]; omega
        · have HR := Lib.hid (HB.out j hlt hsame hb)
          have hb' : (bitI six hi lo j == bitI six hi' lo' j) = false := by simpa using hb
          have hb'' : (bitI six hi lo j != bitI six hi' lo' j) = true := by simpa using hb
          clear hsame hbr
          go_wp2
          go_quiet (fail)
          go_wp2
          go_quiet (fail)
          go_wp2
          go_ret
          exact ⟨ret_bool HR.out.symm, B2.out.trans ((below_drewN (below_drewN HBR.out _) _).mono B2.out.size)⟩
      · obtain rfl : j = m := by omega
        have HR := Lib.hid (HA.out hsame)
        clear hsame
        go_wp2
        go_ret
        exact ⟨ret_bool HR.out.symm, B2.out.trans (hbr.mono B2.out.size)⟩
  · have hr : lessB ⟨six, hi, lo⟩ ⟨six', hi', lo'⟩ = six' := by unfold lessB; rw [if_neg h6]
    rw [hr]
    have hn := ne_bool h6
    subst hn
    clear hr h6 ha hb
    have fB : Hid (Below w.heap.size w ((w.alloc (.cells #[.bool six, .int .u64 hi, .int .u64 lo] 35)).alloc (.cells #[.bool (!six), .int .u64 hi', .int .u64 lo'] 35))) := ((Below.refl _ _).alloc (Nat.le_refl _) _).alloc (by simp) _
    go_enter Try.func79, Try.ntmps79
    go_wp2
    go_ret
    exact ⟨rfl, fB.out⟩

end Go.Proofs.Ytmljdjakbbedlaa

namespace Go.Proofs.Ytmljdjakbbedlaa
set_option linter.unusedVariables false

def routesT : Tr → List RouteV
  | .nil => []
  | .node _ q h l r => (if h = 0 then [] else [⟨q, h⟩]) ++ (routesT l ++ routesT r)
/-- One prefix stands ahead of another. -/
def ltP (p q : PV) : Prop := lessB p.a q.a = true ∨ (p.a = q.a ∧ p.n < q.n)

theorem lessB_six {a b : AV} (h1 : a.six = false) (h2 : b.six = true) : lessB a b = true := by
  unfold lessB
  rw [if_neg (by rw [h1, h2]; simp)]
  exact h2
theorem lessB_num {a b : AV} (ha : a.Ok) (hb : b.Ok) : lessB a b = true ↔ (a.six = false ∧ b.six = true) ∨ (a.six = b.six ∧ a.v < b.v) := by
  by_cases h6 : a.six = b.six
  · rw [less_num ha hb h6]
    constructor
    · intro h; exact .inr ⟨h6, h⟩
    · rintro (⟨h1, h2⟩ | ⟨_, h⟩)
      · rw [h6, h2] at h1; cases h1
      · exact h
  · unfold lessB
    rw [if_neg h6]
    cases h1 : a.six <;> cases h2 : b.six <;> simp_all
theorem ltP_num {p q : PV} (hp : p.Ok) (hq : q.Ok) : ltP p q ↔ (p.six = false ∧ q.six = true) ∨ (p.six = q.six ∧ (p.v < q.v ∨ p.v = q.v ∧ p.n < q.n)) := by
  unfold ltP
  rw [lessB_num hp.addr hq.addr]
  show (((p.six = false ∧ q.six = true) ∨ (p.six = q.six ∧ p.v < q.v)) ∨ (p.a = q.a ∧ p.n < q.n)) ↔ _
  constructor
  · rintro ((h | ⟨h, h'⟩) | ⟨h, h'⟩)
    · exact .inl h
    · exact .inr ⟨h, .inl h'⟩
    · exact .inr ⟨congrArg AV.six h, .inr ⟨congrArg AV.v h, h'⟩⟩
  · rintro (h | ⟨h, h' | ⟨h', h''⟩⟩)
    · exact .inl (.inl h)
    · exact .inl (.inr ⟨h, h'⟩)
    · exact .inr ⟨AV.v_inj hp.addr hq.addr h h', h''⟩
theorem ltP_irrefl {p : PV} (hp : p.Ok) : ¬ ltP p p := by
  rw [ltP_num hp hp]
  rintro (⟨h1, h2⟩ | ⟨_, h | ⟨_, h⟩⟩)
  · rw [h1] at h2; cases h2
  · omega
  · omega
theorem ltP_asymm {p q : PV} (hp : p.Ok) (hq : q.Ok) (h : ltP p q) : ¬ ltP q p := by
  rw [ltP_num hp hq] at h
  rw [ltP_num hq hp]
  rintro (⟨h1, h2⟩ | ⟨h6, h'⟩)
  · rcases h with ⟨h3, h4⟩ | ⟨h6, _⟩
    · rw [h2] at h3; cases h3
    · rw [h1, h2] at h6; cases h6
  · rcases h with ⟨h3, h4⟩ | ⟨_, h⟩
    · rw [h3, h4] at h6; cases h6
    · omega
theorem ltP_trans {p q r : PV} (hp : p.Ok) (hq : q.Ok) (hr : r.Ok) (h : ltP p q) (h' : ltP q r) : ltP p r := by
  rw [ltP_num hp hq] at h
  rw [ltP_num hq hr] at h'
  rw [ltP_num hp hr]
  rcases h with ⟨a, b⟩ | ⟨a, b⟩ <;> rcases h' with ⟨c, d⟩ | ⟨c, d⟩
  · exact .inl ⟨a, d⟩
  · exact .inl ⟨a, by rw [← c]; exact b⟩
  · exact .inl ⟨by rw [a]; exact c, d⟩
  · exact .inr ⟨a.trans c, by omega⟩
theorem ltP_total {p q : PV} (hp : p.Ok) (hq : q.Ok) (h1 : ¬ ltP p q) (h2 : ¬ ltP q p) : p = q := by
  rw [ltP_num hp hq] at h1
  rw [ltP_num hq hp] at h2
  have h6 : p.six = q.six := by
    cases e1 : p.six <;> cases e2 : q.six <;> simp_all
  have hv : p.v = q.v := by
    rcases Nat.lt_trichotomy p.v q.v with h | h | h
    · exact absurd (.inr ⟨h6, .inl h⟩) h1
    · exact h
    · exact absurd (.inr ⟨h6.symm, .inl h⟩) h2
  have hn : p.n = q.n := by
    rcases Int.lt_trichotomy p.n q.n with h | h | h
    · exact absurd (.inr ⟨h6, .inr ⟨hv, h⟩⟩) h1
    · exact h
    · exact absurd (.inr ⟨h6.symm, .inr ⟨hv.symm, h⟩⟩) h2
  have ha := AV.v_inj hp.addr hq.addr h6 hv
  have e1 := congrArg AV.hi ha
  have e2 := congrArg AV.lo ha
  exact PV.ext' h6 e1 e2 hn

theorem under_lt {q x : PV} {b : Bool} (hq : q.Ok) (hx : x.Ok) (h : Under q b x) : ltP q x := by
  obtain ⟨h1, h2, _⟩ := h
  obtain ⟨a, b, _⟩ := (over_num hq hx).1 h2
  rw [ltP_num hq hx]
  refine .inr ⟨a, ?_⟩
  rcases Nat.lt_or_ge q.v x.v with h | h
  · exact .inl h
  · exact .inr ⟨by omega, h1⟩
theorem under_two {q x y : PV} (hq : q.Ok) (hx : x.Ok) (hy : y.Ok) (h : Under q true x) (h' : Under q false y) : ltP x y := by
  obtain ⟨a1, a2, a3⟩ := h
  obtain ⟨b1, b2, b3⟩ := h'
  obtain ⟨s1, l1, u1⟩ := (over_num hq hx).1 a2
  obtain ⟨s2, l2, u2⟩ := (over_num hq hy).1 b2
  obtain ⟨k1, k2⟩ := PV.k_le hq
  obtain ⟨x1, x2⟩ := PV.k_le hx
  obtain ⟨y1, y2⟩ := PV.k_le hy
  have hk0 : 0 < q.k := by rw [s1] at k2; omega
  obtain ⟨m, hm⟩ : ∃ m, q.k = m + 1 := ⟨q.k - 1, by omega⟩
  have hd := PV.dvd hq
  rw [hm] at hd u1 u2
  obtain ⟨c, hc⟩ := hd
  have hqn : q.n = ((widN q.six - 1 - m : Nat) : Int) := by omega
  have hlt : widN q.six - 1 - m < widN q.six := by omega
  have ex := AV.bitN hx.addr (i := widN q.six - 1 - m) (by show _ < widN x.six; rw [← s1]; exact hlt)
  have ey := AV.bitN hy.addr (i := widN q.six - 1 - m) (by show _ < widN y.six; rw [← s2]; exact hlt)
  have bx : PV.bit x q.n = 0 := a3.2 rfl
  have by' : ¬ PV.bit y q.n = 0 := fun e => by cases b3.1 e
  have ex' : PV.bit x q.n = ((x.v / 2 ^ (widN x.six - 1 - (widN q.six - 1 - m)) % 2 : Nat) : Int) := by rw [hqn]; exact ex
  have ey' : PV.bit y q.n = ((y.v / 2 ^ (widN y.six - 1 - (widN q.six - 1 - m)) % 2 : Nat) : Int) := by rw [hqn]; exact ey
  rw [← s1, show widN q.six - 1 - (widN q.six - 1 - m) = m by omega] at ex'
  rw [← s2, show widN q.six - 1 - (widN q.six - 1 - m) = m by omega] at ey'
  rw [ex'] at bx
  rw [ey'] at by'
  have hpx := Nat.two_pow_pos x.k
  have hpy := Nat.two_pow_pos y.k
  have hpm := Nat.two_pow_pos m
  have e2 : 2 ^ (m + 1) = 2 ^ m + 2 ^ m := by rw [Nat.pow_succ]; omega
  rw [e2] at hc u1 u2
  rw [ltP_num hx hy]
  refine .inr ⟨s1.symm.trans s2, .inl ?_⟩
  apply Classical.byContradiction
  intro hge
  -- both in the same half
  have dx : x.v / 2 ^ m = 2 * c ∨ x.v / 2 ^ m = 2 * c + 1 := by
    have h1 : x.v / 2 ^ m * 2 ^ m ≤ x.v := Nat.div_mul_le_self _ _
    have h2 : x.v < (x.v / 2 ^ m + 1) * 2 ^ m := by rw [Nat.mul_comm]; exact Nat.lt_mul_div_succ _ hpm
    have hcv : q.v = 2 * c * 2 ^ m := by rw [hc, Nat.add_mul, Nat.mul_comm 2 c, Nat.mul_assoc, Nat.two_mul, Nat.mul_add, Nat.mul_comm c]
    have h3 : 2 * c * 2 ^ m < (x.v / 2 ^ m + 1) * 2 ^ m := by omega
    have h4 : x.v / 2 ^ m * 2 ^ m < (2 * c + 2) * 2 ^ m := by rw [Nat.add_mul]; omega
    have h5 := Nat.lt_of_mul_lt_mul_right h3
    have h6 := Nat.lt_of_mul_lt_mul_right h4
    omega
  have dy : y.v / 2 ^ m = 2 * c ∨ y.v / 2 ^ m = 2 * c + 1 := by
    have h1 : y.v / 2 ^ m * 2 ^ m ≤ y.v := Nat.div_mul_le_self _ _
    have h2 : y.v < (y.v / 2 ^ m + 1) * 2 ^ m := by rw [Nat.mul_comm]; exact Nat.lt_mul_div_succ _ hpm
    have hcv : q.v = 2 * c * 2 ^ m := by rw [hc, Nat.add_mul, Nat.mul_comm 2 c, Nat.mul_assoc, Nat.two_mul, Nat.mul_add, Nat.mul_comm c]
    have h3 : 2 * c * 2 ^ m < (y.v / 2 ^ m + 1) * 2 ^ m := by omega
    have h4 : y.v / 2 ^ m * 2 ^ m < (2 * c + 2) * 2 ^ m := by rw [Nat.add_mul]; omega
    have h5 := Nat.lt_of_mul_lt_mul_right h3
    have h6 := Nat.lt_of_mul_lt_mul_right h4
    omega
  have hle : y.v / 2 ^ m ≤ x.v / 2 ^ m := Nat.div_le_div_right (by omega)
  omega

/-- All routes of a tree keep what its places keep. -/
theorem routes_all {six : Bool} : ∀ (t : Tr) (U : PV → Prop), (∀ x y b, x.Ok → y.Ok → U x → Under x b y → U y) → Inv six U t → ∀ r ∈ routesT t, r.p.Ok ∧ r.p.six = six ∧ U r.p ∧ 1 ≤ r.hop ∧ r.hop ≤ 999 := by
  intro t
  induction t with
  | nil => intro U _ _ r hr; simp [routesT] at hr
  | node g q h l r ihl ihr =>
    intro U hc hi x hx
    obtain ⟨hq, h6, hU, hh, hl, hr⟩ := hi
    have cl : ∀ b, ∀ x y b', x.Ok → y.Ok → Under q b x → Under x b' y → Under q b y := by
      intro b x y b' hx hy hU hV
      refine ⟨by have := hU.1; have := hV.1; omega, over_trans hq hx hy hU.2.1 hV.2.1, ?_⟩
      rw [← over_bit hx hy hV.2.1 (ok_n hq).1 hU.1]
      exact hU.2.2
    unfold routesT at hx
    rcases List.mem_append.1 hx with hx | hx
    · by_cases h0 : h = 0
      · rw [if_pos h0] at hx; cases hx
      · rw [if_neg h0, List.mem_singleton] at hx
        subst hx
        exact ⟨hq, h6, hU, by show 1 ≤ h; omega, hh.2⟩
    · rcases List.mem_append.1 hx with hx | hx
      · obtain ⟨a, b, c, d⟩ := ihl _ (cl true) hl x hx
        exact ⟨a, b, hc q x.p true hq a hU c, d⟩
      · obtain ⟨a, b, c, d⟩ := ihr _ (cl false) hr x hx
        exact ⟨a, b, hc q x.p false hq a hU c, d⟩
theorem under_closed {q : PV} (hq : q.Ok) (b : Bool) : ∀ x y b', x.Ok → y.Ok → Under q b x → Under x b' y → Under q b y := by
  intro x y b' hx hy hU hV
  refine ⟨by have := hU.1; have := hV.1; omega, over_trans hq hx hy hU.2.1 hV.2.1, ?_⟩
  rw [← over_bit hx hy hV.2.1 (ok_n hq).1 hU.1]
  exact hU.2.2
theorem routes_sorted {six : Bool} : ∀ (t : Tr) (U : PV → Prop), Inv six U t → (routesT t).Pairwise fun x y => ltP x.p y.p := by
  intro t
  induction t with
  | nil => intro U _; exact List.Pairwise.nil
  | node g q h l r ihl ihr =>
    intro U hi
    obtain ⟨hq, h6, hU, hh, hl, hr⟩ := hi
    have al := routes_all l _ (under_closed hq true) hl
    have ar := routes_all r _ (under_closed hq false) hr
    unfold routesT
    rw [List.pairwise_append]
    refine ⟨?_, ?_, ?_⟩
    · by_cases h0 : h = 0
      · rw [if_pos h0]; exact List.Pairwise.nil
      · rw [if_neg h0]; exact List.pairwise_singleton _ _
    · rw [List.pairwise_append]
      exact ⟨ihl _ hl, ihr _ hr, fun x hx y hy => under_two hq (al x hx).1 (ar y hy).1 (al x hx).2.2.1 (ar y hy).2.2.1⟩
    · intro x hx y hy
      by_cases h0 : h = 0
      · rw [if_pos h0] at hx; cases hx
      · rw [if_neg h0, List.mem_singleton] at hx
        subst hx
        rcases List.mem_append.1 hy with hy | hy
        · exact under_lt hq (al y hy).1 (al y hy).2.2.1
        · exact under_lt hq (ar y hy).1 (ar y hy).2.2.1
/-- They are those that are there. -/
theorem routes_mem {six : Bool} : ∀ (t : Tr) (U : PV → Prop), Inv six U t → ∀ x : RouteV, x.p.Ok → (x ∈ routesT t ↔ ¬ x.hop = 0 ∧ hopAt t x.p = x.hop) := by
  intro t
  induction t with
  | nil =>
    intro U _ x _
    constructor
    · intro h; simp [routesT] at h
    · rintro ⟨h1, h2⟩; exact absurd h2.symm h1
  | node g q h l r ihl ihr =>
    intro U hi x hx
    obtain ⟨hq, h6, hU, hh, hl, hr⟩ := hi
    have al := routes_all l _ (under_closed hq true) hl
    have ar := routes_all r _ (under_closed hq false) hr
    have il := ihl _ hl x hx
    have ir := ihr _ hr x hx
    unfold routesT
    rw [List.mem_append, List.mem_append]
    show _ ↔ ¬ x.hop = 0 ∧ (if q = x.p then h else if q.over x.p = false then 0 else if x.p.bit q.n = 0 then hopAt l x.p else hopAt r x.p) = x.hop
    constructor
    · rintro (h1 | h1 | h1)
      · by_cases h0 : h = 0
        · rw [if_pos h0] at h1; cases h1
        · rw [if_neg h0, List.mem_singleton] at h1
          subst h1
          exact ⟨h0, by rw [if_pos rfl]⟩
      · obtain ⟨_, _, ⟨u1, u2, u3⟩, _⟩ := al x h1
        obtain ⟨e1, e2⟩ := il.1 h1
        refine ⟨e1, ?_⟩
        rw [if_neg (fun e => by rw [e] at u1; omega), if_neg (by rw [u2]; simp), if_pos (u3.2 rfl)]
        exact e2
      · obtain ⟨_, _, ⟨u1, u2, u3⟩, _⟩ := ar x h1
        obtain ⟨e1, e2⟩ := ir.1 h1
        refine ⟨e1, ?_⟩
        rw [if_neg (fun e => by rw [e] at u1; omega), if_neg (by rw [u2]; simp), if_neg (fun e => by cases u3.1 e)]
        exact e2
    · rintro ⟨e1, e2⟩
      by_cases hqx : q = x.p
      · rw [if_pos hqx] at e2
        left
        rw [if_neg (by rw [e2]; exact e1), List.mem_singleton]
        obtain ⟨p, hop⟩ := x
        simp only at hqx e2
        rw [hqx, e2]
      · rw [if_neg hqx] at e2
        right
        by_cases ho : q.over x.p = false
        · rw [if_pos ho] at e2; exact absurd e2.symm e1
        · rw [if_neg ho] at e2
          by_cases hb : x.p.bit q.n = 0
          · rw [if_pos hb] at e2; exact .inl (il.2 ⟨e1, e2⟩)
          · rw [if_neg hb] at e2; exact .inr (ir.2 ⟨e1, e2⟩)

/-- Two lists sorted without two alike, with the same things. -/
theorem sorted_unique {l m : List RouteV} (hl : l.Pairwise fun x y => ltP x.p y.p) (hm : m.Pairwise fun x y => ltP x.p y.p) (ol : ∀ r ∈ l, r.p.Ok) (he : ∀ r, r ∈ l ↔ r ∈ m) : l = m := by
  induction l generalizing m with
  | nil =>
    cases m with
    | nil => rfl
    | cons y m => exact absurd ((he y).2 (by simp)) (by simp)
  | cons x l ih =>
    cases m with
    | nil => exact absurd ((he x).1 (by simp)) (by simp)
    | cons y m =>
      rw [List.pairwise_cons] at hl hm
      have hx := ol x (by simp)
      have hy := ol y ((he y).2 (by simp))
      have hxy : x = y := by
        rcases List.mem_cons.1 ((he x).1 (by simp)) with h | h
        · exact h
        · rcases List.mem_cons.1 ((he y).2 (by simp)) with h' | h'
          · exact h'.symm
          · exact absurd (hl.1 y h') (ltP_asymm hy hx (hm.1 x h))
      subst hxy
      congr 1
      refine ih hl.2 hm.2 (fun r hr => ol r (by simp [hr])) fun r => ?_
      constructor
      · intro hr
        rcases List.mem_cons.1 ((he r).1 (by simp [hr])) with h | h
        · subst h; exact absurd (hl.1 r hr) (ltP_irrefl hx)
        · exact h
      · intro hr
        rcases List.mem_cons.1 ((he r).2 (by simp [hr])) with h | h
        · subst h; exact absurd (hm.1 r hr) (ltP_irrefl hx)
        · exact h
/-- The routes of both trees. -/
def routesR (R : Bool → Tr) : List RouteV := routesT (R false) ++ routesT (R true)
theorem routesR_sorted {R : Bool → Tr} (hI : ∀ s, Inv s (fun _ => True) (R s)) : (routesR R).Pairwise fun x y => ltP x.p y.p := by
  unfold routesR
  rw [List.pairwise_append]
  have c0 : ∀ x y b, x.Ok → y.Ok → (fun _ : PV => True) x → Under x b y → (fun _ : PV => True) y := fun _ _ _ _ _ _ _ => trivial
  refine ⟨routes_sorted _ _ (hI false), routes_sorted _ _ (hI true), fun x hx y hy => .inl (lessB_six (routes_all _ _ c0 (hI false) x hx).2.1 (routes_all _ _ c0 (hI true) y hy).2.1)⟩
theorem routesR_mem {R : Bool → Tr} (hI : ∀ s, Inv s (fun _ => True) (R s)) {l : List RouteV} (hv : Valid l) (hm : ∀ p : PV, p.Ok → hopAt (R p.six) p = getR l p) (x : RouteV) : x ∈ routesR R ↔ x ∈ l := by
  have c0 : ∀ x y b, x.Ok → y.Ok → (fun _ : PV => True) x → Under x b y → (fun _ : PV => True) y := fun _ _ _ _ _ _ _ => trivial
  have key : ∀ s, x ∈ routesT (R s) → x ∈ l := by
    intro s hx
    obtain ⟨ok, h6, _, _⟩ := routes_all _ _ c0 (hI s) x hx
    obtain ⟨h1, h2⟩ := (routes_mem _ _ (hI s) x ok).1 hx
    subst h6
    rw [hm x.p ok] at h2
    obtain ⟨y, hy, e⟩ := getR_ne (l := l) (p := x.p) (by rw [h2]; exact h1)
    have := getR_mem hv y hy
    rw [e, h2] at this
    have : x = y := by
      obtain ⟨p, hop⟩ := x
      obtain ⟨p', hop'⟩ := y
      simp only at e this
      rw [e, this]
    rw [this]; exact hy
  unfold routesR
  constructor
  · intro hx
    rcases List.mem_append.1 hx with hx | hx
    · exact key _ hx
    · exact key _ hx
  · intro hx
    obtain ⟨ok, h1, h2⟩ := hv.1 x hx
    have hin : x ∈ routesT (R x.p.six) := (routes_mem _ _ (hI _) x ok).2 ⟨by omega, by rw [hm x.p ok, getR_mem hv x hx]⟩
    rw [List.mem_append]
    cases e : x.p.six with
    | false => rw [e] at hin; exact .inl hin
    | true => rw [e] at hin; exact .inr hin

end Go.Proofs.Ytmljdjakbbedlaa

namespace Go.Proofs.Ytmljdjakbbedlaa
open Go.ChangeShapes Go.WideShapes Go.ChangeAt Go.RowKit
open Go.Sort (swp size_swp PermIn SortedIn SWO putRowK HoldsK)

/-- Routes whose prefixes may be. -/
abbrev OkR := {r : RouteV // r.p.Ok}
theorem zero_pv : (⟨false, 0, 0, 0⟩ : PV).Ok := ⟨by simp, by simp, by decide, by simp [wideI], by decide⟩
instance : Inhabited OkR := ⟨⟨⟨⟨false, 0, 0, 0⟩, 0⟩, zero_pv⟩⟩
def encR (r : OkR) : List Value := r.1.cells
theorem encR_length (r : OkR) : (encR r).length = 5 := rfl
def ltR (x y : OkR) : Bool := lessB x.1.p.a y.1.p.a || (decide (x.1.p.a = y.1.p.a) && decide (x.1.p.n < y.1.p.n))
theorem ltR_iff (x y : OkR) : ltR x y = true ↔ ltP x.1.p y.1.p := by
  unfold ltR ltP
  simp
theorem swo_ltR : SWO ltR where
  irrefl x := by
    rw [Bool.eq_false_iff, ne_eq, ltR_iff]
    exact ltP_irrefl x.2
  trans x y z h1 h2 := by
    rw [ltR_iff] at *
    exact ltP_trans x.2 y.2 z.2 h1 h2
  ntrans x y z h1 h2 := by
    rw [Bool.eq_false_iff, ne_eq, ltR_iff] at *
    intro h
    by_cases hyx : ltP y.1.p x.1.p
    · exact h2 (ltP_trans y.2 x.2 z.2 hyx h)
    · have e := ltP_total x.2 y.2 h1 hyx
      rw [e] at h
      exact h2 h

set_option maxHeartbeats 2000000 in
set_option maxRecDepth 100000 in
theorem sortLess_any (W : World) (blk n c bx : Nat) (dk : Array OkR) (hH : HoldsK encR 5 W blk 0 dk) (hblk : blk < W.heap.size) (hbx : bx < W.heap.size) (hs : dk.size = n) (_hn : n < 4611686018427387904) (_hcap : n ≤ c ∧ c ≤ maxLen) (i j : Nat) (hi : i < n) (hj : j < n)
    (hc : W.cell? ⟨bx, 0, none⟩ = some (.slice (some ⟨blk, 0, none⟩) n c)) :
    Calls Try.prog 140 #[.int .i64 i, .int .i64 j, .pointer (some ⟨bx, 0, none⟩)] W fun e w' => e = .returned (.bool (ltR dk[i]! dk[j]!)) ∧ Below W.heap.size W w' := by
  have hcell : ∀ (x : Nat), x < n → ∀ t, t < 5 → W.cell? ⟨blk, x * 5 + t, none⟩ = some (encR dk[x]!)[t]! := by
    intro x hx t ht
    have := (hH.cell (i := x) (c := t) (by omega) ht).1
    rw [Nat.zero_add] at this
    exact this
  generalize hx : dk[i]! = x at *
  generalize hy : dk[j]! = y at *
  have hxc := hcell i hi
  have hyc := hcell j hj
  rw [hx] at hxc
  rw [hy] at hyc
  clear hcell hx hy hH
  obtain ⟨⟨⟨s1, h1, l1, n1⟩, p1⟩, ok1⟩ := x
  obtain ⟨⟨⟨s2, h2, l2, n2⟩, p2⟩, ok2⟩ := y
  have x0 : W.cell? ⟨blk, i * 5, none⟩ = some (.bool s1) := hxc 0 (by omega)
  have x1 : W.cell? ⟨blk, i * 5 + 1, none⟩ = some (.int .u64 h1) := hxc 1 (by omega)
  have x2 : W.cell? ⟨blk, i * 5 + 2, none⟩ = some (.int .u64 l1) := hxc 2 (by omega)
  have x3 : W.cell? ⟨blk, i * 5 + 3, none⟩ = some (.int .i64 n1) := hxc 3 (by omega)
  have y0 : W.cell? ⟨blk, j * 5, none⟩ = some (.bool s2) := hyc 0 (by omega)
  have y1 : W.cell? ⟨blk, j * 5 + 1, none⟩ = some (.int .u64 h2) := hyc 1 (by omega)
  have y2 : W.cell? ⟨blk, j * 5 + 2, none⟩ = some (.int .u64 l2) := hyc 2 (by omega)
  have y3 : W.cell? ⟨blk, j * 5 + 3, none⟩ = some (.int .i64 n2) := hyc 3 (by omega)
  clear hxc hyc
  obtain ⟨res, hres⟩ : ∃ res, res = ltR ⟨⟨⟨s1, h1, l1, n1⟩, p1⟩, ok1⟩ ⟨⟨⟨s2, h2, l2, n2⟩, p2⟩, ok2⟩ := ⟨_, rfl⟩
  rw [← hres]
  obtain ⟨lv, hlv⟩ : ∃ lv, lv = lessB ⟨s1, h1, l1⟩ ⟨s2, h2, l2⟩ := ⟨_, rfl⟩
  have CL0 := fun (X : World) => refLess_any s1 h1 l1 s2 h2 l2 X ⟨ok1.rhi, ok1.rlo, ok1.may⟩ ⟨ok2.rhi, ok2.rlo, ok2.may⟩
  rw [← hlv] at CL0
  have CL := Lib.hid CL0
  clear CL0
  have hres' : res = (lv || (s1 == s2 && (h1 == h2 && l1 == l2) && decide (n1 < n2))) := by
    rw [hres, hlv]
    unfold ltR
    congr 2
    rw [Bool.eq_iff_iff]
    simp [PV.a]
  have HR := Lib.hid hres'
  clear hres hres' hlv
  have i1 : (0 : Int) ≤ (i : Int) := by omega
  have i2 : (i : Int) < (n : Int) := by omega
  have j1 : (0 : Int) ≤ (j : Int) := by omega
  have j2 : (j : Int) < (n : Int) := by omega
  obtain ⟨w7, hw7⟩ : ∃ w7 : World, w7 = (W.alloc (.cells #[.bool s1, .int .u64 h1, .int .u64 l1, .int .i64 n1] 42)).alloc (.cells #[.bool s2, .int .u64 h2, .int .u64 l2, .int .i64 n2] 42) := ⟨_, rfl⟩
  have kp : Blk w7 W.heap.size 42 #[.bool s1, .int .u64 h1, .int .u64 l1, .int .i64 n1] := by rw [hw7]; exact (Blk.new W _ _).alloc _
  have kq : Blk w7 (W.heap.size + 1) 42 #[.bool s2, .int .u64 h2, .int .u64 l2, .int .i64 n2] := by rw [hw7]; have := Blk.new (W.alloc (.cells #[.bool s1, .int .u64 h1, .int .u64 l1, .int .i64 n1] 42)) 42 #[.bool s2, .int .u64 h2, .int .u64 l2, .int .i64 n2]; simpa using this
  have HB7 : Hid (Below W.heap.size W w7) := by show Below _ _ _; rw [hw7]; exact ((Below.refl _ _).alloc (Nat.le_refl _) _).alloc (by simp) _
  have u0 : w7.cell? ⟨W.heap.size, 0, none⟩ = some (.bool s1) := kp.cell 0
  have u1 : w7.cell? ⟨W.heap.size, 1, none⟩ = some (.int .u64 h1) := kp.cell 1
  have u2 : w7.cell? ⟨W.heap.size, 2, none⟩ = some (.int .u64 l1) := kp.cell 2
  have u3 : w7.cell? ⟨W.heap.size, 3, none⟩ = some (.int .i64 n1) := kp.cell 3
  have v0 : w7.cell? ⟨W.heap.size + 1, 0, none⟩ = some (.bool s2) := kq.cell 0
  have v1 : w7.cell? ⟨W.heap.size + 1, 1, none⟩ = some (.int .u64 h2) := kq.cell 1
  have v2 : w7.cell? ⟨W.heap.size + 1, 2, none⟩ = some (.int .u64 l2) := kq.cell 2
  have v3 : w7.cell? ⟨W.heap.size + 1, 3, none⟩ = some (.int .i64 n2) := kq.cell 3
  have l7a := kp.lt
  have l7b := kq.lt
  have HW7 := Lib.hid hw7
  clear hw7 kp kq
  have q := fun w => eqAV 9998 s1 h1 l1 s2 h2 l2 w
  go_enter Try.func140, Try.ntmps140
  go_upto_region 3 with fail
  rw [← HW7.out]
  cases lv with
  | true =>
    have HRES : Hid (true = res) := by show _ = _; rw [HR.out]; rfl
    clear HR
    go_wp2_with (go_at_call 79; (with_reducible refine (CL.out _).mono ?_); rintro e w8 ⟨rfl, hb8⟩; obtain ⟨fc8, ff8⟩ := bcell hb8; have hz8 := hb8.size; have HB8 := Lib.hid hb8; clear hb8)
    go_ret
    exact ⟨ret_bool (by first | rfl | exact HRES.out), HB7.out.trans (HB8.out.mono HB7.out.size)⟩
  | false =>
    cases hv : (s1 == s2 && (h1 == h2 && l1 == l2)) with
    | true =>
      have HRES : Hid (decide (n1 < n2) = res) := by show _ = _; rw [HR.out, hv]; simp
      rw [hv] at q
      clear HR hv
      go_wp2_with (go_at_call 79; (with_reducible refine (CL.out _).mono ?_); rintro e w8 ⟨rfl, hb8⟩; obtain ⟨fc8, ff8⟩ := bcell hb8; have hz8 := hb8.size; have HB8 := Lib.hid hb8; clear hb8)
      go_ret
      exact ⟨ret_bool (by first | rfl | exact HRES.out), HB7.out.trans (HB8.out.mono HB7.out.size)⟩
    | false =>
      have HRES : Hid (false = res) := by show _ = _; rw [HR.out, hv]; rfl
      rw [hv] at q
      clear HR hv
      go_wp2_with (go_at_call 79; (with_reducible refine (CL.out _).mono ?_); rintro e w8 ⟨rfl, hb8⟩; obtain ⟨fc8, ff8⟩ := bcell hb8; have hz8 := hb8.size; have HB8 := Lib.hid hb8; clear hb8)
      go_ret
      exact ⟨ret_bool (by first | rfl | exact HRES.out), HB7.out.trans (HB8.out.mono HB7.out.size)⟩

end Go.Proofs.Ytmljdjakbbedlaa

namespace Go.Proofs.Ytmljdjakbbedlaa
open Go.ChangeShapes Go.WideShapes Go.ChangeAt Go.RowKit
open Go.Sort (swp size_swp PermIn SortedIn SWO putRowK HoldsK insOuter insInner)

variable {α : Type} [Inhabited α] {enc : α → List Value} {k blk off : Nat} {lt : α → α → Bool} {g : Nat} {lb : Array Value} {sf : Nat} {sb : Array Value} {n : Nat} {w : World} {d : Array α}

set_option maxHeartbeats 1000000 in
set_option maxRecDepth 100000 in
theorem insertionSort_g (S : Srt Try.prog enc k blk off lt g lb sf sb n w d) (a b : Nat) (hab : a ≤ b) (hb : b ≤ n) :
    Calls Try.prog 199 #[.agg #[.func (.func g) #[] lb, .func (.func sf) #[] sb], .int .i64 a, .int .i64 b] w fun e w' =>
      e = .returned (.tuple #[]) ∧ RowIn enc k blk off w (Go.Sort.insertionSort lt d a b) w' := by
  have S1 := S.box (.cells #[.func (.func g) #[] lb, .func (.func sf) #[] sb] 283)
  have eg := S.eg
  have hblk := S.lt'
  have hn := S.small
  have hsd := S.sz
  go_enter Try.func199, Try.ntmps199
  go_wp2
  go_loopw [6] (fun vi wr => ∃ (i : Nat) (dk : Array α), vi = .int .i64 i ∧ a < i ∧ i ≤ b + 1 ∧ dk.size = n ∧ RowIn enc k blk off (w.alloc (.cells #[.func (.func g) #[] lb, .func (.func sf) #[] sb] 283)) dk wr ∧
      Hid (insOuter lt a b i dk = insOuter lt a b (a + 1) d)) (fun vi _ => b + 1 - (intOf vi).toNat)
  case atStart => exact ⟨a + 1, d, by go_num, by omega, by omega, hsd, S1.start, rfl⟩
  case round =>
    obtain ⟨i, dk, rfl, hai, hib, hsk, hR, HO⟩ := hrel
    by_cases hlt : i < b
    · go_wp2
      obtain ⟨wo, rfl⟩ : ∃ wo : World, wo = wr := ⟨_, rfl⟩
      go_loopw [7] (fun vj wr2 => ∃ (j : Nat) (dj : Array α), vj = .int .i64 j ∧ a ≤ j ∧ j ≤ i ∧ dj.size = n ∧ RowIn enc k blk off (w.alloc (.cells #[.func (.func g) #[] lb, .func (.func sf) #[] sb] 283)) dj wr2 ∧
          Hid (insInner lt a j dj = insInner lt a i dk)) (fun vj _ => (intOf vj).toNat)
      case atStart => exact ⟨i, dk, rfl, by omega, Nat.le_refl _, hsk, hR, rfl⟩
      case round =>
        obtain ⟨j, dj, rfl, haj, hji, hsj, hR2, HI⟩ := hrel
        have out : ∀ w', RowIn enc k blk off (w.alloc (.cells #[.func (.func g) #[] lb, .func (.func sf) #[] sb] 283)) dj w' → (j ≤ a ∨ lt dj[j]! dj[j - 1]! = false) → ∃ (i' : Nat) (dk' : Array α), Value.int .i64 ((i : Int) + 1) = .int .i64 i' ∧ a < i' ∧ i' ≤ b + 1 ∧ dk'.size = n ∧ RowIn enc k blk off (w.alloc (.cells #[.func (.func g) #[] lb, .func (.func sf) #[] sb] 283)) dk' w' ∧
            Hid (insOuter lt a b i' dk' = insOuter lt a b (a + 1) d) := fun w' hw hs => ⟨i + 1, dj, by go_num, by omega, by omega, hsj, hw, by
              show _ = _
              rw [← HO.out, insOuter_go _ _ _ _ _ hlt, ← HI.out, insInner_stop _ _ _ _ hs]⟩
        have OUT := Lib.hid out
        clear out hR
        by_cases hja : a < j
        · have hl := S1.lessAt hR2 hsj j (j - 1) ((j : Int)) ((j : Int) - 1) rfl (by omega) (by omega) (by omega)
          obtain ⟨c0, _⟩ := hR2.boxed hblk
          cases hlv : lt dj[j]! dj[j - 1]! with
          | true =>
            rw [hlv] at hl
            go_wp2_with (go_at_fn g; refine hl.mono ?_; rintro e w2 ⟨rfl, hb2⟩; have hR3 := hR2.step hb2; obtain ⟨_, c1'⟩ := hR3.boxed hblk; obtain ⟨w4, hrun, hR4⟩ := S1.swapAt hR3 hsj j (j - 1) ((j : Int)) ((j : Int) - 1) rfl (by omega) (by omega) (by omega); clear hb2)
            go_roundw
            case rel => exact ⟨j - 1, swp dj j (j - 1), by go_num, by omega, by omega, by rw [size_swp]; exact hsj, hR4, by show _ = _; rw [← HI.out, insInner_go lt a j dj hja hlv]⟩
            case measure => simp [intOf]; omega
          | false =>
            rw [hlv] at hl
            go_wp2_with (go_at_fn g; refine hl.mono ?_; rintro e w2 ⟨rfl, hb2⟩)
            have hR3 := hR2.step hb2
            clear hb2
            go_roundw
            case rel => exact OUT.out _ hR3 (Or.inr hlv)
            case measure => simp [intOf]; omega
        · go_wp2
          go_roundw
          case rel => exact OUT.out _ hR2 (Or.inl (by omega))
          case measure => simp [intOf]; omega
    · go_wp2
      go_end0
      refine ⟨rfl, ?_⟩
      unfold Go.Sort.insertionSort
      rw [← HO.out, insOuter_stop _ _ _ _ _ hlt]
      exact hR.box hblk

end Go.Proofs.Ytmljdjakbbedlaa

namespace Go.Proofs.Ytmljdjakbbedlaa
open Go.ChangeShapes Go.WideShapes Go.ChangeAt Go.RowKit
open Go.Sort (swp size_swp PermIn SortedIn SWO putRowK HoldsK)

/-- All blocks but one are as they were. -/
structure ButC (cb : Nat) (W W' : World) : Prop where
  os : W'.os = W.os
  tape : W'.tape = W.tape
  output : W'.output = W.output
  size : W.heap.size ≤ W'.heap.size
  block : ∀ b, b < W.heap.size → b ≠ cb → W'.heap[b]? = W.heap[b]?
theorem ButC.refl (cb : Nat) (W : World) : ButC cb W W := ⟨rfl, rfl, rfl, Nat.le_refl _, fun _ _ _ => rfl⟩
theorem ButC.trans {cb : Nat} {a b c : World} (h : ButC cb a b) (h' : ButC cb b c) : ButC cb a c :=
  ⟨h'.os.trans h.os, h'.tape.trans h.tape, h'.output.trans h.output, Nat.le_trans h.size h'.size, fun x hx hn => (h'.block x (Nat.lt_of_lt_of_le hx h.size) hn).trans (h.block x hx hn)⟩
theorem ButC.of {cb : Nat} {a b : World} (h : Below a.heap.size a b) : ButC cb a b := ⟨h.os, h.tape, h.output, h.size, fun x hx _ => h.block x hx⟩
theorem ButC.set {cb : Nat} {a b : World} (h : ButC cb a b) (o : Nat) (u : Value) : ButC cb a (b.setCell ⟨cb, o, none⟩ u) :=
  ⟨h.os, h.tape, h.output, by simp; exact h.size, fun x hx hn => (Below.heap_setCell _ _ _ _ hn).trans (h.block x hx hn)⟩
theorem ButC.cell {cb : Nat} {a b : World} (h : ButC cb a b) {x o : Nat} (hx : x < a.heap.size) (hn : x ≠ cb) : b.cell? ⟨x, o, none⟩ = a.cell? ⟨x, o, none⟩ := World.cell?_of_block (w := a) (h.block x hx hn)
theorem ButC.box {cb : Nat} {a b : World} {o : Obj} (h : ButC cb (a.alloc o) b) : ButC cb a b := (ButC.of ((Below.refl _ _).alloc (Nat.le_refl _) _)).trans h
theorem ButC.below {cb B : Nat} {a b : World} (h : ButC cb a b) (hB : B ≤ cb) (hs : B ≤ a.heap.size) : Below B a b :=
  ⟨h.os, h.tape, h.output, h.size, fun x hx => h.block x (by omega) (by omega)⟩

/-- A counter in a block of its own. -/
structure Cnt (cb : Nat) (W : World) (s : Nat) : Prop where
  cell : W.cell? ⟨cb, 0, none⟩ = some (.int .i64 s)
  free : W.frozen? ⟨cb, 0, none⟩ = false
  lt : cb < W.heap.size
theorem Cnt.step {cb s : Nat} {W W' : World} (h : Cnt cb W s) (hb : Below W.heap.size W W') : Cnt cb W' s :=
  ⟨(hb.cell (p := ⟨cb, 0, none⟩) h.lt).trans h.cell, (hb.frozen (p := ⟨cb, 0, none⟩) h.lt).trans h.free, Nat.lt_of_lt_of_le h.lt hb.size⟩
theorem Cnt.alloc {cb s : Nat} {W : World} (h : Cnt cb W s) (o : Obj) : Cnt cb (W.alloc o) s := h.step ((Below.refl _ _).alloc (Nat.le_refl _) _)
theorem Cnt.set {cb s : Nat} {W : World} (h : Cnt cb W s) (t : Nat) (x : Int) (hx : x = t) : Cnt cb (W.setCell ⟨cb, 0, none⟩ (.int .i64 x)) t := by
  subst hx
  obtain ⟨cs, e, fr, hh, hc⟩ : ∃ cs e fr, W.heap[cb]? = some (.cells cs e fr) ∧ cs[0]? = some (.int .i64 s) := by
    have := h.cell
    unfold World.cell? at this
    split at this
    · rename_i cs e fr hh
      exact ⟨cs, e, fr, hh, this⟩
    · cases this
  have e2 : (W.setCell ⟨cb, 0, none⟩ (.int .i64 t)).heap[cb]? = some (.cells (cs.setIfInBounds 0 (.int .i64 t)) e fr) := by
    simp only [World.setCell, Array.getElem?_modify, hh, if_true, Option.map_some]
    rfl
  refine ⟨?_, ?_, by simp; exact h.lt⟩
  · unfold World.cell?
    simp only [e2]
    have : 0 < cs.size := by
      rcases Nat.eq_zero_or_pos cs.size with h0 | h0
      · rw [Array.getElem?_eq_none (by omega)] at hc; cases hc
      · exact h0
    simp [this]
  · have hf := h.free
    unfold World.frozen? at hf ⊢
    simp only [hh] at hf
    simp only [e2]
    exact hf

variable {α : Type} [Inhabited α] {enc : α → List Value} {k blk off : Nat} {lt : α → α → Bool} {g : Nat} {lb : Array Value} {sf : Nat} {sb : Array Value} {n : Nat} {w0 W W' : World} {d : Array α}

theorem RowIn.but {cb : Nat} (h : RowIn enc k blk off w0 d W) (hb : ButC cb W W') (hcb : w0.heap.size ≤ cb) : RowIn enc k blk off w0 d W' := by
  have hlt := h.lt
  have hsz := h.size
  have hb2 := hb.below (B := w0.heap.size) hcb hsz
  exact ⟨h.below.trans hb2, fun j hj => ⟨(hb2.cell (p := ⟨blk, off + j, none⟩) hlt).trans (h.holds j hj).1, (hb2.frozen (p := ⟨blk, off + j, none⟩) hlt).trans (h.holds j hj).2⟩, hlt⟩

def TwoOf (a b s cb : Nat) (W : World) (e : Ending) (w' : World) : Prop :=
  ∃ x y s' : Nat, e = .returned (.tuple #[.int .i64 x, .int .i64 y]) ∧ (x = a ∧ y = b ∨ x = b ∧ y = a) ∧ s' ≤ s + 1 ∧ Cnt cb w' s' ∧ ButC cb W w'
def OneOf (p : Nat → Prop) (s cb : Nat) (W : World) (e : Ending) (w' : World) : Prop :=
  ∃ x s' : Nat, e = .returned (.int .i64 x) ∧ p x ∧ s' ≤ s ∧ Cnt cb w' s' ∧ ButC cb W w'

set_option maxHeartbeats 1000000 in
set_option maxRecDepth 100000 in
theorem order2_g (S : Srt Try.prog enc k blk off lt g lb sf sb n w0 d) (hR : RowIn enc k blk off w0 d W) (a b : Nat) (ha : a < n) (hb : b < n) (cb s : Nat) (_hcb : w0.heap.size ≤ cb) (hs : s < 1000) (hC : Cnt cb W s) :
    Calls Try.prog 232 #[.agg #[.func (.func g) #[] lb, .func (.func sf) #[] sb], .int .i64 a, .int .i64 b, .pointer (some ⟨cb, 0, none⟩)] W (TwoOf a b s cb W) := by
  have eg := S.eg
  have hn := S.small
  have hR1 := hR.step ((Below.refl _ _).alloc (Nat.le_refl _) (.cells #[.func (.func g) #[] lb, .func (.func sf) #[] sb] 283))
  have hC1 := hC.alloc (.cells #[.func (.func g) #[] lb, .func (.func sf) #[] sb] 283)
  have hl := S.lessAt hR1 S.sz b a (b : Int) (a : Int) rfl rfl hb ha
  have hlt := hC.lt
  go_enter Try.func232, Try.ntmps232
  cases hlv : lt d[b]! d[a]! with
  | true =>
    rw [hlv] at hl
    go_wp2_with (go_at_fn g; refine hl.mono ?_; rintro e w2 ⟨rfl, hb2⟩; have hC2 := hC1.step hb2; have q1 := hC2.cell; have q2 := hC2.free; have q3 := hC2.lt; have HB := Lib.hid hb2; clear hb2)
    go_ret2
    exact ⟨b, a, s + 1, rfl, Or.inr ⟨rfl, rfl⟩, Nat.le_refl _, hC2.set (s + 1) _ (by omega), ((ButC.of HB.out).box).set _ _⟩
  | false =>
    rw [hlv] at hl
    go_wp2_with (go_at_fn g; refine hl.mono ?_; rintro e w2 ⟨rfl, hb2⟩; have hC2 := hC1.step hb2; have HB := Lib.hid hb2; clear hb2)
    go_ret2
    exact ⟨a, b, s, rfl, Or.inl ⟨rfl, rfl⟩, by omega, hC2, (ButC.of HB.out).box⟩

theorem but_boxed {cb : Nat} {t : TypeId} {fr : Nat × Nat} {x y : Value} {w X : World} (h : ButC cb (w.alloc (.cells #[x, y] t fr)) X) (hne : w.heap.size ≠ cb) :
    X.cell? ⟨w.heap.size, 0, none⟩ = some x ∧ X.cell? ⟨w.heap.size, 1, none⟩ = some y := by
  have e : (w.alloc (.cells #[x, y] t fr)).heap[w.heap.size]? = some (.cells #[x, y] t fr) := heap_alloc_new w _
  constructor
  · rw [h.cell (by simp) hne]; unfold World.cell?; simp only [e]; rfl
  · rw [h.cell (by simp) hne]; unfold World.cell?; simp only [e]; rfl

set_option maxHeartbeats 1000000 in
set_option maxRecDepth 100000 in
theorem median_g (S : Srt Try.prog enc k blk off lt g lb sf sb n w0 d) (hR : RowIn enc k blk off w0 d W) (a b c : Nat) (x y z : Int) (hx : x = a) (hy : y = b) (hz : z = c) (ha : a < n) (hb : b < n) (hc : c < n) (cb s : Nat) (hcb : w0.heap.size ≤ cb) (hs : s < 900) (hC : Cnt cb W s) :
    Calls Try.prog 224 #[.agg #[.func (.func g) #[] lb, .func (.func sf) #[] sb], .int .i64 x, .int .i64 y, .int .i64 z, .pointer (some ⟨cb, 0, none⟩)] W (OneOf (fun p => p = a ∨ p = b ∨ p = c) (s + 3) cb W) := by
  subst hx hy hz
  have hR1 := hR.step ((Below.refl _ _).alloc (Nat.le_refl _) (.cells #[.func (.func g) #[] lb, .func (.func sf) #[] sb] 283))
  have hC1 := hC.alloc (.cells #[.func (.func g) #[] lb, .func (.func sf) #[] sb] 283)
  have hlt := hC.lt
  have K1 := ButC.refl cb (W.alloc (.cells #[.func (.func g) #[] lb, .func (.func sf) #[] sb] 283))
  go_enter Try.func224, Try.ntmps224
  go_wp2_with fail
  refine (order2_g S hR1 a b ha hb cb s hcb (by omega) hC1).mono ?_
  rintro e w2 ⟨a1, b1, s1, rfl, h1, hs1, hC2, K2⟩
  have ha1 : a1 < n := by omega
  have hb1 : b1 < n := by omega
  have q1 := but_boxed K2 (by omega)
  obtain ⟨q10, q11⟩ := q1
  have hR2 := hR1.but K2 hcb
  go_wp2_with fail
  refine (order2_g S hR2 b1 c hb1 hc cb s1 hcb (by omega) hC2).mono ?_
  rintro e w3 ⟨b2, c2, s2, rfl, h2, hs2, hC3, K3⟩
  have hb2 : b2 < n := by omega
  have q2 := but_boxed (K2.trans K3) (by omega)
  obtain ⟨q20, q21⟩ := q2
  have hR3 := hR2.but K3 hcb
  go_wp2_with fail
  refine (order2_g S hR3 a1 b2 ha1 hb2 cb s2 hcb (by omega) hC3).mono ?_
  rintro e w4 ⟨a3, b3, s3, rfl, h3, hs3, hC4, K4⟩
  go_wp2
  go_ret
  exact ⟨b3, s3, rfl, by omega, by omega, hC4, ((K2.trans K3).trans K4).box⟩

set_option maxHeartbeats 1000000 in
set_option maxRecDepth 100000 in
theorem medianAdjacent_g (S : Srt Try.prog enc k blk off lt g lb sf sb n w0 d) (hR : RowIn enc k blk off w0 d W) (a : Nat) (x : Int) (hx : x = a) (ha : 1 ≤ a) (ha2 : a + 1 < n) (cb s : Nat) (hcb : w0.heap.size ≤ cb) (hs : s < 900) (hC : Cnt cb W s) :
    Calls Try.prog 223 #[.agg #[.func (.func g) #[] lb, .func (.func sf) #[] sb], .int .i64 x, .pointer (some ⟨cb, 0, none⟩)] W (OneOf (fun p => p = a - 1 ∨ p = a ∨ p = a + 1) (s + 3) cb W) := by
  subst hx
  have hR1 := hR.step ((Below.refl _ _).alloc (Nat.le_refl _) (.cells #[.func (.func g) #[] lb, .func (.func sf) #[] sb] 283))
  have hC1 := hC.alloc (.cells #[.func (.func g) #[] lb, .func (.func sf) #[] sb] 283)
  have hn := S.small
  go_enter Try.func223, Try.ntmps223
  go_wp2_with fail
  refine (median_g S hR1 (a - 1) a (a + 1) _ _ _ (by omega) (by omega) (by omega) (by omega) (by omega) (by omega) cb s hcb hs hC1).mono ?_
  rintro e w2 ⟨p, s1, rfl, hp, hs1, hC2, K2⟩
  go_wp2
  go_ret
  exact ⟨p, s1, rfl, hp, hs1, hC2, K2.box⟩

theorem ret2_i {x y : Int} {v : Value} (h : x = y) : Ending.returned (.tuple #[.int .i64 x, v]) = .returned (.tuple #[.int .i64 y, v]) := by rw [h]
def PivotIn (a b : Nat) (w : World) (e : Ending) (w' : World) : Prop :=
  ∃ p h : Nat, e = .returned (.tuple #[.int .i64 p, .int .i64 h]) ∧ a ≤ p ∧ p < b ∧ h ≤ 2 ∧ Below w.heap.size w w'

theorem new_cnt (w : World) (t : TypeId) : Cnt w.heap.size (w.alloc (.cells #[.int .i64 0] t)) 0 := by
  have e : (w.alloc (.cells #[.int .i64 0] t)).heap[w.heap.size]? = some (.cells #[.int .i64 0] t (0, 0)) := heap_alloc_new w _
  refine ⟨?_, ?_, by simp⟩
  · unfold World.cell?; simp only [e]; rfl
  · unfold World.frozen?; simp only [e]; rfl

set_option maxHeartbeats 2000000 in
set_option maxRecDepth 100000 in
theorem choosePivot_g (S : Srt Try.prog enc k blk off lt g lb sf sb n w0 d) (a b : Nat) (hab : a < b) (hb : b ≤ n) :
    Calls Try.prog 202 #[.agg #[.func (.func g) #[] lb, .func (.func sf) #[] sb], .int .i64 a, .int .i64 b] w0 (PivotIn a b w0) := by
  have hn := S.small
  have hB1 : Below w0.heap.size w0 (w0.alloc (.cells #[.func (.func g) #[] lb, .func (.func sf) #[] sb] 283)) := (Below.refl _ _).alloc (Nat.le_refl _) _
  have hC0 : Cnt (w0.heap.size + 1) ((w0.alloc (.cells #[.func (.func g) #[] lb, .func (.func sf) #[] sb] 283)).alloc (.cells #[.int .i64 0] 3)) 0 := by
    have := new_cnt (w0.alloc (.cells #[.func (.func g) #[] lb, .func (.func sf) #[] sb] 283)) 3
    simpa using this
  have hB2 : Below w0.heap.size w0 ((w0.alloc (.cells #[.func (.func g) #[] lb, .func (.func sf) #[] sb] 283)).alloc (.cells #[.int .i64 0] 3)) := hB1.alloc (by simp) _
  have hR0 := S.start.step hB2
  have K0 : ButC (w0.heap.size + 1) (w0.alloc (.cells #[.func (.func g) #[] lb, .func (.func sf) #[] sb] 283)) ((w0.alloc (.cells #[.func (.func g) #[] lb, .func (.func sf) #[] sb] 283)).alloc (.cells #[.int .i64 0] 3)) := ButC.of ((Below.refl _ _).alloc (Nat.le_refl _) _)
  have HB1 := Lib.hid hB1
  clear hB1 hB2
  have fin : ∀ {X : World}, ButC (w0.heap.size + 1) (w0.alloc (.cells #[.func (.func g) #[] lb, .func (.func sf) #[] sb] 283)) X → Below w0.heap.size w0 X := fun K => HB1.out.trans (K.below (by omega) (by simp))
  go_enter Try.func202, Try.ntmps202
  by_cases h8 : b - a < 8
  · have h8z : ¬ (8 ≤ (b : Int) - (a : Int)) := by omega
    go_wp2
    go_ret2
    exact ⟨a + (b - a) / 4 * 2, 1, ret2_i (by omega), by omega, by omega, by omega, fin K0⟩
  · have h8z : (8 : Int) ≤ (b : Int) - (a : Int) := by omega
    by_cases h50 : b - a < 50
    · have h50z : ¬ (50 ≤ (b : Int) - (a : Int)) := by omega
      go_wp2_with fail
      refine (median_g S hR0 (a + (b - a) / 4 * 1) (a + (b - a) / 4 * 2) (a + (b - a) / 4 * 3) _ _ _ (by omega) (by omega) (by omega) (by omega) (by omega) (by omega) _ 0 (by omega) (by omega) hC0).mono ?_
      rintro e w2 ⟨p, s, rfl, hp, hs, hC, K⟩
      have hK := K0.trans K
      have qc := hC.cell
      by_cases z0 : s = 0
      · subst z0
        go_wp2
        go_ret2
        exact ⟨p, 1, rfl, by omega, by omega, by omega, fin hK⟩
      · have z0' : ((s : Int) == 0) = false := by simp; omega
        have z12 : ((s : Int) == 12) = false := by simp; omega
        go_wp2
        go_ret2
        exact ⟨p, 0, rfl, by omega, by omega, by omega, fin hK⟩
    · have h50z : (50 : Int) ≤ (b : Int) - (a : Int) := by omega
      go_wp2_with fail
      refine (medianAdjacent_g S hR0 (a + (b - a) / 4 * 1) _ (by omega) (by omega) (by omega) _ 0 (by omega) (by omega) hC0).mono ?_
      rintro e w1 ⟨pi, s1, rfl, hpi, hs1, hC1, K1⟩
      have hK1 := K0.trans K1
      have hR1 := hR0.but K1 (by omega)
      obtain ⟨c10, c11⟩ := but_boxed hK1 (by omega)
      go_wp2_with fail
      refine (medianAdjacent_g S hR1 (a + (b - a) / 4 * 2) _ (by omega) (by omega) (by omega) _ s1 (by omega) (by omega) hC1).mono ?_
      rintro e w2 ⟨pj, s2, rfl, hpj, hs2, hC2, K2⟩
      have hK2 := hK1.trans K2
      have hR2 := hR1.but K2 (by omega)
      obtain ⟨c20, c21⟩ := but_boxed hK2 (by omega)
      go_wp2_with fail
      refine (medianAdjacent_g S hR2 (a + (b - a) / 4 * 3) _ (by omega) (by omega) (by omega) _ s2 (by omega) (by omega) hC2).mono ?_
      rintro e w3 ⟨pk, s3, rfl, hpk, hs3, hC3, K3⟩
      have hK3 := hK2.trans K3
      have hR3 := hR2.but K3 (by omega)
      obtain ⟨c30, c31⟩ := but_boxed hK3 (by omega)
      go_wp2_with fail
      refine (median_g S hR3 pi pj pk _ _ _ rfl rfl rfl (by omega) (by omega) (by omega) _ s3 (by omega) (by omega) hC3).mono ?_
      rintro e w4 ⟨p, s, rfl, hp, hs, hC, K⟩
      have hK := hK3.trans K
      have qc := hC.cell
      by_cases z0 : s = 0
      · subst z0
        go_wp2
        go_ret2
        exact ⟨p, 1, rfl, by omega, by omega, by omega, fin hK⟩
      · have z0' : ((s : Int) == 0) = false := by simp; omega
        by_cases z12 : s = 12
        · subst z12
          go_wp2
          go_ret2
          exact ⟨p, 2, rfl, by omega, by omega, by omega, fin hK⟩
        · have z12' : ((s : Int) == 12) = false := by simp; omega
          go_wp2
          go_ret2
          exact ⟨p, 0, rfl, by omega, by omega, by omega, fin hK⟩

end Go.Proofs.Ytmljdjakbbedlaa

namespace Go.Proofs.Ytmljdjakbbedlaa
open Go.ChangeShapes Go.WideShapes Go.ChangeAt Go.RowKit
open Go.Sort (swp size_swp PermIn SortedIn SWO putRowK HoldsK siftDown sd_end sd_right_stop sd_right_go sd_left_stop sd_left_go heapBuild heapPop size_siftDown)

variable {α : Type} [Inhabited α] {enc : α → List Value} {k blk off : Nat} {lt : α → α → Bool} {g : Nat} {lb : Array Value} {sf : Nat} {sb : Array Value} {n : Nat} {w : World} {d : Array α}

set_option maxHeartbeats 2000000 in
set_option maxRecDepth 100000 in
theorem siftDown_g (S : Srt Try.prog enc k blk off lt g lb sf sb n w d) (lo hi first : Nat) (x y z : Int) (hx : x = lo) (hy : y = hi) (hz : z = first) (hlo : lo ≤ hi) (hb : first + hi ≤ n) :
    Calls Try.prog 220 #[.agg #[.func (.func g) #[] lb, .func (.func sf) #[] sb], .int .i64 x, .int .i64 y, .int .i64 z] w fun e w' =>
      e = .returned (.tuple #[]) ∧ RowIn enc k blk off w (siftDown lt hi first lo d) w' := by
  subst hx hy hz
  have S1 := S.box (.cells #[.func (.func g) #[] lb, .func (.func sf) #[] sb] 283)
  have eg := S.eg
  have hblk := S.lt'
  have hn := S.small
  have hsd := S.sz
  go_enter Try.func220, Try.ntmps220
  go_wp2
  go_loopw [8] (fun v wr => ∃ (root : Nat) (dk : Array α), v = .int .i64 root ∧ root ≤ hi ∧ dk.size = n ∧ RowIn enc k blk off (w.alloc (.cells #[.func (.func g) #[] lb, .func (.func sf) #[] sb] 283)) dk wr ∧
      Hid (siftDown lt hi first root dk = siftDown lt hi first lo d)) (fun v _ => hi - (intOf v).toNat)
  case atStart => exact ⟨lo, d, rfl, hlo, hsd, S1.start, rfl⟩
  case round =>
    obtain ⟨root, dk, rfl, hr, hds, hR, HE⟩ := hrel
    obtain ⟨c0, c1⟩ := hR.boxed hblk
    by_cases h0 : hi ≤ 2 * root + 1
    · have h0z : (hi : Int) ≤ 2 * (root : Int) + 1 := by omega
      go_wp2
      go_end0
      refine ⟨rfl, ?_⟩
      rw [← HE.out, sd_end lt dk h0]
      exact hR.box hblk
    · have h0z : ¬ ((hi : Int) ≤ 2 * (root : Int) + 1) := by omega
      by_cases h1 : 2 * root + 2 < hi
      · have h1z : 2 * (root : Int) + 1 + 1 < (hi : Int) := by omega
        have hl := S1.lessAt hR hds (first + (2 * root + 1)) (first + (2 * root + 2)) ((first : Int) + (2 * (root : Int) + 1)) ((first : Int) + (2 * (root : Int) + 1) + 1) (by omega) (by omega) (by omega) (by omega)
        cases hv : lt dk[first + (2 * root + 1)]! dk[first + (2 * root + 2)]! with
        | true =>
          rw [hv] at hl
          go_wp2_with fail
          go_at_fn g
          refine hl.mono ?_
          rintro e w2 ⟨rfl, hb2⟩
          have hR2 := hR.step hb2
          obtain ⟨c0_w2, c1_w2⟩ := hR2.boxed hblk
          clear hb2
          have hl3 := S1.lessAt hR2 hds (first + root) (first + (2 * root + 2)) ((first : Int) + (root : Int)) ((first : Int) + (2 * (root : Int) + 1 + 1)) (by omega) (by omega) (by omega) (by omega)
          cases hv3 : lt dk[first + root]! dk[first + (2 * root + 2)]! with
          | false =>
            rw [hv3] at hl3
            go_wp2_with fail
            go_at_fn g
            refine hl3.mono ?_
            rintro e w3 ⟨rfl, hb2⟩
            have hR3 := hR2.step hb2
            obtain ⟨c0_w3, c1_w3⟩ := hR3.boxed hblk
            clear hb2
            go_wp2
            (try simp only [Exit.inBlock, Exit.then])
            refine bodyPost_ret (results_none rfl _ _ _) rfl ?_
            refine ⟨rfl, ?_⟩
            rw [← HE.out, sd_right_stop lt dk h1 hv hv3]
            exact hR3.box hblk
          | true =>
            rw [hv3] at hl3
            go_wp2_with fail
            go_at_fn g
            refine hl3.mono ?_
            rintro e w3 ⟨rfl, hb3⟩
            have hR3 := hR2.step hb3
            obtain ⟨c03, c13⟩ := hR3.boxed hblk
            obtain ⟨w4, hrun, hR4⟩ := S1.swapAt hR3 hds (first + root) (first + (2 * root + 2)) ((first : Int) + (root : Int)) ((first : Int) + (2 * (root : Int) + 1 + 1)) (by omega) (by omega) (by omega) (by omega)
            clear hb3
            go_wp2
            go_roundw
            case rel => exact ⟨2 * root + 2, swp dk (first + root) (first + (2 * root + 2)), by go_num, by omega, by rw [size_swp]; exact hds, hR4, by show _ = _; rw [← HE.out, sd_right_go lt dk h1 hv hv3]⟩
            case measure => simp [intOf]; omega
        | false =>
          rw [hv] at hl
          go_wp2_with fail
          go_at_fn g
          refine hl.mono ?_
          rintro e w2 ⟨rfl, hb2⟩
          have hR2 := hR.step hb2
          obtain ⟨c0_w2, c1_w2⟩ := hR2.boxed hblk
          clear hb2
          have hl3 := S1.lessAt hR2 hds (first + root) (first + (2 * root + 1)) ((first : Int) + (root : Int)) ((first : Int) + (2 * (root : Int) + 1)) (by omega) (by omega) (by omega) (by omega)
          cases hv3 : lt dk[first + root]! dk[first + (2 * root + 1)]! with
          | false =>
            rw [hv3] at hl3
            go_wp2_with fail
            go_at_fn g
            refine hl3.mono ?_
            rintro e w3 ⟨rfl, hb2⟩
            have hR3 := hR2.step hb2
            obtain ⟨c0_w3, c1_w3⟩ := hR3.boxed hblk
            clear hb2
            go_wp2
            (try simp only [Exit.inBlock, Exit.then])
            refine bodyPost_ret (results_none rfl _ _ _) rfl ?_
            refine ⟨rfl, ?_⟩
            rw [← HE.out, sd_left_stop lt dk (by omega) (fun _ => hv) hv3]
            exact hR3.box hblk
          | true =>
            rw [hv3] at hl3
            go_wp2_with fail
            go_at_fn g
            refine hl3.mono ?_
            rintro e w3 ⟨rfl, hb3⟩
            have hR3 := hR2.step hb3
            obtain ⟨c03, c13⟩ := hR3.boxed hblk
            obtain ⟨w4, hrun, hR4⟩ := S1.swapAt hR3 hds (first + root) (first + (2 * root + 1)) ((first : Int) + (root : Int)) ((first : Int) + (2 * (root : Int) + 1)) (by omega) (by omega) (by omega) (by omega)
            clear hb3
            go_wp2
            go_roundw
            case rel => exact ⟨2 * root + 1, swp dk (first + root) (first + (2 * root + 1)), by go_num, by omega, by rw [size_swp]; exact hds, hR4, by show _ = _; rw [← HE.out, sd_left_go lt dk (by omega) (fun _ => hv) hv3]⟩
            case measure => simp [intOf]; omega
      · have h1z : ¬ (2 * (root : Int) + 1 + 1 < (hi : Int)) := by omega
        have hl3 := S1.lessAt hR hds (first + root) (first + (2 * root + 1)) ((first : Int) + (root : Int)) ((first : Int) + (2 * (root : Int) + 1)) (by omega) (by omega) (by omega) (by omega)
        cases hv3 : lt dk[first + root]! dk[first + (2 * root + 1)]! with
        | false =>
          rw [hv3] at hl3
          go_wp2_with fail
          go_at_fn g
          refine hl3.mono ?_
          rintro e w3 ⟨rfl, hb2⟩
          have hR3 := hR.step hb2
          obtain ⟨c0_w3, c1_w3⟩ := hR3.boxed hblk
          clear hb2
          go_wp2
          (try simp only [Exit.inBlock, Exit.then])
          refine bodyPost_ret (results_none rfl _ _ _) rfl ?_
          refine ⟨rfl, ?_⟩
          rw [← HE.out, sd_left_stop lt dk (by omega) (fun h => absurd h h1) hv3]
          exact hR3.box hblk
        | true =>
          rw [hv3] at hl3
          go_wp2_with fail
          go_at_fn g
          refine hl3.mono ?_
          rintro e w3 ⟨rfl, hb3⟩
          have hR3 := hR.step hb3
          obtain ⟨c03, c13⟩ := hR3.boxed hblk
          obtain ⟨w4, hrun, hR4⟩ := S1.swapAt hR3 hds (first + root) (first + (2 * root + 1)) ((first : Int) + (root : Int)) ((first : Int) + (2 * (root : Int) + 1)) (by omega) (by omega) (by omega) (by omega)
          clear hb3
          go_wp2
          go_roundw
          case rel => exact ⟨2 * root + 1, swp dk (first + root) (first + (2 * root + 1)), by go_num, by omega, by rw [size_swp]; exact hds, hR4, by show _ = _; rw [← HE.out, sd_left_go lt dk (by omega) (fun h => absurd h h1) hv3]⟩
          case measure => simp [intOf]; omega

set_option maxHeartbeats 2000000 in
set_option maxRecDepth 100000 in
theorem heapSort_g (S : Srt Try.prog enc k blk off lt g lb sf sb n w d) (a b : Nat) (hab : a < b) (hb : b ≤ n) :
    Calls Try.prog 200 #[.agg #[.func (.func g) #[] lb, .func (.func sf) #[] sb], .int .i64 a, .int .i64 b] w fun e w' =>
      e = .returned (.tuple #[]) ∧ RowIn enc k blk off w (Go.Sort.heapSort lt d a b) w' := by
  have S1 := S.box (.cells #[.func (.func g) #[] lb, .func (.func sf) #[] sb] 283)
  have hblk := S.lt'
  have hn := S.small
  have hsd := S.sz
  have b1 : (0 : Int) ≤ (b : Int) - (a : Int) - 1 := by omega
  go_enter Try.func200, Try.ntmps200
  go_wp2
  go_loopw [9] (fun v wr => ∃ (kk : Nat) (i : Int) (dk : Array α), v = .int .i64 i ∧ Hid (i = (kk : Int) - 1) ∧ kk ≤ (b - a - 1) / 2 + 1 ∧ dk.size = n ∧ RowIn enc k blk off (w.alloc (.cells #[.func (.func g) #[] lb, .func (.func sf) #[] sb] 283)) dk wr ∧
      Hid (heapBuild lt (b - a) a kk dk = heapBuild lt (b - a) a ((b - a - 1) / 2 + 1) d)) (fun v _ => (intOf v + 1).toNat)
  case atStart => exact ⟨(b - a - 1) / 2 + 1, _, d, rfl, by show _ = _; omega, Nat.le_refl _, hsd, S1.start, rfl⟩
  case round =>
    obtain ⟨kk, i, dk, rfl, HI, hkk, hds, hR, HE⟩ := hrel
    obtain ⟨c0, c1⟩ := hR.boxed hblk
    cases kk with
    | succ m =>
      obtain rfl : i = (m : Int) := by have := HI.out; omega
      clear HI
      have CS := Lib.hid (siftDown_g (S1.to hR hds) m (b - a) a ((m : Int)) ((b : Int) - (a : Int)) (a : Int) rfl (by omega) rfl (by omega) (by omega))
      go_wp2_with (refine CS.out.mono ?_; rintro e w2 ⟨rfl, hR2⟩)
      go_roundw
      case rel => exact ⟨m, _, siftDown lt (b - a) a m dk, rfl, rfl, by omega, by rw [size_siftDown lt (b - a) a _ m dk (Nat.le_refl _)]; exact hds, hR.on hR2 (size_siftDown lt (b - a) a _ m dk (Nat.le_refl _)), HE.out⟩
      case measure => simp [intOf] <;> omega
    | zero =>
      obtain rfl : i = -1 := by have := HI.out; omega
      clear HI
      go_wp2
      have HE2 : Hid (dk = heapBuild lt (b - a) a ((b - a - 1) / 2 + 1) d) := HE.out
      obtain ⟨D, hD⟩ : ∃ D, D = dk := ⟨_, rfl⟩
      have HD := Lib.hid hD
      go_loopw [10] (fun v wr => ∃ (kk : Nat) (i : Int) (dk2 : Array α), v = .int .i64 i ∧ Hid (i = (kk : Int) - 1) ∧ kk ≤ b - a ∧ dk2.size = n ∧ RowIn enc k blk off (w.alloc (.cells #[.func (.func g) #[] lb, .func (.func sf) #[] sb] 283)) dk2 wr ∧
          Hid (heapPop lt a kk dk2 = heapPop lt a (b - a) dk)) (fun v _ => (intOf v + 1).toNat)
      case atStart => exact ⟨b - a, _, dk, rfl, by show _ = _; omega, Nat.le_refl _, hds, hR, rfl⟩
      case round =>
        clear c0 c1 hR
        obtain ⟨kk, i, dk2, rfl, HI, hkk2, hds2, hR, HE3⟩ := hrel
        obtain ⟨c0, c1⟩ := hR.boxed hblk
        cases kk with
        | succ m =>
          obtain rfl : i = (m : Int) := by have := HI.out; omega
          clear HI
          obtain ⟨w4, hrun, hR4⟩ := S1.swapAt hR hds2 a (a + m) (a : Int) ((a : Int) + (m : Int)) rfl (by omega) (by omega) (by omega)
          obtain ⟨c04, c14⟩ := hR4.boxed hblk
          have hs4 : (swp dk2 a (a + m)).size = n := by rw [size_swp]; exact hds2
          have CS := Lib.hid (siftDown_g (S1.to hR4 hs4) 0 m a (0 : Int) ((m : Int)) (a : Int) rfl rfl rfl (by omega) (by omega))
          go_wp2_with (refine CS.out.mono ?_; rintro e w2 ⟨rfl, hR2⟩)
          go_roundw
          case rel => exact ⟨m, _, siftDown lt m a 0 (swp dk2 a (a + m)), rfl, rfl, by omega, by rw [size_siftDown lt m a _ 0 _ (Nat.le_refl _)]; exact hs4, hR4.on hR2 (size_siftDown lt m a _ 0 _ (Nat.le_refl _)), HE3.out⟩
          case measure => simp [intOf] <;> omega
        | zero =>
          obtain rfl : i = -1 := by have := HI.out; omega
          clear HI
          go_wp2
          go_end0
          refine ⟨rfl, ?_⟩
          unfold Go.Sort.heapSort
          rw [← HE2.out, ← HE3.out]
          exact hR.box hblk

end Go.Proofs.Ytmljdjakbbedlaa

namespace Go.Proofs.Ytmljdjakbbedlaa
open Go.ChangeShapes Go.WideShapes Go.ChangeAt Go.RowKit
open Go.Sort (swp size_swp PermIn SortedIn SWO putRowK HoldsK scanUp scanDown partLoop partEqLoop)

variable {α : Type} [Inhabited α] {enc : α → List Value} {k blk off : Nat} {lt : α → α → Bool} {g : Nat} {lb : Array Value} {sf : Nat} {sb : Array Value} {n : Nat} {w : World} {d : Array α}

set_option maxHeartbeats 4000000 in
set_option maxRecDepth 100000 in
theorem partition_g (S : Srt Try.prog enc k blk off lt g lb sf sb n w d) (a b pivot : Nat) (hap : a ≤ pivot) (hpb : pivot < b) (hb : b ≤ n) :
    Calls Try.prog 206 #[.agg #[.func (.func g) #[] lb, .func (.func sf) #[] sb], .int .i64 a, .int .i64 b, .int .i64 pivot] w fun e w' =>
      ∃ mid ap d', Go.Sort.partition lt d a b pivot = (mid, ap, d') ∧ e = .returned (.tuple #[.int .i64 (mid : Nat), .bool ap]) ∧ RowIn enc k blk off w d' w' := by
  obtain ⟨post, hpost⟩ : ∃ post : Ending → World → Prop, (fun e w' => ∃ mid ap d', Go.Sort.partition lt d a b pivot = (mid, ap, d') ∧ e = .returned (.tuple #[.int .i64 (mid : Nat), .bool ap]) ∧ RowIn enc k blk off w d' w') = post := ⟨_, rfl⟩
  rw [hpost]
  have HPO := Lib.hid hpost
  clear hpost
  have S1 := S.box (.cells #[.func (.func g) #[] lb, .func (.func sf) #[] sb] 283)
  have eg := S.eg
  have hblk := S.lt'
  have hn := S.small
  have hsd := S.sz
  obtain ⟨wA, hrunA, hRA⟩ := S1.swapAt S1.start hsd a pivot (a : Int) (pivot : Int) rfl rfl (by omega) (by omega)
  have hdA : (swp d a pivot).size = n := by rw [size_swp]; exact hsd
  obtain ⟨D, hD⟩ : ∃ D, D = swp d a pivot := ⟨_, rfl⟩
  rw [← hD] at hRA hdA
  have HD := Lib.hid hD
  clear hD
  go_enter Try.func206, Try.ntmps206
  go_upto_block 0 with fail
  go_cut [10] from 21 (fun s wc => ∃ q : Nat, s = .int .i64 q ∧ Hid (q = scanUp (fun x => lt x D[a]!) D ((b - 1)) ((a + 1))) ∧ ((a + 1) ≤ q ∧ q ≤ ((b - 1)) + 1) ∧ RowIn enc k blk off (w.alloc (.cells #[.func (.func g) #[] lb, .func (.func sf) #[] sb] 283)) D wc)
  case first =>
    go_wp2_with fail
    go_loopw [10] (fun v wr => ∃ q : Nat, v = .int .i64 q ∧ ((a + 1) ≤ q ∧ q ≤ ((b - 1)) + 1) ∧ RowIn enc k blk off (w.alloc (.cells #[.func (.func g) #[] lb, .func (.func sf) #[] sb] 283)) D wr ∧ Hid (scanUp (fun x => lt x D[a]!) D ((b - 1)) (q) = scanUp (fun x => lt x D[a]!) D ((b - 1)) ((a + 1)))) (fun v _ => ((b - 1)) + 1 - (intOf v).toNat)
    case atStart => exact ⟨(a + 1), by first | rfl | go_num, by omega, hRA, rfl⟩
    case round =>
      obtain ⟨q, rfl, ⟨h1, h2⟩, hR1, HE⟩ := hrel
      obtain ⟨c0, c1⟩ := hR1.boxed hblk
      by_cases hle : q ≤ (b - 1)
      · have hlez : (q : Int) ≤ (b : Int) - 1 := by omega
        have hl := S1.lessAt hR1 hdA (q) (a) ((q : Nat) : Int) ((a : Nat) : Int) rfl rfl (by omega) (by omega)
        cases hv : lt D[q]! D[a]! with
        | true =>
          rw [hv] at hl
          go_wp2_with fail
          go_at_fn g
          refine hl.mono ?_
          rintro e w2 ⟨rfl, hb2⟩
          have hR2 := hR1.step hb2
          clear hb2
          go_wp2
          go_roundw
          case rel => exact ⟨q + 1, by go_num, by omega, hR2, by show _ = _; rw [← HE.out]; exact (scanUp_go (fun x => lt x D[a]!) D ((b - 1)) q hle (by simp [hv])).symm⟩
          case measure => simp [intOf] <;> omega
        | false =>
          rw [hv] at hl
          go_wp2_with fail
          go_at_fn g
          refine hl.mono ?_
          rintro e w2 ⟨rfl, hb2⟩
          have hR2 := hR1.step hb2
          clear hb2
          go_wp2
          go_meet
          case rel => exact ⟨q, rfl, by show _ = _; rw [← HE.out]; exact (scanUp_end (fun x => lt x D[a]!) D ((b - 1)) q (Or.inr (by simp [hv]))).symm, by omega, hR2⟩
      · have hlez : ¬ ((q : Int) ≤ (b : Int) - 1) := by omega
        go_wp2
        go_meet
        case rel => exact ⟨q, rfl, by show _ = _; rw [← HE.out]; exact (scanUp_end (fun x => lt x D[a]!) D ((b - 1)) q (Or.inl hle)).symm, by omega, hR1⟩
  case rest =>
    obtain ⟨i1, rfl, Hi1, ⟨i11, i12⟩, hRi1⟩ := hcut

    go_upto_block 2 with fail
    go_cut [11] from 33 (fun s wc => ∃ q : Nat, s = .int .i64 q ∧ Hid (q = scanDown (fun x => !lt x D[a]!) D (i1) ((b - 1))) ∧ (q ≤ (b - 1) ∧ i1 ≤ q + 1) ∧ RowIn enc k blk off (w.alloc (.cells #[.func (.func g) #[] lb, .func (.func sf) #[] sb] 283)) D wc)
    case first =>
      go_wp2_with fail
      go_loopw [11] (fun v wr => ∃ q : Nat, v = .int .i64 q ∧ (q ≤ (b - 1) ∧ i1 ≤ q + 1) ∧ RowIn enc k blk off (w.alloc (.cells #[.func (.func g) #[] lb, .func (.func sf) #[] sb] 283)) D wr ∧ Hid (scanDown (fun x => !lt x D[a]!) D (i1) (q) = scanDown (fun x => !lt x D[a]!) D (i1) ((b - 1)))) (fun v _ => (intOf v).toNat)
      case atStart => exact ⟨(b - 1), by first | rfl | go_num, by omega, hRi1, rfl⟩
      case round =>
        obtain ⟨q, rfl, ⟨h1, h2⟩, hR1, HE⟩ := hrel
        obtain ⟨c0, c1⟩ := hR1.boxed hblk
        by_cases hle : i1 ≤ q
        · have hlez : (i1 : Int) ≤ (q : Int) := by omega
          have hl := S1.lessAt hR1 hdA (q) (a) ((q : Nat) : Int) ((a : Nat) : Int) rfl rfl (by omega) (by omega)
          cases hv : lt D[q]! D[a]! with
          | false =>
            rw [hv] at hl
            go_wp2_with fail
            go_at_fn g
            refine hl.mono ?_
            rintro e w2 ⟨rfl, hb2⟩
            have hR2 := hR1.step hb2
            clear hb2
            go_wp2
            go_roundw
            case rel => exact ⟨q - 1, by go_num, by omega, hR2, by show _ = _; rw [← HE.out]; exact (scanDown_go (fun x => !lt x D[a]!) D (i1) q hle (by omega) (by simp [hv])).symm⟩
            case measure => simp [intOf] <;> omega
          | true =>
            rw [hv] at hl
            go_wp2_with fail
            go_at_fn g
            refine hl.mono ?_
            rintro e w2 ⟨rfl, hb2⟩
            have hR2 := hR1.step hb2
            clear hb2
            go_wp2
            go_meet
            case rel => exact ⟨q, rfl, by show _ = _; rw [← HE.out]; exact (scanDown_end (fun x => !lt x D[a]!) D (i1) q (Or.inr (by simp [hv]))).symm, by omega, hR2⟩
        · have hlez : ¬ ((i1 : Int) ≤ (q : Int)) := by omega
          go_wp2
          go_meet
          case rel => exact ⟨q, rfl, by show _ = _; rw [← HE.out]; exact (scanDown_end (fun x => !lt x D[a]!) D (i1) q (Or.inl hle)).symm, by omega, hR1⟩
    case rest =>
      obtain ⟨j1, rfl, Hj1, ⟨j11, j12⟩, hRj1⟩ := hcut

      obtain ⟨c0, c1⟩ := hRj1.boxed hblk
      by_cases hgt0 : j1 < i1
      · have hgtz : (j1 : Int) < (i1 : Int) := by omega
        obtain ⟨w5, hrun5, hR5⟩ := S1.swapAt hRj1 hdA j1 a (j1 : Int) (a : Int) rfl rfl (by omega) (by omega)
        go_wp2
        rw [← HPO.out]
        exact ⟨j1, true, swp D j1 a, part_first_break lt d a b pivot rfl rfl HD.out Hi1.out Hj1.out hgt0, rfl, hR5.box hblk⟩
      · have hgtz : ¬ ((j1 : Int) < (i1 : Int)) := by omega
        have hlt0 := part_scans_lt lt a (a + 1) (b - 1) D (by omega) Hi1.out Hj1.out (by omega)
        have PF := Lib.hid (part_first_go lt d a b pivot rfl rfl HD.out Hi1.out Hj1.out (by omega))
        obtain ⟨w5, hrun5, hR5⟩ := S1.swapAt hRj1 hdA i1 j1 (i1 : Int) (j1 : Int) rfl rfl (by omega) (by omega)
        have hd5 : (swp D i1 j1).size = n := by rw [size_swp]; exact hdA
        go_wp2
        clear c0 c1 hrun5
        go_loopw [10, 11] (fun s t wr => ∃ (i j : Nat) (dk : Array α), s = .int .i64 i ∧ t = .int .i64 j ∧ a < i ∧ i ≤ j + 1 ∧ j < b ∧ dk.size = n ∧ RowIn enc k blk off (w.alloc (.cells #[.func (.func g) #[] lb, .func (.func sf) #[] sb] 283)) dk wr ∧ Hid (partLoop lt a i j dk = partLoop lt a (i1 + 1) (j1 - 1) (swp D i1 j1))) (fun s t _ => (intOf t).toNat + 1 - (intOf s).toNat)
        case atStart => exact ⟨i1 + 1, j1 - 1, swp D i1 j1, by go_num, by go_num, by omega, by omega, by omega, hd5, hR5, rfl⟩
        case round =>
          obtain ⟨i, j, dk, rfl, rfl, hai, hij, hjb, hds, hR, HE⟩ := hrel
          clear hR5 hRj1 hRi1 hRA
          go_upto_block 6 with fail
          go_cut [10] from 64 to 75 (fun s wc => ∃ q : Nat, s = .int .i64 q ∧ Hid (q = scanUp (fun x => lt x dk[a]!) dk (j) (i)) ∧ (i ≤ q ∧ q ≤ (j) + 1) ∧ RowIn enc k blk off (w.alloc (.cells #[.func (.func g) #[] lb, .func (.func sf) #[] sb] 283)) dk wc)
          case first =>
            go_wp2_with fail
            go_loopw [10] (fun v wr => ∃ q : Nat, v = .int .i64 q ∧ (i ≤ q ∧ q ≤ (j) + 1) ∧ RowIn enc k blk off (w.alloc (.cells #[.func (.func g) #[] lb, .func (.func sf) #[] sb] 283)) dk wr ∧ Hid (scanUp (fun x => lt x dk[a]!) dk (j) (q) = scanUp (fun x => lt x dk[a]!) dk (j) (i))) (fun v _ => (j) + 1 - (intOf v).toNat)
            case atStart => exact ⟨i, by first | rfl | go_num, by omega, hR, rfl⟩
            case round =>
              obtain ⟨q, rfl, ⟨h1, h2⟩, hR1, HE⟩ := hrel
              obtain ⟨c0, c1⟩ := hR1.boxed hblk
              by_cases hle : q ≤ j
              · have hlez : (q : Int) ≤ (j : Int) := by omega
                have hl := S1.lessAt hR1 hds (q) (a) ((q : Nat) : Int) ((a : Nat) : Int) rfl rfl (by omega) (by omega)
                cases hv : lt dk[q]! dk[a]! with
                | true =>
                  rw [hv] at hl
                  go_wp2_with fail
                  go_at_fn g
                  refine hl.mono ?_
                  rintro e w2 ⟨rfl, hb2⟩
                  have hR2 := hR1.step hb2
                  clear hb2
                  go_wp2
                  go_roundw
                  case rel => exact ⟨q + 1, by go_num, by omega, hR2, by show _ = _; rw [← HE.out]; exact (scanUp_go (fun x => lt x dk[a]!) dk (j) q hle (by simp [hv])).symm⟩
                  case measure => simp [intOf] <;> omega
                | false =>
                  rw [hv] at hl
                  go_wp2_with fail
                  go_at_fn g
                  refine hl.mono ?_
                  rintro e w2 ⟨rfl, hb2⟩
                  have hR2 := hR1.step hb2
                  clear hb2
                  go_wp2
                  go_meet
                  case rel => exact ⟨q, rfl, by show _ = _; rw [← HE.out]; exact (scanUp_end (fun x => lt x dk[a]!) dk (j) q (Or.inr (by simp [hv]))).symm, by omega, hR2⟩
              · have hlez : ¬ ((q : Int) ≤ (j : Int)) := by omega
                go_wp2
                go_meet
                case rel => exact ⟨q, rfl, by show _ = _; rw [← HE.out]; exact (scanUp_end (fun x => lt x dk[a]!) dk (j) q (Or.inl hle)).symm, by omega, hR1⟩
          case rest =>
            obtain ⟨i2, rfl, Hi2, ⟨i21, i22⟩, hRi2⟩ := hcut
            go_upto_block 8 with fail
            go_cut [11] from 76 to 88 (fun s wc => ∃ q : Nat, s = .int .i64 q ∧ Hid (q = scanDown (fun x => !lt x dk[a]!) dk (i2) (j)) ∧ (q ≤ j ∧ i2 ≤ q + 1) ∧ RowIn enc k blk off (w.alloc (.cells #[.func (.func g) #[] lb, .func (.func sf) #[] sb] 283)) dk wc)
            case first =>
              go_wp2_with fail
              go_loopw [11] (fun v wr => ∃ q : Nat, v = .int .i64 q ∧ (q ≤ j ∧ i2 ≤ q + 1) ∧ RowIn enc k blk off (w.alloc (.cells #[.func (.func g) #[] lb, .func (.func sf) #[] sb] 283)) dk wr ∧ Hid (scanDown (fun x => !lt x dk[a]!) dk (i2) (q) = scanDown (fun x => !lt x dk[a]!) dk (i2) (j))) (fun v _ => (intOf v).toNat)
              case atStart => exact ⟨j, by first | rfl | go_num, by omega, hRi2, rfl⟩
              case round =>
                obtain ⟨q, rfl, ⟨h1, h2⟩, hR1, HE⟩ := hrel
                obtain ⟨c0, c1⟩ := hR1.boxed hblk
                by_cases hle : i2 ≤ q
                · have hlez : (i2 : Int) ≤ (q : Int) := by omega
                  have hl := S1.lessAt hR1 hds (q) (a) ((q : Nat) : Int) ((a : Nat) : Int) rfl rfl (by omega) (by omega)
                  cases hv : lt dk[q]! dk[a]! with
                  | false =>
                    rw [hv] at hl
                    go_wp2_with fail
                    go_at_fn g
                    refine hl.mono ?_
                    rintro e w2 ⟨rfl, hb2⟩
                    have hR2 := hR1.step hb2
                    clear hb2
                    go_wp2
                    go_roundw
                    case rel => exact ⟨q - 1, by go_num, by omega, hR2, by show _ = _; rw [← HE.out]; exact (scanDown_go (fun x => !lt x dk[a]!) dk (i2) q hle (by omega) (by simp [hv])).symm⟩
                    case measure => simp [intOf] <;> omega
                  | true =>
                    rw [hv] at hl
                    go_wp2_with fail
                    go_at_fn g
                    refine hl.mono ?_
                    rintro e w2 ⟨rfl, hb2⟩
                    have hR2 := hR1.step hb2
                    clear hb2
                    go_wp2
                    go_meet
                    case rel => exact ⟨q, rfl, by show _ = _; rw [← HE.out]; exact (scanDown_end (fun x => !lt x dk[a]!) dk (i2) q (Or.inr (by simp [hv]))).symm, by omega, hR2⟩
                · have hlez : ¬ ((i2 : Int) ≤ (q : Int)) := by omega
                  go_wp2
                  go_meet
                  case rel => exact ⟨q, rfl, by show _ = _; rw [← HE.out]; exact (scanDown_end (fun x => !lt x dk[a]!) dk (i2) q (Or.inl hle)).symm, by omega, hR1⟩
            case rest =>
              obtain ⟨j2, rfl, Hj2, ⟨j21, j22⟩, hRj2⟩ := hcut
              obtain ⟨c0, c1⟩ := hRj2.boxed hblk
              by_cases hgt : j2 < i2
              · have hgtz : (j2 : Int) < (i2 : Int) := by omega
                obtain ⟨w6, hrun6, hR6⟩ := S1.swapAt hRj2 hds j2 a (j2 : Int) (a : Int) rfl rfl (by omega) (by omega)
                go_wp2
                rw [← HPO.out]
                have e := part_break lt a i j dk Hi2.out Hj2.out hgt
                refine ⟨j2, false, swp dk j2 a, ?_, rfl, hR6.box hblk⟩
                rw [PF.out, ← HE.out, e]
              · have hgtz : ¬ ((j2 : Int) < (i2 : Int)) := by omega
                have hlt3 := part_scans_lt lt a i j dk (by omega) Hi2.out Hj2.out (by omega)
                obtain ⟨w6, hrun6, hR6⟩ := S1.swapAt hRj2 hds i2 j2 (i2 : Int) (j2 : Int) rfl rfl (by omega) (by omega)
                go_wp2
                go_roundw
                case rel => exact ⟨i2 + 1, j2 - 1, swp dk i2 j2, by go_num, by go_num, by omega, by omega, by omega, by rw [size_swp]; exact hds, hR6, by show _ = _; rw [← HE.out]; exact (part_go lt a i j dk Hi2.out Hj2.out (by omega)).symm⟩
                case measure => simp [intOf] <;> omega


set_option maxHeartbeats 4000000 in
set_option maxRecDepth 100000 in
theorem partitionEqual_g (S : Srt Try.prog enc k blk off lt g lb sf sb n w d) (a b pivot : Nat) (hap : a ≤ pivot) (hpb : pivot < b) (hb : b ≤ n) :
    Calls Try.prog 205 #[.agg #[.func (.func g) #[] lb, .func (.func sf) #[] sb], .int .i64 a, .int .i64 b, .int .i64 pivot] w fun e w' =>
      ∃ mid d', Go.Sort.partitionEqual lt d a b pivot = (mid, d') ∧ e = .returned (.int .i64 (mid : Nat)) ∧ RowIn enc k blk off w d' w' := by
  obtain ⟨post, hpost⟩ : ∃ post : Ending → World → Prop, (fun e w' => ∃ mid d', Go.Sort.partitionEqual lt d a b pivot = (mid, d') ∧ e = .returned (.int .i64 (mid : Nat)) ∧ RowIn enc k blk off w d' w') = post := ⟨_, rfl⟩
  rw [hpost]
  have HPO := Lib.hid hpost
  clear hpost
  have S1 := S.box (.cells #[.func (.func g) #[] lb, .func (.func sf) #[] sb] 283)
  have eg := S.eg
  have hblk := S.lt'
  have hn := S.small
  have hsd := S.sz
  obtain ⟨wA, hrunA, hRA⟩ := S1.swapAt S1.start hsd a pivot (a : Int) (pivot : Int) rfl rfl (by omega) (by omega)
  have hdA : (swp d a pivot).size = n := by rw [size_swp]; exact hsd
  have PF : Hid (Go.Sort.partitionEqual lt d a b pivot = partEqLoop lt a (a + 1) (b - 1) (swp d a pivot)) := rfl
  obtain ⟨D, hD⟩ : ∃ D, D = swp d a pivot := ⟨_, rfl⟩
  rw [← hD] at hRA hdA PF
  have HD := Lib.hid hD
  clear hD
  go_enter Try.func205, Try.ntmps205
  go_wp2
  clear hrunA
  go_loopw [9, 10] (fun s t wr => ∃ (i j : Nat) (dk : Array α), s = .int .i64 i ∧ t = .int .i64 j ∧ a < i ∧ i ≤ j + 1 ∧ j < b ∧ dk.size = n ∧ RowIn enc k blk off (w.alloc (.cells #[.func (.func g) #[] lb, .func (.func sf) #[] sb] 283)) dk wr ∧ Hid (partEqLoop lt a i j dk = partEqLoop lt a (a + 1) (b - 1) D)) (fun s t _ => (intOf t).toNat + 1 - (intOf s).toNat)
  case atStart => exact ⟨a + 1, b - 1, D, by go_num, by go_num, by omega, by omega, by omega, hdA, hRA, rfl⟩
  case round =>
    obtain ⟨i, j, dk, rfl, rfl, hai, hij, hjb, hds, hR, HE⟩ := hrel
    clear hRA
    go_upto_block 2 with fail
    go_cut [9] from 20 to 32 (fun s wc => ∃ q : Nat, s = .int .i64 q ∧ Hid (q = scanUp (fun x => !lt dk[a]! x) dk (j) (i)) ∧ (i ≤ q ∧ q ≤ (j) + 1) ∧ RowIn enc k blk off (w.alloc (.cells #[.func (.func g) #[] lb, .func (.func sf) #[] sb] 283)) dk wc)
    case first =>
      go_wp2_with fail
      go_loopw [9] (fun v wr => ∃ q : Nat, v = .int .i64 q ∧ (i ≤ q ∧ q ≤ (j) + 1) ∧ RowIn enc k blk off (w.alloc (.cells #[.func (.func g) #[] lb, .func (.func sf) #[] sb] 283)) dk wr ∧ Hid (scanUp (fun x => !lt dk[a]! x) dk (j) (q) = scanUp (fun x => !lt dk[a]! x) dk (j) (i))) (fun v _ => (j) + 1 - (intOf v).toNat)
      case atStart => exact ⟨i, by first | rfl | go_num, by omega, hR, rfl⟩
      case round =>
        obtain ⟨q, rfl, ⟨h1, h2⟩, hR1, HE⟩ := hrel
        obtain ⟨c0, c1⟩ := hR1.boxed hblk
        by_cases hle : q ≤ j
        · have hlez : (q : Int) ≤ (j : Int) := by omega
          have hl := S1.lessAt hR1 hds (a) (q) ((a : Nat) : Int) ((q : Nat) : Int) rfl rfl (by omega) (by omega)
          cases hv : lt dk[a]! dk[q]! with
          | false =>
            rw [hv] at hl
            go_wp2_with fail
            go_at_fn g
            refine hl.mono ?_
            rintro e w2 ⟨rfl, hb2⟩
            have hR2 := hR1.step hb2
            clear hb2
            go_wp2
            go_roundw
            case rel => exact ⟨q + 1, by go_num, by omega, hR2, by show _ = _; rw [← HE.out]; exact (scanUp_go (fun x => !lt dk[a]! x) dk (j) q hle (by simp [hv])).symm⟩
            case measure => simp [intOf] <;> omega
          | true =>
            rw [hv] at hl
            go_wp2_with fail
            go_at_fn g
            refine hl.mono ?_
            rintro e w2 ⟨rfl, hb2⟩
            have hR2 := hR1.step hb2
            clear hb2
            go_wp2
            go_meet
            case rel => exact ⟨q, rfl, by show _ = _; rw [← HE.out]; exact (scanUp_end (fun x => !lt dk[a]! x) dk (j) q (Or.inr (by simp [hv]))).symm, by omega, hR2⟩
        · have hlez : ¬ ((q : Int) ≤ (j : Int)) := by omega
          go_wp2
          go_meet
          case rel => exact ⟨q, rfl, by show _ = _; rw [← HE.out]; exact (scanUp_end (fun x => !lt dk[a]! x) dk (j) q (Or.inl hle)).symm, by omega, hR1⟩
    case rest =>
      obtain ⟨i2, rfl, Hi2, ⟨i21, i22⟩, hRi2⟩ := hcut
      go_upto_block 4 with fail
      go_cut [10] from 33 to 44 (fun s wc => ∃ q : Nat, s = .int .i64 q ∧ Hid (q = scanDown (fun x => lt dk[a]! x) dk (i2) (j)) ∧ (q ≤ j ∧ i2 ≤ q + 1) ∧ RowIn enc k blk off (w.alloc (.cells #[.func (.func g) #[] lb, .func (.func sf) #[] sb] 283)) dk wc)
      case first =>
        go_wp2_with fail
        go_loopw [10] (fun v wr => ∃ q : Nat, v = .int .i64 q ∧ (q ≤ j ∧ i2 ≤ q + 1) ∧ RowIn enc k blk off (w.alloc (.cells #[.func (.func g) #[] lb, .func (.func sf) #[] sb] 283)) dk wr ∧ Hid (scanDown (fun x => lt dk[a]! x) dk (i2) (q) = scanDown (fun x => lt dk[a]! x) dk (i2) (j))) (fun v _ => (intOf v).toNat)
        case atStart => exact ⟨j, by first | rfl | go_num, by omega, hRi2, rfl⟩
        case round =>
          obtain ⟨q, rfl, ⟨h1, h2⟩, hR1, HE⟩ := hrel
          obtain ⟨c0, c1⟩ := hR1.boxed hblk
          by_cases hle : i2 ≤ q
          · have hlez : (i2 : Int) ≤ (q : Int) := by omega
            have hl := S1.lessAt hR1 hds (a) (q) ((a : Nat) : Int) ((q : Nat) : Int) rfl rfl (by omega) (by omega)
            cases hv : lt dk[a]! dk[q]! with
            | true =>
              rw [hv] at hl
              go_wp2_with fail
              go_at_fn g
              refine hl.mono ?_
              rintro e w2 ⟨rfl, hb2⟩
              have hR2 := hR1.step hb2
              clear hb2
              go_wp2
              go_roundw
              case rel => exact ⟨q - 1, by go_num, by omega, hR2, by show _ = _; rw [← HE.out]; exact (scanDown_go (fun x => lt dk[a]! x) dk (i2) q hle (by omega) (by simp [hv])).symm⟩
              case measure => simp [intOf] <;> omega
            | false =>
              rw [hv] at hl
              go_wp2_with fail
              go_at_fn g
              refine hl.mono ?_
              rintro e w2 ⟨rfl, hb2⟩
              have hR2 := hR1.step hb2
              clear hb2
              go_wp2
              go_meet
              case rel => exact ⟨q, rfl, by show _ = _; rw [← HE.out]; exact (scanDown_end (fun x => lt dk[a]! x) dk (i2) q (Or.inr (by simp [hv]))).symm, by omega, hR2⟩
          · have hlez : ¬ ((i2 : Int) ≤ (q : Int)) := by omega
            go_wp2
            go_meet
            case rel => exact ⟨q, rfl, by show _ = _; rw [← HE.out]; exact (scanDown_end (fun x => lt dk[a]! x) dk (i2) q (Or.inl hle)).symm, by omega, hR1⟩
      case rest =>
        obtain ⟨j2, rfl, Hj2, ⟨j21, j22⟩, hRj2⟩ := hcut
        obtain ⟨c0, c1⟩ := hRj2.boxed hblk
        by_cases hgt : j2 < i2
        · have hgtz : (j2 : Int) < (i2 : Int) := by omega
          go_wp2
          rw [← HPO.out]
          have e := partEq_break lt a i j dk Hi2.out Hj2.out hgt
          refine ⟨i2, dk, ?_, rfl, hRj2.box hblk⟩
          rw [PF.out, ← HE.out, e]
        · have hgtz : ¬ ((j2 : Int) < (i2 : Int)) := by omega
          have hlt3 := scans_lt lt a i j dk (by omega) Hi2.out Hj2.out (by omega)
          obtain ⟨w6, hrun6, hR6⟩ := S1.swapAt hRj2 hds i2 j2 (i2 : Int) (j2 : Int) rfl rfl (by omega) (by omega)
          go_wp2
          go_roundw
          case rel => exact ⟨i2 + 1, j2 - 1, swp dk i2 j2, by go_num, by go_num, by omega, by omega, by omega, by rw [size_swp]; exact hds, hR6, by show _ = _; rw [← HE.out]; exact (partEq_go lt a i j dk Hi2.out Hj2.out (by omega)).symm⟩
          case measure => simp [intOf] <;> omega


end Go.Proofs.Ytmljdjakbbedlaa
