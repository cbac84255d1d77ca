/-
  
  
  
  
  
  
  
  
  
  
-/
import Derived.Test.YtmljdjakbbedlaaC4
import Derived.Test.YtmljdjakbbedlaaC5
import Derived.Test.YtmljdjakbbedlaaC3
import Derived.Test.YtmljdjakbbedlaaC2
import Derived.ArgAppend
import Derived.Lib.SlBytesConst
import Derived.Test.YtmljdjakbbedlaaChecked
import Derived.RangeFuncNested
import Derived.RangeFuncBox
import Derived.RangeFuncBound
import Derived.RangeFuncCalls
import Derived.RangeFuncLeaves
import Derived.Shelf.Abstract
import Derived.WalkKit
import Derived.OwnWalkIn
import Derived.TacticsInMore
import Derived.LoopNIn
import Derived.LoopIn
import Derived.Stop.RegionWithIn
import Derived.Sort.CutIn
import Derived.Sort.QuietIn
import Derived.Outline
namespace Go.Proofs.Ytmljdjakbbedlaa
open Go.ChangeShapes Go.WideShapes Go.ChangeAt Go.RowKit

theorem infoRouteP : (Try.prog.info? 48).map (fun i => (i.zero, i.size, i.bytes)) = some (some (.agg #[.bool false, .int .u64 0, .int .u64 0, .int .i64 0, .int .i64 0]), 5, 40) := by kernel_rfl
def OwnRs (w : World) (base : Nat) (v : Value) (L : List RouteV) : Prop := w.ownsRow base 48 5 v L.length (L.flatMap RouteV.cells)
theorem routes_flat_len (q : List RouteV) : (q.flatMap RouteV.cells).length = q.length * 5 := by
  induction q with
  | nil => rfl
  | cons x q ih => simp [List.flatMap_cons, ih, RouteV.cells]; omega
theorem rts_one (l : List RouteV) : ∀ u ∈ l.flatMap RouteV.cells, u.oneCell' = true := by
  intro u hu
  obtain ⟨a, _, ha⟩ := List.mem_flatMap.1 hu
  simp [RouteV.cells] at ha
  rcases ha with rfl | rfl | rfl | rfl | rfl <;> rfl
theorem rflat_drop (q : List RouteV) {z : Nat} (hz : z ≤ q.length) : (q.flatMap RouteV.cells).drop (z * 5) = (q.drop z).flatMap RouteV.cells := by
  have e : q.flatMap RouteV.cells = (q.take z).flatMap RouteV.cells ++ (q.drop z).flatMap RouteV.cells := by rw [← List.flatMap_append, List.take_append_drop]
  have hl : ((q.take z).flatMap RouteV.cells).length = z * 5 := by rw [routes_flat_len, List.length_take, Nat.min_eq_left hz]
  rw [e, ← hl, List.drop_left]
theorem rset_flat {q : List RouteV} {u : Nat} {a : RouteV} (hu : u < q.length) : (q.set u a).flatMap RouteV.cells = ((q.take u).flatMap RouteV.cells ++ a.cells) ++ (q.drop (u + 1)).flatMap RouteV.cells := by
  rw [List.set_eq_take_append_cons_drop, if_pos hu, List.flatMap_append, List.flatMap_cons, List.append_assoc]
/-- A row of routes of the call's own that is not empty: its place, its cells. -/
theorem OwnRs.form {w : World} {base : Nat} {v : Value} {L : List RouteV} (h : OwnRs w base v L) (h0 : 0 < L.length) :
    ∃ g c cur, v = .slice (some ⟨g, 0, none⟩) L.length c ∧ base ≤ g ∧ Blk w g 48 cur ∧ L.length ≤ c ∧ c ≤ maxLen ∧ cur.size = c * 5 ∧ cur.toList.take (L.length * 5) = L.flatMap RouteV.cells := by
  rcases h.2 with ⟨_, hz⟩ | ⟨g, cap, cur, hv, hg, hh, hn, hc, hs, ht⟩
  · omega
  · exact ⟨g, cap, cur, hv, hg, hh, hn, hc, hs, ht⟩
theorem OwnRs.at_ {w : World} {base : Nat} {L : List RouteV} {g c : Nat} (h : OwnRs w base (.slice (some ⟨g, 0, none⟩) L.length c) L) {t : Nat} {x : RouteV} (hx : L[t]? = some x) :
    (w.cell? ⟨g, t * 5, none⟩ = some (.bool x.p.six) ∧ w.cell? ⟨g, t * 5 + 1, none⟩ = some (.int .u64 x.p.hi) ∧ w.cell? ⟨g, t * 5 + 2, none⟩ = some (.int .u64 x.p.lo) ∧ w.cell? ⟨g, t * 5 + 3, none⟩ = some (.int .i64 x.p.n) ∧ w.cell? ⟨g, t * 5 + 4, none⟩ = some (.int .i64 x.hop)) ∧ g < w.heap.size ∧ base ≤ g := by
  have ht := (List.getElem?_eq_some_iff.1 hx).1
  obtain ⟨g', c', cur, hv, hg, hb, hn, hc, hs, hcur⟩ := h.form (by omega)
  injection hv with h0 _ _
  injection h0 with h0
  injection h0 with h0
  subst h0
  have hc5 : ∀ j u, x.cells[j]? = some u → w.cell? ⟨g, t * 5 + j, none⟩ = some u := by
    intro j u hj
    rw [hb.cell]
    have hfl := flat_at (f := RouteV.cells) RouteV.cells_length L t x j u hx hj
    have hjl : j < 5 := (List.getElem?_eq_some_iff.1 hj).1
    rw [← hcur, List.getElem?_take, if_pos (by omega)] at hfl
    rw [← Array.getElem?_toList]
    exact hfl
  exact ⟨⟨hc5 0 _ rfl, hc5 1 _ rfl, hc5 2 _ rfl, hc5 3 _ rfl, hc5 4 _ rfl⟩, hb.lt, hg⟩
theorem OwnRs.free {w : World} {base : Nat} {L : List RouteV} {g c : Nat} (h : OwnRs w base (.slice (some ⟨g, 0, none⟩) L.length c) L) (h0 : 0 < L.length) (o : Nat) : w.frozen? ⟨g, o, none⟩ = false := by
  obtain ⟨g', c', cur, hv, hg, hb, _⟩ := h.form h0
  injection hv with h1 _ _
  injection h1 with h1
  injection h1 with h1
  subst h1
  exact hb.frozen o
theorem flat_set_hop {L : List RouteV} {u : Nat} {x : RouteV} (hx : L[u]? = some x) (hop : Int) : (L.flatMap RouteV.cells).set (u * 5 + 4) (.int .i64 hop) = (L.set u ⟨x.p, hop⟩).flatMap RouteV.cells := by
  have hu := (List.getElem?_eq_some_iff.1 hx).1
  have e : L.flatMap RouteV.cells = (L.take u).flatMap RouteV.cells ++ (x.cells ++ (L.drop (u + 1)).flatMap RouteV.cells) := by
    have : L = L.take u ++ x :: L.drop (u + 1) := by
      have h1 := List.take_append_drop u L
      have h2 : L.drop u = x :: L.drop (u + 1) := by
        rw [List.drop_eq_getElem_cons hu]
        congr 1
        have := (List.getElem?_eq_some_iff.1 hx).2
        exact this
      rw [← h2, h1]
    conv => lhs; rw [this]
    rw [List.flatMap_append, List.flatMap_cons]
  have hl : ((L.take u).flatMap RouteV.cells).length = u * 5 := by rw [routes_flat_len, List.length_take, Nat.min_eq_left (by omega)]
  rw [rset_flat hu, e, List.set_append_right _ _ (by omega), hl, show u * 5 + 4 - u * 5 = 4 by omega]
  rw [List.append_assoc]
  rfl
/-- The hop of a row's route is written. -/
theorem OwnRs.set_ {w : World} {base : Nat} {L : List RouteV} {g c : Nat} (h : OwnRs w base (.slice (some ⟨g, 0, none⟩) L.length c) L) {u : Nat} {x : RouteV} (hx : L[u]? = some x) (hop : Int) :
    OwnRs (w.setCell ⟨g, u * 5 + 4, none⟩ (.int .i64 hop)) base (.slice (some ⟨g, 0, none⟩) L.length c) (L.set u ⟨x.p, hop⟩) := by
  have hu := (List.getElem?_eq_some_iff.1 hx).1
  obtain ⟨g', c', cur, hv, hg, hb, hn, hc, hs, hcur⟩ := h.form (by omega)
  injection hv with h0 _ h2
  injection h0 with h0
  injection h0 with h0
  subst h0 h2
  unfold OwnRs
  rw [List.length_set]
  refine ⟨by rw [routes_flat_len, List.length_set], .inr ⟨g, c, cur.setIfInBounds (u * 5 + 4) (.int .i64 hop), rfl, hg, hb.set_ _ _, hn, hc, by simpa using hs, ?_⟩⟩
  rw [Array.toList_setIfInBounds, List.take_set, hcur, flat_set_hop hx]
theorem OwnRs.below {w w' : World} {base : Nat} {v : Value} {L : List RouteV} (h : OwnRs w base v L) (hb : Below w.heap.size w w') : OwnRs w' base v L := own_below h hb
theorem own_blk_lt {w : World} {base size n : Nat} {e : TypeId} {v : Value} {xs : List Value} (h : w.ownsRow base e size v n xs) : ∀ b, v.ownBlock = some b → b < w.heap.size := by
  intro b hb
  rcases h.2 with ⟨rfl, _⟩ | ⟨g, cap, cur, rfl, _, hh, _⟩
  · simp [Value.ownBlock] at hb
  · simp [Value.ownBlock] at hb
    subst hb
    exact (Array.getElem?_eq_some_iff.1 hh).1
theorem Good.isRoutes {w : World} {base : Nat} {v : Value} {L : List RouteV} (h : OwnRs w base v L) (hv : Valid L) : ∃ A c, v = .slice A L.length c ∧ IsRoutes w A L.length c L := by
  obtain ⟨A, c, rfl, hc, hr⟩ := own_reads h
  refine ⟨A, c, rfl, rfl, hc, fun r hr' => ?_, hr⟩
  obtain ⟨h1, h2, h3⟩ := hv.1 r hr'
  have := h1.len
  have := wideI_le r.p.six
  exact ⟨h1.rhi, h1.rlo, by omega, by omega⟩

theorem own_base {w : World} {base size n : Nat} {e : TypeId} {v : Value} {xs : List Value} (h : w.ownsRow base e size v n xs) : ∀ b, v.ownBlock = some b → base ≤ b := by
  intro b hb
  rcases h.2 with ⟨rfl, _⟩ | ⟨g, cap, cur, rfl, hg, hh, _⟩
  · simp [Value.ownBlock] at hb
  · simp [Value.ownBlock] at hb
    subst hb
    exact hg
theorem sorted_strict {S : List OkR} (h : S.Pairwise (fun x y => ltR y x = false)) (hn : ((S.map (fun x => x.1)).map RouteV.p).Nodup) : (S.map (fun x => x.1)).Pairwise (fun x y => ltP x.p y.p) := by
  induction S with
  | nil => exact List.Pairwise.nil
  | cons x S ih =>
    rw [List.pairwise_cons] at h
    simp only [List.map_cons, List.nodup_cons] at hn
    rw [List.map_cons, List.pairwise_cons]
    refine ⟨fun y hy => ?_, ih h.2 hn.2⟩
    obtain ⟨z, hz, rfl⟩ := List.mem_map.1 hy
    have h1 := h.1 z hz
    rw [Bool.eq_false_iff, ne_eq, ltR_iff] at h1
    refine Classical.byContradiction fun hx => ?_
    have e := ltP_total x.2 z.2 hx h1
    exact hn.1 (List.mem_map.2 ⟨z.1, List.mem_map.2 ⟨z, hz, rfl⟩, e.symm⟩)


/-- The reference's sort at a row of routes of the call's own. -/
theorem sortRs_any {w : World} {base : Nat} {v : Value} {L : List RouteV} (h5 : OwnRs w base v L) (hG : GoodL L) :
    Calls Try.prog 92 #[v] w fun e w' => e = .returned (.tuple #[]) ∧ ∃ S, SortedOf L S ∧ OwnRs w' base v S ∧ w.grownBy w' v.ownBlock := by
  obtain ⟨S0, hS0⟩ : ∃ S0 : List OkR, S0.map (fun x => x.1) = L := by
    refine ⟨L.attach.map (fun x => ⟨x.1, (hG.1.1 x.1 x.2).1⟩), ?_⟩
    rw [List.map_map]
    exact List.attach_map_subtype_val _
  have hflat : ∀ S : List OkR, S.flatMap encR = (S.map (fun x => x.1)).flatMap RouteV.cells := fun S => by rw [List.flatMap_map]; rfl
  have hlen0 : S0.length = L.length := by rw [← hS0, List.length_map]
  have h5s : w.ownsRow base 48 5 v L.length (S0.flatMap encR) := by rw [hflat, hS0]; exact h5
  refine (sortRoutes_any h5s hlen0 (by have := hG.2; omega)).mono ?_
  rintro e W2 ⟨rfl, S, hperm, hpw, hown, hgr⟩
  have hlS : S.length = L.length := by rw [hperm.length_eq, hlen0]
  have hp : (S.map (fun x => x.1)).Perm L := by rw [← hS0]; exact hperm.map _
  refine ⟨rfl, S.map (fun x => x.1), ⟨hp, sorted_strict hpw ((hp.map RouteV.p).nodup_iff.2 hG.1.2)⟩, ?_, hgr⟩
  unfold OwnRs
  rw [List.length_map, hlS, ← hflat]
  exact hown
/-- append(nil, routes...). -/
theorem OwnRs.nil (w : World) (base : Nat) : OwnRs w base (.slice none 0 0) [] := World.ownsRow_nil _ _ _ _

end Go.Proofs.Ytmljdjakbbedlaa

namespace Go.Proofs.Ytmljdjakbbedlaa
open Go.ChangeShapes Go.WideShapes Go.ChangeAt Go.RowKit

/-- All blocks of one element type are kept. -/
def KeepT (t : TypeId) (w w' : World) : Prop := ∀ (g : Nat) (cs : Array Value), w.heap[g]? = some (Obj.cells cs t) → w'.heap[g]? = w.heap[g]?
theorem own_keepT {w w' : World} {base : Nat} {e : TypeId} {size : Nat} {v : Value} {n : Nat} {xs : List Value} (h : w.ownsRow base e size v n xs) (hk : KeepT e w w') : w'.ownsRow base e size v n xs :=
  ⟨h.1, h.2.imp id fun ⟨g, cap, cur, h1, h2, h3, h4⟩ => ⟨g, cap, cur, h1, h2, (hk g cur h3).trans h3, h4⟩⟩
theorem own_type {w : World} {base : Nat} {e : TypeId} {size : Nat} {v : Value} {n : Nat} {xs : List Value} (h : w.ownsRow base e size v n xs) {g : Nat} (hg : v.ownBlock = some g) : ∃ cs, w.heap[g]? = some (Obj.cells cs e) := by
  rcases h.2 with ⟨rfl, _⟩ | ⟨g', cap, cur, rfl, _, hh, _⟩
  · simp [Value.ownBlock] at hg
  · simp [Value.ownBlock] at hg
    subst hg
    exact ⟨cur, hh⟩
theorem KeepT.trans {t : TypeId} {w w1 w2 : World} (h : KeepT t w w1) (h' : KeepT t w1 w2) : KeepT t w w2 := fun g cs hg => (h' g cs ((h g cs hg).trans hg)).trans (h g cs hg)
theorem KeepT.alloc (t : TypeId) (w : World) (o : Obj) : KeepT t w (w.alloc o) := fun g _ hg => Below.heap_alloc w o g (Array.getElem?_eq_some_iff.1 hg).1
theorem KeepT.of_kept {t t' : TypeId} {w w' : World} {Q : Nat} {cs : Array Value} (h : Kept [Q] w w') (hq : Blk w Q t' cs) (hne : t ≠ t') : KeepT t w w' := fun g cs' hg =>
  h.block g (Array.getElem?_eq_some_iff.1 hg).1 (by
    intro hm
    simp at hm
    subst hm
    have e := hg.symm.trans hq
    injection e with e
    injection e with _ e
    exact hne e)
theorem KeepT.of_own {t e : TypeId} {w w' : World} {base size n : Nat} {v : Value} {xs : List Value} (h : ∀ k, k < w.heap.size → v.ownBlock ≠ some k → w'.heap[k]? = w.heap[k]?) (hv : w.ownsRow base e size v n xs) (hne : t ≠ e) : KeepT t w w' := fun g cs hg =>
  h g (Array.getElem?_eq_some_iff.1 hg).1 fun he => by
    obtain ⟨cs', hh⟩ := own_type hv he
    have e := hg.symm.trans hh
    injection e with e
    injection e with _ e
    exact hne e
theorem KeepT.of_below {t : TypeId} {w w' : World} (h : Below w.heap.size w w') : KeepT t w w' := fun g _ hg => h.block g (Array.getElem?_eq_some_iff.1 hg).1

end Go.Proofs.Ytmljdjakbbedlaa

namespace Go.Proofs.Ytmljdjakbbedlaa
open Go.ChangeShapes Go.WideShapes Go.ChangeAt Go.RowKit

theorem infoU8 : (Try.prog.info? 5).map (fun i => (i.zero, i.size, i.bytes)) = some (some (.int .u8 0), 1, 1) := by kernel_rfl
def OwnBs (w : World) (base : Nat) (v : Value) (L : List Int) : Prop := w.ownsRow base 5 1 v L.length (L.map (Value.int .u8))
theorem own_new {w : World} {base : Nat} {us : List Value} {e : TypeId} {m : Nat} (hb : base ≤ w.heap.size) (hl : us.length = m) (hm : m ≤ maxLen) : (w.alloc (.cells us.toArray e)).ownsRow base e 1 (.slice (some ⟨w.heap.size, 0, none⟩) m m) m us :=
  ⟨by rw [Nat.mul_one]; exact hl, .inr ⟨w.heap.size, m, us.toArray, rfl, hb, heap_alloc_new w _, Nat.le_refl _, hm, by simpa using hl, by simp [← hl]⟩⟩
theorem reads_newM {w : World} {us : List Value} {e : TypeId} {fr : Nat × Nat} {m : Nat} (hl : us.length = m) :
    Reads (w.alloc (.cells us.toArray e fr)) (w.alloc (.cells us.toArray e fr)).heap.size 1 (some ⟨w.heap.size, 0, none⟩) m us := by
  refine ⟨by simp [hl], fun _ => ⟨_, rfl, by simp, fun j u hj => ?_⟩⟩
  have e1 : (⟨w.heap.size, 0, none⟩ : Addr).add j = ⟨w.heap.size, j, none⟩ := by unfold Addr.add; split <;> simp_all
  rw [e1]
  have : (w.alloc (.cells us.toArray e fr)).heap[w.heap.size]? = some (.cells us.toArray e fr) := heap_alloc_new w _
  unfold World.cell?
  simp only [this]
  simpa using hj
theorem wpList_append_mN {P : Program} {ops : Array Oper} {rest : List Oper} {o : Oper} {a : Act} {Q : Exit → Act → World → Prop} {w0 : World} {us : List Value} {fr : Nat × Nat} {e : TypeId} {g m : Nat} (hgd : o.guard = none) (s x : Operand) (t : TypeId)
    (ho : o.op = .call { callee := .builtin .append, args := #[s, x], argTypes := #[t, t] })
    (base : Nat) (z : Value) (bytes : Nat) (ht : P.underlying t = some (.slice e)) (hi : (P.info? e).map (fun i => (i.zero, i.size, i.bytes)) = some (some z, 1, bytes))
    (hzs : z.cells.size = 1) (v : Value) (n : Nat) (xs : List Value) (hs : a.eval s = v)
    (hx : a.eval x = .slice (some ⟨g, 0, none⟩) m m) (hg : g = w0.heap.size) (hown : w0.ownsRow base e 1 v n xs) (hbase : base ≤ w0.heap.size)
    (hl : us.length = m) (h1 : ∀ u ∈ us, u.oneCell' = true) (h63 : n + m ≤ maxLen) (hbytes : (n + m) * bytes ≤ 140737488355328)
    (h : ∀ v' w', w'.ownsRow base e 1 v' (n + m) (xs ++ us) → Below base w0 w' → w0.heap.size ≤ w'.heap.size → (∀ k, k < w0.heap.size → v.ownBlock ≠ some k → w'.heap[k]? = w0.heap[k]?) → wpList P ops Q rest (a.put o.dst v') w') :
    wpList P ops Q (o :: rest) a (w0.alloc (.cells us.toArray e fr)) := by
  subst hg
  obtain ⟨i0, hi, hz0, hz1, hz2⟩ := info_parts hi
  refine wpList_append_any _ hgd s x t ho base e i0 z 1 bytes ht hi hz0 hz1 hz2 hzs (by decide) v n xs hs (hown.alloc _) _ _ m m us hx (reads_newM hl) h1 h63 hbytes (by simp; omega) ?_
  intro v' w' hown' hgr _
  have hsz' := hgr.size
  simp at hsz'
  have hb : Below base w0 (w0.alloc (.cells us.toArray e fr)) := (Below.refl _ _).alloc hbase _
  refine h v' w' hown' (hb.grown hgr (by simp; omega) (fun k hk => own_base hown k hk)) (by omega) (fun k hk hne => ?_)
  rw [hgr.block k (by simp; omega) (fun he => hne he.symm)]
  exact Below.heap_alloc _ _ _ hk
theorem cells_fresh (w : World) (us : List Value) (e : TypeId) (fr : Nat × Nat := (0, 0)) : ∀ j u, us[j]? = some u → (w.alloc (.cells us.toArray e fr)).cell? ((⟨w.heap.size, 0, none⟩ : Addr).add j) = some u := by
  intro j u hj
  have hl := (List.getElem?_eq_some_iff.1 hj).1
  obtain ⟨ad, hv, _, hc⟩ := (reads_newM (w := w) (us := us) (e := e) (fr := fr) rfl).2 (by omega)
  injection hv with hv
  rw [hv]
  exact hc j u hj
theorem cells_marked (w : World) (us : List Value) (e : TypeId) (fr : Nat × Nat) (o : Obj) : ∀ j u, us[j]? = some u → ((w.alloc (.cells us.toArray e fr)).alloc o).cell? ((⟨w.heap.size, 0, none⟩ : Addr).add j) = some u := by
  intro j u hj
  rw [← cells_fresh w us e fr j u hj]
  refine World.cell?_of_block (Below.heap_alloc _ _ _ ?_)
  rw [block_of_add]
  simp
theorem bs_one (l : List Int) : ∀ u ∈ l.map (Value.int .u8), u.oneCell' = true := by
  intro u hu
  obtain ⟨x, _, rfl⟩ := List.mem_map.1 hu
  rfl
def Saved (w : World) (L : List RouteV) (e : Ending) (w' : World) : Prop := ∃ v, e = .returned v ∧ OwnBs w' w.heap.size v (saveL L ++ tailL (sumOf (saveL L))) ∧ Below w.heap.size w w'

set_option maxRecDepth 100000 in
set_option maxHeartbeats 3200000 in
theorem save_any {w : World} {A : Option Addr} {n c : Nat} {L : List RouteV} (hz : L.length = n) (hn : n ≤ 60) (hr : Reads w w.heap.size 5 A n (L.flatMap RouteV.cells)) (hB : ∀ r ∈ L, RouteB r) :
    Calls Try.prog 89 #[.slice A n c] w (Saved w L) := by
  have HZ := Lib.hid hz
  have HR := Lib.hid hr
  have HB := Lib.hid hB
  obtain ⟨post, hpost⟩ : ∃ post, Saved w L = post := ⟨_, rfl⟩
  have HP := Lib.hid hpost
  rw [hpost]
  have m1 : (n : Int) % 256 = n := by omega
  clear hz hr hB hpost
  have kc := fun (w : World) (C : Array Value) (n c : Nat) => Lib.run_convert_bytes_const (P := Try.prog) w 82 5 C n c Try.underlying82 Try.underlying5
  obtain ⟨i0, hi0, hz0, hz1, hz2⟩ := info_parts infoU8
  go_enter Try.func89, Try.ntmps89
  have hold := fun (o : Obj) => cells_marked w [.int .u8 87, .int .u8 72, .int .u8 49] 5 (3, 4) o
  have hnew := fun (W : World) => cells_fresh W [.int .u8 n] 5
  go_wp2_with (at_builtin; go_loud (refine wpList_append_grows _ rfl _ _ 82 rfl 5 i0 _ 1 1 Try.underlying82 hi0 hz0 hz1 hz2 rfl (by decide) (some ⟨w.heap.size, 0, none⟩) 3 3 [.int .u8 87, .int .u8 72, .int .u8 49] rfl (fun h => by cases h) rfl ?c0 ⟨w.heap.size + 1, 0, none⟩ 1 1 [.int .u8 n] rfl rfl ?c1 ?c2 (by decide) (by decide) (by decide) ?_))
  case c0 => intro b hb j u hj; injection hb with hb; subst hb; exact hold _ j u hj
  case c1 => intro j u hj; have := hnew (w.alloc (.cells #[.int .u8 87, .int .u8 72, .int .u8 49] 5 (3, 4))) j u hj; simpa using this
  case c2 => intro u hu; simp at hu; subst hu; rfl
  intro v3 w1 hown0 hgr1
  have hown : w1.ownsRow w.heap.size 5 1 v3 4 ([.int .u8 87, .int .u8 72, .int .u8 49] ++ [.int .u8 n]) := own_mono hown0 (by first | omega | (simp; done) | (simp; omega))
  have hb1 : Below w.heap.size w w1 := (((Below.refl _ _).alloc (Nat.le_refl _) _).alloc (by simp) _).grown hgr1 (by first | omega | (simp; done) | (simp; omega)) (fun k hk => by cases hk)
  have HO1 : Hid (OwnBs w1 w.heap.size v3 (headL L)) := by
    show World.ownsRow _ _ _ _ _ _ _
    unfold headL
    rw [HZ.out]
    exact hown
  have HB1 : Hid (Below w.heap.size w w1) := hb1
  have hs1 := HB1.out.size
  clear hown hb1 hown0 hgr1 hold hnew kc
  go_wp2
  go_loopw [18, 3] (fun i s3 wr => ∃ (k : Nat) (v3 : Value), k ≤ n ∧ i = .int .i64 k ∧ v3 = s3 ∧ OwnBs wr w.heap.size v3 (headL L ++ (L.take k).flatMap rbL) ∧ Below w.heap.size w wr) (fun i _ _ => n - (intOf i).toNat)
  case atStart => exact ⟨0, _, by omega, rfl, rfl, by simpa using HO1.out, HB1.out⟩
  case round =>
    obtain ⟨k, v3, hk, rfl, rfl, hrow, hb⟩ := hrel
    obtain ⟨wo, rfl⟩ : ∃ wo : World, wo = wr := ⟨_, rfl⟩
    have hszb := hb.size
    by_cases hlt : k < n
    · obtain ⟨ad, ⟨⟨six, hi, lo, m⟩, hop⟩, rfl, hlk, htk, hmem, hbk, hc0, hcj⟩ := HR.out.atS RouteV.cells_length HZ.out hlt
      have q0 := (hb.cell (p := ad.add (k * 5)) (by rw [block_of_add]; exact hbk)).trans (hc0 _ rfl)
      have q1 := (hb.cell (p := ⟨(ad.add (k * 5)).block, (ad.add (k * 5)).off + 1, none⟩) (by rw [block_of_add]; exact hbk)).trans (hcj 1 _ rfl)
      have q2 := (hb.cell (p := ⟨(ad.add (k * 5)).block, (ad.add (k * 5)).off + 2, none⟩) (by rw [block_of_add]; exact hbk)).trans (hcj 2 _ rfl)
      have q3 := (hb.cell (p := ⟨(ad.add (k * 5)).block, (ad.add (k * 5)).off + 3, none⟩) (by rw [block_of_add]; exact hbk)).trans (hcj 3 _ rfl)
      have q4 := (hb.cell (p := ⟨(ad.add (k * 5)).block, (ad.add (k * 5)).off + 4, none⟩) (by rw [block_of_add]; exact hbk)).trans (hcj 4 _ rfl)
      have hrb := HB.out _ hmem
      have hlen := save_length (L := L.take k) (fun r hr => HB.out r (List.mem_of_mem_take hr))
      rw [List.length_take, HZ.out, Nat.min_eq_left (by omega)] at hlen
      have hfl : (L.take (k + 1)).flatMap rbL = (L.take k).flatMap rbL ++ rbL ⟨⟨six, hi, lo, m⟩, hop⟩ := by rw [htk, List.flatMap_append]; simp
      have hkk := hrb.k
      have hn0 := hrb.n0
      have hn1 := hrb.n1
      have hp0 := hrb.h0
      have hp1 := hrb.h1
      have HAO := Lib.hid hrb.a
      simp only at hkk hn0 hn1 hp0 hp1
      have hm128 : m ≤ 128 := by rcases wideI_cases six with h5 | h5 <;> rw [h5] at hn1 <;> omega
      have m2 : m % 256 = m := by omega
      obtain ⟨base, hbase⟩ : ∃ base, headL L ++ (L.take k).flatMap rbL = base := ⟨_, rfl⟩
      have hbl : base.length ≤ 4 + 20 * k := by rw [← hbase, List.length_append]; show 4 + _ ≤ _; omega
      rw [hbase] at hrow
      have HBA := Lib.hid hbase
      obtain ⟨bl, hbl2⟩ : ∃ bl, base.length = bl := ⟨_, rfl⟩
      unfold OwnBs at hrow
      rw [hbl2] at hrow hbl
      have HBL := Lib.hid hbl2
      have HFL := Lib.hid hfl
      have HO := Lib.hid (fun (o : Obj) => own_below hrow ((Below.refl _ _).alloc (Nat.le_refl _) o))
      have HBO := Lib.hid hb
      clear hlk htk hmem hbk hc0 hcj hb hrow hrb hlen hfl hbase hbl2 hn1
      have w7 : IntKind.i64.wrap (m + 7) = m + 7 := by rw [IntWalk.i64_in _ (by omega)]
      have t8 : Int.tdiv (m + 7) 8 = (m + 7) / 8 := Int.tdiv_eq_ediv_of_nonneg (by omega)
      have w8 : IntKind.i64.wrap ((m + 7) / 8) = (m + 7) / 8 := by rw [IntWalk.i64_in _ (by omega)]
      obtain ⟨kk, hkk2⟩ : ∃ kk : Nat, kO ⟨⟨six, hi, lo, m⟩, hop⟩ = kk := ⟨_, rfl⟩
      have hk8 : (m + 7) / 8 = (kk : Int) := by rw [← hkk2]; unfold kO; simp only; omega
      rw [hkk2] at hkk
      have HKK := Lib.hid hkk2
      clear hkk2
      cases six with
      | false =>
        go_wp2_with (at_builtin; go_loud (refine wpList_append_mN (us := [.int .u8 0, .int .u8 m]) rfl _ _ 82 rfl w.heap.size _ 1 Try.underlying82 infoU8 rfl _ _ _ rfl rfl (by simp) (HO.out _) ?c1 rfl ?c2 ?c3 ?c4 ?_))
        case c1 => omega
        case c2 => exact ⟨rfl, rfl⟩
        case c3 => unfold maxLen; omega
        case c4 => omega
        intro v4 w2 hown2 hb2 hs2 hk2
        have hbx : Blk (wo.alloc (.cells #[.bool false, .int .u64 hi, .int .u64 lo, .int .i64 m, .int .i64 hop] 48)) wo.heap.size 48 #[.bool false, .int .u64 hi, .int .u64 lo, .int .i64 m, .int .i64 hop] := Blk.new _ _ _
        have HK2 : Hid (Blk w2 wo.heap.size 48 #[.bool false, .int .u64 hi, .int .u64 lo, .int .i64 m, .int .i64 hop]) := (KeepT.of_own (fun k hk hne => hk2 k (by simpa using hk) hne) (HO.out _) (by decide) _ _ hbx).trans hbx
        have HB2 : Hid (Below w.heap.size w w2) := (HBO.out.alloc hszb _).trans hb2
        have HO2 : Hid (OwnBs w2 w.heap.size v4 (base ++ [0, m])) := by
          show World.ownsRow _ _ _ _ _ _ _
          rw [List.length_append, HBL.out, List.map_append]
          exact hown2
        have y0 := HK2.out.cell 0
        have y1 := HK2.out.cell 1
        have y2 := HK2.out.cell 2
        have y3 := HK2.out.cell 3
        have y4 := HK2.out.cell 4
        simp at y0 y1 y2 y3 y4
        have hw2 := HK2.out.lt
        clear hown2 hb2 hk2 hbx q0 q1 q2 q3 q4
        go_wp2
        go_loopw [39, 3] (fun i s3 wr => ∃ (j : Nat) (v5 : Value), j ≤ kk ∧ i = .int .i64 j ∧ v5 = s3 ∧ OwnBs wr w.heap.size v5 (base ++ [0, m] ++ octs ⟨⟨false, hi, lo, m⟩, hop⟩ j) ∧ Hid (Blk wr wo.heap.size 48 #[.bool false, .int .u64 hi, .int .u64 lo, .int .i64 m, .int .i64 hop]) ∧ Below w.heap.size w wr) (fun i _ _ => kk - (intOf i).toNat)
        case atStart => exact ⟨0, _, by omega, rfl, rfl, (by show OwnBs _ _ _ (_ ++ []); rw [List.append_nil]; exact HO2.out), HK2.out, HB2.out⟩
        case round =>
          obtain ⟨j, v5, hj, rfl, rfl, hrow5, hk5, hb5⟩ := hrel
          obtain ⟨wi, rfl⟩ : ∃ wi : World, wi = wr := ⟨_, rfl⟩
          have hszi := hb5.size
          have z0 := hk5.out.cell 0
          have z1 := hk5.out.cell 1
          have z2 := hk5.out.cell 2
          have z3 := hk5.out.cell 3
          have z4 := hk5.out.cell 4
          simp at z0 z1 z2 z3 z4
          have hwi := hk5.out.lt
          obtain ⟨bs, hbs⟩ : ∃ bs, base ++ [0, m] ++ octs ⟨⟨false, hi, lo, m⟩, hop⟩ j = bs := ⟨_, rfl⟩
          have hbsl : bs.length = bl + 2 + j := by rw [← hbs, List.length_append, List.length_append, octs_length, HBL.out]; rfl
          have hbsn : base ++ [0, m] ++ octs ⟨⟨false, hi, lo, m⟩, hop⟩ (j + 1) = bs ++ [(octN ⟨false, hi, lo⟩ j : Int)] := by rw [octs_succ, ← List.append_assoc, hbs]; rfl
          rw [hbs] at hrow5
          unfold OwnBs at hrow5
          rw [hbsl] at hrow5
          have HBS := Lib.hid hbs
          have HBSL := Lib.hid hbsl
          have HBSN := Lib.hid hbsn
          have HO5 := Lib.hid hrow5
          have HB5 := Lib.hid hb5
          clear hbs hbsl hbsn hrow5 hb5
          by_cases hjk : j < kk
          · have CO := Lib.hid (fun (W : World) => octet_any false hi lo j W HAO.out (by have := hkk.1; omega))
            obtain ⟨ov, hov⟩ : ∃ ov : Int, (octN ⟨false, hi, lo⟩ j : Int) = ov := ⟨_, rfl⟩
            rw [hov] at CO HBSN
            clear hov
            go_wp2_with (first | (go_at_call 136; (with_reducible refine (CO.out _).mono ?_); rintro e w6 ⟨rfl, hb6⟩; obtain ⟨fc6, ff6⟩ := bcell hb6; have hz6 := hb6.size; have HB6 := Lib.hid hb6; clear hb6) | (at_builtin; go_loud (refine wpList_append_mN (us := [.int .u8 ov]) rfl _ _ 82 rfl w.heap.size _ 1 Try.underlying82 infoU8 rfl _ _ _ rfl rfl (by first | rfl | simp) (own_below HO5.out HB6.out) ?c1 rfl ?c2 ?c3 ?c4 ?_)))
            case c1 => omega
            case c2 => first | rfl | (intro u hu; simp at hu; subst hu; rfl)
            case c3 => unfold maxLen; omega
            case c4 => omega
            intro v7 w7 hown7 hb7 hs7 hk7
            have HK7 : Hid (Blk w7 wo.heap.size 48 #[.bool false, .int .u64 hi, .int .u64 lo, .int .i64 m, .int .i64 hop]) := (KeepT.of_own hk7 (own_below HO5.out HB6.out) (by decide) _ _ (hk5.out.below HB6.out hwi)).trans (hk5.out.below HB6.out hwi)
            have HO7 : Hid (OwnBs w7 w.heap.size v7 (bs ++ [ov])) := by
              show World.ownsRow _ _ _ _ _ _ _
              rw [List.length_append, HBSL.out, List.map_append]
              exact hown7
            have HB7 : Hid (Below w.heap.size w w7) := (below_step HB5.out HB6.out).trans hb7
            clear hown7 hb7 hk7
            go_wp2
            go_roundw
            case rel => exact ⟨j + 1, _, by omega, by go_num, rfl, by rw [HBSN.out]; exact HO7.out, HK7.out, HB7.out⟩
            case measure => simp [intOf]; omega
          · obtain rfl : j = kk := by omega
            have m3 : hop / 256 % 256 = hop / 256 := by omega
            go_wp2_with (at_builtin; go_loud (refine wpList_append_mN (us := [.int .u8 (hop / 256), .int .u8 (hop % 256)]) rfl _ _ 82 rfl w.heap.size _ 1 Try.underlying82 infoU8 rfl _ _ _ rfl rfl (by first | rfl | simp) HO5.out ?c1 rfl ?c2 ?c3 ?c4 ?_))
            case c1 => omega
            case c2 => first | exact ⟨rfl, rfl⟩ | (intro u hu; simp at hu; rcases hu with rfl | rfl <;> rfl)
            case c3 => unfold maxLen; omega
            case c4 => omega
            intro v7 w7 hown7 hb7 hs7 hk7
            have HO7 : Hid (OwnBs w7 w.heap.size v7 (headL L ++ (L.take (k + 1)).flatMap rbL)) := by
              show World.ownsRow _ _ _ _ _ _ _
              have e9 : headL L ++ (L.take (k + 1)).flatMap rbL = bs ++ [hop / 256, hop % 256] := by
                rw [HFL.out, ← List.append_assoc, HBA.out, ← HBS.out]
                show base ++ rbL _ = _
                unfold rbL
                rw [HKK.out]
                simp
              rw [e9, List.length_append, HBSL.out, List.map_append]
              exact hown7
            have HB7 := Lib.hid (HB5.out.trans hb7)
            clear hown7 hb7 hk7
            go_wp2
            go_roundw
            case rel => exact ⟨k + 1, _, by omega, by go_num, rfl, HO7.out, HB7.out⟩
            case measure => simp [intOf]; omega
      | true =>
        go_wp2_with (at_builtin; go_loud (refine wpList_append_mN (us := [.int .u8 1, .int .u8 m]) rfl _ _ 82 rfl w.heap.size _ 1 Try.underlying82 infoU8 rfl _ _ _ rfl rfl (by simp) (HO.out _) ?c1 rfl ?c2 ?c3 ?c4 ?_))
        case c1 => omega
        case c2 => exact ⟨rfl, rfl⟩
        case c3 => unfold maxLen; omega
        case c4 => omega
        intro v4 w2 hown2 hb2 hs2 hk2
        have hbx : Blk (wo.alloc (.cells #[.bool true, .int .u64 hi, .int .u64 lo, .int .i64 m, .int .i64 hop] 48)) wo.heap.size 48 #[.bool true, .int .u64 hi, .int .u64 lo, .int .i64 m, .int .i64 hop] := Blk.new _ _ _
        have HK2 : Hid (Blk w2 wo.heap.size 48 #[.bool true, .int .u64 hi, .int .u64 lo, .int .i64 m, .int .i64 hop]) := (KeepT.of_own (fun k hk hne => hk2 k (by simpa using hk) hne) (HO.out _) (by decide) _ _ hbx).trans hbx
        have HB2 : Hid (Below w.heap.size w w2) := (HBO.out.alloc hszb _).trans hb2
        have HO2 : Hid (OwnBs w2 w.heap.size v4 (base ++ [1, m])) := by
          show World.ownsRow _ _ _ _ _ _ _
          rw [List.length_append, HBL.out, List.map_append]
          exact hown2
        have y0 := HK2.out.cell 0
        have y1 := HK2.out.cell 1
        have y2 := HK2.out.cell 2
        have y3 := HK2.out.cell 3
        have y4 := HK2.out.cell 4
        simp at y0 y1 y2 y3 y4
        have hw2 := HK2.out.lt
        clear hown2 hb2 hk2 hbx q0 q1 q2 q3 q4
        go_wp2
        go_loopw [39, 3] (fun i s3 wr => ∃ (j : Nat) (v5 : Value), j ≤ kk ∧ i = .int .i64 j ∧ v5 = s3 ∧ OwnBs wr w.heap.size v5 (base ++ [1, m] ++ octs ⟨⟨true, hi, lo, m⟩, hop⟩ j) ∧ Hid (Blk wr wo.heap.size 48 #[.bool true, .int .u64 hi, .int .u64 lo, .int .i64 m, .int .i64 hop]) ∧ Below w.heap.size w wr) (fun i _ _ => kk - (intOf i).toNat)
        case atStart => exact ⟨0, _, by omega, rfl, rfl, (by show OwnBs _ _ _ (_ ++ []); rw [List.append_nil]; exact HO2.out), HK2.out, HB2.out⟩
        case round =>
          obtain ⟨j, v5, hj, rfl, rfl, hrow5, hk5, hb5⟩ := hrel
          obtain ⟨wi, rfl⟩ : ∃ wi : World, wi = wr := ⟨_, rfl⟩
          have hszi := hb5.size
          have z0 := hk5.out.cell 0
          have z1 := hk5.out.cell 1
          have z2 := hk5.out.cell 2
          have z3 := hk5.out.cell 3
          have z4 := hk5.out.cell 4
          simp at z0 z1 z2 z3 z4
          have hwi := hk5.out.lt
          obtain ⟨bs, hbs⟩ : ∃ bs, base ++ [1, m] ++ octs ⟨⟨true, hi, lo, m⟩, hop⟩ j = bs := ⟨_, rfl⟩
          have hbsl : bs.length = bl + 2 + j := by rw [← hbs, List.length_append, List.length_append, octs_length, HBL.out]; rfl
          have hbsn : base ++ [1, m] ++ octs ⟨⟨true, hi, lo, m⟩, hop⟩ (j + 1) = bs ++ [(octN ⟨true, hi, lo⟩ j : Int)] := by rw [octs_succ, ← List.append_assoc, hbs]; rfl
          rw [hbs] at hrow5
          unfold OwnBs at hrow5
          rw [hbsl] at hrow5
          have HBS := Lib.hid hbs
          have HBSL := Lib.hid hbsl
          have HBSN := Lib.hid hbsn
          have HO5 := Lib.hid hrow5
          have HB5 := Lib.hid hb5
          clear hbs hbsl hbsn hrow5 hb5
          by_cases hjk : j < kk
          · have CO := Lib.hid (fun (W : World) => octet_any true hi lo j W HAO.out (by have := hkk.1; omega))
            obtain ⟨ov, hov⟩ : ∃ ov : Int, (octN ⟨true, hi, lo⟩ j : Int) = ov := ⟨_, rfl⟩
            rw [hov] at CO HBSN
            clear hov
            go_wp2_with (first | (go_at_call 136; (with_reducible refine (CO.out _).mono ?_); rintro e w6 ⟨rfl, hb6⟩; obtain ⟨fc6, ff6⟩ := bcell hb6; have hz6 := hb6.size; have HB6 := Lib.hid hb6; clear hb6) | (at_builtin; go_loud (refine wpList_append_mN (us := [.int .u8 ov]) rfl _ _ 82 rfl w.heap.size _ 1 Try.underlying82 infoU8 rfl _ _ _ rfl rfl (by first | rfl | simp) (own_below HO5.out HB6.out) ?c1 rfl ?c2 ?c3 ?c4 ?_)))
            case c1 => omega
            case c2 => first | rfl | (intro u hu; simp at hu; subst hu; rfl)
            case c3 => unfold maxLen; omega
            case c4 => omega
            intro v7 w7 hown7 hb7 hs7 hk7
            have HK7 : Hid (Blk w7 wo.heap.size 48 #[.bool true, .int .u64 hi, .int .u64 lo, .int .i64 m, .int .i64 hop]) := (KeepT.of_own hk7 (own_below HO5.out HB6.out) (by decide) _ _ (hk5.out.below HB6.out hwi)).trans (hk5.out.below HB6.out hwi)
            have HO7 : Hid (OwnBs w7 w.heap.size v7 (bs ++ [ov])) := by
              show World.ownsRow _ _ _ _ _ _ _
              rw [List.length_append, HBSL.out, List.map_append]
              exact hown7
            have HB7 : Hid (Below w.heap.size w w7) := (below_step HB5.out HB6.out).trans hb7
            clear hown7 hb7 hk7
            go_wp2
            go_roundw
            case rel => exact ⟨j + 1, _, by omega, by go_num, rfl, by rw [HBSN.out]; exact HO7.out, HK7.out, HB7.out⟩
            case measure => simp [intOf]; omega
          · obtain rfl : j = kk := by omega
            have m3 : hop / 256 % 256 = hop / 256 := by omega
            go_wp2_with (at_builtin; go_loud (refine wpList_append_mN (us := [.int .u8 (hop / 256), .int .u8 (hop % 256)]) rfl _ _ 82 rfl w.heap.size _ 1 Try.underlying82 infoU8 rfl _ _ _ rfl rfl (by first | rfl | simp) HO5.out ?c1 rfl ?c2 ?c3 ?c4 ?_))
            case c1 => omega
            case c2 => first | exact ⟨rfl, rfl⟩ | (intro u hu; simp at hu; rcases hu with rfl | rfl <;> rfl)
            case c3 => unfold maxLen; omega
            case c4 => omega
            intro v7 w7 hown7 hb7 hs7 hk7
            have HO7 : Hid (OwnBs w7 w.heap.size v7 (headL L ++ (L.take (k + 1)).flatMap rbL)) := by
              show World.ownsRow _ _ _ _ _ _ _
              have e9 : headL L ++ (L.take (k + 1)).flatMap rbL = bs ++ [hop / 256, hop % 256] := by
                rw [HFL.out, ← List.append_assoc, HBA.out, ← HBS.out]
                show base ++ rbL _ = _
                unfold rbL
                rw [HKK.out]
                simp
              rw [e9, List.length_append, HBSL.out, List.map_append]
              exact hown7
            have HB7 := Lib.hid (HB5.out.trans hb7)
            clear hown7 hb7 hk7
            go_wp2
            go_roundw
            case rel => exact ⟨k + 1, _, by omega, by go_num, rfl, HO7.out, HB7.out⟩
            case measure => simp [intOf]; omega
    · obtain rfl : k = n := by omega
      have ht : L.take k = L := List.take_of_length_le (by rw [HZ.out]; omega)
      rw [ht] at hrow
      have hrow : OwnBs wo w.heap.size v3 (saveL L) := hrow
      have hlen := save_length HB.out
      rw [HZ.out] at hlen
      have hsl : (saveL L).length ≤ 1204 := by unfold saveL; rw [List.length_append]; show 4 + _ ≤ _; omega
      have hby := save_bytes HB.out (by rw [HZ.out]; exact hn)
      have hrg := sumOf_range (saveL L)
      obtain ⟨zs, hzs⟩ : ∃ zs, saveL L = zs := ⟨_, rfl⟩
      rw [hzs] at hrow hsl hby hrg
      obtain ⟨A3, c3, rfl, hc3, hr3⟩ := own_reads hrow
      obtain ⟨N, hN⟩ : ∃ N, sumOf zs = N := ⟨_, rfl⟩
      have CS0 := sum_any A3 zs.length c3 zs wo (by omega) hby rfl hr3
      rw [hN] at CS0 hrg
      obtain ⟨zl, hzl⟩ : ∃ zl, zs.length = zl := ⟨_, rfl⟩
      unfold OwnBs at hrow
      rw [hzl] at CS0 hsl hrow hc3
      have CS := Lib.hid CS0
      have HO := Lib.hid hrow
      have HBO := Lib.hid hb
      have HZS := Lib.hid hzs
      have HNN := Lib.hid hN
      have HZL := Lib.hid hzl
      rw [hzl]
      have x1 : N / 16777216 % 256 = N / 16777216 := by omega
      clear CS0 hrow hb hr3 hby hzs hN hzl ht hlen
      go_wp2_with fail
      refine CS.out.mono ?_
      rintro e w2 ⟨rfl, rfl⟩
      go_wp2_with (at_builtin; go_loud (refine wpList_append_mN (us := [.int .u8 (N / 16777216), .int .u8 (N / 65536 % 256), .int .u8 (N / 256 % 256), .int .u8 (N % 256)]) rfl _ _ 82 rfl w.heap.size _ 1 Try.underlying82 infoU8 rfl _ _ _ rfl rfl (by first | rfl | simp) HO.out ?c1 rfl ?c2 ?c3 ?c4 ?_))
      case c1 => exact hszb
      case c2 => first | exact ⟨rfl, rfl, rfl, rfl⟩ | (intro u hu; simp at hu; rcases hu with rfl | rfl | rfl | rfl <;> rfl)
      case c3 => unfold maxLen; omega
      case c4 => omega
      intro v7 w7 hown7 hb7 hs7 hk7
      have HO7 : Hid (OwnBs w7 w.heap.size v7 (zs ++ tailL N)) := by
        show World.ownsRow _ _ _ _ _ _ _
        rw [List.length_append, HZL.out, List.map_append]
        exact hown7
      have HB7 := Lib.hid (HBO.out.trans hb7)
      clear hown7 hb7 hk7
      go_wp2
      (try go_ret)
      rw [← HP.out]
      unfold Saved
      rw [HZS.out, HNN.out]
      exact ⟨_, rfl, HO7.out, HB7.out⟩

end Go.Proofs.Ytmljdjakbbedlaa

namespace Go.Proofs.Ytmljdjakbbedlaa
open Go.ChangeShapes Go.WideShapes Go.ChangeAt Go.RowKit

theorem infoInt2 : (Try.prog.info? 3).map (fun i => (i.zero, i.size, i.bytes)) = some (some (.int .i64 0), 1, 8) := by kernel_rfl
def PartsOut (a : AV) (wd : Nat) (w : World) (e : Ending) (w' : World) : Prop :=
  ∃ v, e = .returned v ∧ w'.ownsRow w.heap.size 3 1 v (groups a.v (widN a.six) wd (widN a.six)).length ((groups a.v (widN a.six) wd (widN a.six)).map (Value.int .i64)) ∧ Below w.heap.size w w'

set_option maxRecDepth 100000 in
set_option maxHeartbeats 1600000 in
theorem partsOf_any (six : Bool) (hi lo : Int) (wd : Nat) (w : World) (ha : (⟨six, hi, lo⟩ : AV).Ok) (hw : 0 < wd) (hw2 : wd ≤ 16) :
    Calls Try.prog 93 #[.agg #[.bool six, .int .u64 hi, .int .u64 lo], .int .i64 wd] w (PartsOut ⟨six, hi, lo⟩ wd w) := by
  have CB := Lib.hid (fun (W : World) => bitsOf_any six hi lo W ha.rhi ha.rlo)
  have HBIT := Lib.hid (fun (i : Nat) (hi' : i < widN six) => AV.bitN ha (i := i) hi')
  obtain ⟨V, hV⟩ : ∃ V, (⟨six, hi, lo⟩ : AV).v = V := ⟨_, rfl⟩
  simp only at HBIT
  rw [hV] at HBIT
  obtain ⟨post, hpost⟩ : ∃ post, PartsOut ⟨six, hi, lo⟩ wd w = post := ⟨_, rfl⟩
  have HP := Lib.hid hpost
  rw [hpost]
  have HV := Lib.hid hV
  obtain ⟨N, hN⟩ : ∃ N, widN six = N := ⟨_, rfl⟩
  have hN2 : N ≤ 128 := by rw [← hN]; cases six <;> simp [widN]
  have HNN := Lib.hid hN
  rw [hN] at HBIT
  have HBL : Hid ((bitsL six hi lo).length = N) := by show _ = _; rw [bitsL_length, widN_eq, hN]; simp
  have HBG : Hid (∀ i, i < N → (bitsL six hi lo)[i]? = some (bitI six hi lo (i : Int))) := by
    intro i hi'
    unfold bitsL
    rw [List.getElem?_map, List.getElem?_range (by rw [widN_eq, hN]; simpa using hi')]
    rfl
  clear hpost hV ha hN
  go_enter Try.func93, Try.ntmps93
  go_wp2_with fail
  refine (CB.out _).mono ?_
  rintro e X ⟨vb, rfl, hbits, hbX, hlX⟩
  obtain ⟨Ab, cb, rfl, hcb, hrb⟩ := own_reads hbits
  rw [widN_eq, HNN.out] at hrb hcb ⊢
  simp only [Int.toNat_natCast] at hrb hcb ⊢
  have HRB := Lib.hid hrb
  have HBX : Hid (Below w.heap.size w X) := below_step ((Below.refl _ _).alloc (Nat.le_refl _) _) hbX
  have hwX := HBX.out.size
  have hS1 : ((wd : Int) == 0) = false := by simp; omega
  have hS2 : ¬ (wd : Int) = 0 := by omega
  clear hbits hrb hbX CB
  go_wp2
  go_loopw [11, 5] (fun i s5 wr => ∃ (k : Nat) (v5 : Value), k ≤ N ∧ i = .int .i64 k ∧ v5 = s5 ∧ wr.ownsRow X.heap.size 3 1 v5 (groups V N wd k).length ((groups V N wd k).map (Value.int .i64)) ∧ Below X.heap.size X wr) (fun i _ _ => N - (intOf i).toNat)
  case atStart => exact ⟨0, _, by omega, rfl, rfl, by rw [show groups V N wd 0 = [] from List.eq_nil_of_length_eq_zero (by rw [groups_length]; exact Nat.div_eq_of_lt (by omega))]; exact World.ownsRow_nil _ _ _ _, Below.refl _ _⟩
  case round =>
    obtain ⟨k, v5, hk, rfl, rfl, hrow, hb⟩ := hrel
    obtain ⟨wo, rfl⟩ : ∃ wo : World, wo = wr := ⟨_, rfl⟩
    have hszb := hb.size
    have HB := Lib.hid hb
    by_cases hlt : k < N
    · obtain ⟨ab, x, rfl, hx, -, hxl, -⟩ := HRB.out.at1 hlt
      have hbl : ab.block < X.heap.size := by
        obtain ⟨ad', e1, hb', _⟩ := HRB.out.2 (by omega)
        injection e1 with e1
        rw [e1]; exact hb'
      have q0 := (hb.cell (p := ab.add k) (by rw [block_of_add]; exact hbl)).trans hx
      have hxv : x = ((V / 2 ^ (N - 1 - k) % 2 : Nat) : Int) := by
        rw [HBG.out k hlt] at hxl
        injection hxl with hxl
        rw [← hxl, HBIT.out k hlt]
      have hst := groups_step V N wd k hw hlt
      rw [← hxv] at hst
      have hx01 : 0 ≤ x ∧ x ≤ 1 := by rw [hxv]; omega
      have hmod : Int.tmod (k : Int) (wd : Int) = ((k % wd : Nat) : Int) := by rw [Int.tmod_eq_emod_of_nonneg (by omega)]; exact (Int.natCast_emod k wd).symm
      have hml := Nat.mod_lt k hw
      have hwm : IntKind.i64.wrap (((k % wd : Nat) : Int)) = ((k % wd : Nat) : Int) := by rw [IntWalk.i64_in _ (by omega)]
      obtain ⟨r, hr⟩ : ∃ r, k % wd = r := ⟨_, rfl⟩
      rw [hr] at hst hmod hwm hml
      have hdm := Nat.div_add_mod k wd
      have hgl := groups_length V N wd k
      obtain ⟨q, hq⟩ : ∃ q, k / wd = q := ⟨_, rfl⟩
      rw [hq] at hst hdm
      rw [hr] at hdm
      have hqk : q ≤ k := by rw [← hq]; exact Nat.div_le_self _ _
      obtain ⟨G, hG⟩ : ∃ G, groups V N wd k = G := ⟨_, rfl⟩
      rw [hG] at hst hrow hgl
      by_cases h0 : r = 0
      · rw [if_pos h0] at hst
        have hlen : G.length = q := by
          rw [hgl, show k + wd - 1 = (wd - 1) + wd * q by omega, Nat.add_mul_div_left _ _ hw, Nat.div_eq_of_lt (by omega)]
          omega
        subst h0
        rw [hlen] at hrow
        have HO := Lib.hid hrow
        have HST := Lib.hid hst
        have HLE := Lib.hid hlen
        clear hb hx hxl hxv hst hgl hlen hdm hr hq hG hrow hml
        go_wp2_with (at_builtin; go_loud (refine wpList_append_oneN (us := [.int .i64 0]) rfl _ _ 23 rfl X.heap.size _ 1 8 Try.underlying23 infoInt2 rfl (by decide) _ _ _ rfl rfl rfl HO.out ?c1 rfl ?c4 ?c2 ?c3 ?_))
        case c1 => exact hszb
        case c2 => unfold maxLen; omega
        case c3 => omega
        case c4 => first | rfl | (intro u hu; simp at hu; subst hu; rfl)
        intro v' w9 hown' hb9 hs9 hk9
        have ho9 : w9.ownsRow X.heap.size 3 1 v' (q + 1) ((G ++ [0]).map (Value.int .i64)) := by rw [List.map_append]; exact hown'
        obtain ⟨ad, c9, rfl, hbase, hadl, hcl⟩ := own_at ho9 (by omega)
        have hx0 := hcl q (by omega)
        rw [List.getElem?_append_right (by rw [HLE.out]; exact Nat.le_refl _), HLE.out, Nat.sub_self] at hx0
        simp only [List.getElem?_cons_zero, Option.getD_some] at hx0
        have hfz := own_frozen ho9 q
        have HOS := Lib.hid (own_set ho9 q (.int .i64 x) (by omega))
        have HB9 := Lib.hid (HB.out.trans hb9)
        have HADB := Lib.hid hbase
        have i1 : (0 : Int) ≤ (q : Int) := by omega
        have i2 : (q : Int) < (q : Int) + 1 := by omega
        have e1 : ((q : Int) + 1 - 1) = q := by omega
        clear hown' hb9 hk9 ho9 hcl
        go_wp2
        go_roundw
        case rel =>
          refine ⟨k + 1, _, by omega, by go_num, rfl, ?_, HB9.out.setCell (by rw [block_of_add]; exact HADB.out) _⟩
          have e2 : ((G ++ [0]).map (Value.int .i64)).set q (.int .i64 x) = (G ++ [x]).map (Value.int .i64) := by
            rw [List.map_append, List.map_append, List.set_append_right _ _ (by rw [List.length_map, HLE.out]; exact Nat.le_refl _), List.length_map, HLE.out, Nat.sub_self]
            rfl
          have := HOS.out
          rw [e2] at this
          rw [HST.out, List.length_append, HLE.out]
          exact this
        case measure => simp [intOf]; omega
      · rw [if_neg h0] at hst
        have hlen : G.length = q + 1 := by
          rw [hgl, show k + wd - 1 = (r - 1) + wd * (q + 1) by rw [Nat.mul_succ]; omega, Nat.add_mul_div_left _ _ hw, Nat.div_eq_of_lt (by omega)]
          omega
        obtain ⟨y, hy⟩ : ∃ y, G[q]?.getD 0 = y := ⟨_, rfl⟩
        have hy2 : 0 ≤ y ∧ y < 65536 := by
          rw [← hy, ← hG, groups_get V N wd k q (by rw [← hgl, hlen]; omega)]
          have h1 := gv_lt V N wd k q
          have h2 : 2 ^ wd ≤ 2 ^ 16 := Nat.pow_le_pow_right (by omega) hw2
          simp only [Option.getD_some]
          omega
        rw [hy] at hst
        rw [hlen] at hrow
        have d0 : ((r : Int) == 0) = false := by simp; omega
        obtain ⟨ad, c9, rfl, hbase, hadl, hcl⟩ := own_at hrow (by omega)
        have hx0 := hcl q (by omega)
        rw [hy] at hx0
        have hfz := own_frozen hrow q
        have w1 : IntKind.i64.wrap (2 * y) = 2 * y := by rw [IntWalk.i64_in _ (by omega)]
        have w2 : IntKind.i64.wrap (2 * y + x) = 2 * y + x := by rw [IntWalk.i64_in _ (by omega)]
        have HOS := Lib.hid (own_set hrow q (.int .i64 (2 * y + x)) (by omega))
        have HADB := Lib.hid hbase
        have HST := Lib.hid hst
        have HLE := Lib.hid hlen
        have i1 : (0 : Int) ≤ (q : Int) := by omega
        have i2 : (q : Int) < (q : Int) + 1 := by omega
        have e1 : ((q : Int) + 1 - 1) = q := by omega
        clear hb hx hxl hxv hst hgl hlen hdm hr hq hG hrow hml h0 hy hcl
        go_wp2
        go_roundw
        case rel =>
          refine ⟨k + 1, _, by omega, by go_num, rfl, ?_, HB.out.setCell (by rw [block_of_add]; exact HADB.out) _⟩
          rw [HST.out, List.length_set, HLE.out, List.map_set]
          exact HOS.out
        case measure => simp [intOf]; omega
    · obtain rfl : k = N := by omega
      have HO := Lib.hid hrow
      clear hrow hb
      go_wp2
      (try go_ret)
      rw [← HP.out]
      unfold PartsOut
      rw [HV.out, show widN (⟨six, hi, lo⟩ : AV).six = k from HNN.out]
      exact ⟨_, rfl, own_mono HO.out hwX, HBX.out.trans (HB.out.mono hwX)⟩

end Go.Proofs.Ytmljdjakbbedlaa

namespace Go.Proofs.Ytmljdjakbbedlaa
open Go.ChangeShapes Go.WideShapes Go.ChangeAt Go.RowKit

/-- What table.New returns, and what it leaves. -/
def NewPost (l : List RouteV) (E : Int) (w : World) (e : Ending) (w' : World) : Prop :=
  Below w.heap.size w w' ∧ ((¬ E = 0 ∧ e = .returned (.tuple #[.pointer none, .int .i64 E])) ∨ (E = 0 ∧ e = .returned (.tuple #[.pointer (some ⟨w.heap.size, 0, none⟩), .int .i64 0]) ∧ Holds w' w.heap.size w.heap.size l ∧ Valid l))

theorem ret_pi {m : Value} {a b : Int} (h : a = b) : Ending.returned (.tuple #[m, .int .i64 a]) = Ending.returned (.tuple #[m, .int .i64 b]) := by rw [h]

set_option maxRecDepth 100000 in
set_option maxHeartbeats 3200000 in
theorem new_any (A : Option Addr) (n c : Nat) (l : List RouteV) (w : World) (hn2 : n ≤ 60) (hnc : n ≤ c) (hcm : c ≤ maxLen) (hz : l.length = n) (ho : ∀ r ∈ l, r.Ok) (hr : Reads w w.heap.size 5 A n (l.flatMap RouteV.cells)) :
    Calls Try.prog 50 #[.slice A n c] w (NewPost l (routesE l) w) := by
  have HZ := Lib.hid hz
  have HR := Lib.hid hr
  have HOK := Lib.hid ho
  unfold maxLen at hcm
  have H0 : Hid (routesE l = firstF (routeAt l) (List.range n)) := by show _ = _; unfold routesE; rw [hz]
  clear hz hr ho
  go_enter Try.func50, Try.ntmps50
  go_wp2
  go_loopw [15, 2, 3, 6, 7] (fun i _ _ _ _ wr => ∃ k : Nat, k ≤ n ∧ i = .int .i64 k ∧ NoneTo (routeAt l) (List.range n) k ∧ Valid (l.take k) ∧ Holds wr w.heap.size w.heap.size (l.take k) ∧ Below w.heap.size w wr) (fun i _ _ _ _ _ => n - (intOf i).toNat)
  case atStart => exact ⟨0, by omega, rfl, rfl, ⟨by simp, by simp⟩, holds_new w, (Below.refl _ _).alloc (Nat.le_refl _) _⟩
  case round =>
    obtain ⟨k, hk, rfl, hto, hval, hhold, hb⟩ := hrel
    have HT := Lib.hid hto
    have HV := Lib.hid hval
    have HH := Lib.hid hhold
    have hszb := hb.size
    clear hto hval hhold
    by_cases hlt : k < n
    · obtain ⟨ad, ⟨⟨six, hi, lo, pn⟩, hop⟩, rfl, hlk, htk, hmem, hbk, hc0, hcj⟩ := HR.out.atS RouteV.cells_length HZ.out hlt
      have q0 := (hb.cell (p := ad.add (k * 5)) (by rw [block_of_add]; exact hbk)).trans (hc0 _ rfl)
      have q1 := (hb.cell (p := ⟨(ad.add (k * 5)).block, (ad.add (k * 5)).off + 1, none⟩) (by rw [block_of_add]; exact hbk)).trans (hcj 1 _ rfl)
      have q2 := (hb.cell (p := ⟨(ad.add (k * 5)).block, (ad.add (k * 5)).off + 2, none⟩) (by rw [block_of_add]; exact hbk)).trans (hcj 2 _ rfl)
      have q3 := (hb.cell (p := ⟨(ad.add (k * 5)).block, (ad.add (k * 5)).off + 3, none⟩) (by rw [block_of_add]; exact hbk)).trans (hcj 3 _ rfl)
      have q4 := (hb.cell (p := ⟨(ad.add (k * 5)).block, (ad.add (k * 5)).off + 4, none⟩) (by rw [block_of_add]; exact hbk)).trans (hcj 4 _ rfl)
      obtain ⟨r1, r2, r3, r4⟩ := HOK.out _ hmem
      simp only at r1 r2 r3 r4
      have hfd : routeAt l k = routeF (l.take k) ⟨six, hi, lo, pn⟩ hop := by unfold routeAt; rw [hlk]
      have HF := Lib.hid hfd
      have HL := Lib.hid (range_at (n := n) hlt)
      have HK := Lib.hid (range_take (n := n) hlt)
      have HTK := Lib.hid htk
      have CK := Lib.hid (fun w => check_any six hi lo pn w r1 r2)
      have HBO := Lib.hid hb
      obtain ⟨cv, hcv⟩ : ∃ cv, chk six hi lo pn = cv := ⟨_, rfl⟩
      have HCV : Hid (PV.chk ⟨six, hi, lo, pn⟩ = cv) := hcv
      rw [hcv] at CK
      have HCV2 := Lib.hid hcv
      clear hlk htk hmem hbk hc0 hcj hfd hb hcv
      by_cases hck : cv = 0
      · subst hck
        have hpok : Hid (PV.Ok ⟨six, hi, lo, pn⟩) := chk_zero r1 r2 HCV2.out
        by_cases c1 : hop < 1 ∨ 999 < hop
        · have HF2 : Hid (routeF (l.take k) ⟨six, hi, lo, pn⟩ hop = 2) := by show _ = _; unfold routeF; rw [if_neg (by rw [HCV.out]; simp), if_pos c1]
          have HFH := Lib.hid (fault_here HT.out HL.out HF.out H0.out HF2.out (by omega))
          go_wp2_with fail
          refine (CK.out _).mono ?_
          rintro e w1 ⟨rfl, hb1⟩
          obtain ⟨HB1, hs1, hx1⟩ := box1 (cs := [.bool six, .int .u64 hi, .int .u64 lo, .int .i64 pn, .int .i64 hop]) hb1
          have e4 := hx1 4 _ rfl
          have HB2 := Lib.hid (HBO.out.trans (HB1.mono hszb))
          clear hb1 HB1 hx1
          by_cases c2 : hop < 1
          · go_wp2
            go_ret2
            exact ⟨HB2.out, .inl ⟨by rw [← HFH.out]; omega, ret_pi HFH.out⟩⟩
          · have c3 : 999 < hop := by omega
            go_wp2
            go_ret2
            exact ⟨HB2.out, .inl ⟨by rw [← HFH.out]; omega, ret_pi HFH.out⟩⟩
        · have HF2 : Hid (routeF (l.take k) ⟨six, hi, lo, pn⟩ hop = if hasR (l.take k) ⟨six, hi, lo, pn⟩ = true then 8 else 0) := by show _ = _; unfold routeF; rw [if_neg (by rw [HCV.out]; simp), if_neg c1]
          have x1 : ¬ hop < 1 := by omega
          have x2 : ¬ 999 < hop := by omega
          clear c1
          go_wp2_with fail
          refine (CK.out _).mono ?_
          rintro e w1 ⟨rfl, hb1⟩
          obtain ⟨HB1, hs1, hx1⟩ := box1 (cs := [.bool six, .int .u64 hi, .int .u64 lo, .int .i64 pn, .int .i64 hop]) hb1
          have e0 := hx1 0 _ rfl
          have e1 := hx1 1 _ rfl
          have e2 := hx1 2 _ rfl
          have e3 := hx1 3 _ rfl
          have e4 := hx1 4 _ rfl
          have HB2 := Lib.hid (HBO.out.trans (HB1.mono hszb))
          obtain ⟨R, cc, hTab, hInv, hM, hcc⟩ := HH.out.below HB1
          have hccb : 0 ≤ cc ∧ cc ≤ 1000000 := by
            rw [hcc]
            have := List.length_take_le k l
            omega
          have CP := Lib.hid (put_any hTab ⟨six, hi, lo, pn⟩ hpok.out hInv hop hccb)
          have HTab := Lib.hid hTab
          have HInv := Lib.hid hInv
          have HM := Lib.hid hM
          have HCC := Lib.hid hcc
          have hg : hopAt (R six) ⟨six, hi, lo, pn⟩ = getR (l.take k) ⟨six, hi, lo, pn⟩ := hM ⟨six, hi, lo, pn⟩ hpok.out
          unfold PutPost at CP
          obtain ⟨gv, hgv⟩ : ∃ gv, hopAt (R six) ⟨six, hi, lo, pn⟩ = gv := ⟨_, rfl⟩
          simp only at CP
          rw [hgv] at CP
          have HGV := Lib.hid (hgv.symm.trans hg)
          have HGH := Lib.hid hgv
          have hs1w : w.heap.size ≤ w1.heap.size := by have := HB2.out.size; omega
          unfold PV.val at CP
          simp only at CP
          clear hb1 HB1 hx1 hTab hInv hM hcc hg hgv
          obtain ⟨hv, hhv⟩ : ∃ hv, hasR (l.take k) ⟨six, hi, lo, pn⟩ = hv := ⟨_, rfl⟩
          have HHV := Lib.hid hhv
          rw [hhv] at HF2
          clear hhv
          cases hv with
          | true =>
            have hne : ¬ gv = 0 := by rw [HGV.out]; exact getR_some (fun r hr => (HV.out.1 r hr).2.1) HHV.out
            have hne2 : (gv != 0) = true := by simpa using hne
            have HFH := Lib.hid (fault_here HT.out HL.out HF.out H0.out (HF2.out.trans (by rw [if_pos rfl])) (by omega))
            go_wp2_with fail
            refine CP.out.mono ?_
            rintro e w2 ⟨rfl, _, hk2⟩
            have HB3 := Lib.hid (HB2.out.trans (hk2.below (fun g hg => (HTab.out.lt g hg).1) hs1w))
            clear hk2
            go_wp2
            go_ret2
            exact ⟨HB3.out, .inl ⟨by rw [← HFH.out]; omega, ret_pi HFH.out⟩⟩
          | false =>
            have hg0 : gv = 0 := by rw [HGV.out]; exact getR_none HHV.out
            have HN2 := Lib.hid (noneTo_succ HT.out HK.out (HF.out.trans (HF2.out.trans (by rw [if_neg (by simp)]))))
            have HV2 : Hid (Valid (l.take (k + 1))) := by show Valid _; rw [HTK.out]; exact valid_snoc HV.out hpok.out (by omega) HHV.out
            have HH2 : Hid (∀ w2 G1 G2, Tab w2 w.heap.size w.heap.size (upd R six (putT ⟨six, hi, lo, pn⟩ hop G1 G2 (R six))) (if gv = 0 then cc + 1 else cc) → Holds w2 w.heap.size w.heap.size (l.take (k + 1))) := by
              intro w2 G1 G2 ht
              rw [HTK.out]
              rw [← HGH.out] at ht
              exact holds_put HInv.out HM.out HCC.out hpok.out (by omega) HHV.out ht
            subst hg0
            go_wp2_with fail
            refine CP.out.mono ?_
            rintro e w2 ⟨rfl, ⟨G1, G2, ht2⟩, hk2⟩
            have HB3 := Lib.hid (HB2.out.trans (hk2.below (fun g hg => (HTab.out.lt g hg).1) hs1w))
            have HH3 := Lib.hid (HH2.out _ _ _ ht2)
            clear hk2 ht2
            go_wp2
            go_roundw
            case rel => exact ⟨k + 1, by omega, by go_num, HN2.out, HV2.out, HH3.out, HB3.out⟩
            case measure => simp [intOf]; omega
      · have hck2 : (cv != 0) = true := by simpa using hck
        have HF2 : Hid (routeF (l.take k) ⟨six, hi, lo, pn⟩ hop = cv) := by show _ = _; unfold routeF; rw [HCV.out, if_pos hck]
        have HFH := Lib.hid (fault_here HT.out HL.out HF.out H0.out HF2.out hck)
        have HCK := Lib.hid hck
        clear hck
        go_wp2_with fail
        refine (CK.out _).mono ?_
        rintro e w1 ⟨rfl, hb1⟩
        obtain ⟨HB1, hs1, _⟩ := box1 (cs := [.bool six, .int .u64 hi, .int .u64 lo, .int .i64 pn, .int .i64 hop]) hb1
        have HB2 := Lib.hid (HBO.out.trans (HB1.mono hszb))
        clear hb1 HB1
        go_wp2
        go_ret2
        exact ⟨HB2.out, .inl ⟨by rw [← HFH.out]; exact HCK.out, ret_pi HFH.out⟩⟩
    · obtain rfl : k = n := by omega
      have HR2 := Lib.hid (firstF_end HT.out (by simp))
      rw [List.take_of_length_le (by rw [HZ.out]; omega)] at HH HV
      go_wp2
      go_ret2
      exact ⟨hb, .inr ⟨by rw [H0.out]; exact HR2.out, rfl, HH.out, HV.out⟩⟩

set_option maxHeartbeats 400000 in
theorem new_big (A : Option Addr) (n c : Nat) (w : World) (hn : 60 < n) (hm : n ≤ maxLen) :
    Calls Try.prog 50 #[.slice A n c] w fun e w' => e = .returned (.tuple #[.pointer none, .int .i64 1]) ∧ Below w.heap.size w w' := by
  unfold maxLen at hm
  go_enter Try.func50, Try.ntmps50
  go_wp2
  go_ret2
  exact ⟨rfl, Below.refl _ _⟩

theorem new_is {A : Option Addr} {n c : Nat} {l : List RouteV} {w : World} (h : IsRoutes w A n c l) : Calls Try.prog 50 #[.slice A n c] w (NewPost l (routesF l) w) := by
  have h1 := h.1
  by_cases hn : 60 < l.length
  · have hf : routesF l = 1 := by unfold routesF; rw [if_pos hn]
    refine (new_big A n c w (by omega) (by have := h.2.1; omega)).mono ?_
    rintro e w' ⟨rfl, hb⟩
    exact ⟨hb, .inl ⟨by omega, by rw [hf]⟩⟩
  · have hf : routesF l = routesE l := by unfold routesF; rw [if_neg hn]
    refine (new_any A n c l w (by omega) h.2.1.1 h.2.1.2 h1 h.2.2.1 h.2.2.2).mono ?_
    intro e w' he
    rw [hf]
    exact he

set_option maxRecDepth 100000 in
set_option maxHeartbeats 400000 in
theorem tableCheck_is {A : Option Addr} {n c : Nat} {l : List RouteV} {w : World} (h : IsRoutes w A n c l) :
    Calls Try.prog 48 #[.slice A n c] w fun e w' => e = .returned (.int .i64 (routesF l)) ∧ Below w.heap.size w w' := by
  have HK := Lib.hid (new_is h)
  clear h
  go_enter Try.func48, Try.ntmps48
  go_wp2_with fail
  refine HK.out.mono ?_
  rintro e w1 ⟨hb, ⟨_, rfl⟩ | ⟨h0, rfl, _⟩⟩
  · go_wp2
    go_ret
    exact ⟨rfl, hb⟩
  · have H0 := Lib.hid h0
    clear h0
    go_wp2
    go_ret
    exact ⟨ret_int H0.out.symm, hb⟩

end Go.Proofs.Ytmljdjakbbedlaa

namespace Go.Proofs.Ytmljdjakbbedlaa
open Go.ChangeShapes Go.WideShapes Go.ChangeAt Go.RowKit

theorem reads_take {w : World} {B n k size : Nat} {A : Option Addr} {α : Type} {l : List α} {f : α → List Value} (hf : ∀ x, (f x).length = size) (hz : l.length = n) (hk : k ≤ n) (h : Reads w B size A n (l.flatMap f)) :
    Reads w B size A k ((l.take k).flatMap f) := by
  have hlen : ∀ (l : List α), (l.flatMap f).length = l.length * size := by
    intro l
    induction l with
    | nil => simp
    | cons x l ih => rw [List.flatMap_cons, List.length_append, hf, ih, List.length_cons, Nat.succ_mul]; omega
  refine ⟨by rw [hlen, List.length_take]; congr 1; omega, fun hk0 => ?_⟩
  obtain ⟨ad, rfl, hb, hc⟩ := h.2 (by omega)
  refine ⟨ad, rfl, hb, fun j u hj => hc j u ?_⟩
  have : l = l.take k ++ l.drop k := (List.take_append_drop k l).symm
  rw [this, List.flatMap_append, List.getElem?_append_left (by have := (List.getElem?_eq_some_iff.1 hj).1; exact this)]
  exact hj

set_option maxRecDepth 100000 in
set_option maxHeartbeats 3200000 in
theorem tableFault_any (A : Option Addr) (n c : Nat) (l : List RouteV) (w : World) (hn2 : n ≤ 60) (hnc : n ≤ c) (_hcm : c ≤ maxLen) (hz : l.length = n) (ho : ∀ r ∈ l, r.Ok) (hr : Reads w w.heap.size 5 A n (l.flatMap RouteV.cells)) :
    Calls Try.prog 58 #[.slice A n c] w fun e w' => e = .returned (.int .i64 (routesE l)) ∧ Below w.heap.size w w' := by
  have HZ := Lib.hid hz
  have HR := Lib.hid hr
  have HOK := Lib.hid ho
  obtain ⟨rr, hr0⟩ : ∃ r, r = firstF (routeAt l) (List.range n) := ⟨_, rfl⟩
  rw [show routesE l = firstF (routeAt l) (List.range n) from by unfold routesE; rw [hz], ← hr0]
  have H0 := Lib.hid hr0
  clear hz hr ho hr0
  go_enter Try.func58, Try.ntmps58
  go_wp2
  go_loopw [13, 2, 3, 4, 5, 7, 34, 35, 36] (fun i _ _ _ _ _ _ _ _ wr => ∃ k : Nat, k ≤ n ∧ i = .int .i64 k ∧ NoneTo (routeAt l) (List.range n) k ∧ Below w.heap.size w wr) (fun i _ _ _ _ _ _ _ _ _ => n - (intOf i).toNat)
  case atStart => exact ⟨0, by omega, rfl, rfl, Below.refl _ _⟩
  case round =>
    obtain ⟨k, hk, rfl, hto, hb⟩ := hrel
    have HT := Lib.hid hto
    have hszb := hb.size
    clear hto
    by_cases hlt : k < n
    · obtain ⟨ad, ⟨⟨six, hi, lo, pn⟩, hop⟩, rfl, hlk, htk, hmem, hbk, hc0, hcj⟩ := HR.out.atS RouteV.cells_length HZ.out hlt
      have q0 := (hb.cell (p := ad.add (k * 5)) (by rw [block_of_add]; exact hbk)).trans (hc0 _ rfl)
      have q1 := (hb.cell (p := ⟨(ad.add (k * 5)).block, (ad.add (k * 5)).off + 1, none⟩) (by rw [block_of_add]; exact hbk)).trans (hcj 1 _ rfl)
      have q2 := (hb.cell (p := ⟨(ad.add (k * 5)).block, (ad.add (k * 5)).off + 2, none⟩) (by rw [block_of_add]; exact hbk)).trans (hcj 2 _ rfl)
      have q3 := (hb.cell (p := ⟨(ad.add (k * 5)).block, (ad.add (k * 5)).off + 3, none⟩) (by rw [block_of_add]; exact hbk)).trans (hcj 3 _ rfl)
      have q4 := (hb.cell (p := ⟨(ad.add (k * 5)).block, (ad.add (k * 5)).off + 4, none⟩) (by rw [block_of_add]; exact hbk)).trans (hcj 4 _ rfl)
      obtain ⟨r1, r2, r3, r4⟩ := HOK.out _ hmem
      simp only at r1 r2 r3 r4
      have hfd : routeAt l k = routeF (l.take k) ⟨six, hi, lo, pn⟩ hop := by unfold routeAt; rw [hlk]
      have HF := Lib.hid hfd
      have HL := Lib.hid (range_at (n := n) hlt)
      have HK := Lib.hid (range_take (n := n) hlt)
      have CK := Lib.hid (fun w => preFault_any six hi lo pn w r1 r2)
      have HBO := Lib.hid hb
      have HRK := Lib.hid (reads_take RouteV.cells_length HZ.out hk HR.out)
      have HZK : Hid ((l.take k).length = k) := by show _ = _; rw [List.length_take, HZ.out]; omega
      obtain ⟨cv, hcv⟩ : ∃ cv, chk six hi lo pn = cv := ⟨_, rfl⟩
      have HCV : Hid (PV.chk ⟨six, hi, lo, pn⟩ = cv) := hcv
      rw [hcv] at CK
      have hkc : (k : Int) ≤ (c : Int) := by omega
      have hkc2 : (k : Int) ≤ 60 := by omega
      clear hlk htk hmem hbk hc0 hcj hfd hb hcv
      by_cases hck : cv = 0
      · subst hck
        by_cases c1 : hop < 1 ∨ 999 < hop
        · have HF2 : Hid (routeF (l.take k) ⟨six, hi, lo, pn⟩ hop = 2) := by show _ = _; unfold routeF; rw [if_neg (by rw [HCV.out]; simp), if_pos c1]
          have HFH := Lib.hid (fault_here HT.out HL.out HF.out H0.out HF2.out (by omega))
          go_wp2_with fail
          refine (CK.out _).mono ?_
          rintro e w1 ⟨rfl, hb1⟩
          obtain ⟨HB1, hs1, hx1⟩ := box1 (cs := [.bool six, .int .u64 hi, .int .u64 lo, .int .i64 pn, .int .i64 hop]) hb1
          have e4 := hx1 4 _ rfl
          have HB2 := Lib.hid (HBO.out.trans (HB1.mono hszb))
          clear hb1 HB1 hx1
          by_cases c2 : hop < 1
          · go_wp2
            go_ret
            exact ⟨ret_int HFH.out, HB2.out⟩
          · have c3 : 999 < hop := by omega
            go_wp2
            go_ret
            exact ⟨ret_int HFH.out, HB2.out⟩
        · have HF2 : Hid (routeF (l.take k) ⟨six, hi, lo, pn⟩ hop = if hasR (l.take k) ⟨six, hi, lo, pn⟩ = true then 8 else 0) := by show _ = _; unfold routeF; rw [if_neg (by rw [HCV.out]; simp), if_neg c1]
          have x1 : ¬ hop < 1 := by omega
          have x2 : ¬ 999 < hop := by omega
          clear c1
          generalize hlkk : l.take k = lk at *
          clear hlkk
          go_wp2_with fail
          refine (CK.out _).mono ?_
          rintro e w1 ⟨rfl, hb1⟩
          obtain ⟨HB1, hs1, hx1⟩ := box1 (cs := [.bool six, .int .u64 hi, .int .u64 lo, .int .i64 pn, .int .i64 hop]) hb1
          have e0 := hx1 0 _ rfl
          have e1 := hx1 1 _ rfl
          have e2 := hx1 2 _ rfl
          have e3 := hx1 3 _ rfl
          have e4 := hx1 4 _ rfl
          have HB2 := Lib.hid (HBO.out.trans (HB1.mono hszb))
          clear hb1 HB1 hx1 q0 q1 q2 q3 q4
          obtain ⟨wo, rfl⟩ : ∃ wo : World, wo = wr := ⟨_, rfl⟩
          go_wp2
          go_loopw [36, 2, 7] (fun i _ _ wy => ∃ j : Nat, j ≤ k ∧ i = .int .i64 j ∧ NoneYet (fun r : RouteV => decide (r.p = ⟨six, hi, lo, pn⟩)) lk j ∧ Below w1.heap.size w1 wy) (fun i _ _ _ => k - (intOf i).toNat)
          case atStart => exact ⟨0, by omega, rfl, noneYet_zero _ _, Below.refl _ _⟩
          case round =>
            obtain ⟨j, hj, rfl, hno, hbr⟩ := hrel
            have HN := Lib.hid hno
            have HBR := Lib.hid hbr
            have HB := Lib.hid (HB2.out.trans (hbr.mono HB2.out.size))
            have hb := HB.out
            obtain ⟨fc, ff⟩ := bcell hbr
            have s2 := hbr.size
            have g0 := (fc _ _ hs1).trans e0
            have g1 := (fc _ _ hs1).trans e1
            have g2 := (fc _ _ hs1).trans e2
            have g3 := (fc _ _ hs1).trans e3
            have g4 := (fc _ _ hs1).trans e4
            have s3 : wo.heap.size < wr.heap.size := by omega
            have s4 : ¬ wo.heap.size = wr.heap.size := by omega
            have s5 : ¬ wr.heap.size = wo.heap.size := by omega
            clear hno hbr
            by_cases hlt2 : j < k
            · obtain ⟨ad', ⟨⟨tsix, thi, tlo, tn⟩, thop⟩, hadd, hlk, htk, hmem, hbk, hc0, hcj⟩ := HRK.out.atS RouteV.cells_length HZK.out hlt2
              injection hadd with hadd
              subst hadd
              have q0 := (hb.cell (p := ad.add (j * 5)) (by rw [block_of_add]; exact hbk)).trans (hc0 _ rfl)
              have q1 := (hb.cell (p := ⟨(ad.add (j * 5)).block, (ad.add (j * 5)).off + 1, none⟩) (by rw [block_of_add]; exact hbk)).trans (hcj 1 _ rfl)
              have q2 := (hb.cell (p := ⟨(ad.add (j * 5)).block, (ad.add (j * 5)).off + 2, none⟩) (by rw [block_of_add]; exact hbk)).trans (hcj 2 _ rfl)
              have q3 := (hb.cell (p := ⟨(ad.add (j * 5)).block, (ad.add (j * 5)).off + 3, none⟩) (by rw [block_of_add]; exact hbk)).trans (hcj 3 _ rfl)
              have q4 := (hb.cell (p := ⟨(ad.add (j * 5)).block, (ad.add (j * 5)).off + 4, none⟩) (by rw [block_of_add]; exact hbk)).trans (hcj 4 _ rfl)
              have HLK2 := Lib.hid hlk
              have HTK2 := Lib.hid htk
              have HEQ := fun w => eqPV ⟨tsix, thi, tlo, tn⟩ ⟨six, hi, lo, pn⟩ w
              clear hlk htk hmem hbk hc0 hcj hb
              by_cases he : (⟨tsix, thi, tlo, tn⟩ : PV) = ⟨six, hi, lo, pn⟩
              · have HV : Hid (hasR lk ⟨six, hi, lo, pn⟩ = true) := by
                  show _ = _
                  unfold hasR
                  rw [List.any_eq_true]
                  exact ⟨_, List.mem_of_getElem? HLK2.out, by simpa using he⟩
                rw [decide_eq_true he] at HEQ
                unfold PV.val at HEQ
                simp only at HEQ
                clear he
                go_wp2
                go_ret
                exact ⟨ret_int (fault_here HT.out HL.out HF.out H0.out (HF2.out.trans (by rw [HV.out, if_pos rfl])) (by omega)), HB.out.alloc HB.out.size _⟩
              · have HN2 := Lib.hid (noneYet_succ HN.out HTK2.out (decide_eq_false he))
                rw [decide_eq_false he] at HEQ
                unfold PV.val at HEQ
                simp only at HEQ
                clear he
                go_wp2
                go_roundw
                case rel => exact ⟨j + 1, by omega, by go_num, HN2.out, HBR.out.alloc HBR.out.size _⟩
                case measure => simp [intOf]; omega
            · obtain rfl : j = k := by omega
              have HV : Hid (hasR lk ⟨six, hi, lo, pn⟩ = false) := by
                show _ = _
                unfold hasR
                rw [List.any_eq_false]
                intro x hx
                have := HN.out x (by rw [List.take_of_length_le (by rw [HZK.out]; omega)]; exact hx)
                simp only at this
                simp [this]
              clear hb
              go_wp2
              go_roundw
              case rel => exact ⟨j + 1, by omega, by go_num, noneTo_succ HT.out HK.out (HF.out.trans (HF2.out.trans (by rw [HV.out, if_neg (by simp)]))), HB.out⟩
              case measure => simp [intOf]; omega
      · have hck2 : (cv != 0) = true := by simpa using hck
        have HF2 : Hid (routeF (l.take k) ⟨six, hi, lo, pn⟩ hop = cv) := by show _ = _; unfold routeF; rw [HCV.out, if_pos hck]
        have HFH := Lib.hid (fault_here HT.out HL.out HF.out H0.out HF2.out hck)
        clear hck
        go_wp2_with fail
        refine (CK.out _).mono ?_
        rintro e w1 ⟨rfl, hb1⟩
        obtain ⟨HB1, hs1, _⟩ := box1 (cs := [.bool six, .int .u64 hi, .int .u64 lo, .int .i64 pn, .int .i64 hop]) hb1
        have HB2 := Lib.hid (HBO.out.trans (HB1.mono hszb))
        clear hb1 HB1
        go_wp2
        go_ret
        exact ⟨ret_int HFH.out, HB2.out⟩
    · obtain rfl : k = n := by omega
      have HR2 := Lib.hid (firstF_end HT.out (by simp))
      go_wp2
      go_ret
      exact ⟨ret_int (HR2.out.symm.trans H0.out.symm), hb⟩

set_option maxHeartbeats 400000 in
theorem tableFault_big (A : Option Addr) (n c : Nat) (w : World) (hn : 60 < n) (hm : n ≤ maxLen) :
    Calls Try.prog 58 #[.slice A n c] w fun e w' => e = .returned (.int .i64 1) ∧ Below w.heap.size w w' := by
  unfold maxLen at hm
  go_enter Try.func58, Try.ntmps58
  go_wp2
  go_ret
  exact ⟨rfl, Below.refl _ _⟩
theorem tableFault_is {A : Option Addr} {n c : Nat} {l : List RouteV} {w : World} (h : IsRoutes w A n c l) :
    Calls Try.prog 58 #[.slice A n c] w fun e w' => e = .returned (.int .i64 (routesF l)) ∧ Below w.heap.size w w' := by
  unfold routesF
  have h1 := h.1
  by_cases hn : 60 < l.length
  · rw [if_pos hn]
    exact tableFault_big A n c w (by omega) (by have := h.2.1; omega)
  · rw [if_neg hn]
    exact tableFault_any A n c l w (by omega) h.2.1.1 h.2.1.2 h1 h.2.2.1 h.2.2.2

end Go.Proofs.Ytmljdjakbbedlaa

namespace Go.Proofs.Ytmljdjakbbedlaa
open Go.ChangeShapes Go.WideShapes Go.ChangeAt Go.RowKit

theorem firstF_zero2 {α : Type} {f : α → Int} : ∀ {l : List α}, firstF f l = 0 → ∀ x ∈ l, f x = 0
  | [], _, x, hx => by simp at hx
  | y :: l, h, x, hx => by
    unfold firstF at h
    by_cases hy : f y = 0
    · rw [if_pos hy] at h
      rcases List.mem_cons.1 hx with rfl | hx
      · exact hy
      · exact firstF_zero2 h x hx
    · rw [if_neg hy] at h
      exact absurd h hy
theorem valid_of {l : List RouteV} (ho : ∀ r ∈ l, r.Ok) (h : routesF l = 0) : Valid l ∧ l.length ≤ 60 := by
  unfold routesF at h
  by_cases hn : 60 < l.length
  · rw [if_pos hn] at h; omega
  rw [if_neg hn] at h
  have hz := firstF_zero2 h
  have key : ∀ k, k ≤ l.length → Valid (l.take k) := by
    intro k
    induction k with
    | zero => intro _; exact ⟨by simp, by simp⟩
    | succ k ih =>
      intro hk
      obtain ⟨r, hr⟩ : ∃ r, l[k]? = some r := ⟨l[k], List.getElem?_eq_getElem (by omega)⟩
      have h0 := hz k (List.mem_range.2 (by omega))
      unfold routeAt at h0
      rw [hr] at h0
      simp only at h0
      have hro := ho r (List.mem_of_getElem? hr)
      unfold routeF at h0
      by_cases h1 : r.p.chk = 0
      · rw [if_neg (by simp [h1])] at h0
        by_cases h2 : r.hop < 1 ∨ 999 < r.hop
        · rw [if_pos h2] at h0; omega
        · rw [if_neg h2] at h0
          by_cases h3 : hasR (l.take k) r.p = true
          · rw [if_pos h3] at h0; omega
          · rw [List.take_add_one, hr]
            obtain ⟨p, hop⟩ := r
            exact valid_snoc (ih (by omega)) (chk_zero hro.a hro.b h1) (by simp only at h2; omega) (by simpa using h3)
      · rw [if_pos (by simpa using h1)] at h0
        exact absurd h0 h1
  refine ⟨?_, by omega⟩
  have := key l.length (Nat.le_refl _)
  rwa [List.take_length] at this

/-- What Look says: hop, length, error. -/
def lookR (l : List RouteV) (six : Bool) (hi lo : Int) : Int × Int × Int :=
  if ¬ routesF l = 0 then (0, 0, routesF l) else if mayB six hi lo = false then (0, 0, 4) else ((goesR l six hi lo).1, (goesR l six hi lo).2, 0)
def Looked (r : Int × Int × Int) (w : World) (e : Ending) (w' : World) : Prop := e = .returned (.tuple #[.agg #[.int .i64 0, .int .i64 r.1, .int .i64 r.2.1], .int .i64 r.2.2]) ∧ Below w.heap.size w w'

set_option maxRecDepth 100000 in
set_option maxHeartbeats 1600000 in
theorem tableLook_is (A : Option Addr) (n c : Nat) (l : List RouteV) (six : Bool) (hi lo : Int) (w : World) (h : IsRoutes w A n c l) (h3 : 0 ≤ hi ∧ hi < 18446744073709551616) (h4 : 0 ≤ lo ∧ lo < 18446744073709551616) :
    Calls Try.prog 18 #[.slice A n c, .agg #[.bool six, .int .u64 hi, .int .u64 lo]] w (Looked (lookR l six hi lo) w) := by
  have CN := Lib.hid (fun (w' : World) (hb : Below w.heap.size w w') => new_is (h.below hb))
  have CM := Lib.hid (fun w => may_any six hi lo w h4.1)
  unfold Looked
  by_cases hz : routesF l = 0
  · have CN2 : Hid (∀ (w' : World) (_ : Below w.heap.size w w'), Calls Try.prog 50 #[.slice A n c] w' (NewPost l 0 w')) := by
      intro w' hb
      have := CN.out w' hb
      rwa [hz] at this
    clear CN
    cases hm : mayB six hi lo with
    | false =>
      have hr : lookR l six hi lo = (0, 0, 4) := by unfold lookR; rw [if_neg (by simp [hz]), if_pos hm]
      rw [hr]
      rw [hm] at CM
      clear hr hz hm h
      go_enter Try.func18, Try.ntmps18
      go_wp2_with fail
      refine (CN2.out _ (((Below.refl _ _).alloc (Nat.le_refl _) _).alloc (by simp) _)).mono ?_
      rintro e w1 ⟨hb1, ⟨hx, _⟩ | ⟨_, rfl, _, _⟩⟩
      · exact absurd rfl hx
      obtain ⟨fc, ff⟩ := bcell hb1
      obtain ⟨s1, s2⟩ := bsize2 hb1
      have HB := Lib.hid (balloc2 hb1)
      clear hb1
      go_wp2_with fail
      refine (CM.out _).mono ?_
      rintro e w2 ⟨rfl, hb2⟩
      obtain ⟨fc2, ff2⟩ := bcell hb2
      have HB2 := Lib.hid (below_step HB.out hb2)
      have s3 := hb2.size
      have s4 : w.heap.size + 1 < w2.heap.size := by omega
      clear hb2
      go_wp2
      refine bodyPost_ret (v := .tuple #[.agg #[.int .i64 0, .int .i64 0, .int .i64 0], .int .i64 4]) ?_ rfl ⟨rfl, ?_⟩
      · simp [results, Try.results18, go_sem, fc, fc2, s2]
      · (repeat' first | with_reducible exact HB2.out | with_reducible refine Below.drew ?_ | with_reducible refine below_drewN ?_ _ | with_reducible refine Below.setCell ?_ ?_ _ | (simp; done) | (simp; omega) | omega)
    | true =>
      have hr : lookR l six hi lo = ((goesR l six hi lo).1, (goesR l six hi lo).2, 0) := by unfold lookR; rw [if_neg (by simp [hz]), if_neg (by simp [hm])]
      rw [hr]
      have HAO : Hid (AV.Ok ⟨six, hi, lo⟩) := ⟨h3, h4, hm⟩
      rw [hm] at CM
      obtain ⟨res, hres⟩ : ∃ res, goesR l six hi lo = res := ⟨_, rfl⟩
      rw [hres]
      have HRES := Lib.hid hres
      clear hr hz hm h hres
      go_enter Try.func18, Try.ntmps18
      go_wp2_with fail
      refine (CN2.out _ (((Below.refl _ _).alloc (Nat.le_refl _) _).alloc (by simp) _)).mono ?_
      rintro e w1 ⟨hb1, ⟨hx, _⟩ | ⟨_, rfl, hhold, hval⟩⟩
      · exact absurd rfl hx
      obtain ⟨fc, ff⟩ := bcell hb1
      obtain ⟨s1, s2⟩ := bsize2 hb1
      have HB := Lib.hid (balloc2 hb1)
      have hhold2 : Holds w1 (w.heap.size + 1 + 1) (w.heap.size + 1 + 1) l := by simpa using hhold
      have HH := Lib.hid hhold2
      have HV := Lib.hid hval
      clear hb1 hhold hhold2 hval
      go_wp2_with fail
      refine (CM.out _).mono ?_
      rintro e w2 ⟨rfl, hb2⟩
      obtain ⟨fc2, ff2⟩ := bcell hb2
      have HB2 := Lib.hid (below_step HB.out hb2)
      have s3 := hb2.size
      have s4 : w.heap.size + 1 < w2.heap.size := by omega
      have s5 : w.heap.size < w2.heap.size := by omega
      obtain ⟨R, cc, hT, hI, hM, _⟩ := HH.out.below hb2
      have CL := Lib.hid (tlook_any hT hI six hi lo HAO.out)
      rw [look_goes HV.out (addr_pfx HAO.out) (hI six) (fun p hp h6 => by have := hM p hp; rw [h6] at this; exact this), HRES.out] at CL
      clear hb2 hT hI hM
      go_wp2_with fail
      refine CL.out.mono ?_
      rintro e w3 ⟨rfl, hb3⟩
      obtain ⟨fc3, ff3⟩ := bcell hb3
      have HB3 := Lib.hid (below_step HB2.out hb3)
      have s6 := hb3.size
      have s7 : w.heap.size + 1 < w3.heap.size := by omega
      clear hb3
      go_wp2
      refine bodyPost_ret (v := .tuple #[.agg #[.int .i64 0, .int .i64 res.1, .int .i64 res.2], .int .i64 0]) ?_ rfl ⟨rfl, ?_⟩
      · simp [results, Try.results18, go_sem, fc, fc2, fc3, s2, s4]
      · (repeat' first | with_reducible exact HB3.out | with_reducible refine Below.drew ?_ | with_reducible refine below_drewN ?_ _ | with_reducible refine Below.setCell ?_ ?_ _ | (simp; done) | (simp; omega) | omega)
  · have hr : lookR l six hi lo = (0, 0, routesF l) := by unfold lookR; rw [if_pos hz]
    rw [hr]
    obtain ⟨E, hE⟩ : ∃ E, routesF l = E := ⟨_, rfl⟩
    rw [hE] at hz CN ⊢
    have hzb : (E != 0) = true := by simpa using hz
    clear hr hE h CM
    go_enter Try.func18, Try.ntmps18
    go_wp2_with fail
    refine (CN.out _ (((Below.refl _ _).alloc (Nat.le_refl _) _).alloc (by simp) _)).mono ?_
    rintro e w1 ⟨hb1, ⟨_, rfl⟩ | ⟨hx, _⟩⟩
    · obtain ⟨fc, ff⟩ := bcell hb1
      obtain ⟨s1, s2⟩ := bsize2 hb1
      have HB := Lib.hid (balloc2 hb1)
      clear hb1
      go_wp2
      refine bodyPost_ret (v := .tuple #[.agg #[.int .i64 0, .int .i64 0, .int .i64 0], .int .i64 E]) ?_ rfl ⟨rfl, ?_⟩
      · simp [results, Try.results18, go_sem, fc]
      · (repeat' first | with_reducible exact HB.out | with_reducible refine Below.drew ?_ | with_reducible refine below_drewN ?_ _ | with_reducible refine Below.setCell ?_ ?_ _ | (simp; done) | (simp; omega) | omega)
    · exact absurd hx hz

end Go.Proofs.Ytmljdjakbbedlaa

namespace Go.Proofs.Ytmljdjakbbedlaa
open Go.ChangeShapes Go.WideShapes Go.ChangeAt Go.RowKit

/-- The code and the bytes of a save. -/
def SaveIs (f : Int) (l : List RouteV) (E : Int) (bs : List Int) : Prop :=
  (¬ f = 0 ∧ E = f ∧ bs = []) ∨ (f = 0 ∧ E = 0 ∧ ∃ S, SortedOf l S ∧ bs = saveL S ++ tailL (sumOf (saveL S)))
theorem saveIs_unique {f : Int} {l : List RouteV} {E E' : Int} {bs bs' : List Int} (hl : f = 0 → Valid l) (h : SaveIs f l E bs) (h' : SaveIs f l E' bs') : E = E' ∧ bs = bs' := by
  rcases h with ⟨a, rfl, rfl⟩ | ⟨a, rfl, S, h1, rfl⟩ <;> rcases h' with ⟨a', rfl, rfl⟩ | ⟨a', rfl, S', h1', rfl⟩
  · exact ⟨rfl, rfl⟩
  · exact absurd a' a
  · exact absurd a a'
  · rw [sortedOf_unique (hl a) h1 h1']; exact ⟨rfl, rfl⟩
theorem route_b {r : RouteV} (h : r.p.Ok) (h1 : 1 ≤ r.hop) (h2 : r.hop ≤ 999) : RouteB r := ⟨h.len.1, h.len.2, h1, h2, h.addr⟩
theorem routes_b {l S : List RouteV} (hv : Valid l) (h : SortedOf l S) : ∀ r ∈ S, RouteB r := fun r hr => by
  obtain ⟨a, b, c⟩ := hv.1 r (h.1.mem_iff.1 hr)
  exact route_b a b c
def SavedP (w : World) (f : Int) (l : List RouteV) (e : Ending) (w' : World) : Prop :=
  ∃ v E bs, e = .returned (.tuple #[v, .int .i64 E]) ∧ SaveIs f l E bs ∧ OwnBs w' w.heap.size v bs ∧ Below w.heap.size w w'
theorem savedP_bad {w w' : World} {f : Int} {l : List RouteV} (h : ¬ f = 0) (hb : Below w.heap.size w w') : SavedP w f l (.returned (.tuple #[.slice none 0 0, .int .i64 f])) w' :=
  ⟨_, f, [], rfl, .inl ⟨h, rfl, rfl⟩, World.ownsRow_nil _ _ _ _, hb⟩

set_option maxRecDepth 100000 in
set_option maxHeartbeats 3200000 in
theorem refSave_any {w : World} {Al : Option Addr} {nl cl : Nat} {l : List RouteV} (hl : IsRoutes w Al nl cl l) :
    Calls Try.prog 38 #[.slice Al nl cl] w (SavedP w (routesF l) l) := by
  have C1 := Lib.hid (tableFault_is hl)
  have HG1 := Lib.hid (fun h0 => valid_of hl.2.2.1 h0)
  have HZ1 := Lib.hid hl.1
  have HR1 := Lib.hid (fun (W : World) (hb : Below w.heap.size w W) => (hl.below hb).2.2.2)
  obtain ⟨post, hpost⟩ : ∃ post, SavedP w (routesF l) l = post := ⟨_, rfl⟩
  rw [hpost]
  obtain ⟨f, hf⟩ : ∃ f, routesF l = f := ⟨_, rfl⟩
  rw [hf] at C1 HG1 hpost
  have HP := Lib.hid hpost
  clear hl hpost hf
  by_cases hf : f = 0
  rotate_left
  · have d0 : (f != 0) = true := by simpa using hf
    go_enter Try.func38, Try.ntmps38
    go_wp2_with fail
    refine C1.out.mono ?_
    rintro e w1 ⟨rfl, hb1⟩
    have HB1 := Lib.hid hb1
    clear hb1
    go_wp2
    (try go_ret2)
    rw [← HP.out]
    exact savedP_bad hf HB1.out
  subst hf
  have hG1 := HG1.out rfl
  have hn1 : nl ≤ 60 := by rw [← HZ1.out]; exact hG1.2
  have HV1 : Hid (GoodL l) := hG1
  clear hG1 HG1
  go_enter Try.func38, Try.ntmps38
  go_wp2_with fail
  refine C1.out.mono ?_
  rintro e w2 ⟨rfl, hb2⟩
  have HB2 := Lib.hid hb2
  have hs2 := HB2.out.size
  have HRA := Lib.hid (HR1.out _ HB2.out)
  clear hb2 C1
  go_wp2_with (at_builtin; go_loud (refine wpList_append_reads rfl _ _ 26 rfl w2.heap.size 48 _ 5 40 Try.underlying26 infoRouteP rfl (by decide) _ _ _ rfl _ _ _ rfl (World.ownsRow_nil _ _ _ _) _ _ HRA.out (rts_one _) ?c3 ?c4 ?c5 ?_))
  case c3 => unfold maxLen; omega
  case c4 => omega
  case c5 => exact Nat.le_refl _
  intro v9 w3 hown9 hb3
  have H93 : Hid (OwnRs w3 w2.heap.size v9 l) := by
    show World.ownsRow _ _ _ _ _ _ _
    rw [HZ1.out]
    simpa using hown9
  obtain ⟨A9, c9, rfl, _, _⟩ := own_reads H93.out
  have HB3 := Lib.hid (below_step HB2.out hb3)
  have hs3 := hb3.size
  have CS1 := Lib.hid (sortRs_any H93.out HV1.out)
  obtain ⟨nn, hnn⟩ : ∃ nn, l.length = nn := ⟨_, rfl⟩
  rw [hnn] at CS1 H93
  rw [hnn]
  have HNN := Lib.hid hnn
  have hnn60 : nn ≤ 60 := by rw [← hnn]; exact HV1.out.2
  have m1 : (nn : Int) % 256 = nn := by omega
  clear hown9 hb3 HRA hnn
  go_wp2_with (go_at_call 92; (with_reducible refine CS1.out.mono ?_); rintro e w5 ⟨rfl, S, hS, h95, hg5⟩; have HS := Lib.hid hS; have H95 := Lib.hid h95; have HG5 := Lib.hid hg5; clear hS h95 hg5)
  have HB5 : Hid (Below w.heap.size w w5) := HB3.out.grown HG5.out HB3.out.size (fun b hb => by have := own_base H93.out b hb; omega)
  have hs5 := HB5.out.size
  have hls : S.length = nn := HS.out.1.length_eq.trans HNN.out
  obtain ⟨_, _, ea, hca, hra⟩ := own_reads H95.out
  injection ea with e1 e3 e2
  clear e3
  subst e1 e2
  rw [hls] at hra hca
  have HZ : Hid (S.length = nn) := hls
  have HBR := Lib.hid (routes_b HV1.out.1 HS.out)
  obtain ⟨X, hX⟩ : ∃ X : World, X = w5.alloc (.cells #[.int .u8 87, .int .u8 72, .int .u8 49, .int .u8 nn] 5) := ⟨_, rfl⟩
  have hbX : Below w5.heap.size w5 X := by rw [hX]; exact (Below.refl _ _).alloc (Nat.le_refl _) _
  have hoX : X.ownsRow w.heap.size 5 1 (.slice (some ⟨w5.heap.size, 0, none⟩) 4 4) 4 [.int .u8 87, .int .u8 72, .int .u8 49, .int .u8 nn] := by rw [hX]; exact own_new (us := [.int .u8 87, .int .u8 72, .int .u8 49, .int .u8 nn]) hs5 rfl (by decide)
  have HRX := Lib.hid ((hra.below hbX).more hbX.size)
  have HBX := Lib.hid (below_step HB5.out hbX)
  have hwX := HBX.out.size
  have HO1 : Hid (OwnBs X w.heap.size (.slice (some ⟨w5.heap.size, 0, none⟩) 4 4) (headL S)) := by
    show World.ownsRow _ _ _ _ _ _ _
    unfold headL
    rw [HZ.out]
    exact hoX
  have HRX9 : Hid (OwnRs X w2.heap.size (.slice A9 nn c9) S) := own_below H95.out hbX
  rw [← hX]
  clear hX hbX hoX hra hca hls CS1 HG5 H93 H95 HB2 HB3 HR1 HRX
  go_loopw [29, 6] (fun i s3 wr => ∃ (k : Nat) (v3 : Value), k ≤ nn ∧ i = .int .i64 k ∧ v3 = s3 ∧ OwnBs wr w.heap.size v3 (headL S ++ (S.take k).flatMap rbL) ∧ Hid (OwnRs wr w2.heap.size (.slice A9 nn c9) S) ∧ Below w.heap.size w wr) (fun i _ _ => nn - (intOf i).toNat)
  case atStart => exact ⟨0, _, by omega, rfl, rfl, by simpa using HO1.out, HRX9, HBX.out⟩
  case round =>
    obtain ⟨k, v3, hk, rfl, rfl, hrow, hown9, hb⟩ := hrel
    obtain ⟨wo, rfl⟩ : ∃ wo : World, wo = wr := ⟨_, rfl⟩
    have hszb := hb.size
    by_cases hlt : k < nn
    · obtain ⟨_, _, ea, hca, hra⟩ := own_reads hown9.out
      injection ea with e1 e3 e2
      clear e3
      subst e1 e2
      rw [HZ.out] at hra
      obtain ⟨ad, ⟨⟨six, hi, lo, m⟩, hop⟩, rfl, hlk, htk, hmem, hbk, hc0, hcj⟩ := hra.atS RouteV.cells_length HZ.out hlt
      have q0 := hc0 _ rfl
      have q1 := hcj 1 _ rfl
      have q2 := hcj 2 _ rfl
      have q3 := hcj 3 _ rfl
      have q4 := hcj 4 _ rfl
      have hrb := HBR.out _ hmem
      have hlen := save_length (L := S.take k) (fun r hr => HBR.out r (List.mem_of_mem_take hr))
      rw [List.length_take, HZ.out, Nat.min_eq_left (by omega)] at hlen
      have hfl : (S.take (k + 1)).flatMap rbL = (S.take k).flatMap rbL ++ rbL ⟨⟨six, hi, lo, m⟩, hop⟩ := by rw [htk, List.flatMap_append]; simp
      have hkk := hrb.k
      have hn0 := hrb.n0
      have hn1 := hrb.n1
      have hp0 := hrb.h0
      have hp1 := hrb.h1
      have HAO := Lib.hid hrb.a
      simp only at hkk hn0 hn1 hp0 hp1
      have hm128 : m ≤ 128 := by rcases wideI_cases six with h5 | h5 <;> rw [h5] at hn1 <;> omega
      have m2 : m % 256 = m := by omega
      obtain ⟨base, hbase⟩ : ∃ base, headL S ++ (S.take k).flatMap rbL = base := ⟨_, rfl⟩
      have hbl : base.length ≤ 4 + 20 * k := by rw [← hbase, List.length_append]; show 4 + _ ≤ _; omega
      rw [hbase] at hrow
      have HBA := Lib.hid hbase
      obtain ⟨bl, hbl2⟩ : ∃ bl, base.length = bl := ⟨_, rfl⟩
      unfold OwnBs at hrow
      rw [hbl2] at hrow hbl
      have HBL := Lib.hid hbl2
      have HFL := Lib.hid hfl
      have HO := Lib.hid (fun (o : Obj) => own_below hrow ((Below.refl _ _).alloc (Nat.le_refl _) o))
      have HO9 := Lib.hid (fun (o : Obj) => own_below hown9.out ((Below.refl _ _).alloc (Nat.le_refl _) o))
      have HBO := Lib.hid hb
      clear hlk htk hmem hbk hc0 hcj hb hrow hrb hlen hfl hbase hbl2 hn1 hra hca hown9
      obtain ⟨kk, hkk2⟩ : ∃ kk : Nat, kO ⟨⟨six, hi, lo, m⟩, hop⟩ = kk := ⟨_, rfl⟩
      have hk8 : (m + 7) / 8 = (kk : Int) := by rw [← hkk2]; unfold kO; simp only; omega
      rw [hkk2] at hkk
      have HKK := Lib.hid hkk2
      clear hkk2
      cases six with
      | false =>
        go_wp2_with (at_builtin; go_loud (refine wpList_append_mN (us := [.int .u8 0, .int .u8 m]) rfl _ _ 82 rfl w.heap.size _ 1 Try.underlying82 infoU8 rfl _ _ _ rfl rfl (by simp) (HO.out _) ?c1 rfl ?c2 ?c3 ?c4 ?_))
        case c1 => omega
        case c2 => exact ⟨rfl, rfl⟩
        case c3 => unfold maxLen; omega
        case c4 => omega
        intro v4 w6 hown6 hb6 hs6 hk6
        have hbx : Blk (wo.alloc (.cells #[.bool false, .int .u64 hi, .int .u64 lo, .int .i64 m, .int .i64 hop] 48)) wo.heap.size 48 #[.bool false, .int .u64 hi, .int .u64 lo, .int .i64 m, .int .i64 hop] := Blk.new _ _ _
        have hkt : KeepT 48 (wo.alloc (.cells #[.bool false, .int .u64 hi, .int .u64 lo, .int .i64 m, .int .i64 hop] 48)) w6 := KeepT.of_own (fun k hk hne => hk6 k (by simpa using hk) hne) (HO.out _) (by decide)
        have HK6 : Hid (Blk w6 wo.heap.size 48 #[.bool false, .int .u64 hi, .int .u64 lo, .int .i64 m, .int .i64 hop]) := (hkt _ _ hbx).trans hbx
        have H96 : Hid (OwnRs w6 w2.heap.size (.slice (some ad) nn c9) S) := own_keepT (HO9.out _) hkt
        have HB6 : Hid (Below w.heap.size w w6) := (HBO.out.alloc hszb _).trans hb6
        have HO6 : Hid (OwnBs w6 w.heap.size v4 (base ++ [0, m])) := by
          show World.ownsRow _ _ _ _ _ _ _
          rw [List.length_append, HBL.out, List.map_append]
          exact hown6
        have y0 := HK6.out.cell 0
        have y1 := HK6.out.cell 1
        have y2 := HK6.out.cell 2
        have y3 := HK6.out.cell 3
        have y4 := HK6.out.cell 4
        simp at y0 y1 y2 y3 y4
        have hw6 := HK6.out.lt
        have hsw6 := HB6.out.size
        have CP := Lib.hid (partsOf_any false hi lo 8 w6 HAO.out (by decide) (by decide))
        clear hown6 hb6 hk6 hbx hkt q0 q1 q2 q3 q4
        go_wp2_with fail
        refine CP.out.mono ?_
        rintro e w8 ⟨vp, rfl, hownp, hb8⟩
        have HK8 : Hid (Blk w8 wo.heap.size 48 #[.bool false, .int .u64 hi, .int .u64 lo, .int .i64 m, .int .i64 hop]) := HK6.out.below hb8 hw6
        have H98 : Hid (OwnRs w8 w2.heap.size (.slice (some ad) nn c9) S) := own_below H96.out hb8
        have HO8 : Hid (OwnBs w8 w.heap.size v4 (base ++ [0, m])) := own_below HO6.out hb8
        have HB8 := Lib.hid (below_step HB6.out hb8)
        have hs8 := hb8.size
        have hW : widN (⟨false, hi, lo⟩ : AV).six = 32 := by simp [widN]
        have hgl : (groups (AV.v ⟨false, hi, lo⟩) (widN (⟨false, hi, lo⟩ : AV).six) 8 (widN (⟨false, hi, lo⟩ : AV).six)).length = 4 := by rw [groups_length, hW]
        obtain ⟨G, hG⟩ : ∃ G, groups (AV.v ⟨false, hi, lo⟩) (widN (⟨false, hi, lo⟩ : AV).six) 8 (widN (⟨false, hi, lo⟩ : AV).six) = G := ⟨_, rfl⟩
        have HGG : Hid (∀ j, j < 4 → G[j]? = some (octN ⟨false, hi, lo⟩ j : Int)) := by
          intro j hj
          rw [← hG, groups_get _ _ _ _ j (by rw [hW]; omega), gv_oct ⟨false, hi, lo⟩ j (by rw [hW]; omega)]
        rw [hG] at hgl hownp
        rw [hgl] at hownp
        obtain ⟨Ap, cp, rfl, hcp, hrp⟩ := own_reads hownp
        obtain ⟨ap, rfl, -, -⟩ := hrp.2 (by decide)
        have HP8 := Lib.hid hownp
        have hkN : kk ≤ 4 := by
          have := hkk.1
          have e : widN false = 32 := by simp [widN]
          omega
        clear hownp hb8 hG hgl hrp y0 y1 y2 y3 y4 CP
        go_wp2
        go_loopw [50, 6] (fun i s6 wr => ∃ (j : Nat) (v5 : Value), j ≤ 4 ∧ i = .int .i64 j ∧ v5 = s6 ∧ OwnBs wr w.heap.size v5 (base ++ [0, m] ++ octs ⟨⟨false, hi, lo, m⟩, hop⟩ (min j kk)) ∧ Hid (Blk wr wo.heap.size 48 #[.bool false, .int .u64 hi, .int .u64 lo, .int .i64 m, .int .i64 hop]) ∧ Hid (OwnRs wr w2.heap.size (.slice (some ad) nn c9) S) ∧ Hid (wr.ownsRow w6.heap.size 3 1 (.slice (some ap) 4 cp) 4 (G.map (Value.int .i64))) ∧ Below w.heap.size w wr) (fun i _ _ => 4 - (intOf i).toNat)
        case atStart => exact ⟨0, _, by omega, rfl, rfl, (by rw [Nat.zero_min]; show OwnBs _ _ _ (_ ++ []); rw [List.append_nil]; exact HO8.out), HK8.out, H98.out, HP8.out, HB8.out⟩
        case round =>
          obtain ⟨j, v5, hj, rfl, rfl, hrow5, hk5, h95, hp5, hb5⟩ := hrel
          obtain ⟨wi, rfl⟩ : ∃ wi : World, wi = wr := ⟨_, rfl⟩
          have hszi := hb5.size
          have z0 := hk5.out.cell 0
          have z1 := hk5.out.cell 1
          have z2 := hk5.out.cell 2
          have z3 := hk5.out.cell 3
          have z4 := hk5.out.cell 4
          simp at z0 z1 z2 z3 z4
          have hwi := hk5.out.lt
          obtain ⟨bs, hbs⟩ : ∃ bs, base ++ [0, m] ++ octs ⟨⟨false, hi, lo, m⟩, hop⟩ (min j kk) = bs := ⟨_, rfl⟩
          have hbsl : bs.length = bl + 2 + min j kk := by rw [← hbs, List.length_append, List.length_append, octs_length, HBL.out]; rfl
          obtain ⟨ml, hml⟩ : ∃ ml, bl + 2 + min j kk = ml := ⟨_, rfl⟩
          have hml2 : ml ≤ bl + 18 := by omega
          rw [hbs] at hrow5
          unfold OwnBs at hrow5
          rw [hbsl, hml] at hrow5
          have HBSL : Hid (bs.length = ml) := hbsl.trans hml
          have HBS := Lib.hid hbs
          have HO5 := Lib.hid hrow5
          have HB5 := Lib.hid hb5
          clear hbsl hrow5 hb5 hml
          by_cases hlt : j < 4
          · obtain ⟨_, _, ea, -, hrp⟩ := own_reads hp5.out
            injection ea with e1 e3 e2
            clear e3
            subst e1 e2
            obtain ⟨ap', x, e1, hx, -, hxl, -⟩ := hrp.at1 hlt
            injection e1 with e1
            subst e1
            rw [HGG.out j hlt] at hxl
            injection hxl with hxl
            have hx255 : 0 ≤ x ∧ x < 256 := by have := octN_lt ⟨false, hi, lo⟩ j; omega
            have m4 : x % 256 = x := by omega
            have w8' : IntKind.i64.wrap (8 * (j : Int)) = 8 * (j : Int) := by rw [IntWalk.i64_in _ (by omega)]
            have HX := Lib.hid hxl
            clear hrp hxl
            by_cases hjk : j < kk
            · have hc : 8 * (j : Int) < m := by omega
              have hmn : min (j + 1) kk = min j kk + 1 := by omega
              have hmj : min j kk = j := by omega
              clear hbs
              go_wp2_with (at_builtin; go_loud (refine wpList_append_mN (us := [.int .u8 x]) rfl _ _ 82 rfl w.heap.size _ 1 Try.underlying82 infoU8 rfl _ _ _ rfl rfl (by first | rfl | simp) HO5.out (by omega) rfl (by first | rfl | exact ⟨rfl, rfl⟩ | (intro u hu; simp at hu; subst hu; rfl) | (intro u hu; simp at hu; rcases hu with rfl | rfl <;> rfl)) (by unfold maxLen; omega) (by omega) ?_))
              intro v7 w7 hown7 hb7 hs7 hk7
              have HK7 : Hid (Blk w7 wo.heap.size 48 #[.bool false, .int .u64 hi, .int .u64 lo, .int .i64 m, .int .i64 hop]) := (KeepT.of_own hk7 HO5.out (by decide) _ _ hk5.out).trans hk5.out
              have H97 : Hid (OwnRs w7 w2.heap.size (.slice (some ad) nn c9) S) := own_keepT h95.out (KeepT.of_own hk7 HO5.out (by decide))
              have HP7 : Hid (w7.ownsRow w6.heap.size 3 1 (.slice (some ap) 4 cp) 4 (G.map (Value.int .i64))) := own_keepT hp5.out (KeepT.of_own hk7 HO5.out (by decide))
              have HO7 : Hid (OwnBs w7 w.heap.size v7 (base ++ [0, m] ++ octs ⟨⟨false, hi, lo, m⟩, hop⟩ (min (j + 1) kk))) := by
                show World.ownsRow _ _ _ _ _ _ _
                rw [hmn, octs_succ, ← List.append_assoc, HBS.out, hmj]
                rw [show ((octN (PV.addr ⟨false, hi, lo, m⟩) j : Nat) : Int) = x from HX.out]
                rw [List.length_append, HBSL.out, List.map_append]
                exact hown7
              have HB7 : Hid (Below w.heap.size w w7) := HB5.out.trans hb7
              clear hown7 hb7 hk7
              go_wp2
              go_roundw
              case rel => exact ⟨j + 1, _, by omega, by go_num, rfl, HO7.out, HK7.out, H97.out, HP7.out, HB7.out⟩
              case measure => simp [intOf]; omega
            · have hc : ¬ 8 * (j : Int) < m := by omega
              have hmn : min (j + 1) kk = min j kk := by omega
              clear hbs
              go_wp2
              go_roundw
              case rel => exact ⟨j + 1, _, by omega, by go_num, rfl, (by rw [hmn, HBS.out]; show World.ownsRow _ _ _ _ _ _ _; rw [HBSL.out]; exact HO5.out), hk5.out, h95.out, hp5.out, HB5.out⟩
              case measure => simp [intOf]; omega
          · obtain rfl : j = 4 := by omega
            have hmk : min 4 kk = kk := by omega
            rw [hmk] at hbs
            have HBQ := Lib.hid hbs
            have t1 : Int.tdiv hop 256 = hop / 256 := Int.tdiv_eq_ediv_of_nonneg (by omega)
            have t2 : Int.tmod hop 256 = hop % 256 := Int.tmod_eq_emod_of_nonneg (by omega)
            have t3 : IntKind.i64.wrap (hop / 256) = hop / 256 := by rw [IntWalk.i64_in _ (by omega)]
            have t4 : IntKind.i64.wrap (hop % 256) = hop % 256 := by rw [IntWalk.i64_in _ (by omega)]
            have m3 : hop / 256 % 256 = hop / 256 := by omega
            clear hbs
            go_wp2_with (at_builtin; go_loud (refine wpList_append_mN (us := [.int .u8 (hop / 256), .int .u8 (hop % 256)]) rfl _ _ 82 rfl w.heap.size _ 1 Try.underlying82 infoU8 rfl _ _ _ rfl rfl (by first | rfl | simp) HO5.out (by omega) rfl (by first | rfl | exact ⟨rfl, rfl⟩ | (intro u hu; simp at hu; subst hu; rfl) | (intro u hu; simp at hu; rcases hu with rfl | rfl <;> rfl)) (by unfold maxLen; omega) (by omega) ?_))
            intro v7 w7 hown7 hb7 hs7 hk7
            have H97 : Hid (OwnRs w7 w2.heap.size (.slice (some ad) nn c9) S) := own_keepT h95.out (KeepT.of_own hk7 HO5.out (by decide))
            have HO7 : Hid (OwnBs w7 w.heap.size v7 (headL S ++ (S.take (k + 1)).flatMap rbL)) := by
              show World.ownsRow _ _ _ _ _ _ _
              have e9 : headL S ++ (S.take (k + 1)).flatMap rbL = bs ++ [hop / 256, hop % 256] := by
                rw [HFL.out, ← List.append_assoc, HBA.out, ← HBQ.out]
                show base ++ rbL _ = _
                unfold rbL
                rw [HKK.out]
                simp
              rw [e9, List.length_append, HBSL.out, List.map_append]
              exact hown7
            have HB7 := Lib.hid (HB5.out.trans hb7)
            clear hown7 hb7 hk7
            go_wp2
            go_roundw
            case rel =>
              exact ⟨k + 1, _, by omega, by go_num, rfl, HO7.out, H97.out, HB7.out⟩
            case measure => simp [intOf]; omega
      | true =>
        go_wp2_with (at_builtin; go_loud (refine wpList_append_mN (us := [.int .u8 1, .int .u8 m]) rfl _ _ 82 rfl w.heap.size _ 1 Try.underlying82 infoU8 rfl _ _ _ rfl rfl (by simp) (HO.out _) ?c1 rfl ?c2 ?c3 ?c4 ?_))
        case c1 => omega
        case c2 => exact ⟨rfl, rfl⟩
        case c3 => unfold maxLen; omega
        case c4 => omega
        intro v4 w6 hown6 hb6 hs6 hk6
        have hbx : Blk (wo.alloc (.cells #[.bool true, .int .u64 hi, .int .u64 lo, .int .i64 m, .int .i64 hop] 48)) wo.heap.size 48 #[.bool true, .int .u64 hi, .int .u64 lo, .int .i64 m, .int .i64 hop] := Blk.new _ _ _
        have hkt : KeepT 48 (wo.alloc (.cells #[.bool true, .int .u64 hi, .int .u64 lo, .int .i64 m, .int .i64 hop] 48)) w6 := KeepT.of_own (fun k hk hne => hk6 k (by simpa using hk) hne) (HO.out _) (by decide)
        have HK6 : Hid (Blk w6 wo.heap.size 48 #[.bool true, .int .u64 hi, .int .u64 lo, .int .i64 m, .int .i64 hop]) := (hkt _ _ hbx).trans hbx
        have H96 : Hid (OwnRs w6 w2.heap.size (.slice (some ad) nn c9) S) := own_keepT (HO9.out _) hkt
        have HB6 : Hid (Below w.heap.size w w6) := (HBO.out.alloc hszb _).trans hb6
        have HO6 : Hid (OwnBs w6 w.heap.size v4 (base ++ [1, m])) := by
          show World.ownsRow _ _ _ _ _ _ _
          rw [List.length_append, HBL.out, List.map_append]
          exact hown6
        have y0 := HK6.out.cell 0
        have y1 := HK6.out.cell 1
        have y2 := HK6.out.cell 2
        have y3 := HK6.out.cell 3
        have y4 := HK6.out.cell 4
        simp at y0 y1 y2 y3 y4
        have hw6 := HK6.out.lt
        have hsw6 := HB6.out.size
        have CP := Lib.hid (partsOf_any true hi lo 8 w6 HAO.out (by decide) (by decide))
        clear hown6 hb6 hk6 hbx hkt q0 q1 q2 q3 q4
        go_wp2_with fail
        refine CP.out.mono ?_
        rintro e w8 ⟨vp, rfl, hownp, hb8⟩
        have HK8 : Hid (Blk w8 wo.heap.size 48 #[.bool true, .int .u64 hi, .int .u64 lo, .int .i64 m, .int .i64 hop]) := HK6.out.below hb8 hw6
        have H98 : Hid (OwnRs w8 w2.heap.size (.slice (some ad) nn c9) S) := own_below H96.out hb8
        have HO8 : Hid (OwnBs w8 w.heap.size v4 (base ++ [1, m])) := own_below HO6.out hb8
        have HB8 := Lib.hid (below_step HB6.out hb8)
        have hs8 := hb8.size
        have hW : widN (⟨true, hi, lo⟩ : AV).six = 128 := by simp [widN]
        have hgl : (groups (AV.v ⟨true, hi, lo⟩) (widN (⟨true, hi, lo⟩ : AV).six) 8 (widN (⟨true, hi, lo⟩ : AV).six)).length = 16 := by rw [groups_length, hW]
        obtain ⟨G, hG⟩ : ∃ G, groups (AV.v ⟨true, hi, lo⟩) (widN (⟨true, hi, lo⟩ : AV).six) 8 (widN (⟨true, hi, lo⟩ : AV).six) = G := ⟨_, rfl⟩
        have HGG : Hid (∀ j, j < 16 → G[j]? = some (octN ⟨true, hi, lo⟩ j : Int)) := by
          intro j hj
          rw [← hG, groups_get _ _ _ _ j (by rw [hW]; omega), gv_oct ⟨true, hi, lo⟩ j (by rw [hW]; omega)]
        rw [hG] at hgl hownp
        rw [hgl] at hownp
        obtain ⟨Ap, cp, rfl, hcp, hrp⟩ := own_reads hownp
        obtain ⟨ap, rfl, -, -⟩ := hrp.2 (by decide)
        have HP8 := Lib.hid hownp
        have hkN : kk ≤ 16 := by
          have := hkk.1
          have e : widN true = 128 := by simp [widN]
          omega
        clear hownp hb8 hG hgl hrp y0 y1 y2 y3 y4 CP
        go_wp2
        go_loopw [50, 6] (fun i s6 wr => ∃ (j : Nat) (v5 : Value), j ≤ 16 ∧ i = .int .i64 j ∧ v5 = s6 ∧ OwnBs wr w.heap.size v5 (base ++ [1, m] ++ octs ⟨⟨true, hi, lo, m⟩, hop⟩ (min j kk)) ∧ Hid (Blk wr wo.heap.size 48 #[.bool true, .int .u64 hi, .int .u64 lo, .int .i64 m, .int .i64 hop]) ∧ Hid (OwnRs wr w2.heap.size (.slice (some ad) nn c9) S) ∧ Hid (wr.ownsRow w6.heap.size 3 1 (.slice (some ap) 16 cp) 16 (G.map (Value.int .i64))) ∧ Below w.heap.size w wr) (fun i _ _ => 16 - (intOf i).toNat)
        case atStart => exact ⟨0, _, by omega, rfl, rfl, (by rw [Nat.zero_min]; show OwnBs _ _ _ (_ ++ []); rw [List.append_nil]; exact HO8.out), HK8.out, H98.out, HP8.out, HB8.out⟩
        case round =>
          obtain ⟨j, v5, hj, rfl, rfl, hrow5, hk5, h95, hp5, hb5⟩ := hrel
          obtain ⟨wi, rfl⟩ : ∃ wi : World, wi = wr := ⟨_, rfl⟩
          have hszi := hb5.size
          have z0 := hk5.out.cell 0
          have z1 := hk5.out.cell 1
          have z2 := hk5.out.cell 2
          have z3 := hk5.out.cell 3
          have z4 := hk5.out.cell 4
          simp at z0 z1 z2 z3 z4
          have hwi := hk5.out.lt
          obtain ⟨bs, hbs⟩ : ∃ bs, base ++ [1, m] ++ octs ⟨⟨true, hi, lo, m⟩, hop⟩ (min j kk) = bs := ⟨_, rfl⟩
          have hbsl : bs.length = bl + 2 + min j kk := by rw [← hbs, List.length_append, List.length_append, octs_length, HBL.out]; rfl
          obtain ⟨ml, hml⟩ : ∃ ml, bl + 2 + min j kk = ml := ⟨_, rfl⟩
          have hml2 : ml ≤ bl + 18 := by omega
          rw [hbs] at hrow5
          unfold OwnBs at hrow5
          rw [hbsl, hml] at hrow5
          have HBSL : Hid (bs.length = ml) := hbsl.trans hml
          have HBS := Lib.hid hbs
          have HO5 := Lib.hid hrow5
          have HB5 := Lib.hid hb5
          clear hbsl hrow5 hb5 hml
          by_cases hlt : j < 16
          · obtain ⟨_, _, ea, -, hrp⟩ := own_reads hp5.out
            injection ea with e1 e3 e2
            clear e3
            subst e1 e2
            obtain ⟨ap', x, e1, hx, -, hxl, -⟩ := hrp.at1 hlt
            injection e1 with e1
            subst e1
            rw [HGG.out j hlt] at hxl
            injection hxl with hxl
            have hx255 : 0 ≤ x ∧ x < 256 := by have := octN_lt ⟨true, hi, lo⟩ j; omega
            have m4 : x % 256 = x := by omega
            have w8' : IntKind.i64.wrap (8 * (j : Int)) = 8 * (j : Int) := by rw [IntWalk.i64_in _ (by omega)]
            have HX := Lib.hid hxl
            clear hrp hxl
            by_cases hjk : j < kk
            · have hc : 8 * (j : Int) < m := by omega
              have hmn : min (j + 1) kk = min j kk + 1 := by omega
              have hmj : min j kk = j := by omega
              clear hbs
              go_wp2_with (at_builtin; go_loud (refine wpList_append_mN (us := [.int .u8 x]) rfl _ _ 82 rfl w.heap.size _ 1 Try.underlying82 infoU8 rfl _ _ _ rfl rfl (by first | rfl | simp) HO5.out (by omega) rfl (by first | rfl | exact ⟨rfl, rfl⟩ | (intro u hu; simp at hu; subst hu; rfl) | (intro u hu; simp at hu; rcases hu with rfl | rfl <;> rfl)) (by unfold maxLen; omega) (by omega) ?_))
              intro v7 w7 hown7 hb7 hs7 hk7
              have HK7 : Hid (Blk w7 wo.heap.size 48 #[.bool true, .int .u64 hi, .int .u64 lo, .int .i64 m, .int .i64 hop]) := (KeepT.of_own hk7 HO5.out (by decide) _ _ hk5.out).trans hk5.out
              have H97 : Hid (OwnRs w7 w2.heap.size (.slice (some ad) nn c9) S) := own_keepT h95.out (KeepT.of_own hk7 HO5.out (by decide))
              have HP7 : Hid (w7.ownsRow w6.heap.size 3 1 (.slice (some ap) 16 cp) 16 (G.map (Value.int .i64))) := own_keepT hp5.out (KeepT.of_own hk7 HO5.out (by decide))
              have HO7 : Hid (OwnBs w7 w.heap.size v7 (base ++ [1, m] ++ octs ⟨⟨true, hi, lo, m⟩, hop⟩ (min (j + 1) kk))) := by
                show World.ownsRow _ _ _ _ _ _ _
                rw [hmn, octs_succ, ← List.append_assoc, HBS.out, hmj]
                rw [show ((octN (PV.addr ⟨true, hi, lo, m⟩) j : Nat) : Int) = x from HX.out]
                rw [List.length_append, HBSL.out, List.map_append]
                exact hown7
              have HB7 : Hid (Below w.heap.size w w7) := HB5.out.trans hb7
              clear hown7 hb7 hk7
              go_wp2
              go_roundw
              case rel => exact ⟨j + 1, _, by omega, by go_num, rfl, HO7.out, HK7.out, H97.out, HP7.out, HB7.out⟩
              case measure => simp [intOf]; omega
            · have hc : ¬ 8 * (j : Int) < m := by omega
              have hmn : min (j + 1) kk = min j kk := by omega
              clear hbs
              go_wp2
              go_roundw
              case rel => exact ⟨j + 1, _, by omega, by go_num, rfl, (by rw [hmn, HBS.out]; show World.ownsRow _ _ _ _ _ _ _; rw [HBSL.out]; exact HO5.out), hk5.out, h95.out, hp5.out, HB5.out⟩
              case measure => simp [intOf]; omega
          · obtain rfl : j = 16 := by omega
            have hmk : min 16 kk = kk := by omega
            rw [hmk] at hbs
            have HBQ := Lib.hid hbs
            have t1 : Int.tdiv hop 256 = hop / 256 := Int.tdiv_eq_ediv_of_nonneg (by omega)
            have t2 : Int.tmod hop 256 = hop % 256 := Int.tmod_eq_emod_of_nonneg (by omega)
            have t3 : IntKind.i64.wrap (hop / 256) = hop / 256 := by rw [IntWalk.i64_in _ (by omega)]
            have t4 : IntKind.i64.wrap (hop % 256) = hop % 256 := by rw [IntWalk.i64_in _ (by omega)]
            have m3 : hop / 256 % 256 = hop / 256 := by omega
            clear hbs
            go_wp2_with (at_builtin; go_loud (refine wpList_append_mN (us := [.int .u8 (hop / 256), .int .u8 (hop % 256)]) rfl _ _ 82 rfl w.heap.size _ 1 Try.underlying82 infoU8 rfl _ _ _ rfl rfl (by first | rfl | simp) HO5.out (by omega) rfl (by first | rfl | exact ⟨rfl, rfl⟩ | (intro u hu; simp at hu; subst hu; rfl) | (intro u hu; simp at hu; rcases hu with rfl | rfl <;> rfl)) (by unfold maxLen; omega) (by omega) ?_))
            intro v7 w7 hown7 hb7 hs7 hk7
            have H97 : Hid (OwnRs w7 w2.heap.size (.slice (some ad) nn c9) S) := own_keepT h95.out (KeepT.of_own hk7 HO5.out (by decide))
            have HO7 : Hid (OwnBs w7 w.heap.size v7 (headL S ++ (S.take (k + 1)).flatMap rbL)) := by
              show World.ownsRow _ _ _ _ _ _ _
              have e9 : headL S ++ (S.take (k + 1)).flatMap rbL = bs ++ [hop / 256, hop % 256] := by
                rw [HFL.out, ← List.append_assoc, HBA.out, ← HBQ.out]
                show base ++ rbL _ = _
                unfold rbL
                rw [HKK.out]
                simp
              rw [e9, List.length_append, HBSL.out, List.map_append]
              exact hown7
            have HB7 := Lib.hid (HB5.out.trans hb7)
            clear hown7 hb7 hk7
            go_wp2
            go_roundw
            case rel =>
              exact ⟨k + 1, _, by omega, by go_num, rfl, HO7.out, H97.out, HB7.out⟩
            case measure => simp [intOf]; omega
    · obtain rfl : k = nn := by omega
      have ht : S.take k = S := List.take_of_length_le (by rw [HZ.out]; exact Nat.le_refl _)
      rw [ht] at hrow
      have hrow : OwnBs wo w.heap.size v3 (saveL S) := hrow
      have hlen := save_length HBR.out
      rw [HZ.out] at hlen
      have hsl : (saveL S).length ≤ 1204 := by unfold saveL; rw [List.length_append]; show 4 + _ ≤ _; omega
      have hby := save_bytes HBR.out (by rw [HZ.out]; exact hnn60)
      have hrg := sumOf_range (saveL S)
      obtain ⟨zs, hzs⟩ : ∃ zs, saveL S = zs := ⟨_, rfl⟩
      rw [hzs] at hrow hsl hby hrg
      obtain ⟨A3, c3, rfl, hc3, hr3⟩ := own_reads hrow
      obtain ⟨N, hN⟩ : ∃ N, sumOf zs = N := ⟨_, rfl⟩
      have CS0 := refSum_any A3 zs.length c3 zs wo (by omega) hby rfl hr3
      rw [hN] at CS0 hrg
      obtain ⟨zl, hzl⟩ : ∃ zl, zs.length = zl := ⟨_, rfl⟩
      unfold OwnBs at hrow
      rw [hzl] at CS0 hsl hrow hc3
      have CS := Lib.hid CS0
      have HO := Lib.hid hrow
      have HBO := Lib.hid hb
      have HZS := Lib.hid hzs
      have HNS := Lib.hid hN
      have HZL := Lib.hid hzl
      rw [hzl]
      have x1 : N / 16777216 % 256 = N / 16777216 := by omega
      have t1 : Int.tdiv N 16777216 = N / 16777216 := Int.tdiv_eq_ediv_of_nonneg (by omega)
      have t2 : Int.tdiv N 65536 = N / 65536 := Int.tdiv_eq_ediv_of_nonneg (by omega)
      have t3 : Int.tdiv N 256 = N / 256 := Int.tdiv_eq_ediv_of_nonneg (by omega)
      have t4 : Int.tmod (N / 65536) 256 = N / 65536 % 256 := Int.tmod_eq_emod_of_nonneg (by omega)
      have t5 : Int.tmod (N / 256) 256 = N / 256 % 256 := Int.tmod_eq_emod_of_nonneg (by omega)
      have t6 : Int.tmod N 256 = N % 256 := Int.tmod_eq_emod_of_nonneg (by omega)
      have u1 : IntKind.i64.wrap (N / 16777216) = N / 16777216 := by rw [IntWalk.i64_in _ (by omega)]
      have u2 : IntKind.i64.wrap (N / 65536) = N / 65536 := by rw [IntWalk.i64_in _ (by omega)]
      have u3 : IntKind.i64.wrap (N / 256) = N / 256 := by rw [IntWalk.i64_in _ (by omega)]
      have u4 : IntKind.i64.wrap (N / 65536 % 256) = N / 65536 % 256 := by rw [IntWalk.i64_in _ (by omega)]
      have u5 : IntKind.i64.wrap (N / 256 % 256) = N / 256 % 256 := by rw [IntWalk.i64_in _ (by omega)]
      have u6 : IntKind.i64.wrap (N % 256) = N % 256 := by rw [IntWalk.i64_in _ (by omega)]
      clear CS0 hrow hb hr3 hby hzs hN hzl ht hlen hown9
      go_wp2_with fail
      refine CS.out.mono ?_
      rintro e w7 ⟨rfl, rfl⟩
      go_wp2_with (at_builtin; go_loud (refine wpList_append_mN (us := [.int .u8 (N / 16777216), .int .u8 (N / 65536 % 256), .int .u8 (N / 256 % 256), .int .u8 (N % 256)]) rfl _ _ 82 rfl w.heap.size _ 1 Try.underlying82 infoU8 rfl _ _ _ rfl rfl (by first | rfl | simp) HO.out hszb rfl (by first | exact ⟨rfl, rfl, rfl, rfl⟩ | (intro u hu; simp at hu; rcases hu with rfl | rfl | rfl | rfl <;> rfl)) (by unfold maxLen; omega) (by omega) ?_))
      intro v7 w9 hown7 hb7 hs7 hk7
      have HO7 : Hid (OwnBs w9 w.heap.size v7 (zs ++ tailL N)) := by
        show World.ownsRow _ _ _ _ _ _ _
        rw [List.length_append, HZL.out, List.map_append]
        exact hown7
      have HB7 := Lib.hid (HBO.out.trans hb7)
      clear hown7 hb7 hk7
      go_wp2
      (try go_ret2)
      rw [← HP.out]
      exact ⟨_, 0, _, rfl, .inr ⟨rfl, rfl, S, HS.out, rfl⟩, by rw [HZS.out, HNS.out]; exact HO7.out, HB7.out⟩

end Go.Proofs.Ytmljdjakbbedlaa

namespace Go.Proofs.Ytmljdjakbbedlaa
open Go.ChangeShapes Go.WideShapes Go.ChangeAt Go.RowKit Go.Shelf

attribute [local go_sem] Oper.semAt_some

/-- Where no depth is asked the figures are all one. -/
theorem round_any {F : Fence} (hd : F.depth = none) {m m' : Nat} {P : Program} {l : Nat} {f : FuncId} {tmps : Array Value} {assign body : Code} {w : World} {R : Ending → World → Prop}
    (h : RoundIn F m P l f tmps assign body w R) : RoundIn F m' P l f tmps assign body w R := ⟨h.1, fun c cs _ => h.2 c cs (fun d h => by rw [hd] at h; cases h)⟩

/-- A function with bound arguments ahead gives its elements to a yield that always says 'go on'. -/
def SeqAll {α : Type} (P : Program) (gf : Nat) (la : Array Value) (encs : α → Array Value) (n₀ : Nat) (S : List α → Prop) (N : Nat) (w : World) : Prop :=
  ∀ (n l : Nat) (J : List α → World → Prop) (W : World), Below w.heap.size w W → AbidesFrom W.heap.size J →
    (∀ m pre x W1, J pre W1 → pre.length < N → YieldAt Fence.wide m P l (encs x) W1 fun e W' => e = .returned (.bool true) ∧ J (pre ++ [x]) W' ∧ Below n₀ W1 W') →
    J [] W → CallsIn Fence.wide n P gf (la ++ #[.func (.yield l) #[] #[]]) W fun e W' => (∃ v, e = .returned v) ∧ ∃ xs, S xs ∧ J xs W'

theorem wpIn_range_recv {α : Type} {P : Program} {g : Operand} {ps : Array Tmp} {assign body : Code} {Q : Exit → Act → World → Prop} {a : Act} {w w0 : World} {n gf : Nat} {la : Array Value}
    (hg : a.eval g = .func (.func gf) la #[]) (eg : ∀ args w, (callFunc gf args).run P w = .ok (.enter gf args) w)
    {encs : α → Array Value} {n₀ : Nat} {S : List α → Prop} {N : Nat} (hseq : SeqAll P gf la encs n₀ S N w0) (hn₀ : n₀ ≤ w.heap.size) (hb0 : Below w0.heap.size w0 w) (hps : ∀ x, (encs x).size = ps.size)
    (I : List α → World → Prop) (hI : OwnFrom w.heap.size I) (h0 : I [] w) (Ax : α → Act → World → Prop) (hAx : ∀ x a', OwnFrom w.heap.size (fun (_ : Unit) W => Ax x a' W))
    (hassign : ∀ (l m : Nat) (pre : List α) (x : α) (W : World) (K : Act → World → Prop), I pre W → (∀ a' W', KeepsFrom w.heap.size W W' → Below n₀ W W' → I pre W' → Ax x a' W' → K a' W') →
      assign.wpIn (Fence.wide.inRound l) m P (Exit.then K (fun _ _ _ => False)) { tmps := (ps.zip (encs x)).foldl (fun t (p, v) => t.setIfInBounds p v) a.tmps, defers := [] } W)
    (hbody : ∀ (l m : Nat) (pre : List α) (x : α) (a' : Act) (W : World), I pre W → Ax x a' W → pre.length < N →
      body.wpIn (Fence.wide.inRound l) m P (ownPostG w.heap.size (Below n₀) I (fun _ _ _ => False) (pre ++ [x]) W) a' W)
    (hdone : ∀ (D : Nat) (xs : List α) (W : World), w.heap.size ≤ D → S xs → I xs W → W.heap[D]? = some (.deferred (some [])) → Q .normal { a with defers := { target := .collected D, args := #[] } :: a.defers } W) :
    (Code.rangeFunc g ps assign body).wpIn Fence.wide n P Q a w := by
  refine wpIn_rangeFunc ?_
  intro fn hfn
  rw [show Fence.wide.round = none from rfl]
  obtain ⟨rec, hrec⟩ : ∃ rec : LoopState → Option Code → Loop, rec = fun st pe => { state := st, pending := pe, fn, tmps := a.tmps, params := ps, assign, body, defers := w.heap.size } := ⟨_, rfl⟩
  obtain ⟨W1, hW1⟩ : ∃ W1, (w.alloc (.deferred (some []))).alloc (.loop (rec .ready none)) = W1 := ⟨_, rfl⟩
  have hB1 : Below w.heap.size w W1 := by rw [← hW1]; exact (((Below.refl _ w).alloc (Nat.le_refl _) _).alloc (by simp) _)
  have hs1 : W1.heap.size = w.heap.size + 1 + 1 := by rw [← hW1]; simp
  have hL1 : W1.heap[w.heap.size + 1]? = some (.loop (rec .ready none)) := by
    rw [← hW1]
    have := World.alloc_heap_new (w.alloc (.deferred (some []))) (.loop (rec .ready none))
    rwa [World.size_alloc] at this
  have hK1 : W1.heap[w.heap.size]? = some (.deferred (some [])) := by
    rw [← hW1]
    exact (Below.heap_alloc _ _ _ (by simp)).trans (World.alloc_heap_new w _)
  have hI1 : I [] W1 := by rw [← hW1]; exact hI.alloc _ (hI.alloc _ h0)
  refine ⟨w.heap.size + 1, [{ target := .collected w.heap.size, args := #[] }], W1, { target := .fn (.func gf) #[], args := la ++ #[.func (.yield (w.heap.size + 1)) #[] #[]] }, W1, gf, la ++ #[.func (.yield (w.heap.size + 1)) #[] #[]], W1, ?_, ?_, ?_, ?_, fun h => (by cases h), ?_⟩
  · rw [← hW1, hrec]
    exact run_enterLoop_outer _ _ _ _ _
  · simp only [resolve, hg]
    simp [go_sem]
  · intro f' hf'
    trivial
  · simp [invoke, go_sem, eg]
  · refine (hseq (n - 1) (w.heap.size + 1) (fun pre W => I pre W ∧ W.heap[w.heap.size + 1]? = some (.loop (rec .ready none)) ∧ W.heap[w.heap.size]? = some (.deferred (some []))) W1 (hb0.trans (hB1.mono hb0.size)) ?_ ?_ ⟨hI1, hL1, hK1⟩).mono ?_
    · intro s A B row hs hg' hr
      have hw : ∀ r, row = some r → ∃ o : Obj, A.heap[r]? = some o ∧ o.isWalk = true := fun r e => (hr r e).2
      refine ⟨hI s A B row hs.1 hg' (fun r e => ?_), (grownBy_keeps hg' hw hs.2.1 rfl).trans hs.2.1, (grownBy_keeps hg' hw hs.2.2 rfl).trans hs.2.2⟩
      obtain ⟨h1, o, ho, hwk⟩ := hr r e
      exact ⟨by omega, o, ho, Obj.not_cells_of_walk hwk⟩
    · intro m pre x W hJ hlen
      obtain ⟨hi, hl, hk⟩ := hJ
      have hy := run_yield (P := P) (args := encs x) hl (by rw [hrec]; exact hps x)
      rw [hrec] at hy
      refine ⟨fn, _, assign, body, hy, roundIn_of_wpIn hfn (hassign (w.heap.size + 1) m pre x W _ hi ?_)⟩
      clear hy
      intro a' Wa hka hba hia hax
      have hla := hka.same _ _ (by omega) hl rfl
      have hkk := hka.same _ _ (Nat.le_refl _) hk rfl
      have hlt := (Array.getElem?_eq_some_iff.1 hla).1
      refine ⟨_, run_beginRound hla (by rw [hrec]), ?_⟩
      obtain ⟨busy, hbusy⟩ : ∃ busy : Loop, busy = { rec .ready none with state := .busy } := ⟨_, rfl⟩
      rw [← hbusy]
      obtain ⟨Wb, hWb⟩ : ∃ Wb, Wb = Wa.putObj (w.heap.size + 1) (.loop busy) := ⟨_, rfl⟩
      have hl2 : Wb.heap[w.heap.size + 1]? = some (.loop busy) := by rw [hWb]; exact World.putObj_heap_same hlt
      have hk2 : Wb.heap[w.heap.size]? = some (.deferred (some [])) := by rw [hWb]; exact (World.putObj_heap_other (by omega)).trans hkk
      have hbb : Below n₀ Wa Wb := by rw [hWb]; exact belowK_b hn₀ Wa (w.heap.size + 1) _ _ (by omega) hla rfl rfl
      have hib : I pre Wb := by rw [hWb]; exact hI.putObj _ hia (by omega) hla rfl
      have hxb : Ax x a' Wb := by rw [hWb]; exact (hAx x a').putObj (s := ()) _ hax (by omega) hla rfl
      rw [← hWb]
      clear hWb
      refine wpIn_mono (hbody (w.heap.size + 1) m pre x a' Wb hib hxb hlen) ?_
      intro e a3 W3 hp
      cases e with
      | normal =>
        obtain ⟨hk3, hb3, hi3⟩ := hp
        have hl3 := hk3.same _ _ (by omega) hl2 rfl
        have hd3 := hk3.same _ _ (Nat.le_refl _) hk2 rfl
        have hlt3 := (Array.getElem?_eq_some_iff.1 hl3).1
        have hend := run_endRound (P := P) none hl3
        have hback : { busy with state := if (none : Option Code).isNone then LoopState.ready else .done, pending := none } = rec .ready none := by rw [hbusy, hrec]; rfl
        rw [hback] at hend
        refine ⟨_, _, hend, rfl, ⟨hI.putObj _ hi3 (by omega) hl3 rfl, World.putObj_heap_same hlt3, (World.putObj_heap_other (by omega)).trans hd3⟩, ?_⟩
        exact hba.trans (hbb.trans (hb3.trans (belowK_b hn₀ W3 (w.heap.size + 1) _ _ (by omega) hl3 rfl rfl)))
      | ret => exact hp.2.elim
      | exit id => exact hp.2.elim
      | goto t => exact hp.2.elim
      | panic ch => exact hp.elim
      | outgrown => exact hp.elim
    · rintro e W' ⟨⟨v, rfl⟩, xs, hS, hi, hl, hk⟩
      have hend := run_endLoop (P := P) hl (by rw [hrec]; intro h; cases h)
      rw [show (rec .ready none).pending = none from by rw [hrec]] at hend
      refine ⟨none, _, hend, ?_⟩
      exact hdone w.heap.size xs _ (Nat.le_refl _) hS (hI.putObj _ hi (by omega) hl rfl) ((World.putObj_heap_other (by omega)).trans hk)

end Go.Proofs.Ytmljdjakbbedlaa

namespace Go.Proofs.Ytmljdjakbbedlaa
open Go.BigFrame Go.ChangeShapes Go.WideShapes Go.ChangeAt Go.RowKit Go.Shelf

attribute [local go_sem] Oper.semAt_some

set_option maxRecDepth 100000 in
set_option maxHeartbeats 8000000 in
theorem nodeEach_in {l n₀ B N : Nat} {J : List RouteV → World → Prop} (hJd : ∀ pre W q, J pre W → J pre (W.drewN q))
    (hY : ∀ m pre x W, J pre W → pre.length < N → YieldAt Fence.wide m Try.prog l #[x.val] W fun e W' => e = .returned (.bool true) ∧ J (pre ++ [x]) W' ∧ Below n₀ W W') (t : Tr) :
    ∀ (n : Nat) (pre : List RouteV) (W : World), t.Lies W B → (∀ g ∈ t.blocks, g < n₀) → J pre W → pre.length + (routesT t).length ≤ N →
      CallsIn Fence.wide n Try.prog 138 #[t.ptr, .func (.yield l) #[] #[]] W fun e W' => e = .returned (.bool true) ∧ J (pre ++ routesT t) W' ∧ Below n₀ W W' := by
  induction t with
  | nil =>
    intro n pre W _ _ hJ _
    unfold Tr.ptr
    refine callsIn_of_wp Try.func138 rfl trivial ?_ rfl
    simp only [Try.ntmps138, List.size_toArray, List.length_cons, List.length_nil, Nat.reduceAdd, Nat.reduceSub, Array.replicate_succ, Array.replicate_zero, List.push_toArray, List.append_toArray, List.nil_append, List.cons_append]
    gi_wp2
    go_ret
    exact ⟨rfl, by simpa [routesT] using hJ, Below.refl _ _⟩
  | node g p h tl tr ihl ihr =>
    intro n pre W ht hb hJ hN
    obtain ⟨hBg, hk, hl, hr⟩ := ht
    have hgn : g < n₀ := hb g (by simp [Tr.blocks])
    have hbl : ∀ x ∈ tl.blocks, x < n₀ := fun x hx => hb x (by simp [Tr.blocks, hx])
    have hbr : ∀ x ∈ tr.blocks, x < n₀ := fun x hx => hb x (by simp [Tr.blocks, hx])
    obtain ⟨six, hi, lo, pn⟩ := p
    have c0 := hk.cell 0
    have c1 := hk.cell 1
    have c2 := hk.cell 2
    have c3 := hk.cell 3
    have c4 := hk.cell 4
    have c5 := hk.cell 5
    have c6 := hk.cell 6
    simp [nodeCs] at c0 c1 c2 c3 c4 c5 c6
    unfold Tr.ptr
    refine callsIn_of_wp Try.func138 rfl trivial ?_ rfl
    simp only [Try.ntmps138, List.size_toArray, List.length_cons, List.length_nil, Nat.reduceAdd, Nat.reduceSub, Array.replicate_succ, Array.replicate_zero, List.push_toArray, List.append_toArray, List.nil_append, List.cons_append]
    have HJ := Lib.hid hJ
    have HL := Lib.hid (fun (W1 : World) (hb1 : Below n₀ W W1) => hl.keep (w' := W1) (fun x hx => hb1.block x (hbl x hx)))
    have HR := Lib.hid (fun (W1 : World) (hb1 : Below n₀ W W1) => hr.keep (w' := W1) (fun x hx => hb1.block x (hbr x hx)))
    have IL := Lib.hid ihl
    have IR := Lib.hid ihr
    have HY := Lib.hid hY
    clear ihl ihr hY hl hr hJ hk hb
    by_cases h0 : h = 0
    · subst h0
      have hrl : routesT (.node g ⟨six, hi, lo, pn⟩ 0 tl tr) = routesT tl ++ routesT tr := by simp [routesT]
      rw [hrl] at hN
      have HRL := Lib.hid hrl
      have hN1 : pre.length + (routesT tl).length ≤ N := by rw [List.length_append] at hN; omega
      have hN2 : (pre ++ routesT tl).length + (routesT tr).length ≤ N := by rw [List.length_append] at hN ⊢; omega
      have HN1 := Lib.hid hN1
      have HN2 := Lib.hid hN2
      clear hrl hN hN1 hN2
      gi_wp2
      refine wpIn_region_quiet_lit rfl (by kernel_rfl) (by kernel_rfl) ?_
      repeat (gi_big_quiet_step (fail))
      refine wpQuietIn_skip (fun _ _ _ _ => trivial) rfl ?_
      simp only [Act.put, List.setIfInBounds_toArray, List.set_cons_zero, List.set_cons_succ]
      repeat (gi_big_quiet_step (fail))
      refine wpQuietIn_nil ?_
      intro _ hw'
      obtain ⟨nq, hw''⟩ := hw'
      subst hw''
      have HB1 : Hid (Below n₀ W (W.drewN nq)) := below_drewN (Below.refl _ _) nq
      have HJ1 := Lib.hid (hJd pre W nq HJ.out)
      have CL := Lib.hid (fun m => IL.out m pre _ (HL.out _ HB1.out) hbl HJ1.out HN1.out)
      gi_wp2_with fail
      refine ⟨trivial, fun h => (by cases h), (CL.out _).mono ?_⟩
      rintro e W2 ⟨rfl, hJ2, hb2⟩
      have HB2 := Lib.hid (HB1.out.trans hb2)
      have HJ2 := Lib.hid hJ2
      have c6' := (HB2.out.cell (p := ⟨g, 6, none⟩) hgn).trans c6
      have CR := Lib.hid (fun m => IR.out m _ _ (HR.out _ HB2.out) hbr HJ2.out HN2.out)
      clear hJ2 hb2
      gi_wp2_with fail
      refine ⟨trivial, fun h => (by cases h), (CR.out _).mono ?_⟩
      rintro e W3 ⟨rfl, hJ3, hb3⟩
      have HB3 := Lib.hid (HB2.out.trans hb3)
      have HJ3 := Lib.hid hJ3
      clear hJ3 hb3
      gi_wp2
      go_ret
      exact ⟨rfl, by rw [HRL.out, ← List.append_assoc]; exact HJ3.out, HB3.out⟩
    · have d0 : (h != 0) = true := by simpa using h0
      have hrl : routesT (.node g ⟨six, hi, lo, pn⟩ h tl tr) = [⟨⟨six, hi, lo, pn⟩, h⟩] ++ (routesT tl ++ routesT tr) := by simp [routesT, h0]
      rw [hrl] at hN
      have HRL := Lib.hid hrl
      have hN0 : pre.length < N := by simp only [List.length_append, List.length_cons, List.length_nil] at hN; omega
      have hN1 : (pre ++ [(⟨⟨six, hi, lo, pn⟩, h⟩ : RouteV)]).length + (routesT tl).length ≤ N := by simp only [List.length_append, List.length_cons, List.length_nil] at hN ⊢; omega
      have hN2 : ((pre ++ [(⟨⟨six, hi, lo, pn⟩, h⟩ : RouteV)]) ++ routesT tl).length + (routesT tr).length ≤ N := by simp only [List.length_append, List.length_cons, List.length_nil] at hN ⊢; omega
      have HN0 := Lib.hid hN0
      have HN1 := Lib.hid hN1
      have HN2 := Lib.hid hN2
      have HB0 : Hid (Below n₀ W W.drew) := (Below.refl _ _).drew
      have HJ0 : Hid (J pre W.drew) := hJd pre W 1 HJ.out
      clear hrl hN hN0 hN1 hN2
      obtain ⟨fn, tmps, assign, body, hy, hR⟩ := HY.out (n - 1) pre ⟨⟨six, hi, lo, pn⟩, h⟩ _ HJ0.out HN0.out
      have HRR := Lib.hid hR
      unfold RouteV.val at hy
      simp only at hy
      clear hR
      gi_wp2
      gi_region_with (refine ⟨fun h => (by cases h), HRR.out.mono ?_⟩; rintro e W2 ⟨rfl, hJ2, hb2⟩; have HB2 := Lib.hid (HB0.out.trans hb2); have HJ2 := Lib.hid hJ2; clear hJ2 hb2)
      all_goals (
        have CL := Lib.hid (fun m => IL.out m _ _ (HL.out _ HB2.out) hbl HJ2.out HN1.out)
        have c5' := (HB2.out.cell (p := ⟨g, 5, none⟩) hgn).trans c5
        gi_wp2_with fail
        refine ⟨trivial, fun h => (by cases h), (CL.out _).mono ?_⟩
        rintro e W3 ⟨rfl, hJ3, hb3⟩
        have HB3 := Lib.hid (HB2.out.trans hb3)
        have HJ3 := Lib.hid hJ3
        have c6' := (HB3.out.cell (p := ⟨g, 6, none⟩) hgn).trans c6
        have CR := Lib.hid (fun m => IR.out m _ _ (HR.out _ HB3.out) hbr HJ3.out HN2.out)
        clear hJ3 hb3
        gi_wp2_with fail
        refine ⟨trivial, fun h => (by cases h), (CR.out _).mono ?_⟩
        rintro e W4 ⟨rfl, hJ4, hb4⟩
        have HB4 := Lib.hid (HB3.out.trans hb4)
        have HJ4 := Lib.hid hJ4
        clear hJ4 hb4
        gi_wp2
        go_ret
        exact ⟨rfl, by rw [HRL.out, ← List.append_assoc, ← List.append_assoc]; exact HJ4.out, HB4.out⟩)

end Go.Proofs.Ytmljdjakbbedlaa
