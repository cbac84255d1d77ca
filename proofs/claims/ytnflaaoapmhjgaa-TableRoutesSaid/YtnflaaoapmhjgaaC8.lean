/-
  
-/
import Derived.Test.YtnflaaoapmhjgaaC6
import Derived.Test.YtnflaaoapmhjgaaC7
import Derived.Test.YtnflaaoapmhjgaaC2
import Derived.Deep.CutBlock
import Derived.Deep.DeepCutAuto
namespace Go.Proofs.Ytnflaaoapmhjgaa
open Go.ChangeShapes Go.WideShapes Go.ChangeAt Go.RowKit

theorem infoRouteP : (Try.prog.info? 57).map (fun i => (i.zero, i.size, i.bytes)) = some (some (.agg #[.bool false, .int .u64 0, .int .u64 0, .int .i64 0, .int .i64 0]), 5, 40) := by kernel_rfl
def OwnRs (w : World) (base : Nat) (v : Value) (L : List RouteV) : Prop := w.ownsRow base 57 5 v L.length (L.flatMap RouteV.cells)
theorem routes_flat_len (q : List RouteV) : (q.flatMap RouteV.cells).length = q.length * 5 := by
  induction q with
  | nil => rfl
  | cons x q ih => simp [List.flatMap_cons, ih, RouteV.cells]; omega
theorem rts_one (l : List RouteV) : ∀ u ∈ l.flatMap RouteV.cells, u.oneCell' = true := by
  intro u hu
  obtain ⟨a, _, ha⟩ := List.mem_flatMap.1 hu
  simp [RouteV.cells] at ha
  rcases ha with rfl | rfl | rfl | rfl | rfl <;> rfl
theorem rflat_drop (q : List RouteV) {z : Nat} (hz : z ≤ q.length) : (q.flatMap RouteV.cells).drop (z * 5) = (q.drop z).flatMap RouteV.cells := by
  have e : q.flatMap RouteV.cells = (q.take z).flatMap RouteV.cells ++ (q.drop z).flatMap RouteV.cells := by rw [← List.flatMap_append, List.take_append_drop]
  have hl : ((q.take z).flatMap RouteV.cells).length = z * 5 := by rw [routes_flat_len, List.length_take, Nat.min_eq_left hz]
  rw [e, ← hl, List.drop_left]
theorem rset_flat {q : List RouteV} {u : Nat} {a : RouteV} (hu : u < q.length) : (q.set u a).flatMap RouteV.cells = ((q.take u).flatMap RouteV.cells ++ a.cells) ++ (q.drop (u + 1)).flatMap RouteV.cells := by
  rw [List.set_eq_take_append_cons_drop, if_pos hu, List.flatMap_append, List.flatMap_cons, List.append_assoc]
/-- A row of routes of the call's own that is not empty: its place, its cells. -/
theorem OwnRs.form {w : World} {base : Nat} {v : Value} {L : List RouteV} (h : OwnRs w base v L) (h0 : 0 < L.length) :
    ∃ g c cur, v = .slice (some ⟨g, 0, none⟩) L.length c ∧ base ≤ g ∧ Blk w g 57 cur ∧ L.length ≤ c ∧ c ≤ maxLen ∧ cur.size = c * 5 ∧ cur.toList.take (L.length * 5) = L.flatMap RouteV.cells := by
  rcases h.2 with ⟨_, hz⟩ | ⟨g, cap, cur, hv, hg, hh, hn, hc, hs, ht⟩
  · omega
  · exact ⟨g, cap, cur, hv, hg, hh, hn, hc, hs, ht⟩
theorem OwnRs.at_ {w : World} {base : Nat} {L : List RouteV} {g c : Nat} (h : OwnRs w base (.slice (some ⟨g, 0, none⟩) L.length c) L) {t : Nat} {x : RouteV} (hx : L[t]? = some x) :
    (w.cell? ⟨g, t * 5, none⟩ = some (.bool x.p.six) ∧ w.cell? ⟨g, t * 5 + 1, none⟩ = some (.int .u64 x.p.hi) ∧ w.cell? ⟨g, t * 5 + 2, none⟩ = some (.int .u64 x.p.lo) ∧ w.cell? ⟨g, t * 5 + 3, none⟩ = some (.int .i64 x.p.n) ∧ w.cell? ⟨g, t * 5 + 4, none⟩ = some (.int .i64 x.hop)) ∧ g < w.heap.size ∧ base ≤ g := by
  have ht := (List.getElem?_eq_some_iff.1 hx).1
  obtain ⟨g', c', cur, hv, hg, hb, hn, hc, hs, hcur⟩ := h.form (by omega)
  injection hv with h0 _ _
  injection h0 with h0
  injection h0 with h0
  subst h0
  have hc5 : ∀ j u, x.cells[j]? = some u → w.cell? ⟨g, t * 5 + j, none⟩ = some u := by
    intro j u hj
    rw [hb.cell]
    have hfl := flat_at (f := RouteV.cells) RouteV.cells_length L t x j u hx hj
    have hjl : j < 5 := (List.getElem?_eq_some_iff.1 hj).1
    rw [← hcur, List.getElem?_take, if_pos (by omega)] at hfl
    rw [← Array.getElem?_toList]
    exact hfl
  exact ⟨⟨hc5 0 _ rfl, hc5 1 _ rfl, hc5 2 _ rfl, hc5 3 _ rfl, hc5 4 _ rfl⟩, hb.lt, hg⟩
theorem OwnRs.free {w : World} {base : Nat} {L : List RouteV} {g c : Nat} (h : OwnRs w base (.slice (some ⟨g, 0, none⟩) L.length c) L) (h0 : 0 < L.length) (o : Nat) : w.frozen? ⟨g, o, none⟩ = false := by
  obtain ⟨g', c', cur, hv, hg, hb, _⟩ := h.form h0
  injection hv with h1 _ _
  injection h1 with h1
  injection h1 with h1
  subst h1
  exact hb.frozen o
theorem flat_set_hop {L : List RouteV} {u : Nat} {x : RouteV} (hx : L[u]? = some x) (hop : Int) : (L.flatMap RouteV.cells).set (u * 5 + 4) (.int .i64 hop) = (L.set u ⟨x.p, hop⟩).flatMap RouteV.cells := by
  have hu := (List.getElem?_eq_some_iff.1 hx).1
  have e : L.flatMap RouteV.cells = (L.take u).flatMap RouteV.cells ++ (x.cells ++ (L.drop (u + 1)).flatMap RouteV.cells) := by
    have : L = L.take u ++ x :: L.drop (u + 1) := by
      have h1 := List.take_append_drop u L
      have h2 : L.drop u = x :: L.drop (u + 1) := by
        rw [List.drop_eq_getElem_cons hu]
        congr 1
        have := (List.getElem?_eq_some_iff.1 hx).2
        exact this
      rw [← h2, h1]
    conv => lhs; rw [this]
    rw [List.flatMap_append, List.flatMap_cons]
  have hl : ((L.take u).flatMap RouteV.cells).length = u * 5 := by rw [routes_flat_len, List.length_take, Nat.min_eq_left (by omega)]
  rw [rset_flat hu, e, List.set_append_right _ _ (by omega), hl, show u * 5 + 4 - u * 5 = 4 by omega]
  rw [List.append_assoc]
  rfl
/-- The hop of a row's route is written. -/
theorem OwnRs.set_ {w : World} {base : Nat} {L : List RouteV} {g c : Nat} (h : OwnRs w base (.slice (some ⟨g, 0, none⟩) L.length c) L) {u : Nat} {x : RouteV} (hx : L[u]? = some x) (hop : Int) :
    OwnRs (w.setCell ⟨g, u * 5 + 4, none⟩ (.int .i64 hop)) base (.slice (some ⟨g, 0, none⟩) L.length c) (L.set u ⟨x.p, hop⟩) := by
  have hu := (List.getElem?_eq_some_iff.1 hx).1
  obtain ⟨g', c', cur, hv, hg, hb, hn, hc, hs, hcur⟩ := h.form (by omega)
  injection hv with h0 _ h2
  injection h0 with h0
  injection h0 with h0
  subst h0 h2
  unfold OwnRs
  rw [List.length_set]
  refine ⟨by rw [routes_flat_len, List.length_set], .inr ⟨g, c, cur.setIfInBounds (u * 5 + 4) (.int .i64 hop), rfl, hg, hb.set_ _ _, hn, hc, by simpa using hs, ?_⟩⟩
  rw [Array.toList_setIfInBounds, List.take_set, hcur, flat_set_hop hx]
theorem OwnRs.below {w w' : World} {base : Nat} {v : Value} {L : List RouteV} (h : OwnRs w base v L) (hb : Below w.heap.size w w') : OwnRs w' base v L := own_below h hb
theorem OwnAs.below {w w' : World} {base : Nat} {v : Value} {L : List AnsV} (h : OwnAs w base v L) (hb : Below w.heap.size w w') : OwnAs w' base v L := own_below h hb
theorem own_blk_lt {w : World} {base size n : Nat} {e : TypeId} {v : Value} {xs : List Value} (h : w.ownsRow base e size v n xs) : ∀ b, v.ownBlock = some b → b < w.heap.size := by
  intro b hb
  rcases h.2 with ⟨rfl, _⟩ | ⟨g, cap, cur, rfl, _, hh, _⟩
  · simp [Value.ownBlock] at hb
  · simp [Value.ownBlock] at hb
    subst hb
    exact (Array.getElem?_eq_some_iff.1 hh).1
theorem Good.isRoutes {w : World} {base : Nat} {v : Value} {L : List RouteV} (h : OwnRs w base v L) (hv : Valid L) : ∃ A c, v = .slice A L.length c ∧ IsRoutes w A L.length c L := by
  obtain ⟨A, c, rfl, hc, hr⟩ := own_reads h
  refine ⟨A, c, rfl, rfl, hc, fun r hr' => ?_, hr⟩
  obtain ⟨h1, h2, h3⟩ := hv.1 r hr'
  have := h1.len
  have := wideI_le r.p.six
  exact ⟨h1.rhi, h1.rlo, by omega, by omega⟩

/-- A round's end: the routes and the answer. -/
def MetT (w wo : World) (L : List RouteV) (As : List AnsV) (v6 : Value) (tb : Nat) (a : ActV) (v5 : Value) (wx : World) : Prop :=
  OwnRs wx w.heap.size v5 (doL L a) ∧ OwnAs wx w.heap.size v6 As ∧ Blk wx tb 47 #[.int .i64 (doA L a).code, .int .i64 (doA L a).hop, .int .i64 (doA L a).len] ∧ Below w.heap.size w wx ∧ wo.heap.size ≤ tb ∧ tb < wx.heap.size
theorem metT_code {w wo V : World} {L : List RouteV} {As : List AnsV} {v5 v6 : Value} {tb : Nat} {a : ActV} {code : Int} (h5 : OwnRs V w.heap.size v5 L) (h6 : OwnAs V w.heap.size v6 As) (hn6 : ∀ b, v6.ownBlock = some b → b < wo.heap.size) (hn5 : ∀ b, v5.ownBlock = some b → b < wo.heap.size)
    (hk : Blk V tb 47 #[.int .i64 0, .int .i64 0, .int .i64 0]) (hb : Below w.heap.size w V) (htb : wo.heap.size ≤ tb) (hw : w.heap.size ≤ wo.heap.size) (hA : doA L a = ⟨code, 0, 0⟩) (hL : doL L a = L) :
    MetT w wo L As v6 tb a v5 (V.setCell ⟨tb, 0, none⟩ (.int .i64 code)) := by
  unfold MetT
  rw [hA, hL]
  exact ⟨ownsRow_setCell_other h5 (fun he => by have : tb < wo.heap.size := hn5 _ he; omega) _, ownsRow_setCell_other h6 (fun he => by have : tb < wo.heap.size := hn6 _ he; omega) _, hk.set_ 0 _, hb.setCell (by show w.heap.size ≤ tb; omega) _, htb, by simp; exact hk.lt⟩
theorem metT_hop {w wo V : World} {L L' : List RouteV} {As : List AnsV} {v5 v6 : Value} {tb : Nat} {a : ActV} {hop : Int} (h5 : OwnRs V w.heap.size v5 L') (h6 : OwnAs V w.heap.size v6 As) (hn6 : ∀ b, v6.ownBlock = some b → b < wo.heap.size) (hn5 : ∀ b, v5.ownBlock = some b → ¬ b = tb)
    (hk : Blk V tb 47 #[.int .i64 0, .int .i64 0, .int .i64 0]) (hb : Below w.heap.size w V) (htb : wo.heap.size ≤ tb) (hw : w.heap.size ≤ wo.heap.size) (hA : doA L a = ⟨0, hop, 0⟩) (hL : doL L a = L') :
    MetT w wo L As v6 tb a v5 (V.setCell ⟨tb, 1, none⟩ (.int .i64 hop)) := by
  unfold MetT
  rw [hA, hL]
  exact ⟨ownsRow_setCell_other h5 (fun he => hn5 _ he rfl) _, ownsRow_setCell_other h6 (fun he => by have : tb < wo.heap.size := hn6 _ he; omega) _, hk.set_ 1 _, hb.setCell (by show w.heap.size ≤ tb; omega) _, htb, by simp; exact hk.lt⟩

theorem metT_put {w wo V : World} {L : List RouteV} {As : List AnsV} {v6 : Value} {tb g5 c5 u : Nat} {a : ActV} {x : RouteV} (h5 : OwnRs V w.heap.size (.slice (some ⟨g5, 0, none⟩) L.length c5) L) (h6 : OwnAs V w.heap.size v6 As) (hn6 : ∀ b, v6.ownBlock = some b → b < wo.heap.size) (hg : g5 < wo.heap.size)
    (hk : Blk V tb 47 #[.int .i64 0, .int .i64 0, .int .i64 0]) (hb : Below w.heap.size w V) (htb : wo.heap.size ≤ tb) (_hw : w.heap.size ≤ wo.heap.size) (hx : L[u]? = some x) (hA : doA L a = ⟨0, x.hop, 0⟩) (hL : doL L a = L.set u ⟨x.p, a.hop⟩) :
    MetT w wo L As v6 tb a (.slice (some ⟨g5, 0, none⟩) L.length c5) ((V.setCell ⟨tb, 1, none⟩ (.int .i64 x.hop)).setCell ⟨g5, u * 5 + 4, none⟩ (.int .i64 a.hop)) := by
  have hu := (List.getElem?_eq_some_iff.1 hx).1
  have h5' : OwnRs (V.setCell ⟨tb, 1, none⟩ (.int .i64 x.hop)) w.heap.size (.slice (some ⟨g5, 0, none⟩) L.length c5) L := ownsRow_setCell_other h5 (fun he => by simp [Value.ownBlock] at he; omega) _
  have hbase : w.heap.size ≤ g5 := (h5.at_ hx).2.2
  have hne : ∀ b, v6.ownBlock = some b → ¬ b = g5 := by
    intro b hb' e
    subst e
    obtain ⟨g', c', cur, hv, _, hbl, _⟩ := h5.form (by omega)
    injection hv with q1 _ _
    injection q1 with q1
    injection q1 with q1
    subst q1
    exact own_blk_ne h6 hbl (by decide) hb'
  unfold MetT
  rw [hA, hL]
  refine ⟨?_, ?_, ((hk.set_ 1 _).far (by show ¬ tb = g5; omega) _), ?_, htb, by simp; exact hk.lt⟩
  · have := h5'.set_ hx a.hop
    exact this
  · exact ownsRow_setCell_other (ownsRow_setCell_other h6 (fun he => by have : tb < wo.heap.size := hn6 _ he; omega) _) (fun he => hne _ he rfl) _
  · exact (hb.setCell (by show w.heap.size ≤ tb; omega) _).setCell hbase _
theorem metT_get {w wo V : World} {L : List RouteV} {As : List AnsV} {v5 v6 : Value} {tb : Nat} {a : ActV} {h1 h2 : Int} (h5 : OwnRs V w.heap.size v5 L) (h6 : OwnAs V w.heap.size v6 As) (hn6 : ∀ b, v6.ownBlock = some b → b < wo.heap.size) (hn5 : ∀ b, v5.ownBlock = some b → b < wo.heap.size)
    (hk : Blk V tb 47 #[.int .i64 0, .int .i64 0, .int .i64 0]) (hb : Below w.heap.size w V) (htb : wo.heap.size ≤ tb) (hw : w.heap.size ≤ wo.heap.size) (hA : doA L a = ⟨0, h1, h2⟩) (hL : doL L a = L) :
    MetT w wo L As v6 tb a v5 ((V.setCell ⟨tb, 1, none⟩ (.int .i64 h1)).setCell ⟨tb, 2, none⟩ (.int .i64 h2)) := by
  unfold MetT
  rw [hA, hL]
  have e5 : ∀ b, v5.ownBlock = some b → ¬ b = tb := fun b hb' e => by have := hn5 _ hb'; omega
  have e6 : ∀ b, v6.ownBlock = some b → ¬ b = tb := fun b hb' e => by have := hn6 _ hb'; omega
  exact ⟨ownsRow_setCell_other (ownsRow_setCell_other h5 (fun he => e5 _ he rfl) _) (fun he => e5 _ he rfl) _, ownsRow_setCell_other (ownsRow_setCell_other h6 (fun he => e6 _ he rfl) _) (fun he => e6 _ he rfl) _, (hk.set_ 1 _).set_ 2 _, (hb.setCell (by show w.heap.size ≤ tb; omega) _).setCell (by show w.heap.size ≤ tb; omega) _, htb, by simp; exact hk.lt⟩
theorem metT_look {w wo V : World} {L : List RouteV} {As : List AnsV} {v5 v6 : Value} {tb : Nat} {a : ActV} {h0 h1 h2 : Int} (h5 : OwnRs V w.heap.size v5 L) (h6 : OwnAs V w.heap.size v6 As) (hn6 : ∀ b, v6.ownBlock = some b → b < wo.heap.size) (hn5 : ∀ b, v5.ownBlock = some b → b < wo.heap.size)
    (hk : Blk V tb 47 #[.int .i64 0, .int .i64 0, .int .i64 0]) (hb : Below w.heap.size w V) (htb : wo.heap.size ≤ tb) (hw : w.heap.size ≤ wo.heap.size) (hA : doA L a = ⟨h0, h1, h2⟩) (hL : doL L a = L) :
    MetT w wo L As v6 tb a v5 (((V.setCell ⟨tb, 0, none⟩ (.int .i64 h0)).setCell ⟨tb, 1, none⟩ (.int .i64 h1)).setCell ⟨tb, 2, none⟩ (.int .i64 h2)) := by
  unfold MetT
  rw [hA, hL]
  have e5 : ∀ b, v5.ownBlock = some b → ¬ b = tb := fun b hb' e => by have := hn5 _ hb'; omega
  have e6 : ∀ b, v6.ownBlock = some b → ¬ b = tb := fun b hb' e => by have := hn6 _ hb'; omega
  exact ⟨ownsRow_setCell_other (ownsRow_setCell_other (ownsRow_setCell_other h5 (fun he => e5 _ he rfl) _) (fun he => e5 _ he rfl) _) (fun he => e5 _ he rfl) _, ownsRow_setCell_other (ownsRow_setCell_other (ownsRow_setCell_other h6 (fun he => e6 _ he rfl) _) (fun he => e6 _ he rfl) _) (fun he => e6 _ he rfl) _, ((hk.set_ 0 _).set_ 1 _).set_ 2 _, ((hb.setCell (by show w.heap.size ≤ tb; omega) _).setCell (by show w.heap.size ≤ tb; omega) _).setCell (by show w.heap.size ≤ tb; omega) _, htb, by simp; exact hk.lt⟩

theorem metT_putM {w wo V : World} {L : List RouteV} {m : Nat} {As : List AnsV} {v6 : Value} {tb g5 c5 u : Nat} {a : ActV} {x : RouteV} (hm : L.length = m) (h5 : OwnRs V w.heap.size (.slice (some ⟨g5, 0, none⟩) L.length c5) L) (h6 : OwnAs V w.heap.size v6 As) (hn6 : ∀ b, v6.ownBlock = some b → b < wo.heap.size) (hg : g5 < wo.heap.size)
    (hk : Blk V tb 47 #[.int .i64 0, .int .i64 0, .int .i64 0]) (hb : Below w.heap.size w V) (htb : wo.heap.size ≤ tb) (hw : w.heap.size ≤ wo.heap.size) (hx : L[u]? = some x) (hA : doA L a = ⟨0, x.hop, 0⟩) (hL : doL L a = L.set u ⟨x.p, a.hop⟩) :
    MetT w wo L As v6 tb a (.slice (some ⟨g5, 0, none⟩) m c5) ((V.setCell ⟨tb, 1, none⟩ (.int .i64 x.hop)).setCell ⟨g5, u * 5 + 4, none⟩ (.int .i64 a.hop)) := by
  subst hm
  exact metT_put h5 h6 hn6 hg hk hb htb hw hx hA hL
theorem metT_getM {w wo V : World} {L : List RouteV} {m : Nat} {As : List AnsV} {g5 c5 : Nat} {v6 : Value} {tb : Nat} {a : ActV} {h1 h2 : Int} (hm : L.length = m) (h5 : OwnRs V w.heap.size (.slice (some ⟨g5, 0, none⟩) L.length c5) L) (h6 : OwnAs V w.heap.size v6 As) (hn6 : ∀ b, v6.ownBlock = some b → b < wo.heap.size) (hn5 : ∀ b, (Value.slice (some ⟨g5, 0, none⟩) L.length c5).ownBlock = some b → b < wo.heap.size)
    (hk : Blk V tb 47 #[.int .i64 0, .int .i64 0, .int .i64 0]) (hb : Below w.heap.size w V) (htb : wo.heap.size ≤ tb) (hw : w.heap.size ≤ wo.heap.size) (hA : doA L a = ⟨0, h1, h2⟩) (hL : doL L a = L) :
    MetT w wo L As v6 tb a (.slice (some ⟨g5, 0, none⟩) m c5) ((V.setCell ⟨tb, 1, none⟩ (.int .i64 h1)).setCell ⟨tb, 2, none⟩ (.int .i64 h2)) := by
  subst hm
  exact metT_get h5 h6 hn6 hn5 hk hb htb hw hA hL
theorem metT_app {w wo V W : World} {L L' : List RouteV} {n : Nat} {xs : List Value} {As : List AnsV} {v5 v5' v6 : Value} {tb : Nat} {a : ActV} (ho : OwnRs W w.heap.size v5' L') (h6 : OwnAs V w.heap.size v6 As) (h5 : V.ownsRow w.heap.size 57 5 v5 n xs)
    (hk : Blk V tb 47 #[.int .i64 0, .int .i64 0, .int .i64 0]) (hb : Below w.heap.size w V) (hb9 : Below w.heap.size V W) (hs : V.heap.size < W.heap.size) (hf : ∀ k, k < V.heap.size → v5.ownBlock ≠ some k → W.heap[k]? = V.heap[k]?) (htb : wo.heap.size ≤ tb) (hA : doA L a = ⟨0, 0, 0⟩) (hL : doL L a = L') :
    MetT w wo L As v6 tb a v5' W := by
  unfold MetT
  rw [hA, hL]
  have hkt : KeepT 47 V W := KeepT.of_own hf h5 (by decide)
  refine ⟨ho, own_keepT h6 hkt, (hkt tb _ hk).trans hk, hb.trans hb9, htb, ?_⟩
  have := hk.lt
  omega
theorem metT_cut {w wo V W : World} {L L' : List RouteV} {As : List AnsV} {v5 v6 : Value} {tb : Nat} {a : ActV} {h1 : Int} (ho : OwnRs W w.heap.size v5 L') (h6 : OwnAs W w.heap.size v6 As)
    (hk : Blk V tb 47 #[.int .i64 0, .int .i64 h1, .int .i64 0]) (hb : Below w.heap.size w V) (hb4 : Below V.heap.size V W) (htb : wo.heap.size ≤ tb) (hw : w.heap.size ≤ V.heap.size) (hA : doA L a = ⟨0, h1, 0⟩) (hL : doL L a = L') :
    MetT w wo L As v6 tb a v5 W := by
  unfold MetT
  rw [hA, hL]
  refine ⟨ho, h6, hk.below hb4 hk.lt, hb.trans (hb4.mono hw), htb, ?_⟩
  have := hk.lt
  have := hb4.size
  omega

theorem own_base {w : World} {base size n : Nat} {e : TypeId} {v : Value} {xs : List Value} (h : w.ownsRow base e size v n xs) : ∀ b, v.ownBlock = some b → base ≤ b := by
  intro b hb
  rcases h.2 with ⟨rfl, _⟩ | ⟨g, cap, cur, rfl, hg, hh, _⟩
  · simp [Value.ownBlock] at hb
  · simp [Value.ownBlock] at hb
    subst hb
    exact hg
theorem sorted_strict {S : List OkR} (h : S.Pairwise (fun x y => ltR y x = false)) (hn : ((S.map (fun x => x.1)).map RouteV.p).Nodup) : (S.map (fun x => x.1)).Pairwise (fun x y => ltP x.p y.p) := by
  induction S with
  | nil => exact List.Pairwise.nil
  | cons x S ih =>
    rw [List.pairwise_cons] at h
    simp only [List.map_cons, List.nodup_cons] at hn
    rw [List.map_cons, List.pairwise_cons]
    refine ⟨fun y hy => ?_, ih h.2 hn.2⟩
    obtain ⟨z, hz, rfl⟩ := List.mem_map.1 hy
    have h1 := h.1 z hz
    rw [Bool.eq_false_iff, ne_eq, ltR_iff] at h1
    refine Classical.byContradiction fun hx => ?_
    have e := ltP_total x.2 z.2 hx h1
    exact hn.1 (List.mem_map.2 ⟨z.1, List.mem_map.2 ⟨z, hz, rfl⟩, e.symm⟩)

def PlayedR (w : World) (n : Nat) (l : List ActV) (e : Ending) (w' : World) : Prop :=
  (100 < n → e = .returned (.tuple #[.slice none 0 0, .slice none 0 0, .int .i64 1]) ∧ Below w.heap.size w w') ∧
    (¬ 100 < n → ∃ v6 v5 S, e = .returned (.tuple #[v6, v5, .int .i64 0]) ∧ OwnAs w' w.heap.size v6 (ansL l []) ∧ OwnRs w' w.heap.size v5 S ∧ S.Perm (actL l []) ∧ S.Pairwise (fun x y => ltP x.p y.p) ∧ Below w.heap.size w w')

set_option maxRecDepth 100000 in
set_option maxHeartbeats 6400000 in
theorem refTab_any {w : World} {A : Option Addr} {n c : Nat} {l : List ActV} (h : IsActs w A n l) (hc : n ≤ c ∧ c ≤ maxLen) :
    Calls Try.prog 56 #[.slice A n c] w (PlayedR w n l) := by
  have HZ := Lib.hid h.len
  have HR := Lib.hid h.reads
  have HOK := Lib.hid h.ok
  have hcm := hc.2
  unfold maxLen at hcm
  clear h hc
  obtain ⟨post, hpost⟩ : ∃ post, PlayedR w n l = post := ⟨_, rfl⟩
  have HP := Lib.hid hpost
  rw [hpost]
  clear hpost
  by_cases h100 : 100 < n
  · have d1 : decide (100 < (n : Int)) = true := by simp; omega
    go_enter Try.func56, Try.ntmps56
    go_wp2
    (try go_ret3)
    rw [← HP.out]
    exact ⟨fun _ => ⟨rfl, Below.refl _ _⟩, fun hn => absurd h100 hn⟩
  · have d1 : decide (100 < (n : Int)) = false := by simp; omega
    go_enter Try.func56, Try.ntmps56
    go_wp2
    go_loopw [19, 5, 6] (fun i s5 s6 wr => ∃ (k : Nat) (v5 v6 : Value), k ≤ n ∧ i = .int .i64 k ∧ v5 = s5 ∧ v6 = s6 ∧ OwnRs wr w.heap.size v5 (actL (l.take k) []) ∧ OwnAs wr w.heap.size v6 (ansL (l.take k) []) ∧ Below w.heap.size w wr) (fun i _ _ _ => n - (intOf i).toNat)
    case atStart => exact ⟨0, _, _, by omega, rfl, rfl, rfl, World.ownsRow_nil _ _ _ _, World.ownsRow_nil _ _ _ _, Below.refl _ _⟩
    case round =>
      obtain ⟨k, v5, v6, hk, rfl, rfl, rfl, h5, h6, hb⟩ := hrel
      obtain ⟨wo, rfl⟩ : ∃ wo : World, wo = wr := ⟨_, rfl⟩
      have hszb := hb.size
      by_cases hlt : k < n
      · obtain ⟨ad, ⟨kd, ⟨six, hi, lo, n0⟩, hop, ⟨six2, hi2, lo2⟩⟩, rfl, hlk, htk, hmem, hbk, hc0, hcj⟩ := HR.out.atS ActV.cells_length' HZ.out hlt
        have q0 := (hb.cell (p := ad.add (k * 9)) (by rw [block_of_add]; exact hbk)).trans (hc0 _ rfl)
        have q1 := (hb.cell (p := ⟨(ad.add (k * 9)).block, (ad.add (k * 9)).off + 1, none⟩) (by rw [block_of_add]; exact hbk)).trans (hcj 1 _ rfl)
        have q2 := (hb.cell (p := ⟨(ad.add (k * 9)).block, (ad.add (k * 9)).off + 2, none⟩) (by rw [block_of_add]; exact hbk)).trans (hcj 2 _ rfl)
        have q3 := (hb.cell (p := ⟨(ad.add (k * 9)).block, (ad.add (k * 9)).off + 3, none⟩) (by rw [block_of_add]; exact hbk)).trans (hcj 3 _ rfl)
        have q4 := (hb.cell (p := ⟨(ad.add (k * 9)).block, (ad.add (k * 9)).off + 4, none⟩) (by rw [block_of_add]; exact hbk)).trans (hcj 4 _ rfl)
        have q5 := (hb.cell (p := ⟨(ad.add (k * 9)).block, (ad.add (k * 9)).off + 5, none⟩) (by rw [block_of_add]; exact hbk)).trans (hcj 5 _ rfl)
        have q6 := (hb.cell (p := ⟨(ad.add (k * 9)).block, (ad.add (k * 9)).off + 6, none⟩) (by rw [block_of_add]; exact hbk)).trans (hcj 6 _ rfl)
        have q7 := (hb.cell (p := ⟨(ad.add (k * 9)).block, (ad.add (k * 9)).off + 7, none⟩) (by rw [block_of_add]; exact hbk)).trans (hcj 7 _ rfl)
        have q8 := (hb.cell (p := ⟨(ad.add (k * 9)).block, (ad.add (k * 9)).off + 8, none⟩) (by rw [block_of_add]; exact hbk)).trans (hcj 8 _ rfl)
        obtain ⟨o1, o2, o3, o4⟩ := HOK.out _ hmem
        simp only at o1 o2 o3 o4
        have hG : GoodL (actL (l.take k) []) := goodL_play goodL_nil (fun a ha => HOK.out a (List.mem_of_mem_take ha))
        have hlk6 : (ansL (l.take k) []).length = k := by rw [ansL_length, List.length_take, HZ.out]; omega
        have HLK := Lib.hid hlk6
        obtain ⟨L, hL⟩ : ∃ L, actL (l.take k) [] = L := ⟨_, rfl⟩
        rw [hL] at h5 hG
        have HL := Lib.hid hL
        have HG := Lib.hid hG
        obtain ⟨A5, c5, rfl, hc5, _⟩ := own_reads h5
        obtain ⟨m, hm⟩ : ∃ m, L.length = m := ⟨_, rfl⟩
        rw [hm] at hc5
        have hm60 : m ≤ 60 := by rw [← hm]; exact hG.2
        have hc5m := hc5.2
        unfold maxLen at hc5m
        have HM := Lib.hid hm
        have H5 := Lib.hid h5
        have H6 := Lib.hid h6
        have HN5 := Lib.hid (own_blk_lt h5)
        have HN6 := Lib.hid (own_blk_lt h6)
        have HB := Lib.hid hb
        have HTK := Lib.hid htk
        have HEQ0 := fun w (x : PV) => eqPV x ⟨six, hi, lo, n0⟩ w
        unfold PV.val at HEQ0
        have HEQH := Lib.hid HEQ0
        clear HEQ0 hlk htk hmem hc0 hcj hb hbk hG hL h5 h6 hlk6
        rw [hm]
        clear hm
        go_wp2
        obtain ⟨Y, hY⟩ : ∃ Y : World, Y = wo.alloc (.cells #[.int .i64 kd, .bool six, .int .u64 hi, .int .u64 lo, .int .i64 n0, .int .i64 hop, .bool six2, .int .u64 hi2, .int .u64 lo2] 117) := ⟨_, rfl⟩
        have hbY : Below wo.heap.size wo Y := by rw [hY]; exact (Below.refl _ _).alloc (Nat.le_refl _) _
        have hYs : Y.heap.size = wo.heap.size + 1 := by rw [hY]; simp
        have hka : Blk Y wo.heap.size 117 #[.int .i64 kd, .bool six, .int .u64 hi, .int .u64 lo, .int .i64 n0, .int .i64 hop, .bool six2, .int .u64 hi2, .int .u64 lo2] := by rw [hY]; exact Blk.new _ _ _
        rw [← hY]
        have H5Y := Lib.hid (H5.out.below hbY)
        have HBY := Lib.hid hbY
        have HKA := Lib.hid hka
        have hYl : wo.heap.size < Y.heap.size := by omega
        clear hY hbY hka hYs
        go_loopw [25, 9] (fun i at_ wr => ∃ (t : Nat) (z : Int), t ≤ m ∧ i = .int .i64 t ∧ at_ = .int .i64 z ∧ FoundAt L ⟨six, hi, lo, n0⟩ t z ∧ Below Y.heap.size Y wr) (fun i _ _ => m - (intOf i).toNat)
        case atStart => exact ⟨0, -1, by omega, rfl, rfl, FoundAt.start _ _, Below.refl _ _⟩
        case round =>
          obtain ⟨t, z, ht, rfl, rfl, hat, hbr⟩ := hrel
          obtain ⟨wi, rfl⟩ : ∃ wi : World, wi = wr := ⟨_, rfl⟩
          have HAT := Lib.hid hat
          have HBR := Lib.hid hbr
          have hszi := hbr.size
          have hki := HKA.out.below hbr HKA.out.lt
          have HKI := Lib.hid hki
          have hlt2 : wo.heap.size < wi.heap.size := by omega
          have a0 := hki.cell 0
          have a1 := hki.cell 1
          have a2 := hki.cell 2
          have a3 := hki.cell 3
          have a4 := hki.cell 4
          have a5 := hki.cell 5
          have a6 := hki.cell 6
          have a7 := hki.cell 7
          have a8 := hki.cell 8
          simp at a0 a1 a2 a3 a4 a5 a6 a7 a8
          clear hat hki
          by_cases hti : t < m
          · have hLt : L[t]? = some (L[t]'(by rw [HM.out]; exact hti)) := List.getElem?_eq_getElem _
            obtain ⟨⟨⟨xs, xh, xl, xn⟩, xo⟩, hX⟩ : ∃ X, L[t]'(by rw [HM.out]; exact hti) = X := ⟨_, rfl⟩
            rw [hX] at hLt
            obtain ⟨g5, cc, cur, hv, _⟩ := H5Y.out.form (by rw [HM.out]; omega)
            injection hv with hv1 hv2 hv3
            subst hv1 hv3
            have HLT := Lib.hid hLt
            clear hX hLt hv2
            have h5i := H5Y.out.below hbr
            rw [HM.out] at h5i
            obtain ⟨⟨y0, y1, y2, y3, y4⟩, yg, _⟩ := (H5Y.out.below hbr).at_ HLT.out
            simp only at y0 y1 y2 y3 y4
            have HEQ := fun w => HEQH.out w ⟨xs, xh, xl, xn⟩
            simp only at HEQ
            clear hbr h5i
            by_cases he : (⟨xs, xh, xl, xn⟩ : PV) = ⟨six, hi, lo, n0⟩
            · rw [decide_eq_true he] at HEQ
              have HEE := Lib.hid he
              clear he
              go_wp2
              go_roundw
              case rel => exact ⟨t + 1, (t : Int), by omega, by go_num, rfl, FoundAt.hit HLT.out HEE.out, HBR.out.alloc (by omega) _⟩
              case measure => simp [intOf]; omega
            · rw [decide_eq_false he] at HEQ
              have HEE := Lib.hid he
              clear he
              go_wp2
              go_roundw
              case rel => exact ⟨t + 1, z, by omega, by go_num, rfl, HAT.out.miss HLT.out HEE.out, HBR.out.alloc (by omega) _⟩
              case measure => simp [intOf]; omega
          · obtain rfl : t = m := by omega
            
            have hkt0 : Blk (wi.alloc (.cells #[.int .i64 0, .int .i64 0, .int .i64 0] 47)) wi.heap.size 47 #[.int .i64 0, .int .i64 0, .int .i64 0] := Blk.new _ _ _
            have HKT0 := Lib.hid hkt0
            have CP := Lib.hid (preFault_any six hi lo n0 (wi.alloc (.cells #[.int .i64 0, .int .i64 0, .int .i64 0] 47)) o1 o2)
            clear hkt0 hbr
            go_upto_block 4 with (go_at_call 66; (with_reducible refine CP.out.mono ?_); rintro e V ⟨rfl, hbV⟩; have HKT := Lib.hid (HKT0.out.below hbV (by simp)); have HBW := Lib.hid (below_step ((Below.refl _ _).alloc (Nat.le_refl _) _) hbV); clear hbV)
            have hwv := HBW.out.size
            have hti2 : wi.heap.size < V.heap.size := HKT.out.lt
            have hwoV : wo.heap.size < V.heap.size := by omega
            have HBX : Hid (Below wo.heap.size wo V) := (HBY.out.trans (HBR.out.mono (by omega))).trans (HBW.out.mono (by omega))
            have H5V := Lib.hid (H5.out.below HBX.out)
            have H6V := Lib.hid (H6.out.below HBX.out)
            have H5M : Hid (OwnRs V w.heap.size (.slice A5 t c5) L) := by have := H5V.out; rw [HM.out] at this; exact this
            have HN5M : Hid (∀ b, (Value.slice A5 t c5).ownBlock = some b → b < wo.heap.size) := by rw [← HM.out]; exact HN5.out
            have HBV : Hid (Below w.heap.size w V) := HB.out.trans (HBX.out.mono (by omega))
            have hkv := HKI.out.below HBW.out (by omega)
            have e0 := hkv.cell 0
            have e1 := hkv.cell 1
            have e2 := hkv.cell 2
            have e3 := hkv.cell 3
            have e4 := hkv.cell 4
            have e5 := hkv.cell 5
            have e6 := hkv.cell 6
            have e7 := hkv.cell 7
            have e8 := hkv.cell 8
            simp at e0 e1 e2 e3 e4 e5 e6 e7 e8
            have u0 := HKT.out.cell 0
            have u1 := HKT.out.cell 1
            have u2 := HKT.out.cell 2
            simp at u0 u1 u2
            have f0 := HKT.out.frozen 0
            have f1 := HKT.out.frozen 1
            have f2 := HKT.out.frozen 2
            obtain ⟨ck, hck⟩ : ∃ ck, chk six hi lo n0 = ck := ⟨_, rfl⟩
            rw [hck]
            obtain ⟨aV, haV⟩ : ∃ aV : ActV, (⟨kd, ⟨six, hi, lo, n0⟩, hop, ⟨six2, hi2, lo2⟩⟩ : ActV) = aV := ⟨_, rfl⟩
            rw [haV] at HTK
            have HAE := Lib.hid haV
            have HCK : Hid ((⟨six, hi, lo, n0⟩ : PV).chk = ck) := hck
            obtain ⟨AS, hAS⟩ : ∃ AS, ansL (l.take k) [] = AS := ⟨_, rfl⟩
            rw [hAS] at H6V HLK
            have HAS := Lib.hid hAS
            clear hkv haV hck hAS a0 a1 a2 a3 a4 a5 a6 a7 a8 HKT0 HKI HKA CP q0 q1 q2 q3 q4 q5 q6 q7 q8 H5 H6 H5Y
            go_cut [5] (fun v5' wx => MetT w wo L AS v6 wi.heap.size aV v5' wx)
            case first =>
              by_cases k1 : kd < 1
              · have d2 : decide (kd < 1) = true := by simpa using k1
                have hA : doA L aV = ⟨3, 0, 0⟩ := by rw [← HAE.out]; unfold doA; rw [if_pos (Or.inl k1)]
                have hU : doL L aV = L := by rw [← HAE.out]; unfold doL; rw [if_pos (by simp only; omega)]
                have HA := Lib.hid hA
                have HU := Lib.hid hU
                clear hA hU
                go_wp2
                go_meet
                case rel => exact metT_code H5M.out H6V.out HN6.out HN5M.out HKT.out HBV.out (by omega) (by omega) HA.out HU.out
              · have d2 : decide (kd < 1) = false := by simpa using k1
                by_cases k4 : 4 < kd
                · have d3 : decide (4 < kd) = true := by simpa using k4
                  have hA : doA L aV = ⟨3, 0, 0⟩ := by rw [← HAE.out]; unfold doA; rw [if_pos (Or.inr k4)]
                  have hU : doL L aV = L := by rw [← HAE.out]; unfold doL; rw [if_pos (by simp only; omega)]
                  have HA := Lib.hid hA
                  have HU := Lib.hid hU
                  clear hA hU
                  go_wp2
                  go_meet
                  case rel => exact metT_code H5M.out H6V.out HN6.out HN5M.out HKT.out HBV.out (by omega) (by omega) HA.out HU.out
                · have hkd : kd = 1 ∨ kd = 2 ∨ kd = 3 ∨ kd = 4 := by omega
                  clear k1 k4 d2
                  rcases hkd with rfl | rfl | rfl | rfl
                  · by_cases hc0 : ck = 0
                    · have d3 : (ck != 0) = false := by simpa using hc0
                      by_cases hh : hop < 1 ∨ 999 < hop
                      · have hA : doA L aV = ⟨2, 0, 0⟩ := by rw [← HAE.out]; unfold doA; rw [if_neg (by simp), if_neg (by simp), if_neg (by simp only; rw [HCK.out]; simpa using hc0), if_neg (by simp), if_neg (by simp), if_pos hh]
                        have hU : doL L aV = L := by rw [← HAE.out]; unfold doL; rw [if_neg (by simp), if_neg (by simp only; rw [HCK.out]; simpa using hc0), if_neg (by simp), if_pos hh]
                        have HA := Lib.hid hA
                        have HU := Lib.hid hU
                        clear hA hU hc0
                        by_cases c1 : hop < 1
                        · have d4 : decide (hop < 1) = true := by simpa using c1
                          clear hh c1
                          go_wp2
                          go_meet
                          case rel => exact metT_code H5M.out H6V.out HN6.out HN5M.out HKT.out HBV.out (by omega) (by omega) HA.out HU.out
                        · have d4 : decide (hop < 1) = false := by simpa using c1
                          have d5 : decide (999 < hop) = true := by simp; omega
                          clear hh c1
                          go_wp2
                          go_meet
                          case rel => exact metT_code H5M.out H6V.out HN6.out HN5M.out HKT.out HBV.out (by omega) (by omega) HA.out HU.out
                      · have d4 : decide (hop < 1) = false := by simp; omega
                        have d5 : decide (999 < hop) = false := by simp; omega
                        rcases HAT.out with ⟨rfl, hno⟩ | ⟨u, x, rfl, hut, hux, hxp⟩
                        · have hnone : hasR L ⟨six, hi, lo, n0⟩ = false := FoundAt.none (fun i x hi hx => hno i x (by rw [← HM.out]; exact hi) hx)
                          have hg0 := getR_none hnone
                          clear hno
                          by_cases h60 : t = 60
                          · have d6 : decide ((60 : Int) ≤ (t : Int)) = true := by simp; omega
                            have hA : doA L aV = ⟨9, 0, 0⟩ := by rw [← HAE.out]; unfold doA; rw [if_neg (by simp), if_neg (by simp), if_neg (by simp only; rw [HCK.out]; simpa using hc0), if_neg (by simp), if_neg (by simp), if_neg hh, if_pos ⟨by rw [HM.out]; exact h60, hg0⟩]
                            have hU : doL L aV = L := by rw [← HAE.out]; unfold doL; rw [if_neg (by simp), if_neg (by simp only; rw [HCK.out]; simpa using hc0), if_neg (by simp), if_neg hh, if_pos ⟨by rw [HM.out]; exact h60, hg0⟩]
                            have HA := Lib.hid hA
                            have HU := Lib.hid hU
                            have h60' : 60 ≤ t := by omega
                            clear hA hU hc0 hh hnone hg0 h60
                            go_wp2
                            go_meet
                            case rel => exact metT_code H5M.out H6V.out HN6.out HN5M.out HKT.out HBV.out (by omega) (by omega) HA.out HU.out
                          · have d6 : decide ((60 : Int) ≤ (t : Int)) = false := by simp; omega
                            have hA : doA L aV = ⟨0, 0, 0⟩ := by rw [← HAE.out]; unfold doA; rw [if_neg (by simp), if_neg (by simp), if_neg (by simp only; rw [HCK.out]; simpa using hc0), if_neg (by simp), if_neg (by simp), if_neg hh, if_neg (fun h => h60 (by rw [← HM.out]; exact h.1)), hg0]
                            have hU : doL L aV = L ++ [⟨⟨six, hi, lo, n0⟩, hop⟩] := by rw [← HAE.out]; unfold doL; rw [if_neg (by simp), if_neg (by simp only; rw [HCK.out]; simpa using hc0), if_neg (by simp), if_neg hh, if_neg (fun h => h60 (by rw [← HM.out]; exact h.1))]; unfold setR; rw [if_neg (by simp only; rw [hnone]; simp)]
                            have HA := Lib.hid hA
                            have HU := Lib.hid hU
                            have h60' : t < 60 := by omega
                            clear hA hU hc0 hh hnone hg0 h60
                            have h5r := H5V.out
                            unfold OwnRs at h5r
                            rw [HM.out] at h5r
                            have H5R := Lib.hid h5r
                            clear h5r
                            go_wp2_with (at_builtin; go_loud (refine wpList_append_oneN (us := [.bool six, .int .u64 hi, .int .u64 lo, .int .i64 n0, .int .i64 hop]) rfl _ _ 36 rfl w.heap.size _ 5 40 Try.underlying36 infoRouteP rfl (by decide) _ _ _ rfl rfl rfl H5R.out ?c1 rfl ?c4 ?c2 ?c3 ?_))
                            case c1 => omega
                            case c2 => unfold maxLen; omega
                            case c3 => omega
                            case c4 => intro u hu; simp at hu; rcases hu with rfl | rfl | rfl | rfl | rfl <;> rfl
                            intro v' w9 hown' hb9 hs9 hk9
                            have HO9 : Hid (OwnRs w9 w.heap.size v' (L ++ [⟨⟨six, hi, lo, n0⟩, hop⟩])) := by
                              show World.ownsRow _ _ _ _ _ _ _
                              rw [List.length_append, HM.out, List.flatMap_append]
                              simpa [RouteV.cells] using hown'
                            have HF9 := Lib.hid hk9
                            have HB9 := Lib.hid hb9
                            clear hown' hb9 hk9
                            go_wp2
                            go_meet
                            case rel => exact metT_app HO9.out H6V.out H5R.out HKT.out HBV.out HB9.out hs9 HF9.out (by omega) HA.out HU.out
                        · have hul : u < L.length := (List.getElem?_eq_some_iff.1 hux).1
                          have hin : hasR L ⟨six, hi, lo, n0⟩ = true := hasR_iff.2 ⟨x, List.mem_of_getElem? hux, hxp⟩
                          obtain ⟨g1, g2, g3⟩ := get_at HG.out.1.2 hux
                          rw [hxp] at g1 g3
                          have hxh := HG.out.1.1 x (List.mem_of_getElem? hux)
                          have hA : doA L aV = ⟨0, x.hop, 0⟩ := by rw [← HAE.out]; unfold doA; rw [if_neg (by simp), if_neg (by simp), if_neg (by simp only; rw [HCK.out]; simpa using hc0), if_neg (by simp), if_neg (by simp), if_neg hh, if_neg (fun h => by have h2 := h.2; simp only at h2; rw [g1] at h2; omega), g1]
                          have hU : doL L aV = L.set u ⟨x.p, aV.hop⟩ := by rw [← HAE.out]; unfold doL; rw [if_neg (by simp), if_neg (by simp only; rw [HCK.out]; simpa using hc0), if_neg (by simp), if_neg hh, if_neg (fun h => by have h2 := h.2; simp only at h2; rw [g1] at h2; omega)]; unfold setR; rw [if_pos (by simpa using hin)]; simp only; rw [g3 hop, hxp]
                          have HA := Lib.hid hA
                          have HU := Lib.hid hU
                          have HUX := Lib.hid hux
                          have HUL := Lib.hid hul
                          clear hA hU hc0 hh hin g1 g2 g3 hxh hux hul hxp
                          obtain ⟨g5, cc, cur, hv, _, hb5, _⟩ := H5V.out.form (by have := HUL.out; omega)
                          injection hv with hv1 hv2 hv3
                          subst hv1 hv3
                          obtain ⟨⟨y0, y1, y2, y3, y4⟩, yg, _⟩ := H5V.out.at_ HUX.out
                          have hg5 : g5 < wo.heap.size := HN5.out g5 (by rfl)
                          have yf := hb5.frozen (u * 5 + 4)
                          have i1 : (0 : Int) ≤ (u : Int) := by omega
                          have i2 : (u : Int) < (t : Int) := by omega
                          have dge : decide ((0 : Int) ≤ (u : Int)) = true := by simp
                          have dlt : decide ((u : Int) < 0) = false := by simp
                          have ne5 : ¬ g5 = wi.heap.size := by omega
                          have ne6 : ¬ wi.heap.size = g5 := by omega
                          clear hv2 hb5 y0 y1 y2 y3
                          have hah : aV.hop = hop := by rw [← HAE.out]
                          have HAH := Lib.hid hah
                          clear hah
                          obtain ⟨xh, hxh⟩ : ∃ xh, x.hop = xh := ⟨_, rfl⟩
                          rw [hxh] at y4
                          have HXH := Lib.hid hxh
                          clear hxh
                          go_wp2
                          go_meet
                          case rel => rw [← HXH.out, ← HAH.out]; exact metT_putM HM.out H5V.out H6V.out HN6.out hg5 HKT.out HBV.out (by omega) (by omega) HUX.out HA.out HU.out
                    · have d3 : (ck != 0) = true := by simpa using hc0
                      have hA : doA L aV = ⟨ck, 0, 0⟩ := by rw [← HAE.out]; unfold doA; rw [if_neg (by simp), if_neg (by simp), if_pos (by simp only; rw [HCK.out]; exact hc0)]; simp only; rw [HCK.out]
                      have hU : doL L aV = L := by rw [← HAE.out]; unfold doL; rw [if_neg (by simp), if_pos (by simp only; rw [HCK.out]; exact hc0)]
                      have HA := Lib.hid hA
                      have HU := Lib.hid hU
                      clear hA hU hc0
                      go_wp2
                      go_meet
                      case rel => exact metT_code H5M.out H6V.out HN6.out HN5M.out HKT.out HBV.out (by omega) (by omega) HA.out HU.out
                  · by_cases hc0 : ck = 0
                    · have d3 : (ck != 0) = false := by simpa using hc0
                      rcases HAT.out with ⟨rfl, hno⟩ | ⟨u, x, rfl, hut, hux, hxp⟩
                      · have hnone : hasR L ⟨six, hi, lo, n0⟩ = false := FoundAt.none (fun i x hi hx => hno i x (by rw [← HM.out]; exact hi) hx)
                        have hg0 := getR_none hnone
                        have hA : doA L aV = ⟨7, 0, 0⟩ := by rw [← HAE.out]; unfold doA; rw [if_neg (by simp), if_neg (by simp), if_neg (by simp only; rw [HCK.out]; simpa using hc0), if_pos rfl, if_pos hg0]
                        have hU : doL L aV = L := by rw [← HAE.out]; unfold doL; rw [if_neg (by simp), if_neg (by simp only; rw [HCK.out]; simpa using hc0), if_pos rfl]; exact del_none hnone
                        have HA := Lib.hid hA
                        have HU := Lib.hid hU
                        clear hA hU hc0 hnone hg0 hno
                        go_wp2
                        go_meet
                        case rel => exact metT_code H5M.out H6V.out HN6.out HN5M.out HKT.out HBV.out (by omega) (by omega) HA.out HU.out
                      · have hul : u < L.length := (List.getElem?_eq_some_iff.1 hux).1
                        obtain ⟨g1, g2, g3⟩ := get_at HG.out.1.2 hux
                        rw [hxp] at g1 g2
                        have hxh := HG.out.1.1 x (List.mem_of_getElem? hux)
                        have hA : doA L aV = ⟨0, x.hop, 0⟩ := by rw [← HAE.out]; unfold doA; rw [if_neg (by simp), if_neg (by simp), if_neg (by simp only; rw [HCK.out]; simpa using hc0), if_pos rfl, if_neg (by simp only; rw [g1]; omega), g1]
                        have hU : doL L aV = L.take u ++ L.drop (u + 1) := by rw [← HAE.out]; unfold doL; rw [if_neg (by simp), if_neg (by simp only; rw [HCK.out]; simpa using hc0), if_pos rfl]; exact g2
                        have HA := Lib.hid hA
                        have HU := Lib.hid hU
                        have HUX := Lib.hid hux
                        have HUL := Lib.hid hul
                        clear hA hU hc0 g1 g2 g3 hxh hux hul hxp
                        obtain ⟨g5, cc, cur, hv, _, hb5, _⟩ := H5V.out.form (by have := HUL.out; omega)
                        injection hv with hv1 hv2 hv3
                        subst hv1 hv3
                        obtain ⟨⟨y0, y1, y2, y3, y4⟩, yg, _⟩ := H5V.out.at_ HUX.out
                        have hg5 : g5 < wo.heap.size := HN5.out g5 (by rfl)
                        have yf := hb5.frozen (u * 5 + 4)
                        have i1 : (0 : Int) ≤ (u : Int) := by omega
                        have i2 : (u : Int) < (t : Int) := by omega
                        have dge : decide ((0 : Int) ≤ (u : Int)) = true := by simp
                        have dlt : decide ((u : Int) < 0) = false := by simp
                        have ne5 : ¬ g5 = wi.heap.size := by omega
                        have ne6 : ¬ wi.heap.size = g5 := by omega
                        clear hv2 hb5 y0 y1 y2 y3
                        obtain ⟨xh, hxh⟩ : ∃ xh, x.hop = xh := ⟨_, rfl⟩
                        rw [hxh] at y4 HA
                        obtain ⟨V4, hV4⟩ : ∃ V4 : World, V4 = V.setCell ⟨wi.heap.size, 1, none⟩ (.int .i64 xh) := ⟨_, rfl⟩
                        have hz4 : V4.heap.size = V.heap.size := by rw [hV4]; simp
                        have H54 : Hid (OwnRs V4 w.heap.size (.slice (some ⟨g5, 0, none⟩) L.length c5) L) := by
                          rw [hV4]
                          exact ownsRow_setCell_other H5V.out (fun he => by simp [Value.ownBlock] at he; omega) _
                        have H64 : Hid (OwnAs V4 w.heap.size v6 AS) := by
                          rw [hV4]
                          exact ownsRow_setCell_other H6V.out (fun he => by have : wi.heap.size < wo.heap.size := HN6.out _ he; omega) _
                        have HK4 : Hid (Blk V4 wi.heap.size 47 #[.int .i64 0, .int .i64 xh, .int .i64 0]) := by
                          rw [hV4]
                          exact HKT.out.set_ 1 _
                        have HB4 : Hid (Below w.heap.size w V4) := by
                          rw [hV4]
                          exact HBV.out.setCell (by show w.heap.size ≤ wi.heap.size; omega) _
                        have HV4 := Lib.hid hV4
                        obtain ⟨A5', c5', hv5, hir⟩ := Good.isRoutes H54.out HG.out.1
                        injection hv5 with hv1 _ hv3
                        subst hv1 hv3
                        rw [HM.out] at hir
                        have HRH := Lib.hid (fun (Y : World) (hY : Below V4.heap.size V4 Y) => (hir.below hY).2.2.2.front RouteV.cells_length HM.out (k := u) (by have := HUL.out; omega))
                        have hic := hir.2.1
                        have hul : u < t := by rw [← HM.out]; exact HUL.out
                        have hicm := hic.2
                        unfold maxLen at hicm
                        have wu : IntKind.i64.wrap ((u : Int) + 1) = (u : Int) + 1 := by rw [IntWalk.i64_in _ (by omega)]
                        have b1 : (u : Int) ≤ (c5 : Int) := by omega
                        have b2 : (u : Int) + 1 ≤ (c5 : Int) := by omega
                        have b3 : (0 : Int) ≤ (u : Int) + 1 := by omega
                        have b4 : (u : Int) + 1 ≤ (t : Int) := by omega
                        have b5 : ((u : Int) + 1).toNat = u + 1 := by omega
                        have b6 : (u : Int) ≤ (t : Int) := by omega
                        clear hV4 hxh
                        go_upto_region 18 with fail
                        rw [← HV4.out]
                        by_cases hcz : c5 = u + 1
                        · have het : t = u + 1 := by omega
                          have hed : L.drop (u + 1) = [] := List.drop_eq_nil_of_le (by rw [HM.out]; omega)
                          have HED := Lib.hid hed
                          have HET := Lib.hid het
                          clear hed het hir hul hic hicm
                          subst hcz
                          have b7 : (u : Int) ≤ (u : Int) + 1 := by omega
                          have b8 : (u : Int) + 1 ≤ (u : Int) + 1 := by omega
                          go_region_held3 (fun w' => (∀ b o, b < V4.heap.size → w'.cell? ⟨b, o, none⟩ = V4.cell? ⟨b, o, none⟩) ∧ V4.heap.size ≤ w'.heap.size ∧ Hid (Below V4.heap.size V4 w'))
                            ((first | assumption | exact keep0 _ | exact keep1 (by assumption) (by assumption) | exact keepD (by assumption) | exact keepB (by assumption) (by assumption) | exact keepA (by assumption) _ | exact ⟨fun _ _ _ => rfl, Nat.le_refl _, Below.refl _ _⟩))
                            (first
                              | (refine step_append_nilI (o := ⟨some 49, _, _, _, _, _⟩) ((L.take u).flatMap RouteV.cells) u 36 rfl rfl V4.heap.size 57 _ 5 40 Try.underlying36 infoRouteP rfl (by decide) ?_ ?_ ?_ ?_ ?_ ?_ ?_; (focus rfl); (focus exact ⟨_, _, rfl, HRH.out _ (keepBelow (by assumption))⟩); (focus exact rts_one _); (focus (unfold maxLen; omega)); (focus omega); (focus exact keepSize (by assumption)); intro v1 w2 hown2 hb2)
                              | (refine step_append_farI (o := ⟨some 54, _, _, _, _, _⟩) ([] : List Value) 0 36 u ((L.take u).flatMap RouteV.cells) rfl rfl V4.heap.size 57 _ 5 40 Try.underlying36 infoRouteP rfl (by decide) ?_ ?_ ?_ ?_ ?_ ?_ ?_; (focus (exact hown2)); (focus exact ⟨_, _, rfl, Reads.none_⟩); (focus (intro u' hu'; cases hu')); (focus (unfold maxLen; omega)); (focus omega); (focus exact keepSize (by assumption)); intro v3 w4 hown4 hb4 hg4))
                          all_goals
                            obtain ⟨fc4, z4, H4⟩ : (∀ b o, b < V4.heap.size → w4.cell? ⟨b, o, none⟩ = V4.cell? ⟨b, o, none⟩) ∧ V4.heap.size ≤ w4.heap.size ∧ Hid (Below V4.heap.size V4 w4) := by assumption
                            have HO4 : Hid (OwnRs w4 w.heap.size v3 (L.take u ++ L.drop (u + 1))) := by
                              show World.ownsRow _ _ _ _ _ _ _
                              have hl : (L.take u ++ L.drop (u + 1)).length = u + 0 := by rw [List.length_append, List.length_take, List.length_drop, Nat.min_eq_left (by have := HUL.out; omega), HM.out]; have := HET.out; omega
                              rw [hl, List.flatMap_append, HED.out, List.flatMap_nil]
                              exact own_mono hown4 (by have := HB4.out.size; omega)
                            clear hown2 hb2 hown4 hb4 hg4
                            go_wp2_with fail
                            go_meet
                            case rel => exact metT_cut HO4.out ((H64.out).below H4.out) HK4.out HB4.out H4.out (by omega) (by omega) HA.out HU.out
                        · have HRT : Hid (∀ Y, Below V4.heap.size V4 Y → Reads Y Y.heap.size 5 (some ⟨g5, (u + 1) * 5, none⟩) (t - (u + 1)) ((L.drop (u + 1)).flatMap RouteV.cells)) := by
                            intro Y hY
                            have hr := (hir.below hY).2.2.2.cut (k := u + 1) (by omega) hic.1
                            rw [if_neg hcz, rflat_drop L (by rw [HM.out]; omega)] at hr
                            simpa [Addr.add] using hr
                          clear hir hul hic hicm
                          go_region_held3 (fun w' => (∀ b o, b < V4.heap.size → w'.cell? ⟨b, o, none⟩ = V4.cell? ⟨b, o, none⟩) ∧ V4.heap.size ≤ w'.heap.size ∧ Hid (Below V4.heap.size V4 w'))
                            ((first | assumption | exact keep0 _ | exact keep1 (by assumption) (by assumption) | exact keepD (by assumption) | exact keepB (by assumption) (by assumption) | exact keepA (by assumption) _ | exact ⟨fun _ _ _ => rfl, Nat.le_refl _, Below.refl _ _⟩))
                            (first
                              | (refine step_append_nilI (o := ⟨some 49, _, _, _, _, _⟩) ((L.take u).flatMap RouteV.cells) u 36 rfl rfl V4.heap.size 57 _ 5 40 Try.underlying36 infoRouteP rfl (by decide) ?_ ?_ ?_ ?_ ?_ ?_ ?_; (focus rfl); (focus exact ⟨_, _, rfl, HRH.out _ (keepBelow (by assumption))⟩); (focus exact rts_one _); (focus (unfold maxLen; omega)); (focus omega); (focus exact keepSize (by assumption)); intro v1 w2 hown2 hb2)
                              | (refine step_append_farI (o := ⟨some 54, _, _, _, _, _⟩) ((L.drop (u + 1)).flatMap RouteV.cells) (t - (u + 1)) 36 u ((L.take u).flatMap RouteV.cells) rfl rfl V4.heap.size 57 _ 5 40 Try.underlying36 infoRouteP rfl (by decide) ?_ ?_ ?_ ?_ ?_ ?_ ?_; (focus (exact hown2)); (focus exact ⟨_, _, rfl, HRT.out _ (keepBelow (by assumption))⟩); (focus (exact rts_one _)); (focus (unfold maxLen; omega)); (focus omega); (focus exact keepSize (by assumption)); intro v3 w4 hown4 hb4 hg4))
                          all_goals
                            obtain ⟨fc4, z4, H4⟩ : (∀ b o, b < V4.heap.size → w4.cell? ⟨b, o, none⟩ = V4.cell? ⟨b, o, none⟩) ∧ V4.heap.size ≤ w4.heap.size ∧ Hid (Below V4.heap.size V4 w4) := by assumption
                            have HO4 : Hid (OwnRs w4 w.heap.size v3 (L.take u ++ L.drop (u + 1))) := by
                              show World.ownsRow _ _ _ _ _ _ _
                              have hl : (L.take u ++ L.drop (u + 1)).length = u + (t - (u + 1)) := by rw [List.length_append, List.length_take, List.length_drop, Nat.min_eq_left (by have := HUL.out; omega), HM.out]; try omega
                              rw [hl, List.flatMap_append]
                              exact own_mono hown4 (by have := HB4.out.size; omega)
                            clear hown2 hb2 hown4 hb4 hg4
                            go_wp2_with fail
                            go_meet
                            case rel => exact metT_cut HO4.out ((H64.out).below H4.out) HK4.out HB4.out H4.out (by omega) (by omega) HA.out HU.out
                    · have d3 : (ck != 0) = true := by simpa using hc0
                      have hA : doA L aV = ⟨ck, 0, 0⟩ := by rw [← HAE.out]; unfold doA; rw [if_neg (by simp), if_neg (by simp), if_pos (by simp only; rw [HCK.out]; exact hc0)]; simp only; rw [HCK.out]
                      have hU : doL L aV = L := by rw [← HAE.out]; unfold doL; rw [if_neg (by simp), if_pos (by simp only; rw [HCK.out]; exact hc0)]
                      have HA := Lib.hid hA
                      have HU := Lib.hid hU
                      clear hA hU hc0
                      go_wp2
                      go_meet
                      case rel => exact metT_code H5M.out H6V.out HN6.out HN5M.out HKT.out HBV.out (by omega) (by omega) HA.out HU.out
                  · cases hmay : mayB six2 hi2 lo2 with
                    | false =>
                      have hA : doA L aV = ⟨4, 0, 0⟩ := by rw [← HAE.out]; unfold doA; rw [if_neg (by simp), if_pos rfl, if_pos (by simpa using hmay)]
                      have hU : doL L aV = L := by rw [← HAE.out]; unfold doL; rw [if_pos (by simp)]
                      have HA := Lib.hid hA
                      have HU := Lib.hid hU
                      have CM0 := fun X => refMay_any six2 hi2 lo2 X o4.1
                      rw [hmay] at CM0
                      have CM := Lib.hid CM0
                      clear hA hU CM0 hmay
                      go_wp2_with (go_at_call 130; (with_reducible refine (CM.out _).mono ?_); rintro e V2 ⟨rfl, hb2⟩; obtain ⟨fc2, ff2⟩ := bcell hb2; have hz2 := hb2.size; have HB2 := Lib.hid hb2; clear hb2)
                      go_meet
                      case rel => exact metT_code (H5M.out.below HB2.out) (H6V.out.below HB2.out) HN6.out HN5M.out (HKT.out.below HB2.out hti2) (HBV.out.trans (HB2.out.mono (by omega))) (by omega) (by omega) HA.out HU.out
                    | true =>
                      have hA : doA L aV = ⟨0, (goesR L six2 hi2 lo2).1, (goesR L six2 hi2 lo2).2⟩ := by rw [← HAE.out]; unfold doA; rw [if_neg (by simp), if_pos rfl, if_neg (by simp [hmay])]
                      have hU : doL L aV = L := by rw [← HAE.out]; unfold doL; rw [if_pos (by simp)]
                      obtain ⟨A5', c5', hv5, hir⟩ := Good.isRoutes H5V.out HG.out.1
                      injection hv5 with hv1 _ hv3
                      subst hv1 hv3
                      rw [HM.out] at hir
                      have CG0 := fun (X : World) (hb : Below V.heap.size V X) => goes_any A5 t c5 L six2 hi2 lo2 X (hir.below hb) HG.out.1 ⟨o3, o4, hmay⟩ hm60
                      obtain ⟨ga, hga⟩ : ∃ ga, (goesR L six2 hi2 lo2).1 = ga := ⟨_, rfl⟩
                      obtain ⟨gb, hgb⟩ : ∃ gb, (goesR L six2 hi2 lo2).2 = gb := ⟨_, rfl⟩
                      rw [hga, hgb] at hA CG0
                      have HA := Lib.hid hA
                      have HU := Lib.hid hU
                      have CM0 := fun X => refMay_any six2 hi2 lo2 X o4.1
                      rw [hmay] at CM0
                      have CM := Lib.hid CM0
                      have CG := Lib.hid CG0
                      clear hA hU CM0 CG0 hmay hga hgb hir
                      go_wp2_with (go_at_call 130; (with_reducible refine (CM.out _).mono ?_); rintro e V2 ⟨rfl, hb2⟩; obtain ⟨fc2, ff2⟩ := bcell hb2; have hz2 := hb2.size; have HB2 := Lib.hid hb2; clear hb2)
                      refine (CG.out _ HB2.out).mono ?_
                      rintro e V3 ⟨rfl, hb3⟩
                      have HB3 := Lib.hid (below_step HB2.out hb3)
                      obtain ⟨fc3, ff3⟩ := bcell hb3
                      have hz3 := hb3.size
                      have hti3 : wi.heap.size < V2.heap.size := by omega
                      have hwo3 : wo.heap.size < V2.heap.size := by omega
                      clear hb3
                      go_wp2
                      go_meet
                      case rel => exact metT_look (H5M.out.below HB3.out) (H6V.out.below HB3.out) HN6.out HN5M.out (HKT.out.below HB3.out hti2) (HBV.out.trans (HB3.out.mono (by omega))) (by omega) (by omega) HA.out HU.out
                  · by_cases hc0 : ck = 0
                    · have d3 : (ck != 0) = false := by simpa using hc0
                      rcases HAT.out with ⟨rfl, hno⟩ | ⟨u, x, rfl, hut, hux, hxp⟩
                      · have hnone : hasR L ⟨six, hi, lo, n0⟩ = false := FoundAt.none (fun i x hi hx => hno i x (by rw [← HM.out]; exact hi) hx)
                        have hg0 := getR_none hnone
                        have hA : doA L aV = ⟨7, 0, 0⟩ := by rw [← HAE.out]; unfold doA; rw [if_neg (by simp), if_neg (by simp), if_neg (by simp only; rw [HCK.out]; simpa using hc0), if_neg (by simp), if_pos rfl, if_pos hg0]
                        have hU : doL L aV = L := by rw [← HAE.out]; unfold doL; rw [if_pos (by simp)]
                        have HA := Lib.hid hA
                        have HU := Lib.hid hU
                        clear hA hU hc0 hnone hg0 hno
                        go_wp2
                        go_meet
                        case rel => exact metT_code H5M.out H6V.out HN6.out HN5M.out HKT.out HBV.out (by omega) (by omega) HA.out HU.out
                      · have hul : u < L.length := (List.getElem?_eq_some_iff.1 hux).1
                        obtain ⟨g1, g2, g3⟩ := get_at HG.out.1.2 hux
                        rw [hxp] at g1 g2
                        have hxh := HG.out.1.1 x (List.mem_of_getElem? hux)
                        have hA : doA L aV = ⟨0, x.hop, n0⟩ := by rw [← HAE.out]; unfold doA; rw [if_neg (by simp), if_neg (by simp), if_neg (by simp only; rw [HCK.out]; simpa using hc0), if_neg (by simp), if_pos rfl, if_neg (by simp only; rw [g1]; omega), g1]
                        have hU : doL L aV = L := by rw [← HAE.out]; unfold doL; rw [if_pos (by simp)]
                        have HA := Lib.hid hA
                        have HU := Lib.hid hU
                        have HUX := Lib.hid hux
                        have HUL := Lib.hid hul
                        clear hA hU hc0 g1 g2 g3 hxh hux hul hxp
                        obtain ⟨g5, cc, cur, hv, _, hb5, _⟩ := H5V.out.form (by have := HUL.out; omega)
                        injection hv with hv1 hv2 hv3
                        subst hv1 hv3
                        obtain ⟨⟨y0, y1, y2, y3, y4⟩, yg, _⟩ := H5V.out.at_ HUX.out
                        have hg5 : g5 < wo.heap.size := HN5.out g5 (by rfl)
                        have yf := hb5.frozen (u * 5 + 4)
                        have i1 : (0 : Int) ≤ (u : Int) := by omega
                        have i2 : (u : Int) < (t : Int) := by omega
                        have dge : decide ((0 : Int) ≤ (u : Int)) = true := by simp
                        have dlt : decide ((u : Int) < 0) = false := by simp
                        have ne5 : ¬ g5 = wi.heap.size := by omega
                        have ne6 : ¬ wi.heap.size = g5 := by omega
                        clear hv2 hb5 y0 y1 y2 y3
                        go_wp2
                        go_meet
                        case rel => exact metT_getM HM.out H5V.out H6V.out HN6.out HN5.out HKT.out HBV.out (by omega) (by omega) HA.out HU.out
                    · have d3 : (ck != 0) = true := by simpa using hc0
                      have hA : doA L aV = ⟨ck, 0, 0⟩ := by rw [← HAE.out]; unfold doA; rw [if_neg (by simp), if_neg (by simp), if_pos (by simp only; rw [HCK.out]; exact hc0)]; simp only; rw [HCK.out]
                      have hU : doL L aV = L := by rw [← HAE.out]; unfold doL; rw [if_pos (by simp)]
                      have HA := Lib.hid hA
                      have HU := Lib.hid hU
                      clear hA hU hc0
                      go_wp2
                      go_meet
                      case rel => exact metT_code H5M.out H6V.out HN6.out HN5M.out HKT.out HBV.out (by omega) (by omega) HA.out HU.out
            case rest =>
              obtain ⟨h5x, h6x, hkx, hbx, htx, htx2⟩ := hcut
              obtain ⟨X, rfl⟩ : ∃ X : World, X = wc := ⟨_, rfl⟩
              obtain ⟨D, hD⟩ : ∃ D, doA L aV = D := ⟨_, rfl⟩
              rw [hD] at hkx
              have hplay : ansL (l.take (k + 1)) [] = AS ++ [D] := by rw [HTK.out, ansL_snoc, HAS.out, HL.out, hD]
              have hplayq : actL (l.take (k + 1)) [] = doL L aV := by rw [HTK.out, actL_snoc, HL.out]
              have x0 := hkx.cell 0
              have x1 := hkx.cell 1
              have x2 := hkx.cell 2
              simp at x0 x1 x2
              unfold OwnAs at h6x
              rw [HLK.out] at h6x
              have H5X := Lib.hid h5x
              have HOW := Lib.hid h6x
              have HBX2 := Lib.hid hbx
              have hsx := hbx.size
              have HPL := Lib.hid hplay
              have HPQ := Lib.hid hplayq
              clear h5x h6x hkx hbx hplay hplayq hD e0 e1 e2 e3 e4 e5 e6 e7 e8 u0 u1 u2 f0 f1 f2
              go_wp2_with (at_builtin; go_loud (refine wpList_append_oneN (us := [.int .i64 D.code, .int .i64 D.hop, .int .i64 D.len]) rfl _ _ 102 rfl w.heap.size _ 3 24 Try.underlying102 infoAns rfl (by decide) _ _ _ rfl rfl rfl HOW.out ?c1 rfl ?c4 ?c2 ?c3 ?_))
              case c1 => exact hsx
              case c2 => unfold maxLen; omega
              case c3 => omega
              case c4 => intro u hu; simp at hu; rcases hu with rfl | rfl | rfl <;> rfl
              intro v' w9 hown' hb9 hs9 hk9
              have KR : KeepT 57 X w9 := KeepT.of_own hk9 HOW.out (by decide)
              have H59 := Lib.hid (own_keepT H5X.out KR)
              have HO9 := Lib.hid hown'
              have HB9 := Lib.hid (HBX2.out.trans hb9)
              clear hown' hb9 hk9 KR
              go_wp2
              go_roundw
              case rel =>
                refine ⟨k + 1, _, _, by omega, by go_num, rfl, rfl, by rw [HPQ.out]; exact H59.out, ?_, HB9.out⟩
                unfold OwnAs
                have hl : (ansL (l.take (k + 1)) []).length = k + 1 := by rw [ansL_length, List.length_take, HZ.out]; omega
                rw [hl, HPL.out, List.flatMap_append]
                simpa [AnsV.cells] using HO9.out
              case measure => simp [intOf]; omega
      · obtain rfl : k = n := by omega
        have ht : l.take k = l := List.take_of_length_le (by rw [HZ.out]; omega)
        rw [ht] at h5 h6
        have hG : GoodL (actL l []) := goodL_play goodL_nil HOK.out
        obtain ⟨S0, hS0⟩ : ∃ S0 : List OkR, S0.map (fun x => x.1) = actL l [] := by
          refine ⟨(actL l []).attach.map (fun x => ⟨x.1, (hG.1.1 x.1 x.2).1⟩), ?_⟩
          rw [List.map_map]
          exact List.attach_map_subtype_val _
        have hflat : ∀ S : List OkR, S.flatMap encR = (S.map (fun x => x.1)).flatMap RouteV.cells := fun S => by rw [List.flatMap_map]; rfl
        have hlen0 : S0.length = (actL l []).length := by rw [← hS0, List.length_map]
        have h5s : wo.ownsRow w.heap.size 57 5 v5 (actL l []).length (S0.flatMap encR) := by rw [hflat, hS0]; exact h5
        have CS := Lib.hid (sortRoutes_any h5s hlen0 (by have := hG.2; omega))
        have H5S := Lib.hid h5s
        have H6 := Lib.hid h6
        have HB := Lib.hid hb
        have HG := Lib.hid hG
        have HS0 := Lib.hid hS0
        have HFL := Lib.hid hflat
        have HL0 := Lib.hid hlen0
        clear h5 h6 hb hG ht h5s hS0 hflat hlen0
        go_wp2_with (go_at_call 126; (with_reducible refine CS.out.mono ?_); rintro e W2 ⟨rfl, S, hperm, hpw, hown, hgr⟩)
        (try go_ret3)
        rw [← HP.out]
        refine ⟨fun h => absurd h h100, fun _ => ?_⟩
        have hsz2 := hgr.size
        have hb2 : Below w.heap.size w W2 := HB.out.grown hgr HB.out.size (fun g hg => own_base H5S.out _ hg)
        have hlS : S.length = (actL l []).length := by rw [hperm.length_eq, HL0.out]
        refine ⟨_, _, S.map (fun x => x.1), rfl, ?_, ?_, ?_, ?_, hb2⟩
        · refine own_keepT H6.out (KeepT.of_own (e := 57) (fun k hk hne => hgr.block k hk (fun e => hne e.symm)) H5S.out (by decide))
        · unfold OwnRs
          rw [List.length_map, hlS, ← HFL.out]
          exact hown
        · rw [← HS0.out]
          exact hperm.map _
        · have hnd : ((S.map (fun x => x.1)).map RouteV.p).Nodup := by
            have := (hperm.map (fun x => x.1)).map RouteV.p
            rw [HS0.out] at this
            exact this.nodup_iff.2 HG.out.1.2
          exact sorted_strict hpw hnd

end Go.Proofs.Ytnflaaoapmhjgaa
