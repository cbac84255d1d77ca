/-
  
  
  
  
  
  
  
  
  
  
  
  
  
  
  
  
-/
import Derived.Test.YtnflaaoapmhjgaaC1
import Derived.Test.YtnflaaoapmhjgaaC2
import Derived.Test.YtnflaaoapmhjgaaChecked
import Derived.Laws.StructEq
import Derived.Deep.RegionWith
import Derived.Deep.LoopGhost
import Derived.Deep.RegionHeld3
namespace Go.Proofs.Ytnflaaoapmhjgaa
open Go.ChangeShapes Go.WideShapes Go.ChangeAt Go.RowKit

def PV.cells (p : PV) : List Value := [.bool p.six, .int .u64 p.hi, .int .u64 p.lo, .int .i64 p.n]
theorem PV.cells_length (p : PV) : p.cells.length = 4 := rfl
def PV.val (p : PV) : Value := .agg #[.bool p.six, .int .u64 p.hi, .int .u64 p.lo, .int .i64 p.n]
def Tr.ptr : Tr → Value
  | .nil => .pointer none
  | .node g _ _ _ _ => .pointer (some ⟨g, 0, none⟩)
def nodeCs (p : PV) (h : Int) (a b : Value) : Array Value := #[.bool p.six, .int .u64 p.hi, .int .u64 p.lo, .int .i64 p.n, .int .i64 h, a, b]
def Tr.blocks : Tr → List Nat
  | .nil => []
  | .node g _ _ l r => g :: (l.blocks ++ r.blocks)
def Tr.size : Tr → Nat
  | .nil => 0
  | .node _ _ _ l r => l.size + r.size + 1
def Tr.Lies (w : World) (B : Nat) : Tr → Prop
  | .nil => True
  | .node g p h l r => B ≤ g ∧ Blk w g 235 (nodeCs p h l.ptr r.ptr) ∧ l.Lies w B ∧ r.Lies w B

theorem Tr.Lies.keep {w w' : World} {B : Nat} : ∀ {t : Tr}, t.Lies w B → (∀ g ∈ t.blocks, w'.heap[g]? = w.heap[g]?) → t.Lies w' B
  | .nil, _, _ => trivial
  | .node g p h l r, h1, h2 => ⟨h1.1, (h2 g (by simp [Tr.blocks])).trans h1.2.1, h1.2.2.1.keep fun k hk => h2 k (by simp [Tr.blocks, hk]), h1.2.2.2.keep fun k hk => h2 k (by simp [Tr.blocks, hk])⟩
theorem Tr.Lies.lt {w : World} {B : Nat} : ∀ {t : Tr}, t.Lies w B → ∀ g ∈ t.blocks, B ≤ g ∧ g < w.heap.size
  | .nil, _, g, hg => by simp [Tr.blocks] at hg
  | .node g p h l r, h1, k, hk => by
    simp only [Tr.blocks, List.mem_cons, List.mem_append] at hk
    rcases hk with rfl | hk | hk
    · exact ⟨h1.1, h1.2.1.lt⟩
    · exact h1.2.2.1.lt k hk
    · exact h1.2.2.2.lt k hk
theorem Tr.Lies.below {w w' : World} {B : Nat} {t : Tr} (h : t.Lies w B) (hb : Below w.heap.size w w') : t.Lies w' B := h.keep fun g hg => hb.block g (h.lt g hg).2
theorem Tr.Lies.far {w : World} {B : Nat} {t : Tr} (h : t.Lies w B) {p : Addr} (hp : p.block ∉ t.blocks) (u : Value) : t.Lies (w.setCell p u) B :=
  h.keep fun g hg => Below.heap_setCell w p u g (fun e => by subst e; exact hp hg)

/-- What stands round a place of a tree. -/
inductive Ctx where
  | top : Ctx
  | left (C : Ctx) (g : Nat) (p : PV) (h : Int) (r : Tr) : Ctx
  | right (C : Ctx) (g : Nat) (p : PV) (h : Int) (l : Tr) : Ctx

def Ctx.plug : Ctx → Tr → Tr
  | .top, t => t
  | .left C g p h r, t => C.plug (.node g p h t r)
  | .right C g p h l, t => C.plug (.node g p h l t)
def slotOf (tb : Nat) (six : Bool) : Addr := ⟨tb, if six then 1 else 0, none⟩
def Ctx.slot (tb : Nat) (six : Bool) : Ctx → Addr
  | .top => slotOf tb six
  | .left _ g _ _ _ => ⟨g, 5, none⟩
  | .right _ g _ _ _ => ⟨g, 6, none⟩
def Ctx.outer : Ctx → Value → Value
  | .top, v => v
  | .left C g _ _ _, _ => C.outer (.pointer (some ⟨g, 0, none⟩))
  | .right C g _ _ _, _ => C.outer (.pointer (some ⟨g, 0, none⟩))
def Ctx.blocks : Ctx → List Nat
  | .top => []
  | .left C g _ _ r => g :: (r.blocks ++ C.blocks)
  | .right C g _ _ l => g :: (l.blocks ++ C.blocks)
def Ctx.Lies (w : World) (B : Nat) : Ctx → Value → Prop
  | .top, _ => True
  | .left C g p h r, v => B ≤ g ∧ Blk w g 235 (nodeCs p h v r.ptr) ∧ r.Lies w B ∧ C.Lies w B (.pointer (some ⟨g, 0, none⟩))
  | .right C g p h l, v => B ≤ g ∧ Blk w g 235 (nodeCs p h l.ptr v) ∧ l.Lies w B ∧ C.Lies w B (.pointer (some ⟨g, 0, none⟩))
/-- p's way leads to the place. -/
def Ctx.OnPath (p : PV) : Ctx → Prop
  | .top => True
  | .left C _ q _ _ => ¬ q = p ∧ q.over p = true ∧ p.bit q.n = 0 ∧ C.OnPath p
  | .right C _ q _ _ => ¬ q = p ∧ q.over p = true ∧ ¬ p.bit q.n = 0 ∧ C.OnPath p

theorem plug_ptr : ∀ (C : Ctx) (t : Tr), (C.plug t).ptr = C.outer t.ptr
  | .top, _ => rfl
  | .left C g p h r, t => plug_ptr C (.node g p h t r)
  | .right C g p h l, t => plug_ptr C (.node g p h l t)
theorem plug_lies {w : World} {B : Nat} : ∀ (C : Ctx) (t : Tr), (C.plug t).Lies w B ↔ C.Lies w B t.ptr ∧ t.Lies w B
  | .top, t => by simp [Ctx.plug, Ctx.Lies]
  | .left C g p h r, t => by
    show (C.plug (.node g p h t r)).Lies w B ↔ _
    rw [plug_lies C]
    constructor
    · rintro ⟨h1, h2, h3, h4, h5⟩; exact ⟨⟨h2, h3, h5, h1⟩, h4⟩
    · rintro ⟨⟨h2, h3, h5, h1⟩, h4⟩; exact ⟨h1, h2, h3, h4, h5⟩
  | .right C g p h l, t => by
    show (C.plug (.node g p h l t)).Lies w B ↔ _
    rw [plug_lies C]
    constructor
    · rintro ⟨h1, h2, h3, h4, h5⟩; exact ⟨⟨h2, h3, h4, h1⟩, h5⟩
    · rintro ⟨⟨h2, h3, h4, h1⟩, h5⟩; exact ⟨h1, h2, h3, h4, h5⟩
theorem plug_blocks : ∀ (C : Ctx) (t : Tr), (C.plug t).blocks.Perm (t.blocks ++ C.blocks)
  | .top, t => by simp [Ctx.plug, Ctx.blocks]
  | .left C g p h r, t => by
    refine (plug_blocks C (.node g p h t r)).trans ?_
    simp only [Tr.blocks, Ctx.blocks, List.cons_append, List.append_assoc]
    exact (List.perm_middle).symm
  | .right C g p h l, t => by
    refine (plug_blocks C (.node g p h l t)).trans ?_
    simp only [Tr.blocks, Ctx.blocks, List.cons_append, List.append_assoc]
    refine List.Perm.trans ?_ (List.perm_middle).symm
    refine List.Perm.cons _ ?_
    rw [← List.append_assoc, ← List.append_assoc]
    exact List.Perm.append_right _ List.perm_append_comm
theorem plug_put {p : PV} {hop : Int} {G1 G2 : Nat} : ∀ (C : Ctx) (t : Tr), C.OnPath p → putT p hop G1 G2 (C.plug t) = C.plug (putT p hop G1 G2 t)
  | .top, _, _ => rfl
  | .left C g q h r, t, hp => by
    show putT p hop G1 G2 (C.plug (.node g q h t r)) = C.plug (.node g q h (putT p hop G1 G2 t) r)
    rw [plug_put C _ hp.2.2.2]
    congr 1
    conv => lhs; unfold putT
    rw [if_neg hp.1, if_neg (by simp [hp.2.1]), if_pos hp.2.2.1]
  | .right C g q h l, t, hp => by
    show putT p hop G1 G2 (C.plug (.node g q h l t)) = C.plug (.node g q h l (putT p hop G1 G2 t))
    rw [plug_put C _ hp.2.2.2]
    congr 1
    conv => lhs; unfold putT
    rw [if_neg hp.1, if_neg (by simp [hp.2.1]), if_neg hp.2.2.1]
theorem plug_hop {p : PV} : ∀ (C : Ctx) (t : Tr), C.OnPath p → hopAt (C.plug t) p = hopAt t p
  | .top, _, _ => rfl
  | .left C g q h r, t, hp => by
    show hopAt (C.plug (.node g q h t r)) p = _
    rw [plug_hop C _ hp.2.2.2]
    conv => lhs; unfold hopAt
    rw [if_neg hp.1, if_neg (by simp [hp.2.1]), if_pos hp.2.2.1]
  | .right C g q h l, t, hp => by
    show hopAt (C.plug (.node g q h l t)) p = _
    rw [plug_hop C _ hp.2.2.2]
    conv => lhs; unfold hopAt
    rw [if_neg hp.1, if_neg (by simp [hp.2.1]), if_neg hp.2.2.1]
theorem Ctx.Lies.keep {w w' : World} {B : Nat} : ∀ {C : Ctx} {v : Value}, C.Lies w B v → (∀ g ∈ C.blocks, w'.heap[g]? = w.heap[g]?) → C.Lies w' B v
  | .top, _, _, _ => trivial
  | .left C g p h r, v, h1, h2 => ⟨h1.1, (h2 g (by simp [Ctx.blocks])).trans h1.2.1, h1.2.2.1.keep fun k hk => h2 k (by simp [Ctx.blocks, hk]), h1.2.2.2.keep fun k hk => h2 k (by simp [Ctx.blocks, hk])⟩
  | .right C g p h l, v, h1, h2 => ⟨h1.1, (h2 g (by simp [Ctx.blocks])).trans h1.2.1, h1.2.2.1.keep fun k hk => h2 k (by simp [Ctx.blocks, hk]), h1.2.2.2.keep fun k hk => h2 k (by simp [Ctx.blocks, hk])⟩
theorem Ctx.Lies.far {w : World} {B : Nat} {C : Ctx} {v : Value} (h : C.Lies w B v) {p : Addr} (hp : p.block ∉ C.blocks) (u : Value) : C.Lies (w.setCell p u) B v :=
  h.keep fun g hg => Below.heap_setCell w p u g (fun e => by subst e; exact hp hg)
/-- A store at a place that is not the top one. -/
theorem Ctx.Lies.store {w : World} {B tb : Nat} {six : Bool} {v : Value} (u : Value) : ∀ {C : Ctx}, ¬ C = .top → C.Lies w B v → C.blocks.Nodup → C.Lies (w.setCell (C.slot tb six) u) B u
  | .top, h0, _, _ => absurd rfl h0
  | .left C g p h r, _, h1, hn => by
    simp only [Ctx.blocks, List.nodup_cons, List.mem_append, not_or] at hn
    exact ⟨h1.1, h1.2.1.set_ 5 u, h1.2.2.1.far (p := ⟨g, 5, none⟩) hn.1.1 u, h1.2.2.2.far (p := ⟨g, 5, none⟩) hn.1.2 u⟩
  | .right C g p h l, _, h1, hn => by
    simp only [Ctx.blocks, List.nodup_cons, List.mem_append, not_or] at hn
    exact ⟨h1.1, h1.2.1.set_ 6 u, h1.2.2.1.far (p := ⟨g, 6, none⟩) hn.1.1 u, h1.2.2.2.far (p := ⟨g, 6, none⟩) hn.1.2 u⟩
theorem Ctx.slot_cell {w : World} {B tb : Nat} {six : Bool} {v : Value} : ∀ {C : Ctx}, ¬ C = .top → C.Lies w B v → w.cell? (C.slot tb six) = some v ∧ w.frozen? (C.slot tb six) = false ∧ (C.slot tb six).block ∈ C.blocks
  | .top, h0, _ => absurd rfl h0
  | .left C g p h r, _, h1 => ⟨h1.2.1.cell 5, h1.2.1.frozen 5, by simp [Ctx.slot, Ctx.blocks]⟩
  | .right C g p h l, _, h1 => ⟨h1.2.1.cell 6, h1.2.1.frozen 6, by simp [Ctx.slot, Ctx.blocks]⟩
theorem outer_const {C : Ctx} (h : ¬ C = .top) (u v : Value) : C.outer u = C.outer v := by
  cases C with
  | top => exact absurd rfl h
  | left C g p h r => rfl
  | right C g p h l => rfl

/-- A table as it lies in memory. -/
structure Tab (w : World) (B tb : Nat) (R : Bool → Tr) (c : Int) : Prop where
  blk : Blk w tb 223 #[(R false).ptr, (R true).ptr, .int .i64 c]
  base : B ≤ tb
  lies : ∀ s, (R s).Lies w B
  nodup : (tb :: ((R false).blocks ++ (R true).blocks)).Nodup
def tabBlocks (tb : Nat) (R : Bool → Tr) : List Nat := tb :: ((R false).blocks ++ (R true).blocks)
theorem mem_tab {tb : Nat} {R : Bool → Tr} {s : Bool} {g : Nat} (h : g ∈ (R s).blocks) : g ∈ tabBlocks tb R := by
  cases s <;> simp [tabBlocks, h]
theorem Tab.keep {w w' : World} {B tb : Nat} {R : Bool → Tr} {c : Int} (h : Tab w B tb R c) (hk : ∀ g ∈ tabBlocks tb R, w'.heap[g]? = w.heap[g]?) : Tab w' B tb R c :=
  ⟨(hk tb (by simp [tabBlocks])).trans h.blk, h.base, fun s => (h.lies s).keep fun g hg => hk g (mem_tab hg), h.nodup⟩
theorem Tab.lt {w : World} {B tb : Nat} {R : Bool → Tr} {c : Int} (h : Tab w B tb R c) : ∀ g ∈ tabBlocks tb R, B ≤ g ∧ g < w.heap.size := by
  intro g hg
  simp only [tabBlocks, List.mem_cons, List.mem_append] at hg
  rcases hg with rfl | hg | hg
  · exact ⟨h.base, h.blk.lt⟩
  · exact (h.lies false).lt g hg
  · exact (h.lies true).lt g hg
theorem Tab.below {w w' : World} {B tb : Nat} {R : Bool → Tr} {c : Int} (h : Tab w B tb R c) (hb : Below w.heap.size w w') : Tab w' B tb R c := h.keep fun g hg => hb.block g (h.lt g hg).2

def upd (R : Bool → Tr) (s : Bool) (t : Tr) : Bool → Tr := fun s' => if s' = s then t else R s'
theorem upd_same (R : Bool → Tr) (s : Bool) (t : Tr) : upd R s t s = t := by simp [upd]
theorem upd_other (R : Bool → Tr) (s : Bool) (t : Tr) : upd R s t (!s) = R (!s) := by cases s <;> simp [upd]

theorem nodup_parts {w : World} {B tb : Nat} {R : Bool → Tr} {c : Int} {s : Bool} {C : Ctx} {cur : Tr} (h : Tab w B tb R c) (hR : R s = C.plug cur) :
    tb ∉ cur.blocks ∧ tb ∉ C.blocks ∧ tb ∉ (R (!s)).blocks ∧ cur.blocks.Nodup ∧ C.blocks.Nodup ∧ (∀ g ∈ cur.blocks, g ∉ C.blocks ∧ g ∉ (R (!s)).blocks) ∧ (∀ g ∈ C.blocks, g ∉ (R (!s)).blocks) ∧ (R (!s)).blocks.Nodup := by
  have hp := plug_blocks C cur
  rw [← hR] at hp
  have hn := h.nodup
  have hall : (tb :: ((R s).blocks ++ (R (!s)).blocks)).Nodup := by
    cases s
    · exact hn
    · refine (List.Perm.nodup_iff ?_).1 hn
      exact List.Perm.cons _ List.perm_append_comm
  have hall2 : (tb :: ((cur.blocks ++ C.blocks) ++ (R (!s)).blocks)).Nodup := (List.Perm.nodup_iff (List.Perm.cons _ (List.Perm.append_right _ hp))).1 hall
  simp only [List.nodup_cons, List.mem_append, not_or, List.nodup_append] at hall2
  obtain ⟨⟨⟨a1, a2⟩, a3⟩, ⟨b1, b2, b3⟩, b4, b5⟩ := hall2
  exact ⟨a1, a2, a3, b1, b2, fun g hg => ⟨fun h => b3 g hg g h rfl, fun h => b5 g (.inl hg) g h rfl⟩, fun g hg h => b5 g (.inr hg) g h rfl, b4⟩

theorem tab_of {w : World} {B tb : Nat} {R : Bool → Tr} {c : Int} {s : Bool} {C : Ctx} {new : Tr} (hb : Blk w tb 223 #[(upd R s (C.plug new) false).ptr, (upd R s (C.plug new) true).ptr, .int .i64 c]) (h0 : B ≤ tb)
    (h1 : C.Lies w B new.ptr) (h2 : new.Lies w B) (h3 : (R (!s)).Lies w B)
    (n1 : tb ∉ new.blocks) (n2 : tb ∉ C.blocks) (n3 : tb ∉ (R (!s)).blocks) (n4 : new.blocks.Nodup) (n5 : C.blocks.Nodup) (n6 : ∀ g ∈ new.blocks, g ∉ C.blocks ∧ g ∉ (R (!s)).blocks) (n7 : ∀ g ∈ C.blocks, g ∉ (R (!s)).blocks) (n8 : (R (!s)).blocks.Nodup) :
    Tab w B tb (upd R s (C.plug new)) c := by
  have hp := plug_blocks C new
  have hx : (tb :: ((C.plug new).blocks ++ (R (!s)).blocks)).Nodup := by
    refine (List.Perm.nodup_iff (List.Perm.cons _ (List.Perm.append_right _ hp))).2 ?_
    simp only [List.nodup_cons, List.mem_append, not_or, List.nodup_append]
    exact ⟨⟨⟨n1, n2⟩, n3⟩, ⟨n4, n5, fun a ha b hb e => by subst e; exact (n6 a ha).1 hb⟩, n8, fun a ha b hb e => by
      subst e
      rcases ha with ha | ha
      · exact (n6 a ha).2 hb
      · exact n7 a ha hb⟩
  refine ⟨hb, h0, fun s' => ?_, ?_⟩
  · by_cases e : s' = s
    · subst e; rw [upd_same]; exact (plug_lies C new).2 ⟨h1, h2⟩
    · have : s' = !s := by cases s <;> cases s' <;> simp_all
      subst this
      rw [upd_other]; exact h3
  · cases s
    · simpa [upd] using hx
    · have : (tb :: ((R false).blocks ++ (C.plug new).blocks)).Nodup := (List.Perm.nodup_iff (List.Perm.cons _ List.perm_append_comm)).1 hx
      simpa [upd] using this

/-- A store at a place of a tree. -/
theorem Tab.store {w : World} {B tb : Nat} {R : Bool → Tr} {c : Int} {s : Bool} {C : Ctx} {cur new : Tr} (h : Tab w B tb R c) (hR : R s = C.plug cur) (hl : new.Lies w B) (hn : new.blocks.Nodup)
    (hd : ∀ g ∈ new.blocks, g ∈ cur.blocks ∨ g ∉ tabBlocks tb R) : Tab (w.setCell (C.slot tb s) new.ptr) B tb (upd R s (C.plug new)) c := by
  obtain ⟨n1, n2, n3, n4, n5, n6, n7, n8⟩ := nodup_parts h hR
  have hC : ∀ g ∈ C.blocks, g ∈ tabBlocks tb R := by
    intro g hg
    have : g ∈ (R s).blocks := by rw [hR]; exact (plug_blocks C cur).mem_iff.2 (by simp [hg])
    exact mem_tab this
  have m1 : tb ∉ new.blocks := fun hx => by
    rcases hd tb hx with h' | h'
    · exact n1 h'
    · exact h' (by simp [tabBlocks])
  have m6 : ∀ g ∈ new.blocks, g ∉ C.blocks ∧ g ∉ (R (!s)).blocks := fun g hg => by
    rcases hd g hg with h' | h'
    · exact n6 g h'
    · exact ⟨fun hx => h' (hC g hx), fun hx => h' (mem_tab hx)⟩
  have hCl := (plug_lies C cur).1 (hR ▸ h.lies s)
  by_cases ht : C = .top
  · subst ht
    refine tab_of ?_ h.base trivial (hl.far (p := slotOf tb s) m1 _) ((h.lies (!s)).far (p := slotOf tb s) n3 _) m1 n2 n3 hn n5 m6 n7 n8
    have := h.blk.set_ (if s then 1 else 0) new.ptr
    cases s
    · simpa [upd, Ctx.plug, Ctx.slot, slotOf] using this
    · simpa [upd, Ctx.plug, Ctx.slot, slotOf] using this
  · have hsl := (Ctx.slot_cell (tb := tb) (six := s) ht hCl.1).2.2
    refine tab_of ?_ h.base (hCl.1.store new.ptr ht n5) (hl.far (fun hx => (m6 _ hx).1 hsl) _) ((h.lies (!s)).far (fun hx => n7 _ hsl hx) _) m1 n2 n3 hn n5 m6 n7 n8
    have := h.blk.far (p := C.slot tb s) (fun e => by rw [e] at n2; exact n2 hsl) new.ptr
    have e : (C.plug new).ptr = (R s).ptr := by rw [hR, plug_ptr, plug_ptr]; exact outer_const ht _ _
    cases s
    · simpa [upd, e] using this
    · simpa [upd, e] using this

/-- A node's hop is stored. -/
theorem Tab.hop {w : World} {B tb : Nat} {R : Bool → Tr} {c : Int} {s : Bool} {C : Ctx} {g : Nat} {q : PV} {h0 : Int} {l r : Tr} (h : Tab w B tb R c) (hR : R s = C.plug (.node g q h0 l r)) (hop : Int) :
    Tab (w.setCell ⟨g, 4, none⟩ (.int .i64 hop)) B tb (upd R s (C.plug (.node g q hop l r))) c := by
  obtain ⟨n1, n2, n3, n4, n5, n6, n7, n8⟩ := nodup_parts h hR
  have hCl := (plug_lies C _).1 (hR ▸ h.lies s)
  obtain ⟨b1, b2, b3, b4⟩ := hCl.2
  have hg : g ∈ (Tr.node g q h0 l r).blocks := by simp [Tr.blocks]
  have n4' := n4
  simp only [Tr.blocks, List.nodup_cons, List.mem_append, not_or] at n4'
  refine tab_of ?_ h.base (hCl.1.far (p := ⟨g, 4, none⟩) (n6 g hg).1 _) ⟨b1, b2.set_ 4 _, b3.far (p := ⟨g, 4, none⟩) n4'.1.1 _, b4.far (p := ⟨g, 4, none⟩) n4'.1.2 _⟩ ((h.lies (!s)).far (p := ⟨g, 4, none⟩) (n6 g hg).2 _) n1 n2 n3 n4 n5 n6 n7 n8
  have := h.blk.far (p := ⟨g, 4, none⟩) (fun e => by subst e; exact n1 hg) (.int .i64 hop)
  have e : (C.plug (.node g q hop l r)).ptr = (R s).ptr := by rw [hR, plug_ptr, plug_ptr]; rfl
  cases s
  · simpa [upd, e] using this
  · simpa [upd, e] using this
theorem Tab.count {w : World} {B tb : Nat} {R : Bool → Tr} {c : Int} (h : Tab w B tb R c) (c' : Int) : Tab (w.setCell ⟨tb, 2, none⟩ (.int .i64 c')) B tb R c' := by
  have hn := h.nodup
  simp only [List.nodup_cons, List.mem_append, not_or] at hn
  refine ⟨h.blk.set_ 2 _, h.base, fun s => (h.lies s).far (p := ⟨tb, 2, none⟩) (by cases s; exact hn.1.1; exact hn.1.2) _, h.nodup⟩

theorem Tab.slot {w : World} {B tb : Nat} {R : Bool → Tr} {c : Int} {s : Bool} {C : Ctx} {cur : Tr} (h : Tab w B tb R c) (hR : R s = C.plug cur) :
    w.cell? (C.slot tb s) = some cur.ptr ∧ w.frozen? (C.slot tb s) = false ∧ (C.slot tb s).block ∈ tabBlocks tb R := by
  by_cases ht : C = .top
  · subst ht
    have e : (R s).ptr = cur.ptr := by rw [hR]; rfl
    refine ⟨?_, h.blk.frozen _, by simp [Ctx.slot, slotOf, tabBlocks]⟩
    show w.cell? ⟨tb, _, none⟩ = _
    rw [h.blk.cell, ← e]
    cases s <;> rfl
  · have hCl := (plug_lies C cur).1 (hR ▸ h.lies s)
    obtain ⟨a, b, d⟩ := Ctx.slot_cell (tb := tb) (six := s) ht hCl.1
    refine ⟨a, b, mem_tab (s := s) ?_⟩
    rw [hR]
    exact (plug_blocks C cur).mem_iff.2 (by simp [d])
theorem Tab.node {w : World} {B tb : Nat} {R : Bool → Tr} {c : Int} {s : Bool} {C : Ctx} {g : Nat} {q : PV} {h0 : Int} {l r : Tr} (h : Tab w B tb R c) (hR : R s = C.plug (.node g q h0 l r)) :
    Blk w g 235 (nodeCs q h0 l.ptr r.ptr) ∧ g ∈ tabBlocks tb R := by
  have hCl := (plug_lies C _).1 (hR ▸ h.lies s)
  refine ⟨hCl.2.2.1, mem_tab (s := s) ?_⟩
  rw [hR]
  exact (plug_blocks C _).mem_iff.2 (by simp [Tr.blocks])

/-- All blocks but some are as they were. -/
structure Kept (S : List Nat) (w w' : World) : Prop where
  os : w'.os = w.os
  tape : w'.tape = w.tape
  output : w'.output = w.output
  size : w.heap.size ≤ w'.heap.size
  block : ∀ k, k < w.heap.size → k ∉ S → w'.heap[k]? = w.heap[k]?

end Go.Proofs.Ytnflaaoapmhjgaa

namespace Go.Proofs.Ytnflaaoapmhjgaa

/-- The first place of a list where a test holds; -1: there is none. -/
def firstAt {α : Type} (f : α → Bool) : List α → Int
  | [] => -1
  | x :: l => if f x = true then 0 else if firstAt f l < 0 then -1 else firstAt f l + 1
def NoneYet {α : Type} (f : α → Bool) (l : List α) (k : Nat) : Prop := ∀ x ∈ l.take k, f x = false

theorem noneYet_zero {α : Type} (f : α → Bool) (l : List α) : NoneYet f l 0 := fun x hx => by simp at hx
theorem noneYet_succ {α : Type} {f : α → Bool} {l : List α} {k : Nat} {x : α} (h : NoneYet f l k) (hk : l.take (k + 1) = l.take k ++ [x]) (hf : f x = false) : NoneYet f l (k + 1) := by
  intro y hy
  rw [hk, List.mem_append] at hy
  rcases hy with hy | hy
  · exact h y hy
  · rw [List.mem_singleton.1 hy]; exact hf
theorem firstAt_at {α : Type} {f : α → Bool} : ∀ {l : List α} {k : Nat} {x : α}, NoneYet f l k → l[k]? = some x → f x = true → firstAt f l = k
  | [], k, x, _, h, _ => by simp at h
  | y :: l, 0, x, _, h, hf => by
    simp at h
    subst h
    unfold firstAt
    rw [if_pos hf]
    rfl
  | y :: l, k + 1, x, hn, h, hf => by
    have hy : f y = false := hn y (by simp)
    have ih : firstAt f l = k := firstAt_at (fun z hz => hn z (by simp [hz])) (by simpa using h) hf
    unfold firstAt
    rw [if_neg (by rw [hy]; simp), ih, if_neg (by omega)]
    omega
theorem firstAt_none {α : Type} {f : α → Bool} : ∀ {l : List α}, (∀ x ∈ l, f x = false) → firstAt f l = -1
  | [], _ => rfl
  | y :: l, h => by
    unfold firstAt
    rw [if_neg (by rw [h y (by simp)]; simp), firstAt_none (l := l) (fun x hx => h x (by simp [hx]))]
    rfl
theorem firstAt_end {α : Type} {f : α → Bool} {l : List α} {k : Nat} (h : NoneYet f l k) (hl : l.length = k) : firstAt f l = -1 := by
  unfold NoneYet at h
  rw [← hl, List.take_length] at h
  exact firstAt_none h
/-- Either there is none, or it is a place, and the test holds there. -/
theorem firstAt_cases {α : Type} (f : α → Bool) : ∀ (l : List α), (firstAt f l = -1 ∧ ∀ x ∈ l, f x = false) ∨ ∃ (k : Nat) (x : α), firstAt f l = k ∧ l[k]? = some x ∧ f x = true
  | [] => .inl ⟨rfl, by simp⟩
  | y :: l => by
    by_cases hy : f y = true
    · exact .inr ⟨0, y, by unfold firstAt; rw [if_pos hy]; rfl, rfl, hy⟩
    · rcases firstAt_cases f l with ⟨h1, h2⟩ | ⟨k, x, h1, h2, h3⟩
      · refine .inl ⟨by unfold firstAt; rw [if_neg hy, h1]; rfl, fun x hx => ?_⟩
        rcases List.mem_cons.1 hx with rfl | hx
        · simpa using hy
        · exact h2 x hx
      · exact .inr ⟨k + 1, x, by unfold firstAt; rw [if_neg hy, h1, if_neg (by omega)]; omega, by simpa using h2, h3⟩

end Go.Proofs.Ytnflaaoapmhjgaa

namespace Go.Proofs.Ytnflaaoapmhjgaa
open Go.ChangeShapes Go.WideShapes Go.ChangeAt Go.RowKit

def RouteV.cells (r : RouteV) : List Value := [.bool r.p.six, .int .u64 r.p.hi, .int .u64 r.p.lo, .int .i64 r.p.n, .int .i64 r.hop]
theorem RouteV.cells_length (r : RouteV) : r.cells.length = 5 := rfl
/-- What is known of a slice of routes. -/
def IsRoutes (w : World) (A : Option Addr) (n c : Nat) (l : List RouteV) : Prop :=
  l.length = n ∧ (n ≤ c ∧ c ≤ maxLen) ∧ (∀ r ∈ l, r.Ok) ∧ Reads w w.heap.size 5 A n (l.flatMap RouteV.cells)
theorem IsRoutes.below {w w' : World} {A : Option Addr} {n c : Nat} {l : List RouteV} (h : IsRoutes w A n c l) (hb : Below w.heap.size w w') : IsRoutes w' A n c l :=
  ⟨h.1, h.2.1, h.2.2.1, (h.2.2.2.below hb).more hb.size⟩

set_option maxRecDepth 100000 in
theorem open_routes {H : Type} {enc : TypeId × Value → H} {W : World} {base : Nat} {sp : Nat → Bool} {held : Bool} {a0 : Option Addr} {len0 cap0 : Nat} {d : DataW H} {p : List MemPlace}
    (h : DataW.Trod enc Try.prog W base sp held 36 (.slice a0 len0 cap0) d p) : ∃ l : List RouteV, IsRoutes W a0 len0 cap0 l := by
  have hk : flat Try.prog 9 57 = some [none, some .u64, some .u64, some .i64, some .i64] := by kernel_rfl
  obtain ⟨css, hcl, hfit, hr, hl, hm⟩ := open_flats Try.underlying36 hk (by kernel_rfl) (by simp) h
  obtain ⟨l, rfl, hz⟩ := choose_list (f := RouteV.cells) (Q := RouteV.Ok) css (fun cs hc => by
    have hf := hfit cs hc
    clear hr hcl hfit
    obtain ⟨six, _, rfl, hf0⟩ := hf.bool_inv
    obtain ⟨hi, _, rfl, w1, hf1⟩ := hf0.int_inv
    obtain ⟨lo, _, rfl, w2, hf2⟩ := hf1.int_inv
    obtain ⟨n, _, rfl, w3, hf3⟩ := hf2.int_inv
    obtain ⟨hop, _, rfl, w4, hf4⟩ := hf3.int_inv
    obtain rfl := hf4.nil_inv
    exact ⟨⟨⟨six, hi, lo, n⟩, hop⟩, ⟨range_u64 w1, range_u64 w2, bounds_i64 w3, bounds_i64 w4⟩, rfl⟩)
  exact ⟨l, by simpa using hcl, ⟨hl, hm⟩, hz, by rw [List.flatMap_def]; exact hr⟩

/-- The table holds the routes. -/
def Holds (w : World) (B tb : Nat) (l : List RouteV) : Prop :=
  ∃ R c, Tab w B tb R c ∧ (∀ s, Inv s (fun _ => True) (R s)) ∧ (∀ p : PV, p.Ok → hopAt (R p.six) p = getR l p) ∧ c = l.length
theorem Holds.below {w w' : World} {B tb : Nat} {l : List RouteV} (h : Holds w B tb l) (hb : Below w.heap.size w w') : Holds w' B tb l := by
  obtain ⟨R, c, h1, h2⟩ := h
  exact ⟨R, c, h1.below hb, h2⟩
theorem holds_new (w : World) : Holds (w.alloc (.cells #[.pointer none, .pointer none, .int .i64 0] 223)) w.heap.size w.heap.size [] := by
  refine ⟨fun _ => .nil, 0, ⟨Blk.new _ _ _, Nat.le_refl _, fun _ => trivial, by simp [Tr.blocks]⟩, fun _ => trivial, fun _ _ => rfl, rfl⟩

theorem holds_put {w' : World} {B tb G1 G2 : Nat} {R : Bool → Tr} {c : Int} {l : List RouteV} {p : PV} {hop : Int} (hI : ∀ s, Inv s (fun _ => True) (R s)) (hm : ∀ p : PV, p.Ok → hopAt (R p.six) p = getR l p) (hc : c = l.length)
    (hp : p.Ok) (hh : 1 ≤ hop ∧ hop ≤ 999) (hn : hasR l p = false) (hT : Tab w' B tb (upd R p.six (putT p hop G1 G2 (R p.six))) (if hopAt (R p.six) p = 0 then c + 1 else c)) : Holds w' B tb (l ++ [⟨p, hop⟩]) := by
  rw [hm p hp, getR_none hn, if_pos rfl] at hT
  refine ⟨_, _, hT, fun s => ?_, fun p' hp' => ?_, by rw [hc]; simp⟩
  · unfold upd
    split
    · rename_i e; subst e
      exact inv_put hp rfl (by omega) _ _ (hI p.six) trivial (fun _ _ _ _ _ _ _ _ => trivial)
    · exact hI s
  · rw [getR_snoc hn]
    unfold upd
    by_cases e : p'.six = p.six
    · rw [if_pos e]
      have := hopAt_put (hop := hop) (G1 := G1) (G2 := G2) hp rfl p' hp' (R p.six) _ (hI p.six)
      rw [this, ← e, hm p' hp']
    · have e2 : ¬ p' = p := fun h => e (by rw [h])
      rw [if_neg e, if_neg e2]
      exact hm p' hp'

end Go.Proofs.Ytnflaaoapmhjgaa

namespace Go.Proofs.Ytnflaaoapmhjgaa
open Go.ChangeShapes Go.WideShapes Go.ChangeAt Go.RowKit

set_option maxRecDepth 100000 in
/-- '==' on addresses. -/
theorem eqAV (d : Nat) (six : Bool) (hi lo : Int) (six' : Bool) (hi' lo' : Int) (w : World) : (Op.equalIn (d + 1 + 1) 44 (.agg #[.bool six, .int .u64 hi, .int .u64 lo]) (.agg #[.bool six', .int .u64 hi', .int .u64 lo'])).run Try.prog w = .ok (six == six' && (hi == hi' && lo == lo')) w := by
  have hS : Try.prog.underlying 44 = some (.struct (Try.prog.fieldsOf 44)) := by kernel_rfl
  have hp : Try.prog.stoodInHeld 44 = false := by kernel_rfl
  rw [run_equalIn_agg w (d + 1) 44 _ _ hS hp]
  clear hS hp
  have a1 := Try.isAgg42
  have z1 := Try.sizeOf42
  have a2 := Try.isAgg4
  have z2 := Try.sizeOf4
  simp only [Program.fieldsOf, Try.underlying44]
  go_simp
  by_cases h1 : six = six' <;> by_cases h2 : hi = hi' <;> by_cases h3 : lo = lo' <;> simp [h1, h2, h3]

set_option maxRecDepth 100000 in
/-- '==' on prefixes. -/
theorem eqPVd (d : Nat) (p q : PV) (w : World) : (Op.equalIn (d + 1 + 1 + 1) 51 p.val q.val).run Try.prog w = .ok (decide (p = q)) w := by
  obtain ⟨six, hi, lo, n⟩ := p
  obtain ⟨six', hi', lo', n'⟩ := q
  have hS : Try.prog.underlying 51 = some (.struct (Try.prog.fieldsOf 51)) := by kernel_rfl
  have hp : Try.prog.stoodInHeld 51 = false := by kernel_rfl
  have inner := fun w => eqAV d six hi lo six' hi' lo' w
  have e : (decide ((⟨six, hi, lo, n⟩ : PV) = ⟨six', hi', lo', n'⟩)) = ((six == six' && (hi == hi' && lo == lo')) && n == n') := by
    rw [Bool.eq_iff_iff]
    simp
    constructor
    · rintro ⟨a, b, c, d⟩; exact ⟨⟨a, b, c⟩, d⟩
    · rintro ⟨⟨a, b, c⟩, d⟩; exact ⟨a, b, c, d⟩
  rw [e]
  unfold PV.val
  simp only
  rw [run_equalIn_agg w (d + 1 + 1) 51 _ _ hS hp]
  clear hS hp e
  generalize (six == six' && (hi == hi' && lo == lo')) = b at *
  have a1 := Try.isAgg44
  have z1 := Try.sizeOf44
  have a2 := Try.isAgg3
  have z2 := Try.sizeOf3
  simp only [Program.fieldsOf, Try.underlying51]
  go_simp
  cases b <;> by_cases h4 : n = n' <;> simp [h4]
theorem eqPV (p q : PV) (w : World) : (Op.equalIn 10000 51 p.val q.val).run Try.prog w = .ok (decide (p = q)) w := eqPVd 9997 p q w

def RouteV.val (r : RouteV) : Value := .agg #[.bool r.p.six, .int .u64 r.p.hi, .int .u64 r.p.lo, .int .i64 r.p.n, .int .i64 r.hop]
theorem RouteV.ext' {r r' : RouteV} (h1 : r.p = r'.p) (h2 : r.hop = r'.hop) : r = r' := by cases r; cases r'; simp_all
instance : DecidableEq RouteV := fun a b => decidable_of_iff (a.p = b.p ∧ a.hop = b.hop) ⟨fun h => RouteV.ext' h.1 h.2, fun h => by subst h; exact ⟨rfl, rfl⟩⟩
set_option maxRecDepth 100000 in
/-- '==' on routes. -/
theorem eqRV (r r' : RouteV) (w : World) : (Op.equalIn 10000 57 r.val r'.val).run Try.prog w = .ok (decide (r = r')) w := by
  obtain ⟨⟨six, hi, lo, n⟩, h⟩ := r
  obtain ⟨⟨six', hi', lo', n'⟩, h'⟩ := r'
  have hS : Try.prog.underlying 57 = some (.struct (Try.prog.fieldsOf 57)) := by kernel_rfl
  have hp : Try.prog.stoodInHeld 57 = false := by kernel_rfl
  have inner := fun w => eqPVd 9996 ⟨six, hi, lo, n⟩ ⟨six', hi', lo', n'⟩ w
  have e : (decide ((⟨⟨six, hi, lo, n⟩, h⟩ : RouteV) = ⟨⟨six', hi', lo', n'⟩, h'⟩)) = (decide ((⟨six, hi, lo, n⟩ : PV) = ⟨six', hi', lo', n'⟩) && h == h') := by
    rw [Bool.eq_iff_iff]
    simp
  rw [e]
  unfold RouteV.val
  unfold PV.val at inner
  simp only at inner ⊢
  rw [show (10000 : Nat) = 9999 + 1 from rfl, run_equalIn_agg w 9999 57 _ _ hS hp]
  clear hS hp e
  generalize decide ((⟨six, hi, lo, n⟩ : PV) = ⟨six', hi', lo', n'⟩) = b at *
  have a1 := Try.isAgg51
  have z1 := Try.sizeOf51
  have a2 := Try.isAgg3
  have z2 := Try.sizeOf3
  simp only [Program.fieldsOf, Try.underlying57]
  go_simp
  cases b <;> by_cases h4 : h = h' <;> simp [h4]

end Go.Proofs.Ytnflaaoapmhjgaa

namespace Go.Proofs.Ytnflaaoapmhjgaa
open Go.ChangeShapes Go.WideShapes Go.ChangeAt Go.RowKit

theorem own_cap {w : World} {base : Nat} {e : TypeId} {size n cap : Nat} {A : Option Addr} {xs : List Value} (h : w.ownsRow base e size (.slice A n cap) n xs) : n ≤ cap ∧ cap ≤ maxLen := by
  rcases h.2 with ⟨h1, rfl⟩ | ⟨g, c, cur, hv, _, _, h3, h4, _⟩
  · injection h1 with _ _ h2
    subst h2
    exact ⟨Nat.le_refl _, by unfold maxLen; omega⟩
  · injection hv with _ _ h2
    subst h2
    exact ⟨h3, h4⟩

theorem wideN (six : Bool) : ∃ n : Nat, wideI six = n ∧ 0 < n ∧ n ≤ 128 := by
  refine ⟨(wideI six).toNat, ?_⟩
  unfold wideI
  split <;> decide

/-- Cell i of a row that the call owns, of integers. -/
theorem own_int {w : World} {base n cap g : Nat} {e : TypeId} {l : List Int} (h : w.ownsRow base e 1 (.slice (some ⟨g, 0, none⟩) n cap) n (l.map (Value.int .i64))) {i : Nat} {x : Int} (hx : l[i]? = some x) : w.cell? ⟨g, i, none⟩ = some (.int .i64 x) := by
  have := h.cells (g := g) rfl i (.int .i64 x) (by rw [List.getElem?_map, hx]; rfl)
  rwa [show (⟨g, 0, none⟩ : Addr).add i = ⟨g, i, none⟩ from by unfold Addr.add; split <;> simp_all] at this

theorem bitsL_at {six : Bool} {hi lo : Int} {m i : Nat} (hm : wideI six = m) (hi' : i < m) : (bitsL six hi lo)[i]? = some (bitI six hi lo i) := by
  unfold bitsL
  rw [hm, List.getElem?_map, List.getElem?_range (by simpa using hi')]
  rfl

def ZeroTo (six : Bool) (hi lo : Int) (k j : Nat) : Prop := ∀ i : Nat, k ≤ i → i < k + j → bitI six hi lo i = 0
theorem ZeroTo.zero (six : Bool) (hi lo : Int) (k : Nat) : ZeroTo six hi lo k 0 := fun _ _ _ => by omega
theorem ZeroTo.succ {six : Bool} {hi lo : Int} {k j : Nat} (h : ZeroTo six hi lo k j) (hb : bitI six hi lo ((k + j : Nat) : Int) = 0) : ZeroTo six hi lo k (j + 1) := fun i h1 h2 => by
  rcases Nat.lt_or_ge i (k + j) with h3 | h3
  · exact h i h1 h3
  · obtain rfl : i = k + j := by omega
    exact hb

set_option maxHeartbeats 1600000 in
theorem preFault_any (six : Bool) (hi lo n : Int) (w : World) (h1 : 0 ≤ hi ∧ hi < 18446744073709551616) (h2 : 0 ≤ lo ∧ lo < 18446744073709551616) :
    Calls Try.prog 66 #[.agg #[.bool six, .int .u64 hi, .int .u64 lo, .int .i64 n]] w fun e w' => e = .returned (.int .i64 (chk six hi lo n)) ∧ Below w.heap.size w w' := by
  unfold chk
  by_cases hm : mayB six hi lo = false
  · rw [if_pos hm]
    go_enter Try.func66, Try.ntmps66
    go_wp2_with (go_at_call 130; refine (refMay_any six hi lo _ h2.1).mono ?_; rintro e w1 ⟨rfl, hb⟩; obtain ⟨B1, S1, q0, q1, q2, q3⟩ := box4 hb; clear hb)
    go_ret
    exact ⟨rfl, B1⟩
  · rw [if_neg hm]
    have hm' : mayB six hi lo = true := by simpa using hm
    clear hm
    obtain ⟨m, hn, hpos, hle⟩ := wideN six
    rw [hn]
    have HN := Lib.hid hn
    clear hn
    by_cases hr : n < 0
    · rw [if_pos (.inl hr)]
      go_enter Try.func66, Try.ntmps66
      go_wp2_with (go_at_call 130; refine (refMay_any six hi lo _ h2.1).mono ?_; rintro e w1 ⟨rfl, hb⟩; obtain ⟨B1, S1, q0, q1, q2, q3⟩ := box4 hb; clear hb)
      refine (bitsOf_any six hi lo _ h1 h2).mono ?_
      rintro e w2 ⟨v, rfl, hown, hb2, hs2⟩
      have B2 := B1.trans (hb2.mono (Nat.le_of_lt S1))
      have Q0 := cell_step hb2 q0
      have Q1 := cell_step hb2 q1
      have Q2 := cell_step hb2 q2
      have Q3 := cell_step hb2 q3
      rw [HN.out] at hown
      simp only [Int.toNat_natCast] at hown
      obtain ⟨g, cap, rfl, hg, hlt⟩ := hown.form hpos
      have hncap := own_cap hown
      have HO := Lib.hid hown
      clear hown hb2 q0 q1 q2 q3
      go_wp2
      go_ret
      exact ⟨rfl, B2⟩
    · by_cases hr2 : (m : Int) < n
      · rw [if_pos (.inr hr2)]
        go_enter Try.func66, Try.ntmps66
        go_wp2_with (go_at_call 130; refine (refMay_any six hi lo _ h2.1).mono ?_; rintro e w1 ⟨rfl, hb⟩; obtain ⟨B1, S1, q0, q1, q2, q3⟩ := box4 hb; clear hb)
        refine (bitsOf_any six hi lo _ h1 h2).mono ?_
        rintro e w2 ⟨v, rfl, hown, hb2, hs2⟩
        have B2 := B1.trans (hb2.mono (Nat.le_of_lt S1))
        have Q0 := cell_step hb2 q0
        have Q1 := cell_step hb2 q1
        have Q2 := cell_step hb2 q2
        have Q3 := cell_step hb2 q3
        rw [HN.out] at hown
        simp only [Int.toNat_natCast] at hown
        obtain ⟨g, cap, rfl, hg, hlt⟩ := hown.form hpos
        have hncap := own_cap hown
        have HO := Lib.hid hown
        clear hown hb2 q0 q1 q2 q3
        go_wp2
        go_ret
        exact ⟨rfl, B2⟩
      · rw [if_neg (by omega)]
        obtain ⟨k, rfl⟩ := Int.eq_ofNat_of_zero_le (by omega : 0 ≤ n)
        have hkm : k ≤ m := by omega
        obtain ⟨r, hr0⟩ : ∃ r : Int, r = if cleanB six hi lo k = true then 0 else 5 := ⟨_, rfl⟩
        rw [← hr0]
        have hci := clean_iff six hi lo k h1 h2 hm' (by rw [HN.out]; omega)
        rw [HN.out] at hci
        have hall : ZeroTo six hi lo k (m - k) → r = 0 := fun hz => by
          rw [hr0, if_pos (hci.2 fun i h3 h4 => hz i h3 (by omega))]
        have hone : ∀ j : Nat, j < m - k → bitI six hi lo ((k + j : Nat) : Int) = 1 → r = 5 := fun j hj hb => by
          rw [hr0, if_neg]
          intro hc
          have := hci.1 hc (k + j) (by omega) (by omega)
          omega
        have HA := Lib.hid hall
        have HB := Lib.hid hone
        clear hall hone hr0 hci hr hr2
        have hd : decide ((k : Int) < 0) = false := by simp
        have hd2 : decide ((m : Int) < (k : Int)) = false := by simp; omega
        go_enter Try.func66, Try.ntmps66
        go_wp2_with (go_at_call 130; refine (refMay_any six hi lo _ h2.1).mono ?_; rintro e w1 ⟨rfl, hb⟩; obtain ⟨B1, S1, q0, q1, q2, q3⟩ := box4 hb; clear hb)
        refine (bitsOf_any six hi lo _ h1 h2).mono ?_
        rintro e w2 ⟨v, rfl, hown, hb2, hs2⟩
        have B2 := B1.trans (hb2.mono (Nat.le_of_lt S1))
        have Q0 := cell_step hb2 q0
        have Q1 := cell_step hb2 q1
        have Q2 := cell_step hb2 q2
        have Q3 := cell_step hb2 q3
        rw [HN.out] at hown
        simp only [Int.toNat_natCast] at hown
        obtain ⟨g, cap, rfl, hg, hlt⟩ := hown.form hpos
        have hncap := own_cap hown
        have HO := Lib.hid hown
        clear hown hb2 q0 q1 q2 q3
        have hc1 := hncap.1
        have hc2 := hncap.2
        unfold maxLen at hc2
        clear hncap
        have hz1 : ((m - k : Nat) : Int) ≤ 128 := by omega
        by_cases hck : cap = k
        · obtain rfl : m = k := by omega
          go_wp2
          refine wp_loop_rounds 1 ?_
          rw [rounds_succ]
          go_wp2
          go_ret
          exact ⟨ret_int (HA.out (by rw [Nat.sub_self]; exact ZeroTo.zero _ _ _ _)).symm, B2⟩
        · go_wp2
          go_loop [28, 5] (fun i _ => ∃ j : Nat, j ≤ m - k ∧ i = .int .i64 j ∧ ZeroTo six hi lo k j) (fun i _ => m - k - (intOf i).toNat)
          case atStart => exact ⟨0, by omega, rfl, ZeroTo.zero _ _ _ _⟩
          case round =>
            obtain ⟨j, hj, rfl, hz⟩ := hrel
            by_cases hlt : j < m - k
            · have hcell := own_int HO.out (bitsL_at (hi := hi) (lo := lo) HN.out (show k + j < m by omega))
              have h01 := bitI_01 six hi lo ((k + j : Nat) : Int)
              have HZ := Lib.hid hz
              clear hz
              by_cases hb1 : bitI six hi lo ((k + j : Nat) : Int) = 1
              · have hr5 := HB.out j hlt hb1
                rw [hb1] at hcell
                clear hb1 h01
                have HR := Lib.hid hr5
                clear hr5
                go_wp2
                go_ret
                exact ⟨ret_int HR.out.symm, B2⟩
              · have hb0 : bitI six hi lo ((k + j : Nat) : Int) = 0 := by omega
                rw [hb0] at hcell
                have HZ2 := Lib.hid (HZ.out.succ hb0)
                clear hb1 hb0 h01
                go_wp2
                go_round
                case rel => exact ⟨j + 1, by omega, by go_num, HZ2.out⟩
                case measure => simp [intOf]; omega
            · obtain rfl : j = m - k := by omega
              have HR := Lib.hid (HA.out hz)
              clear hz
              go_wp2
              go_ret
              exact ⟨ret_int HR.out.symm, B2⟩

end Go.Proofs.Ytnflaaoapmhjgaa

namespace Go.Proofs.Ytnflaaoapmhjgaa
open Go.ChangeShapes Go.WideShapes Go.ChangeAt Go.RowKit

/-- What two boxes, of four cells and of three, read as later on. -/
structure Box43 (w : World) (a b c d e f g : Value) (w' : World) : Prop where
  below : Below w.heap.size w w'
  size : w.heap.size + 1 < w'.heap.size
  c0 : w'.cell? ⟨w.heap.size, 0, none⟩ = some a
  c1 : w'.cell? ⟨w.heap.size, 1, none⟩ = some b
  c2 : w'.cell? ⟨w.heap.size, 2, none⟩ = some c
  c3 : w'.cell? ⟨w.heap.size, 3, none⟩ = some d
  d0 : w'.cell? ⟨w.heap.size + 1, 0, none⟩ = some e
  d1 : w'.cell? ⟨w.heap.size + 1, 1, none⟩ = some f
  d2 : w'.cell? ⟨w.heap.size + 1, 2, none⟩ = some g

theorem box43_start (w : World) (a b c d e f g : Value) (t t' : TypeId) : Box43 w a b c d e f g ((w.alloc (.cells #[a, b, c, d] t)).alloc (.cells #[e, f, g] t')) := by
  have hb : Below w.heap.size w ((w.alloc (.cells #[a, b, c, d] t)).alloc (.cells #[e, f, g] t')) := ((Below.refl _ _).alloc (Nat.le_refl _) _).alloc (by simp) _
  have e0 : ∀ j u, (#[a, b, c, d] : Array Value)[j]? = some u → ((w.alloc (.cells #[a, b, c, d] t)).alloc (.cells #[e, f, g] t')).cell? ⟨w.heap.size, j, none⟩ = some u := by
    intro j u hj
    rw [World.cell?_alloc_past _ _ _ (by simp), World.cell?_alloc_at _ _ _ _ rfl]
    exact hj
  have e1 : ∀ j u, (#[e, f, g] : Array Value)[j]? = some u → ((w.alloc (.cells #[a, b, c, d] t)).alloc (.cells #[e, f, g] t')).cell? ⟨w.heap.size + 1, j, none⟩ = some u := by
    intro j u hj
    rw [World.cell?_alloc_at _ _ _ _ (by simp)]
    exact hj
  exact ⟨hb, by simp, e0 0 a rfl, e0 1 b rfl, e0 2 c rfl, e0 3 d rfl, e1 0 e rfl, e1 1 f rfl, e1 2 g rfl⟩

theorem Box43.step {w w1 w2 : World} {a b c d e f g : Value} (h : Box43 w a b c d e f g w1) (hb : Below w1.heap.size w1 w2) : Box43 w a b c d e f g w2 :=
  ⟨below_step h.below hb, size_step h.size hb, cell_step hb h.c0, cell_step hb h.c1, cell_step hb h.c2, cell_step hb h.c3, cell_step hb h.d0, cell_step hb h.d1, cell_step hb h.d2⟩

theorem ne_bool {a b : Bool} (h : ¬ a = b) : b = !a := by cases a <;> cases b <;> simp_all

set_option maxHeartbeats 1600000 in
theorem in_any (six : Bool) (hi lo n : Int) (six' : Bool) (hi' lo' : Int) (w : World) (h3 : 0 ≤ hi' ∧ hi' < 18446744073709551616) (h4 : 0 ≤ lo' ∧ lo' < 18446744073709551616) (h5 : six' = false → lo' < 4294967296) (h6 : -500 ≤ n) (h7 : n ≤ 500) :
    Calls Try.prog 79 #[.agg #[.bool six, .int .u64 hi, .int .u64 lo, .int .i64 n], .agg #[.bool six', .int .u64 hi', .int .u64 lo']] w fun e w' => e = .returned (.bool (inB six hi lo n six' hi' lo')) ∧ Below w.heap.size w w' := by
  have HQ := Lib.hid h5
  clear h5
  by_cases hs : six = six'
  · subst hs
    have hres : inB six hi lo n six hi' lo' = (cutHi six hi' n == hi && cutLo six lo' n == lo) := by unfold inB; simp
    rw [hres]
    clear hres
    by_cases e1 : cutHi six hi' n = hi
    · by_cases e2 : cutLo six lo' n = lo
      · subst e1 e2
        rw [beq_self_eq_true, beq_self_eq_true]
        cases six
        · obtain ⟨b0, b1, c0, c1, c2, c3, d0, d1, d2⟩ := box43_start w (.bool false) (.int .u64 (cutHi false hi' n)) (.int .u64 (cutLo false lo' n)) (.int .i64 n) (.bool false) (.int .u64 hi') (.int .u64 lo') 51 44
          go_enter Try.func79, Try.ntmps79
          go_wp2_with fail
          go_region_held3 (fun w' => Below w.heap.size w w' ∧ w.heap.size + 1 < w'.heap.size ∧ w'.cell? ⟨w.heap.size, 0, none⟩ = some (.bool false) ∧ w'.cell? ⟨w.heap.size, 1, none⟩ = some (.int .u64 (cutHi false hi' n)) ∧ w'.cell? ⟨w.heap.size, 2, none⟩ = some (.int .u64 (cutLo false lo' n)) ∧ w'.cell? ⟨w.heap.size, 3, none⟩ = some (.int .i64 n) ∧ w'.cell? ⟨w.heap.size + 1, 0, none⟩ = some (.bool false) ∧ w'.cell? ⟨w.heap.size + 1, 1, none⟩ = some (.int .u64 hi') ∧ w'.cell? ⟨w.heap.size + 1, 2, none⟩ = some (.int .u64 lo'))
            (((try go_split_ands); (repeat' apply And.intro) <;> first | assumption | exact Below.drew (by assumption) | exact cell_drew (by assumption) | exact size_drew (by assumption) | exact below_step (by assumption) (by assumption) | exact cell_step (by assumption) (by assumption) | exact size_step (by assumption) (by assumption)))
            (first | (go_at_call 146; refine (cut_any _ hi' lo' n _ h3 h4 (by first | exact fun _ => HQ.out trivial | exact fun h => HQ.out h | simp) h6 h7).mono ?_; rintro e w' ⟨rfl, hb⟩))
          all_goals go_wp2
          all_goals go_ret
          all_goals (go_split_ands; exact ⟨by simp, by assumption⟩)
        · obtain ⟨b0, b1, c0, c1, c2, c3, d0, d1, d2⟩ := box43_start w (.bool true) (.int .u64 (cutHi true hi' n)) (.int .u64 (cutLo true lo' n)) (.int .i64 n) (.bool true) (.int .u64 hi') (.int .u64 lo') 51 44
          go_enter Try.func79, Try.ntmps79
          go_wp2_with fail
          go_region_held3 (fun w' => Below w.heap.size w w' ∧ w.heap.size + 1 < w'.heap.size ∧ w'.cell? ⟨w.heap.size, 0, none⟩ = some (.bool true) ∧ w'.cell? ⟨w.heap.size, 1, none⟩ = some (.int .u64 (cutHi true hi' n)) ∧ w'.cell? ⟨w.heap.size, 2, none⟩ = some (.int .u64 (cutLo true lo' n)) ∧ w'.cell? ⟨w.heap.size, 3, none⟩ = some (.int .i64 n) ∧ w'.cell? ⟨w.heap.size + 1, 0, none⟩ = some (.bool true) ∧ w'.cell? ⟨w.heap.size + 1, 1, none⟩ = some (.int .u64 hi') ∧ w'.cell? ⟨w.heap.size + 1, 2, none⟩ = some (.int .u64 lo'))
            (((try go_split_ands); (repeat' apply And.intro) <;> first | assumption | exact Below.drew (by assumption) | exact cell_drew (by assumption) | exact size_drew (by assumption) | exact below_step (by assumption) (by assumption) | exact cell_step (by assumption) (by assumption) | exact size_step (by assumption) (by assumption)))
            (first | (go_at_call 146; refine (cut_any _ hi' lo' n _ h3 h4 (by first | exact fun _ => HQ.out trivial | exact fun h => HQ.out h | simp) h6 h7).mono ?_; rintro e w' ⟨rfl, hb⟩))
          all_goals go_wp2
          all_goals go_ret
          all_goals (go_split_ands; exact ⟨by simp, by assumption⟩)
      · have e3 : (cutLo six lo' n == lo) = false := by simpa using e2
        rw [e3, Bool.and_false]
        subst e1
        cases six
        · obtain ⟨b0, b1, c0, c1, c2, c3, d0, d1, d2⟩ := box43_start w (.bool false) (.int .u64 (cutHi false hi' n)) (.int .u64 lo) (.int .i64 n) (.bool false) (.int .u64 hi') (.int .u64 lo') 51 44
          go_enter Try.func79, Try.ntmps79
          go_wp2_with fail
          go_region_held3 (fun w' => Below w.heap.size w w' ∧ w.heap.size + 1 < w'.heap.size ∧ w'.cell? ⟨w.heap.size, 0, none⟩ = some (.bool false) ∧ w'.cell? ⟨w.heap.size, 1, none⟩ = some (.int .u64 (cutHi false hi' n)) ∧ w'.cell? ⟨w.heap.size, 2, none⟩ = some (.int .u64 lo) ∧ w'.cell? ⟨w.heap.size, 3, none⟩ = some (.int .i64 n) ∧ w'.cell? ⟨w.heap.size + 1, 0, none⟩ = some (.bool false) ∧ w'.cell? ⟨w.heap.size + 1, 1, none⟩ = some (.int .u64 hi') ∧ w'.cell? ⟨w.heap.size + 1, 2, none⟩ = some (.int .u64 lo'))
            (((try go_split_ands); (repeat' apply And.intro) <;> first | assumption | exact Below.drew (by assumption) | exact cell_drew (by assumption) | exact size_drew (by assumption) | exact below_step (by assumption) (by assumption) | exact cell_step (by assumption) (by assumption) | exact size_step (by assumption) (by assumption)))
            (first | (go_at_call 146; refine (cut_any _ hi' lo' n _ h3 h4 (by first | exact fun _ => HQ.out trivial | exact fun h => HQ.out h | simp) h6 h7).mono ?_; rintro e w' ⟨rfl, hb⟩))
          all_goals go_wp2
          all_goals go_ret
          all_goals (go_split_ands; exact ⟨by simp, by assumption⟩)
        · obtain ⟨b0, b1, c0, c1, c2, c3, d0, d1, d2⟩ := box43_start w (.bool true) (.int .u64 (cutHi true hi' n)) (.int .u64 lo) (.int .i64 n) (.bool true) (.int .u64 hi') (.int .u64 lo') 51 44
          go_enter Try.func79, Try.ntmps79
          go_wp2_with fail
          go_region_held3 (fun w' => Below w.heap.size w w' ∧ w.heap.size + 1 < w'.heap.size ∧ w'.cell? ⟨w.heap.size, 0, none⟩ = some (.bool true) ∧ w'.cell? ⟨w.heap.size, 1, none⟩ = some (.int .u64 (cutHi true hi' n)) ∧ w'.cell? ⟨w.heap.size, 2, none⟩ = some (.int .u64 lo) ∧ w'.cell? ⟨w.heap.size, 3, none⟩ = some (.int .i64 n) ∧ w'.cell? ⟨w.heap.size + 1, 0, none⟩ = some (.bool true) ∧ w'.cell? ⟨w.heap.size + 1, 1, none⟩ = some (.int .u64 hi') ∧ w'.cell? ⟨w.heap.size + 1, 2, none⟩ = some (.int .u64 lo'))
            (((try go_split_ands); (repeat' apply And.intro) <;> first | assumption | exact Below.drew (by assumption) | exact cell_drew (by assumption) | exact size_drew (by assumption) | exact below_step (by assumption) (by assumption) | exact cell_step (by assumption) (by assumption) | exact size_step (by assumption) (by assumption)))
            (first | (go_at_call 146; refine (cut_any _ hi' lo' n _ h3 h4 (by first | exact fun _ => HQ.out trivial | exact fun h => HQ.out h | simp) h6 h7).mono ?_; rintro e w' ⟨rfl, hb⟩))
          all_goals go_wp2
          all_goals go_ret
          all_goals (go_split_ands; exact ⟨by simp, by assumption⟩)
    · have e3 : (cutHi six hi' n == hi) = false := by simpa using e1
      rw [e3, Bool.false_and]
      cases six
      · obtain ⟨b0, b1, c0, c1, c2, c3, d0, d1, d2⟩ := box43_start w (.bool false) (.int .u64 hi) (.int .u64 lo) (.int .i64 n) (.bool false) (.int .u64 hi') (.int .u64 lo') 51 44
        go_enter Try.func79, Try.ntmps79
        go_wp2_with fail
        go_region_held3 (fun w' => Below w.heap.size w w' ∧ w.heap.size + 1 < w'.heap.size ∧ w'.cell? ⟨w.heap.size, 0, none⟩ = some (.bool false) ∧ w'.cell? ⟨w.heap.size, 1, none⟩ = some (.int .u64 hi) ∧ w'.cell? ⟨w.heap.size, 2, none⟩ = some (.int .u64 lo) ∧ w'.cell? ⟨w.heap.size, 3, none⟩ = some (.int .i64 n) ∧ w'.cell? ⟨w.heap.size + 1, 0, none⟩ = some (.bool false) ∧ w'.cell? ⟨w.heap.size + 1, 1, none⟩ = some (.int .u64 hi') ∧ w'.cell? ⟨w.heap.size + 1, 2, none⟩ = some (.int .u64 lo'))
          (((try go_split_ands); (repeat' apply And.intro) <;> first | assumption | exact Below.drew (by assumption) | exact cell_drew (by assumption) | exact size_drew (by assumption) | exact below_step (by assumption) (by assumption) | exact cell_step (by assumption) (by assumption) | exact size_step (by assumption) (by assumption)))
          (first | (go_at_call 146; refine (cut_any _ hi' lo' n _ h3 h4 (by first | exact fun _ => HQ.out trivial | exact fun h => HQ.out h | simp) h6 h7).mono ?_; rintro e w' ⟨rfl, hb⟩))
        all_goals go_wp2
        all_goals go_ret
        all_goals (go_split_ands; exact ⟨by simp, by assumption⟩)
      · obtain ⟨b0, b1, c0, c1, c2, c3, d0, d1, d2⟩ := box43_start w (.bool true) (.int .u64 hi) (.int .u64 lo) (.int .i64 n) (.bool true) (.int .u64 hi') (.int .u64 lo') 51 44
        go_enter Try.func79, Try.ntmps79
        go_wp2_with fail
        go_region_held3 (fun w' => Below w.heap.size w w' ∧ w.heap.size + 1 < w'.heap.size ∧ w'.cell? ⟨w.heap.size, 0, none⟩ = some (.bool true) ∧ w'.cell? ⟨w.heap.size, 1, none⟩ = some (.int .u64 hi) ∧ w'.cell? ⟨w.heap.size, 2, none⟩ = some (.int .u64 lo) ∧ w'.cell? ⟨w.heap.size, 3, none⟩ = some (.int .i64 n) ∧ w'.cell? ⟨w.heap.size + 1, 0, none⟩ = some (.bool true) ∧ w'.cell? ⟨w.heap.size + 1, 1, none⟩ = some (.int .u64 hi') ∧ w'.cell? ⟨w.heap.size + 1, 2, none⟩ = some (.int .u64 lo'))
          (((try go_split_ands); (repeat' apply And.intro) <;> first | assumption | exact Below.drew (by assumption) | exact cell_drew (by assumption) | exact size_drew (by assumption) | exact below_step (by assumption) (by assumption) | exact cell_step (by assumption) (by assumption) | exact size_step (by assumption) (by assumption)))
          (first | (go_at_call 146; refine (cut_any _ hi' lo' n _ h3 h4 (by first | exact fun _ => HQ.out trivial | exact fun h => HQ.out h | simp) h6 h7).mono ?_; rintro e w' ⟨rfl, hb⟩))
        all_goals go_wp2
        all_goals go_ret
        all_goals (go_split_ands; exact ⟨by simp, by assumption⟩)
  · have hres : inB six hi lo n six' hi' lo' = false := by
      unfold inB
      rw [show (six' == six) = false from by simpa using fun h => hs h.symm, Bool.false_and]
    rw [hres]
    clear hres
    obtain rfl := ne_bool hs
    have hb0 : Below w.heap.size w ((w.alloc (.cells #[.bool six, .int .u64 hi, .int .u64 lo, .int .i64 n] 51)).alloc (.cells #[.bool (!six), .int .u64 hi', .int .u64 lo'] 44)) := ((Below.refl _ _).alloc (Nat.le_refl _) _).alloc (by simp) _
    cases six
    · go_enter Try.func79, Try.ntmps79
      go_wp2_with fail
      go_quiet (fail)
      go_wp2
      go_ret
      exact ⟨by simp, below_drewN hb0 _⟩
    · go_enter Try.func79, Try.ntmps79
      go_wp2_with fail
      go_quiet (fail)
      go_wp2
      go_ret
      exact ⟨by simp, below_drewN hb0 _⟩

end Go.Proofs.Ytnflaaoapmhjgaa

namespace Go.Proofs.Ytnflaaoapmhjgaa
open Go.ChangeShapes Go.WideShapes Go.ChangeAt Go.RowKit

/-- What two boxes of four cells read as later on. -/
structure Box44 (w : World) (a b c d e f g h : Value) (w' : World) : Prop where
  below : Below w.heap.size w w'
  size : w.heap.size + 1 < w'.heap.size
  c0 : w'.cell? ⟨w.heap.size, 0, none⟩ = some a
  c1 : w'.cell? ⟨w.heap.size, 1, none⟩ = some b
  c2 : w'.cell? ⟨w.heap.size, 2, none⟩ = some c
  c3 : w'.cell? ⟨w.heap.size, 3, none⟩ = some d
  d0 : w'.cell? ⟨w.heap.size + 1, 0, none⟩ = some e
  d1 : w'.cell? ⟨w.heap.size + 1, 1, none⟩ = some f
  d2 : w'.cell? ⟨w.heap.size + 1, 2, none⟩ = some g
  d3 : w'.cell? ⟨w.heap.size + 1, 3, none⟩ = some h

theorem box44_start (w : World) (a b c d e f g h : Value) (t : TypeId) : Box44 w a b c d e f g h ((w.alloc (.cells #[a, b, c, d] t)).alloc (.cells #[e, f, g, h] t)) := by
  have hb : Below w.heap.size w ((w.alloc (.cells #[a, b, c, d] t)).alloc (.cells #[e, f, g, h] t)) := ((Below.refl _ _).alloc (Nat.le_refl _) _).alloc (by simp) _
  have e0 : ∀ j u, (#[a, b, c, d] : Array Value)[j]? = some u → ((w.alloc (.cells #[a, b, c, d] t)).alloc (.cells #[e, f, g, h] t)).cell? ⟨w.heap.size, j, none⟩ = some u := by
    intro j u hj
    rw [World.cell?_alloc_past _ _ _ (by simp), World.cell?_alloc_at _ _ _ _ rfl]
    exact hj
  have e1 : ∀ j u, (#[e, f, g, h] : Array Value)[j]? = some u → ((w.alloc (.cells #[a, b, c, d] t)).alloc (.cells #[e, f, g, h] t)).cell? ⟨w.heap.size + 1, j, none⟩ = some u := by
    intro j u hj
    rw [World.cell?_alloc_at _ _ _ _ (by simp)]
    exact hj
  exact ⟨hb, by simp, e0 0 a rfl, e0 1 b rfl, e0 2 c rfl, e0 3 d rfl, e1 0 e rfl, e1 1 f rfl, e1 2 g rfl, e1 3 h rfl⟩

theorem Box44.step {w w1 w2 : World} {a b c d e f g h : Value} (x : Box44 w a b c d e f g h w1) (hb : Below w1.heap.size w1 w2) : Box44 w a b c d e f g h w2 :=
  ⟨below_step x.below hb, size_step x.size hb, cell_step hb x.c0, cell_step hb x.c1, cell_step hb x.c2, cell_step hb x.c3, cell_step hb x.d0, cell_step hb x.d1, cell_step hb x.d2, cell_step hb x.d3⟩

def bothE (six : Bool) (hi lo n : Int) (six' : Bool) (hi' lo' n' : Int) : Int :=
  if ¬ chk six hi lo n = 0 then chk six hi lo n else if ¬ chk six' hi' lo' n' = 0 then chk six' hi' lo' n' else if ¬ six = six' then 6 else 0

set_option maxHeartbeats 1600000 in
theorem both_any (six : Bool) (hi lo n : Int) (six' : Bool) (hi' lo' n' : Int) (w : World) (h1 : 0 ≤ hi ∧ hi < 18446744073709551616) (h2 : 0 ≤ lo ∧ lo < 18446744073709551616) (h3 : 0 ≤ hi' ∧ hi' < 18446744073709551616) (h4 : 0 ≤ lo' ∧ lo' < 18446744073709551616) :
    Calls Try.prog 231 #[.agg #[.bool six, .int .u64 hi, .int .u64 lo, .int .i64 n], .agg #[.bool six', .int .u64 hi', .int .u64 lo', .int .i64 n']] w fun e w' => e = .returned (.int .i64 (bothE six hi lo n six' hi' lo' n')) ∧ Below w.heap.size w w' := by
  have c1 := fun w => check_any six hi lo n w h1 h2
  have c2 := fun w => check_any six' hi' lo' n' w h3 h4
  by_cases hz : chk six hi lo n = 0
  · by_cases hz2 : chk six' hi' lo' n' = 0
    · rw [hz] at c1
      rw [hz2] at c2
      by_cases hs : six = six'
      · have hE : bothE six hi lo n six' hi' lo' n' = 0 := by unfold bothE; rw [if_neg (fun h => h hz), if_neg (fun h => h hz2), if_neg (fun h => h hs)]
        rw [hE]
        subst hs
        have C1 := Lib.hid c1
        have C2 := Lib.hid c2
        clear c1 c2 hz hz2 hE
        go_enter Try.func231, Try.ntmps231
        go_wp2_with fail
        refine (C1.out _).mono ?_
        rintro e w1 ⟨rfl, hb⟩
        obtain ⟨b0, b1, c0, c1, c2, c3, d0, d1, d2, d3⟩ := Box44.step (box44_start w _ _ _ _ _ _ _ _ _) hb
        clear hb
        go_wp2_with fail
        refine (C2.out _).mono ?_
        rintro e w2 ⟨rfl, hb⟩
        have bx := Box44.step ⟨b0, b1, c0, c1, c2, c3, d0, d1, d2, d3⟩ hb
        clear b0 b1 c0 c1 c2 c3 d0 d1 d2 d3 hb
        obtain ⟨b0, b1, c0, c1, c2, c3, d0, d1, d2, d3⟩ := bx
        go_wp2
        go_ret
        exact ⟨rfl, b0⟩
      · have hE : bothE six hi lo n six' hi' lo' n' = 6 := by unfold bothE; rw [if_neg (fun h => h hz), if_neg (fun h => h hz2), if_pos hs]
        rw [hE]
        obtain rfl := ne_bool hs
        clear hz hz2 hE hs
        cases six
        · replace c2 : ∀ w, Calls Try.prog 78 #[.agg #[.bool true, .int .u64 hi', .int .u64 lo', .int .i64 n']] w fun e w' => e = .returned (.int .i64 0) ∧ Below w.heap.size w w' := c2
          have C1 := Lib.hid c1
          have C2 := Lib.hid c2
          clear c1 c2
          go_enter Try.func231, Try.ntmps231
          go_wp2_with fail
          refine (C1.out _).mono ?_
          rintro e w1 ⟨rfl, hb⟩
          obtain ⟨b0, b1, c0, c1, c2, c3, d0, d1, d2, d3⟩ := Box44.step (box44_start w _ _ _ _ _ _ _ _ _) hb
          clear hb
          go_wp2_with fail
          refine (C2.out _).mono ?_
          rintro e w2 ⟨rfl, hb⟩
          have bx := Box44.step ⟨b0, b1, c0, c1, c2, c3, d0, d1, d2, d3⟩ hb
          clear b0 b1 c0 c1 c2 c3 d0 d1 d2 d3 hb
          obtain ⟨b0, b1, c0, c1, c2, c3, d0, d1, d2, d3⟩ := bx
          go_wp2
          go_ret
          exact ⟨rfl, b0⟩
        · replace c2 : ∀ w, Calls Try.prog 78 #[.agg #[.bool false, .int .u64 hi', .int .u64 lo', .int .i64 n']] w fun e w' => e = .returned (.int .i64 0) ∧ Below w.heap.size w w' := c2
          have C1 := Lib.hid c1
          have C2 := Lib.hid c2
          clear c1 c2
          go_enter Try.func231, Try.ntmps231
          go_wp2_with fail
          refine (C1.out _).mono ?_
          rintro e w1 ⟨rfl, hb⟩
          obtain ⟨b0, b1, c0, c1, c2, c3, d0, d1, d2, d3⟩ := Box44.step (box44_start w _ _ _ _ _ _ _ _ _) hb
          clear hb
          go_wp2_with fail
          refine (C2.out _).mono ?_
          rintro e w2 ⟨rfl, hb⟩
          have bx := Box44.step ⟨b0, b1, c0, c1, c2, c3, d0, d1, d2, d3⟩ hb
          clear b0 b1 c0 c1 c2 c3 d0 d1 d2 d3 hb
          obtain ⟨b0, b1, c0, c1, c2, c3, d0, d1, d2, d3⟩ := bx
          go_wp2
          go_ret
          exact ⟨rfl, b0⟩
    · have hE : bothE six hi lo n six' hi' lo' n' = chk six' hi' lo' n' := by unfold bothE; rw [if_neg (fun h => h hz), if_pos hz2]
      rw [hE]
      rw [hz] at c1
      generalize chk six' hi' lo' n' = k at *
      have C1 := Lib.hid c1
      have C2 := Lib.hid c2
      have hb1 : (k == 0) = false := by simpa using hz2
      have hb2 : (k != 0) = true := by simpa using hz2
      clear c1 c2 hz hE
      go_enter Try.func231, Try.ntmps231
      go_wp2_with fail
      refine (C1.out _).mono ?_
      rintro e w1 ⟨rfl, hb⟩
      obtain ⟨b0, b1, c0, c1, c2, c3, d0, d1, d2, d3⟩ := Box44.step (box44_start w _ _ _ _ _ _ _ _ _) hb
      clear hb
      go_wp2_with fail
      refine (C2.out _).mono ?_
      rintro e w2 ⟨rfl, hb⟩
      have bx := Box44.step ⟨b0, b1, c0, c1, c2, c3, d0, d1, d2, d3⟩ hb
      clear b0 b1 c0 c1 c2 c3 d0 d1 d2 d3 hb
      obtain ⟨b0, b1, c0, c1, c2, c3, d0, d1, d2, d3⟩ := bx
      go_wp2
      go_ret
      exact ⟨rfl, b0⟩
  · have hE : bothE six hi lo n six' hi' lo' n' = chk six hi lo n := by unfold bothE; rw [if_pos hz]
    rw [hE]
    generalize chk six hi lo n = k at *
    have C1 := Lib.hid c1
    have hb1 : (k == 0) = false := by simpa using hz
    have hb2 : (k != 0) = true := by simpa using hz
    clear c1 c2 hE
    go_enter Try.func231, Try.ntmps231
    go_wp2_with fail
    refine (C1.out _).mono ?_
    rintro e w1 ⟨rfl, hb⟩
    obtain ⟨b0, b1, c0, c1, c2, c3, d0, d1, d2, d3⟩ := Box44.step (box44_start w _ _ _ _ _ _ _ _ _) hb
    clear hb
    go_wp2
    go_ret
    exact ⟨rfl, b0⟩

end Go.Proofs.Ytnflaaoapmhjgaa

namespace Go.Proofs.Ytnflaaoapmhjgaa
open Go.ChangeShapes Go.WideShapes Go.ChangeAt Go.RowKit

def SameTo (six : Bool) (hi lo hi' lo' : Int) (j : Nat) : Prop := ∀ i : Nat, i < j → bitI six hi lo i = bitI six hi' lo' i
theorem SameTo.succ {six : Bool} {hi lo hi' lo' : Int} {j : Nat} (h : SameTo six hi lo hi' lo' j) (hb : bitI six hi lo (j : Int) = bitI six hi' lo' (j : Int)) : SameTo six hi lo hi' lo' (j + 1) := fun i h1 => by
  rcases Nat.lt_or_ge i j with h3 | h3
  · exact h i h3
  · obtain rfl : i = j := by omega
    exact hb

set_option maxHeartbeats 1600000 in
theorem preIn_same (six : Bool) (hi lo : Int) (n : Nat) (hi' lo' : Int) (w : World) (hp : Pfx six hi lo n) (h3 : 0 ≤ hi' ∧ hi' < 18446744073709551616) (h4 : 0 ≤ lo' ∧ lo' < 18446744073709551616) (h5 : mayB six hi' lo' = true) :
    Calls Try.prog 161 #[.agg #[.bool six, .int .u64 hi, .int .u64 lo, .int .i64 n], .agg #[.bool six, .int .u64 hi', .int .u64 lo']] w fun e w' => e = .returned (.bool (inB six hi lo n six hi' lo')) ∧ Below w.heap.size w w' := by
  obtain ⟨r, hr0⟩ : ∃ r : Bool, r = inB six hi lo n six hi' lo' := ⟨_, rfl⟩
  have hi0 := inB_iff hp h3 h4 h5
  rw [← hr0] at hi0 ⊢
  have hall : SameTo six hi lo hi' lo' n → r = true := fun h => hi0.2 h
  have hone : ∀ j : Nat, j < n → ¬ bitI six hi lo j = bitI six hi' lo' j → r = false := fun j hj hb => by
    rw [Bool.eq_false_iff]
    intro h
    exact hb (hi0.1 h j hj)
  have HA := Lib.hid hall
  have HB := Lib.hid hone
  obtain ⟨m, hn, hpos, hle⟩ := wideN six
  have hlen : n ≤ m := by have := hp.len.2; omega
  have h1 := hp.rhi
  have h2 := hp.rlo
  have HN := Lib.hid hn
  clear hall hone hr0 hi0 hn hp h5
  obtain ⟨b0, b1, c0, c1, c2, c3, d0, d1, d2⟩ := box43_start w (.bool six) (.int .u64 hi) (.int .u64 lo) (.int .i64 n) (.bool six) (.int .u64 hi') (.int .u64 lo') 51 44
  go_enter Try.func161, Try.ntmps161
  go_wp2_with fail
  refine (bitsOf_any six hi lo _ h1 h2).mono ?_
  rintro e w1 ⟨v1, rfl, own1, hb1, hs1⟩
  have bx := Box43.step ⟨b0, b1, c0, c1, c2, c3, d0, d1, d2⟩ hb1
  clear b0 b1 c0 c1 c2 c3 d0 d1 d2
  obtain ⟨b0, b1, c0, c1, c2, c3, d0, d1, d2⟩ := bx
  go_wp2_with fail
  refine (bitsOf_any six hi' lo' _ h3 h4).mono ?_
  rintro e w2 ⟨v2, rfl, own2, hb2, hs2⟩
  have bx := Box43.step ⟨b0, b1, c0, c1, c2, c3, d0, d1, d2⟩ hb2
  clear b0 b1 c0 c1 c2 c3 d0 d1 d2
  obtain ⟨b0, b1, c0, c1, c2, c3, d0, d1, d2⟩ := bx
  rw [HN.out] at own1 own2
  simp only [Int.toNat_natCast] at own1 own2
  have own1' := own_below own1 hb2
  obtain ⟨g1, cap1, rfl, _, hlt1⟩ := own1.form hpos
  obtain ⟨g2, cap2, rfl, _, hlt2⟩ := own2.form hpos
  have H1 := Lib.hid own1'
  have H2 := Lib.hid own2
  clear own1 own2 own1' hb1 hb2
  have hm1 : (m : Int) ≤ 128 := by omega
  go_wp2
  go_loopw [7] (fun i wr => ∃ j : Nat, j ≤ n ∧ i = .int .i64 j ∧ SameTo six hi lo hi' lo' j ∧ Below w2.heap.size w2 wr) (fun i _ => n - (intOf i).toNat)
  case atStart => exact ⟨0, by omega, rfl, fun _ h => by omega, Below.refl _ _⟩
  case round =>
    obtain ⟨j, hj, rfl, hsame, hbr⟩ := hrel
    have q3 := cell_step hbr c3
    by_cases hlt : j < n
    · have x1 := cell_step hbr (own_int H1.out (bitsL_at (hi := hi) (lo := lo) HN.out (show j < m by omega)))
      have x2 := cell_step hbr (own_int H2.out (bitsL_at (hi := hi') (lo := lo') HN.out (show j < m by omega)))
      have k1 : (0 : Int) ≤ (j : Int) := by omega
      have k2 : (j : Int) < (m : Int) := by omega
      by_cases hb : bitI six hi lo j = bitI six hi' lo' j
      · have HS := Lib.hid (hsame.succ hb)
        rw [← hb] at x2
        clear hsame hb
        go_wp2
        go_quiet (fail)
        go_wp2
        go_roundw
        case rel => exact ⟨j + 1, by omega, by go_num, HS.out, below_drewN hbr _⟩
        case measure => simp [intOf]; omega
      · have HR := Lib.hid (HB.out j hlt hb)
        have hb' : (bitI six hi lo j == bitI six hi' lo' j) = false := by simpa using hb
        have hb'' : (bitI six hi lo j != bitI six hi' lo' j) = true := by simpa using hb
        clear hsame
        go_wp2
        go_quiet (fail)
        go_wp2
        go_ret
        exact ⟨ret_bool HR.out.symm, b0.trans ((below_drewN hbr _).mono b0.size)⟩
    · obtain rfl : j = n := by omega
      have HR := Lib.hid (HA.out hsame)
      clear hsame
      go_wp2
      go_ret
      exact ⟨ret_bool HR.out.symm, b0.trans (hbr.mono b0.size)⟩

set_option maxHeartbeats 800000 in
theorem preIn_any (six : Bool) (hi lo : Int) (n : Nat) (six' : Bool) (hi' lo' : Int) (w : World) (hp : Pfx six hi lo n) (h3 : 0 ≤ hi' ∧ hi' < 18446744073709551616) (h4 : 0 ≤ lo' ∧ lo' < 18446744073709551616) (h5 : mayB six' hi' lo' = true) :
    Calls Try.prog 161 #[.agg #[.bool six, .int .u64 hi, .int .u64 lo, .int .i64 n], .agg #[.bool six', .int .u64 hi', .int .u64 lo']] w fun e w' => e = .returned (.bool (inB six hi lo n six' hi' lo')) ∧ Below w.heap.size w w' := by
  by_cases hs : six = six'
  · subst hs
    exact preIn_same six hi lo n hi' lo' w hp h3 h4 h5
  · have hres : inB six hi lo n six' hi' lo' = false := by
      unfold inB
      rw [show (six' == six) = false from by simpa using fun h => hs h.symm, Bool.false_and]
    rw [hres]
    clear hres hp h5
    obtain rfl := ne_bool hs
    have hb0 : Below w.heap.size w ((w.alloc (.cells #[.bool six, .int .u64 hi, .int .u64 lo, .int .i64 n] 51)).alloc (.cells #[.bool (!six), .int .u64 hi', .int .u64 lo'] 44)) := ((Below.refl _ _).alloc (Nat.le_refl _) _).alloc (by simp) _
    cases six
    · go_enter Try.func161, Try.ntmps161
      go_wp2
      go_ret
      exact ⟨by simp, hb0⟩
    · go_enter Try.func161, Try.ntmps161
      go_wp2
      go_ret
      exact ⟨by simp, hb0⟩

end Go.Proofs.Ytnflaaoapmhjgaa

namespace Go.Proofs.Ytnflaaoapmhjgaa
open Go.ChangeShapes Go.WideShapes Go.ChangeAt Go.RowKit

theorem half_bound (l : List Int) (k : Nat) (h : Bits l) (hk : k < 64) : 0 ≤ numL (l.take k) ∧ numL (l.take k) ≤ 9223372036854775807 := by
  have h1 := numL_range (l.take k) (h.take k)
  have h2 : (2 : Int) ^ (l.take k).length ≤ 9223372036854775808 := by
    have : (2 : Nat) ^ (l.take k).length ≤ 2 ^ 63 := Nat.pow_le_pow_right (by omega) (by rw [List.length_take]; omega)
    have e : ((2 ^ (l.take k).length : Nat) : Int) = 2 ^ (l.take k).length := by simp
    rw [← e]
    have : (2 ^ 63 : Nat) = 9223372036854775808 := by decide
    omega
  omega

set_option maxRecDepth 100000 in
set_option maxHeartbeats 1600000 in
theorem addrOf_four (l : List Int) (g cap : Nat) (w : World) (hb : Bits l) (hl : l.length = 32) (hown : ∀ (i : Nat) (b : Int), l[i]? = some b → w.cell? ⟨g, i, none⟩ = some (.int .i64 b)) (hg : g < w.heap.size) :
    Calls Try.prog 196 #[.slice (some ⟨g, 0, none⟩) 32 cap] w fun e w' => e = .returned (.agg #[.bool false, .int .u64 (hiOf false l), .int .u64 (loOf false l)]) ∧ Below w.heap.size w w' := by
  have HB := Lib.hid hb
  have HL := Lib.hid hl
  have HO := Lib.hid hown
  have HE := Lib.hid (show hiOf false l = 0 ∧ loOf false l = numL l from ⟨rfl, rfl⟩)
  obtain ⟨a, ha⟩ : ∃ a, a = hiOf false l := ⟨_, rfl⟩
  obtain ⟨b, hbb⟩ : ∃ b, b = loOf false l := ⟨_, rfl⟩
  rw [← ha, ← hbb]
  rw [← ha, ← hbb] at HE
  clear hb hl hown ha hbb
  go_enter Try.func196, Try.ntmps196
  go_wp2
  go_loopw [12, 4, 5] (fun i _ _ wr => ∃ k : Nat, k ≤ 32 ∧ i = .int .i64 k ∧ wr = (w.alloc (.cells #[.bool false, .int .u64 0, .int .u64 0] 44)).alloc (.cells #[.bool false, .int .u64 0, .int .u64 (numL (l.take k))] 44)) (fun i _ _ _ => 32 - (intOf i).toNat)
  case atStart => exact ⟨0, by omega, rfl, rfl⟩
  case round =>
    obtain ⟨k, hk, rfl, rfl⟩ := hrel
    by_cases hlt : k < 32
    · obtain ⟨x, hx⟩ : ∃ x, l[k]? = some x := ⟨_, List.getElem?_eq_getElem (by rw [HL.out]; exact hlt)⟩
      have hx1 := HB.out x (List.mem_of_getElem? hx)
      have q := HO.out k x hx
      have q2 : ((w.alloc (.cells #[.bool false, .int .u64 0, .int .u64 0] 44)).alloc (.cells #[.bool false, .int .u64 0, .int .u64 (numL (l.take k))] 44)).cell? ⟨g, k, none⟩ = some (.int .i64 x) := by
        rw [World.cell?_alloc_past _ _ _ (by simp; omega), World.cell?_alloc_past _ _ _ (by simpa using hg)]
        exact q
      have hs := half_bound l k HB.out (by omega)
      have e : Hid (numL (l.take (k + 1)) = 2 * numL (l.take k) + x) := by
        show _ = _
        rw [List.take_add_one, hx]
        exact numL_snoc _ _
      clear hx q
      go_wp2
      go_roundw
      case rel => exact ⟨k + 1, by omega, by go_num, by rw [e.out]⟩
      case measure => simp [intOf]; omega
    · obtain rfl : k = 32 := by omega
      have e0 : Hid (l.take 32 = l) := by
        show _ = _
        rw [← HL.out]
        exact List.take_length
      go_wp2
      exact bodyPost_ret (v := .agg #[.bool false, .int .u64 a, .int .u64 b]) (by simp [results, Try.results196, go_sem, HE.out.1, HE.out.2, e0.out]) rfl
        ⟨rfl, ((Below.refl _ _).alloc (Nat.le_refl _) _).alloc (by simp) _⟩

def hiTo (l : List Int) (k : Nat) : Int := numL ((l.take k).take 64)
def loTo (l : List Int) (k : Nat) : Int := numL ((l.take k).drop 64)
theorem hiTo_lt {l : List Int} {k : Nat} {x : Int} (hx : l[k]? = some x) (hk : k < 64) : hiTo l (k + 1) = 2 * hiTo l k + x := by
  unfold hiTo
  rw [List.take_take, List.take_take, show min 64 (k + 1) = k + 1 from by omega, show min 64 k = k from by omega, List.take_add_one, hx]
  exact numL_snoc _ _
theorem hiTo_ge {l : List Int} {k : Nat} (hk : 64 ≤ k) : hiTo l (k + 1) = hiTo l k := by
  unfold hiTo
  rw [List.take_take, List.take_take, show min 64 (k + 1) = 64 from by omega, show min 64 k = 64 from by omega]
theorem loTo_lt {l : List Int} {k : Nat} (hk : k < 64) : loTo l (k + 1) = loTo l k := by
  unfold loTo
  rw [List.drop_eq_nil_of_le (by rw [List.length_take]; omega), List.drop_eq_nil_of_le (by rw [List.length_take]; omega)]
theorem loTo_ge {l : List Int} {k : Nat} {x : Int} (hx : l[k]? = some x) (hk : 64 ≤ k) : loTo l (k + 1) = 2 * loTo l k + x := by
  unfold loTo
  have hl := (List.getElem?_eq_some_iff.1 hx).1
  rw [List.take_add_one, hx, List.drop_append_of_le_length (by rw [List.length_take]; omega)]
  exact numL_snoc _ _
theorem hiTo_bound (l : List Int) (k : Nat) (h : Bits l) (hk : k < 64) : 0 ≤ hiTo l k ∧ hiTo l k ≤ 9223372036854775807 := by
  have := half_bound l k h hk
  unfold hiTo
  rwa [List.take_take, show min 64 k = k from by omega]
theorem loTo_bound (l : List Int) (k : Nat) (h : Bits l) (hk : k < 128) : 0 ≤ loTo l k ∧ loTo l k ≤ 9223372036854775807 := by
  have h1 := numL_range ((l.take k).drop 64) ((h.take k).drop 64)
  have h2 : (2 : Int) ^ ((l.take k).drop 64).length ≤ 9223372036854775808 := by
    have : (2 : Nat) ^ ((l.take k).drop 64).length ≤ 2 ^ 63 := Nat.pow_le_pow_right (by omega) (by rw [List.length_drop, List.length_take]; omega)
    have e : ((2 ^ ((l.take k).drop 64).length : Nat) : Int) = 2 ^ ((l.take k).drop 64).length := by simp
    rw [← e]
    have : (2 ^ 63 : Nat) = 9223372036854775808 := by decide
    omega
  unfold loTo
  omega

set_option maxRecDepth 100000 in
set_option maxHeartbeats 1600000 in
theorem addrOf_six (l : List Int) (g cap : Nat) (w : World) (hb : Bits l) (hl : l.length = 128) (hown : ∀ (i : Nat) (b : Int), l[i]? = some b → w.cell? ⟨g, i, none⟩ = some (.int .i64 b)) (hg : g < w.heap.size) :
    Calls Try.prog 196 #[.slice (some ⟨g, 0, none⟩) 128 cap] w fun e w' => e = .returned (.agg #[.bool true, .int .u64 (hiOf true l), .int .u64 (loOf true l)]) ∧ Below w.heap.size w w' := by
  have HB := Lib.hid hb
  have HL := Lib.hid hl
  have HO := Lib.hid hown
  have HE := Lib.hid (show hiOf true l = hiTo l 128 ∧ loOf true l = loTo l 128 from by
    unfold hiOf loOf hiTo loTo
    rw [← hl, List.take_length]
    exact ⟨rfl, rfl⟩)
  obtain ⟨a, ha⟩ : ∃ a, a = hiOf true l := ⟨_, rfl⟩
  obtain ⟨b, hbb⟩ : ∃ b, b = loOf true l := ⟨_, rfl⟩
  rw [← ha, ← hbb]
  rw [← ha, ← hbb] at HE
  clear hb hl hown ha hbb
  go_enter Try.func196, Try.ntmps196
  go_wp2
  go_loopw [12, 4, 5] (fun i _ _ wr => ∃ k : Nat, k ≤ 128 ∧ i = .int .i64 k ∧ wr = (w.alloc (.cells #[.bool false, .int .u64 0, .int .u64 0] 44)).alloc (.cells #[.bool true, .int .u64 (hiTo l k), .int .u64 (loTo l k)] 44)) (fun i _ _ _ => 128 - (intOf i).toNat)
  case atStart => exact ⟨0, by omega, rfl, rfl⟩
  case round =>
    obtain ⟨k, hk, rfl, rfl⟩ := hrel
    by_cases hlt : k < 128
    · obtain ⟨x, hx⟩ : ∃ x, l[k]? = some x := ⟨_, List.getElem?_eq_getElem (by rw [HL.out]; exact hlt)⟩
      have hx1 := HB.out x (List.mem_of_getElem? hx)
      have q := HO.out k x hx
      have q2 : ((w.alloc (.cells #[.bool false, .int .u64 0, .int .u64 0] 44)).alloc (.cells #[.bool true, .int .u64 (hiTo l k), .int .u64 (loTo l k)] 44)).cell? ⟨g, k, none⟩ = some (.int .i64 x) := by
        rw [World.cell?_alloc_past _ _ _ (by simp; omega), World.cell?_alloc_past _ _ _ (by simpa using hg)]
        exact q
      by_cases h64 : k < 64
      · have hs := hiTo_bound l k HB.out h64
        have e1 := Lib.hid (hiTo_lt hx h64)
        have e2 := Lib.hid (loTo_lt (l := l) h64)
        clear hx q
        go_wp2
        go_roundw
        case rel => exact ⟨k + 1, by omega, by go_num, by rw [e1.out, e2.out]⟩
        case measure => simp [intOf]; omega
      · have hs := loTo_bound l k HB.out hlt
        have e1 := Lib.hid (hiTo_ge (l := l) (k := k) (by omega))
        have e2 := Lib.hid (loTo_ge hx (by omega))
        clear hx q
        go_wp2
        go_roundw
        case rel => exact ⟨k + 1, by omega, by go_num, by rw [e1.out, e2.out]⟩
        case measure => simp [intOf]; omega
    · obtain rfl : k = 128 := by omega
      go_wp2
      exact bodyPost_ret (v := .agg #[.bool true, .int .u64 a, .int .u64 b]) (by simp [results, Try.results196, go_sem, HE.out.1, HE.out.2]) rfl
        ⟨rfl, ((Below.refl _ _).alloc (Nat.le_refl _) _).alloc (by simp) _⟩

/-- addrOf of a row of bits of the call's own, as long as an address of a family. -/
theorem addrOf_any (six : Bool) (l : List Int) (n : Nat) (g cap : Nat) (w : World) (hb : Bits l) (hl : l.length = n) (hn : wideI six = n) (hown : ∀ (i : Nat) (b : Int), l[i]? = some b → w.cell? ⟨g, i, none⟩ = some (.int .i64 b)) (hg : g < w.heap.size) :
    Calls Try.prog 196 #[.slice (some ⟨g, 0, none⟩) n cap] w fun e w' => e = .returned (.agg #[.bool six, .int .u64 (hiOf six l), .int .u64 (loOf six l)]) ∧ Below w.heap.size w w' := by
  cases six
  · have : (32 : Int) = n := hn
    obtain rfl : n = 32 := by omega
    exact addrOf_four l g cap w hb hl hown hg
  · have : (128 : Int) = n := hn
    obtain rfl : n = 128 := by omega
    exact addrOf_six l g cap w hb hl hown hg

end Go.Proofs.Ytnflaaoapmhjgaa

namespace Go.Proofs.Ytnflaaoapmhjgaa
open Go.ChangeShapes Go.WideShapes Go.ChangeAt Go.RowKit

theorem or_fill (x m : Int) (hx : 0 ≤ x ∧ x < 18446744073709551616) (hm : 0 ≤ m ∧ m < 18446744073709551616) : bits .or .u64 x (bits .xor .u64 IntKind.u64.max m) = (fillN x m : Int) := by
  have e : (2 ^ 64 : Nat) = 18446744073709551616 := by decide
  have hmax : IntKind.u64.max = 18446744073709551615 := rfl
  have hlt : 18446744073709551615 ^^^ m.toNat < 2 ^ 64 := Nat.xor_lt_two_pow (by omega) (by omega)
  rw [hmax, u64_xor _ _ (by omega) (by omega) hm.1 hm.2, show (18446744073709551615 : Int).toNat = 18446744073709551615 from by decide, u64_or x _ hx.1 hx.2 (by omega) (by omega)]
  rfl

theorem and_fill (x m : Int) (hx : 0 ≤ x ∧ x < 18446744073709551616) (hm : 0 ≤ m ∧ m < 18446744073709551616) : bits .and .u64 (bits .or .u64 x (bits .xor .u64 IntKind.u64.max m)) 4294967295 = ((fillN x m % 2 ^ 32 : Nat) : Int) := by
  have e : (2 ^ 64 : Nat) = 18446744073709551616 := by decide
  have hlt := fillN_lt x m hx hm
  rw [or_fill x m hx hm, u64_and _ _ (by omega) (by omega) (by omega) (by omega), show (4294967295 : Int).toNat = 2 ^ 32 - 1 from by decide, Nat.and_two_pow_sub_one_eq_mod]
  simp

end Go.Proofs.Ytnflaaoapmhjgaa

namespace Go.Proofs.Ytnflaaoapmhjgaa
open Go.ChangeShapes Go.WideShapes Go.ChangeAt Go.RowKit

structure Span1 (w : World) (a b c d : Value) (w' : World) : Prop where
  below : Below w.heap.size w w'
  size : w.heap.size + 1 + 1 < w'.heap.size
  c0 : w'.cell? ⟨w.heap.size, 0, none⟩ = some a
  c1 : w'.cell? ⟨w.heap.size, 1, none⟩ = some b
  c2 : w'.cell? ⟨w.heap.size, 2, none⟩ = some c
  c3 : w'.cell? ⟨w.heap.size, 3, none⟩ = some d
  zA0 : w'.cell? ⟨w.heap.size + 1, 0, none⟩ = some (.bool false)
  zA1 : w'.cell? ⟨w.heap.size + 1, 1, none⟩ = some (.int .u64 0)
  zA2 : w'.cell? ⟨w.heap.size + 1, 2, none⟩ = some (.int .u64 0)
  zB0 : w'.cell? ⟨w.heap.size + 1 + 1, 0, none⟩ = some (.bool false)
  zB1 : w'.cell? ⟨w.heap.size + 1 + 1, 1, none⟩ = some (.int .u64 0)
  zB2 : w'.cell? ⟨w.heap.size + 1 + 1, 2, none⟩ = some (.int .u64 0)
  gA0 : w'.frozen? ⟨w.heap.size + 1, 0, none⟩ = false
  gA1 : w'.frozen? ⟨w.heap.size + 1, 1, none⟩ = false
  gA2 : w'.frozen? ⟨w.heap.size + 1, 2, none⟩ = false
  gB0 : w'.frozen? ⟨w.heap.size + 1 + 1, 0, none⟩ = false
  gB1 : w'.frozen? ⟨w.heap.size + 1 + 1, 1, none⟩ = false
  gB2 : w'.frozen? ⟨w.heap.size + 1 + 1, 2, none⟩ = false

theorem span1_start (w : World) (a b c d : Value) (t t' : TypeId) : Span1 w a b c d (((w.alloc (.cells #[a, b, c, d] t)).alloc (.cells #[.bool false, .int .u64 0, .int .u64 0] t')).alloc (.cells #[.bool false, .int .u64 0, .int .u64 0] t')) := by
  have hb : Below w.heap.size w (((w.alloc (.cells #[a, b, c, d] t)).alloc (.cells #[.bool false, .int .u64 0, .int .u64 0] t')).alloc (.cells #[.bool false, .int .u64 0, .int .u64 0] t')) := (((Below.refl _ _).alloc (Nat.le_refl _) _).alloc (by simp) _).alloc (by simp; omega) _
  have e0 : ∀ j u, (#[a, b, c, d] : Array Value)[j]? = some u → (((w.alloc (.cells #[a, b, c, d] t)).alloc (.cells #[.bool false, .int .u64 0, .int .u64 0] t')).alloc (.cells #[.bool false, .int .u64 0, .int .u64 0] t')).cell? ⟨w.heap.size, j, none⟩ = some u := by
    intro j u hj
    rw [World.cell?_alloc_past _ _ _ (by simp; omega), World.cell?_alloc_past _ _ _ (by simp), World.cell?_alloc_at _ _ _ _ rfl]
    exact hj
  have e1 : ∀ j u, (#[.bool false, .int .u64 0, .int .u64 0] : Array Value)[j]? = some u → (((w.alloc (.cells #[a, b, c, d] t)).alloc (.cells #[.bool false, .int .u64 0, .int .u64 0] t')).alloc (.cells #[.bool false, .int .u64 0, .int .u64 0] t')).cell? ⟨w.heap.size + 1, j, none⟩ = some u := by
    intro j u hj
    rw [World.cell?_alloc_past _ _ _ (by simp), World.cell?_alloc_at _ _ _ _ (by simp)]
    exact hj
  have e2 : ∀ j u, (#[.bool false, .int .u64 0, .int .u64 0] : Array Value)[j]? = some u → (((w.alloc (.cells #[a, b, c, d] t)).alloc (.cells #[.bool false, .int .u64 0, .int .u64 0] t')).alloc (.cells #[.bool false, .int .u64 0, .int .u64 0] t')).cell? ⟨w.heap.size + 1 + 1, j, none⟩ = some u := by
    intro j u hj
    rw [World.cell?_alloc_at _ _ _ _ (by simp)]
    exact hj
  have h1 : (((w.alloc (.cells #[a, b, c, d] t)).alloc (.cells #[.bool false, .int .u64 0, .int .u64 0] t')).alloc (.cells #[.bool false, .int .u64 0, .int .u64 0] t')).heap[w.heap.size + 1]? = some (.cells #[.bool false, .int .u64 0, .int .u64 0] t') := by
    rw [Below.heap_alloc _ _ _ (by simp)]
    have := heap_alloc_new (w.alloc (.cells #[a, b, c, d] t)) (.cells #[.bool false, .int .u64 0, .int .u64 0] t')
    simpa using this
  have h2 : (((w.alloc (.cells #[a, b, c, d] t)).alloc (.cells #[.bool false, .int .u64 0, .int .u64 0] t')).alloc (.cells #[.bool false, .int .u64 0, .int .u64 0] t')).heap[w.heap.size + 1 + 1]? = some (.cells #[.bool false, .int .u64 0, .int .u64 0] t') := by
    have := heap_alloc_new ((w.alloc (.cells #[a, b, c, d] t)).alloc (.cells #[.bool false, .int .u64 0, .int .u64 0] t')) (.cells #[.bool false, .int .u64 0, .int .u64 0] t')
    simpa using this
  have f1 : ∀ j, (((w.alloc (.cells #[a, b, c, d] t)).alloc (.cells #[.bool false, .int .u64 0, .int .u64 0] t')).alloc (.cells #[.bool false, .int .u64 0, .int .u64 0] t')).frozen? ⟨w.heap.size + 1, j, none⟩ = false := by
    intro j
    unfold World.frozen?
    simp only [h1]
    simp
  have f2 : ∀ j, (((w.alloc (.cells #[a, b, c, d] t)).alloc (.cells #[.bool false, .int .u64 0, .int .u64 0] t')).alloc (.cells #[.bool false, .int .u64 0, .int .u64 0] t')).frozen? ⟨w.heap.size + 1 + 1, j, none⟩ = false := by
    intro j
    unfold World.frozen?
    simp only [h2]
    simp
  exact ⟨hb, by simp, e0 0 a rfl, e0 1 b rfl, e0 2 c rfl, e0 3 d rfl, e1 0 _ rfl, e1 1 _ rfl, e1 2 _ rfl, e2 0 _ rfl, e2 1 _ rfl, e2 2 _ rfl, f1 0, f1 1, f1 2, f2 0, f2 1, f2 2⟩

theorem Span1.drew {w w1 : World} {a b c d : Value} (h : Span1 w a b c d w1) : Span1 w a b c d w1.drew := ⟨h.below.drew, h.size, h.c0, h.c1, h.c2, h.c3, h.zA0, h.zA1, h.zA2, h.zB0, h.zB1, h.zB2, h.gA0, h.gA1, h.gA2, h.gB0, h.gB1, h.gB2⟩

theorem Span1.step {w w1 w2 : World} {a b c d : Value} (h : Span1 w a b c d w1) (hb : Below w1.heap.size w1 w2) : Span1 w a b c d w2 := by
  have hs := h.size
  have f : ∀ b j, b ≤ w.heap.size + 1 + 1 → w1.frozen? ⟨b, j, none⟩ = false → w2.frozen? ⟨b, j, none⟩ = false := fun b j hb' hf => (hb.frozen (p := ⟨b, j, none⟩) (by show b < _; omega)).trans hf
  exact ⟨below_step h.below hb, size_step h.size hb, cell_step hb h.c0, cell_step hb h.c1, cell_step hb h.c2, cell_step hb h.c3, cell_step hb h.zA0, cell_step hb h.zA1, cell_step hb h.zA2, cell_step hb h.zB0, cell_step hb h.zB1, cell_step hb h.zB2,
    f _ 0 (by omega) h.gA0, f _ 1 (by omega) h.gA1, f _ 2 (by omega) h.gA2, f _ 0 (by omega) h.gB0, f _ 1 (by omega) h.gB1, f _ 2 (by omega) h.gB2⟩


theorem box33 {w w2 : World} {a b c d e f : Value} {t t' : TypeId} (hb : Below ((w.alloc (.cells #[a, b, c] t)).alloc (.cells #[d, e, f] t')).heap.size ((w.alloc (.cells #[a, b, c] t)).alloc (.cells #[d, e, f] t')) w2) :
    Below w.heap.size w w2 ∧ (w2.cell? ⟨w.heap.size, 0, none⟩ = some a ∧ w2.cell? ⟨w.heap.size, 1, none⟩ = some b ∧ w2.cell? ⟨w.heap.size, 2, none⟩ = some c) ∧
      (w2.cell? ⟨w.heap.size + 1, 0, none⟩ = some d ∧ w2.cell? ⟨w.heap.size + 1, 1, none⟩ = some e ∧ w2.cell? ⟨w.heap.size + 1, 2, none⟩ = some f) ∧ w.heap.size + 1 < w2.heap.size := by
  have e0 : ∀ j u, (#[a, b, c] : Array Value)[j]? = some u → ((w.alloc (.cells #[a, b, c] t)).alloc (.cells #[d, e, f] t')).cell? ⟨w.heap.size, j, none⟩ = some u := by
    intro j u hj
    rw [World.cell?_alloc_past _ _ _ (by simp), World.cell?_alloc_at _ _ _ _ rfl]
    exact hj
  have e1 : ∀ j u, (#[d, e, f] : Array Value)[j]? = some u → ((w.alloc (.cells #[a, b, c] t)).alloc (.cells #[d, e, f] t')).cell? ⟨w.heap.size + 1, j, none⟩ = some u := by
    intro j u hj
    rw [World.cell?_alloc_at _ _ _ _ (by simp)]
    exact hj
  have hs := hb.size
  simp at hs
  exact ⟨below_step (((Below.refl _ _).alloc (Nat.le_refl _) _).alloc (by simp) _) hb, ⟨cell_step hb (e0 0 a rfl), cell_step hb (e0 1 b rfl), cell_step hb (e0 2 c rfl)⟩, ⟨cell_step hb (e1 0 d rfl), cell_step hb (e1 1 e rfl), cell_step hb (e1 2 f rfl)⟩, by omega⟩

end Go.Proofs.Ytnflaaoapmhjgaa

namespace Go.Proofs.Ytnflaaoapmhjgaa
open Go.ChangeShapes Go.WideShapes Go.ChangeAt Go.RowKit

theorem Span1.stepB {w w1 w2 : World} {a b c d : Value} {B : Nat} (h : Span1 w a b c d w1) (hb : Below B w1 w2) (hB : w.heap.size + 1 + 1 < B) : Span1 w a b c d w2 := by
  have f : ∀ b j, b ≤ w.heap.size + 1 + 1 → w1.frozen? ⟨b, j, none⟩ = false → w2.frozen? ⟨b, j, none⟩ = false := fun b j hb' hf => (hb.frozen (p := ⟨b, j, none⟩) (by show b < _; omega)).trans hf
  have g : ∀ b j v, b ≤ w.heap.size + 1 + 1 → w1.cell? ⟨b, j, none⟩ = some v → w2.cell? ⟨b, j, none⟩ = some v := fun b j v hb' hf => (hb.cell (p := ⟨b, j, none⟩) (by show b < _; omega)).trans hf
  have hs := hb.size
  have h1 := h.size
  exact ⟨h.below.trans (hb.mono (by omega)), by omega, g _ _ _ (by omega) h.c0, g _ _ _ (by omega) h.c1, g _ _ _ (by omega) h.c2, g _ _ _ (by omega) h.c3, g _ _ _ (by omega) h.zA0, g _ _ _ (by omega) h.zA1, g _ _ _ (by omega) h.zA2, g _ _ _ (by omega) h.zB0, g _ _ _ (by omega) h.zB1, g _ _ _ (by omega) h.zB2,
    f _ 0 (by omega) h.gA0, f _ 1 (by omega) h.gA1, f _ 2 (by omega) h.gA2, f _ 0 (by omega) h.gB0, f _ 1 (by omega) h.gB1, f _ 2 (by omega) h.gB2⟩

theorem own_lt {w : World} {base g n cap : Nat} {e : TypeId} {size : Nat} {xs : List Value} (h : w.ownsRow base e size (.slice (some ⟨g, 0, none⟩) n cap) n xs) (hpos : 0 < n) : g < w.heap.size := by
  obtain ⟨g', c', e1, _, e2⟩ := h.form hpos
  simp at e1
  obtain ⟨rfl, _⟩ := e1
  exact e2

def lastTo (six : Bool) (hi lo : Int) (m n k : Nat) : List Int := (List.range m).map fun (j : Nat) => if j < n then bitI six hi lo j else if j < n + k then 1 else bitI six hi lo j
theorem lastTo_zero {six : Bool} {hi lo : Int} {m n : Nat} (hm : wideI six = m) : lastTo six hi lo m n 0 = bitsL six hi lo := by
  unfold lastTo bitsL
  rw [hm]
  apply List.map_congr_left
  intro j _
  split
  · rfl
  · rw [if_neg (by omega)]
theorem lastTo_end {six : Bool} {hi lo : Int} {m n k : Nat} (hm : wideI six = m) (hk : n + k = m) : lastTo six hi lo m n k = lastL six hi lo n := by
  unfold lastTo lastL
  rw [hm]
  apply List.map_congr_left
  intro j hj
  have : j < m := by simpa using hj
  by_cases h : j < n
  · rw [if_pos h, if_pos (by omega)]
  · rw [if_neg h, if_pos (show j < n + k by omega), if_neg (by omega)]
theorem lastTo_set {six : Bool} {hi lo : Int} {m n k : Nat} (hk : n + k < m) : (lastTo six hi lo m n k).set (n + k) 1 = lastTo six hi lo m n (k + 1) := by
  apply List.ext_getElem?
  intro j
  unfold lastTo
  rw [List.getElem?_set]
  by_cases h : n + k = j
  · subst h
    rw [if_pos rfl, if_pos (by simpa using hk), List.getElem?_map, List.getElem?_range hk]
    simp only [Option.map_some, Option.some.injEq]
    rw [if_neg (by omega), if_pos (by omega)]
  · rw [if_neg h, List.getElem?_map, List.getElem?_map]
    rcases Nat.lt_or_ge j m with hj | hj
    · rw [List.getElem?_range hj]
      simp only [Option.map_some, Option.some.injEq]
      by_cases h1 : j < n
      · rw [if_pos h1, if_pos h1]
      · rw [if_neg h1, if_neg h1]
        by_cases h2 : j < n + k
        · rw [if_pos h2, if_pos (by omega)]
        · rw [if_neg h2, if_neg (by omega)]
    · rw [List.getElem?_eq_none (by simpa using hj)]
      rfl

end Go.Proofs.Ytnflaaoapmhjgaa

namespace Go.Proofs.Ytnflaaoapmhjgaa
open Go.ChangeShapes Go.WideShapes Go.ChangeAt Go.RowKit

set_option maxHeartbeats 1600000 in
theorem over_any (six : Bool) (hi lo n : Int) (six' : Bool) (hi' lo' n' : Int) (w : World) (h3 : 0 ≤ hi' ∧ hi' < 18446744073709551616) (h4 : 0 ≤ lo' ∧ lo' < 18446744073709551616) (h5 : six' = false → lo' < 4294967296) (h6 : -500 ≤ n) (h7 : n ≤ 500) :
    Calls Try.prog 71 #[.agg #[.bool six, .int .u64 hi, .int .u64 lo, .int .i64 n], .agg #[.bool six', .int .u64 hi', .int .u64 lo', .int .i64 n']] w fun e w' => e = .returned (.bool (overB six hi lo n six' hi' lo' n')) ∧ Below w.heap.size w w' := by
  have HQ := Lib.hid h5
  clear h5
  by_cases hn : n ≤ n'
  · have hE : overB six hi lo n six' hi' lo' n' = inB six hi lo n six' hi' lo' := by unfold overB; simp [hn]
    rw [hE]
    clear hE
    go_enter Try.func71, Try.ntmps71
    go_wp2_with fail
    refine (in_any six hi lo n six' hi' lo' _ h3 h4 HQ.out h6 h7).mono ?_
    rintro e w1 ⟨rfl, hb⟩
    obtain ⟨b0, b1, c0, c1, c2, c3, d0, d1, d2, d3⟩ := Box44.step (box44_start w _ _ _ _ _ _ _ _ _) hb
    clear hb
    go_wp2
    go_ret
    exact ⟨rfl, b0⟩
  · have hE : overB six hi lo n six' hi' lo' n' = false := by unfold overB; simp [hn]
    rw [hE]
    clear hE
    go_enter Try.func71, Try.ntmps71
    go_wp2
    go_ret
    exact ⟨rfl, ((Below.refl _ _).alloc (Nat.le_refl _) _).alloc (by simp) _⟩

def covB (six : Bool) (hi lo n : Int) (six' : Bool) (hi' lo' n' : Int) : Bool :=
  if ¬ bothE six hi lo n six' hi' lo' n' = 0 then false else overB six hi lo n six' hi' lo' n'

theorem both_zero {six : Bool} {hi lo n : Int} {six' : Bool} {hi' lo' n' : Int} (h1 : 0 ≤ hi ∧ hi < 18446744073709551616) (h2 : 0 ≤ lo ∧ lo < 18446744073709551616) (h3 : 0 ≤ hi' ∧ hi' < 18446744073709551616) (h4 : 0 ≤ lo' ∧ lo' < 18446744073709551616)
    (h : bothE six hi lo n six' hi' lo' n' = 0) : Pfx six hi lo n ∧ Pfx six' hi' lo' n' ∧ six = six' ∧ chk six' hi' lo' n' = 0 := by
  unfold bothE at h
  by_cases hz : chk six hi lo n = 0
  · rw [if_neg (fun x => x hz)] at h
    by_cases hz2 : chk six' hi' lo' n' = 0
    · rw [if_neg (fun x => x hz2)] at h
      by_cases hs : six = six'
      · exact ⟨chk_zero h1 h2 hz, chk_zero h3 h4 hz2, hs, hz2⟩
      · rw [if_pos hs] at h; omega
    · rw [if_pos hz2] at h; omega
  · rw [if_pos hz] at h; omega

end Go.Proofs.Ytnflaaoapmhjgaa

namespace Go.Proofs.Ytnflaaoapmhjgaa
open Go.ChangeShapes Go.WideShapes Go.ChangeAt Go.RowKit

theorem root_any (p : PV) (tb : Nat) (w : World) :
    Calls Try.prog 192 #[.pointer (some ⟨tb, 0, none⟩), p.val] w fun e w' => e = .returned (.pointer (some (slotOf tb p.six))) ∧ Below w.heap.size w w' := by
  obtain ⟨six, hi, lo, n⟩ := p
  unfold PV.val slotOf
  simp only
  cases six
  · go_enter Try.func192, Try.ntmps192
    go_wp2
    go_ret
    exact ⟨rfl, (Below.refl _ _).alloc (Nat.le_refl _) _⟩
  · go_enter Try.func192, Try.ntmps192
    go_wp2
    go_ret
    exact ⟨rfl, (Below.refl _ _).alloc (Nat.le_refl _) _⟩

def Stop (p : PV) : Tr → Prop
  | .nil => True
  | .node _ q _ _ _ => q = p ∨ q.over p = false
def PlaceAt (w : World) (tb : Nat) (R : Bool → Tr) (p : PV) (e : Ending) (w' : World) : Prop :=
  ∃ (C : Ctx) (cur : Tr), R p.six = C.plug cur ∧ C.OnPath p ∧ Stop p cur ∧ e = .returned (.pointer (some (C.slot tb p.six))) ∧ Below w.heap.size w w'
/-- Where the search stands. -/
def At (tb : Nat) (R : Bool → Tr) (p : PV) (k : Nat) (v : Value) : Prop :=
  ∃ (C : Ctx) (cur : Tr), R p.six = C.plug cur ∧ C.OnPath p ∧ cur.size ≤ k ∧ v = .pointer (some (C.slot tb p.six))

theorem inv_plug {six : Bool} : ∀ (C : Ctx) (t : Tr) (U : PV → Prop), Inv six U (C.plug t) → ∃ U', Inv six U' t
  | .top, t, U, h => ⟨U, h⟩
  | .left C g q h r, t, U, hi => by
    obtain ⟨U', h'⟩ := inv_plug C (.node g q h t r) U hi
    exact ⟨_, h'.2.2.2.2.1⟩
  | .right C g q h l, t, U, hi => by
    obtain ⟨U', h'⟩ := inv_plug C (.node g q h l t) U hi
    exact ⟨_, h'.2.2.2.2.2⟩

set_option maxRecDepth 100000 in
set_option maxHeartbeats 1600000 in
theorem place_any {w : World} {B tb : Nat} {R : Bool → Tr} {c : Int} (h : Tab w B tb R c) (p : PV) (hp : p.Ok) (hI : ∀ s, Inv s (fun _ => True) (R s)) :
    Calls Try.prog 145 #[.pointer (some ⟨tb, 0, none⟩), p.val, .nilFunc] w (PlaceAt w tb R p) := by
  have HT := Lib.hid h
  have HP := Lib.hid hp
  have HI := Lib.hid hI
  have hRt := Lib.hid (fun w => root_any p tb w)
  obtain ⟨six, hi, lo, n⟩ := p
  have hrng := hp
  unfold PV.Ok at hrng
  simp only at hrng
  have r1 := hrng.rhi
  have r2 := hrng.rlo
  have hm5 := Lib.hid (fun hs : six = false => by have := hrng.may; rw [hs] at this; exact (mayB_four this).2 : six = false → lo < 4294967296)
  have hlen := hrng.len
  have hwl := wideI_le six
  clear h hp hI hrng
  have hnf : ∀ w, (binOp .neq 236 .nilFunc .nilFunc).run Try.prog w = .ok (.bool false) w := fun _ => by kernel_rfl
  unfold PV.val at hRt ⊢
  simp only at hRt ⊢
  go_enter Try.func145, Try.ntmps145
  go_wp2_with fail
  refine (hRt.out _).mono ?_
  rintro e X ⟨rfl, hb⟩
  obtain ⟨HBX, hsx, hbx⟩ := box1 (cs := [.bool six, .int .u64 hi, .int .u64 lo, .int .i64 n]) hb
  have e0 := hbx 0 _ rfl
  have e1 := hbx 1 _ rfl
  have e2 := hbx 2 _ rfl
  have e3 := hbx 3 _ rfl
  have HTX := Lib.hid (HT.out.below HBX)
  have HB := Lib.hid HBX
  clear hb hbx HBX
  go_wp2
  go_loopg [7, 8] (R six).size (fun k at_ _ wr => At tb R ⟨six, hi, lo, n⟩ k at_ ∧ Below X.heap.size X wr)
  case atStart => exact ⟨⟨.top, R six, rfl, trivial, Nat.le_refl _, rfl⟩, Below.refl _ _⟩
  case round =>
    obtain ⟨⟨C, cur, hR, hon, hsz, rfl⟩, hb⟩ := hrel
    have hs := ((HTX.out.below hb).slot hR).1
    have q0 := (hb.cell (p := ⟨w.heap.size, 0, none⟩) hsx).trans e0
    have q1 := (hb.cell (p := ⟨w.heap.size, 1, none⟩) hsx).trans e1
    have q2 := (hb.cell (p := ⟨w.heap.size, 2, none⟩) hsx).trans e2
    have q3 := (hb.cell (p := ⟨w.heap.size, 3, none⟩) hsx).trans e3
    have HR := Lib.hid hR
    have HON := Lib.hid hon
    have HBW := Lib.hid hb
    have hsw := hb.size
    obtain ⟨U', hiv⟩ := inv_plug C cur _ (by rw [← hR]; exact HI.out six)
    cases cur with
    | nil =>
      clear hR hon hb hiv
      change wr.cell? (Ctx.slot tb six C) = some (.pointer none) at hs
      show Code.wp _ _ _ _ _
      simp only at hs ⊢
      generalize hsl : Ctx.slot tb six C = sl at *
      have HSL := Lib.hid hsl
      clear hsl
      go_wp2
      go_ret
      exact ⟨C, .nil, HR.out, HON.out, trivial, by rw [HSL.out]; rfl, HB.out.trans (HBW.out.mono HB.out.size)⟩
    | node g q h l r =>
      obtain ⟨hq, hq6, _, hh, _, _⟩ := hiv
      obtain ⟨hblk, hgm⟩ := (HTX.out.below hb).node hR
      have n0 := hblk.cell 0
      have n1 := hblk.cell 1
      have n2 := hblk.cell 2
      have n3 := hblk.cell 3
      have HQ := Lib.hid hq
      obtain ⟨qs, qh, ql, qn⟩ := q
      simp only [nodeCs] at n0 n1 n2 n3 hq6
      simp at n0 n1 n2 n3
      subst hq6
      have hgl := hblk.lt
      clear hR hon hb hblk hgm hq hh
      change wr.cell? (Ctx.slot tb qs C) = some (.pointer (some ⟨g, 0, none⟩)) at hs
      generalize hsl : Ctx.slot tb qs C = sl at *
      have HSL := Lib.hid hsl
      clear hsl
      by_cases he : qh = hi ∧ ql = lo ∧ qn = n
      · obtain ⟨rfl, rfl, rfl⟩ := he
        go_wp2_with fail
        go_quiet (fail)
        go_wp2
        go_ret
        exact ⟨C, _, HR.out, HON.out, .inl rfl, by rw [HSL.out]; rfl, below_drewN (HB.out.trans (HBW.out.mono HB.out.size)) _⟩
      · have CO := Lib.hid (fun w => over_any qs qh ql qn qs hi lo n w r1 r2 hm5.out (by have := ok_n HQ.out; simp only at this; have := wideI_le qs; omega) (by have := ok_n HQ.out; simp only at this; have := wideI_le qs; omega))
        have CA := Lib.hid (fun w h3 h4 => at_any qs hi lo qn w r1 r2 h3 h4)
        have HE := Lib.hid he
        have HNE : Hid (¬ (⟨qs, qh, ql, qn⟩ : PV) = ⟨qs, hi, lo, n⟩) := fun hx => by injection hx with _ e1 e2 e3; exact he ⟨e1, e2, e3⟩
        have hsxw : w.heap.size < wr.heap.size := by omega
        have key : (qh == hi) = false ∨ (qh = hi ∧ (ql == lo) = false) ∨ (qh = hi ∧ ql = lo ∧ (qn == n) = false) := by
          by_cases a : qh = hi
          · by_cases b : ql = lo
            · exact .inr (.inr ⟨a, b, by simpa using fun h => he ⟨a, b, h⟩⟩)
            · exact .inr (.inl ⟨a, by simpa using b⟩)
          · exact .inl (by simpa using a)
        clear he
        obtain ⟨ov, hov⟩ : ∃ ov : Bool, overB qs qh ql qn qs hi lo n = ov := ⟨_, rfl⟩
        rw [hov] at CO
        have HOV := Lib.hid hov
        clear hov
        cases ov with
        | false =>
          rcases key with k1 | ⟨rfl, k1⟩ | ⟨rfl, rfl, k1⟩
          all_goals
            go_wp2_with fail
            go_region_held3 (fun w' => (∀ b o, b < wr.heap.size → w'.cell? ⟨b, o, none⟩ = wr.cell? ⟨b, o, none⟩) ∧ wr.heap.size ≤ w'.heap.size ∧ Hid (Below wr.heap.size wr w'))
              ((first | assumption | exact keep0 _ | exact keep1 (by assumption) (by assumption) | exact keepD (by assumption) | exact keepB (by assumption) (by assumption) | exact keepA (by assumption) _ | exact ⟨fun _ _ _ => rfl, Nat.le_refl _, Below.refl _ _⟩))
              (first | (go_at_call 71; refine (CO.out _).mono ?_; rintro e w2 ⟨rfl, hb2⟩))
            go_wp2
            go_ret
            exact ⟨C, _, HR.out, HON.out, .inr HOV.out, by rw [HSL.out]; rfl, (HB.out.trans (HBW.out.mono HB.out.size)).trans ((keepBelow (by assumption)).mono (by omega))⟩
        | true =>
          have hnn := over_n HQ.out HP.out HOV.out
          simp only at hnn
          have hlt : qn < n := by
            rcases Int.lt_or_le qn n with hx | hx
            · exact hx
            · have := over_eq HQ.out HP.out HOV.out hx
              injection this with _ e1 e2 e3
              exact absurd ⟨e1, e2, e3⟩ HE.out
          have hq0 := (ok_n HQ.out).1
          simp only at hq0
          have CB := Lib.hid (fun w => CA.out w hq0 (by omega))
          obtain ⟨bv, hbv⟩ : ∃ bv, bitI qs hi lo qn = bv := ⟨_, rfl⟩
          have hb01 : bv = 0 ∨ bv = 1 := by rw [← hbv]; exact PV.bit01 ⟨qs, hi, lo, n⟩ qn
          rw [hbv] at CB
          have HBV : Hid (PV.bit ⟨qs, hi, lo, n⟩ qn = bv) := hbv
          clear hbv
          rcases key with k1 | ⟨rfl, k1⟩ | ⟨rfl, rfl, k1⟩
          all_goals
            go_wp2_with fail
            go_region_held3 (fun w' => (∀ b o, b < wr.heap.size → w'.cell? ⟨b, o, none⟩ = wr.cell? ⟨b, o, none⟩) ∧ wr.heap.size ≤ w'.heap.size ∧ Hid (Below wr.heap.size wr w'))
              ((first | assumption | exact keep0 _ | exact keep1 (by assumption) (by assumption) | exact keepD (by assumption) | exact keepB (by assumption) (by assumption) | exact keepA (by assumption) _ | exact ⟨fun _ _ _ => rfl, Nat.le_refl _, Below.refl _ _⟩))
              (first | (go_at_call 71; refine (CO.out _).mono ?_; rintro e w2 ⟨rfl, hb2⟩))
            obtain ⟨fc2, z2, H2⟩ : (∀ b o, b < wr.heap.size → w2.cell? ⟨b, o, none⟩ = wr.cell? ⟨b, o, none⟩) ∧ wr.heap.size ≤ w2.heap.size ∧ Hid (Below wr.heap.size wr w2) := by assumption
            have z3 : w.heap.size < w2.heap.size := by omega
            have z4 : g < w2.heap.size := by omega
            rcases hb01 with rfl | rfl
            all_goals
              go_wp2
              go_region_held3 (fun w' => (∀ b o, b < w2.heap.size → w'.cell? ⟨b, o, none⟩ = w2.cell? ⟨b, o, none⟩) ∧ w2.heap.size ≤ w'.heap.size ∧ Hid (Below w2.heap.size w2 w'))
                ((first | assumption | exact keep0 _ | exact keep1 (by assumption) (by assumption) | exact keepD (by assumption) | exact keepB (by assumption) (by assumption) | exact keepA (by assumption) _ | exact ⟨fun _ _ _ => rfl, Nat.le_refl _, Below.refl _ _⟩))
                (first | (go_at_call 175; refine (CB.out _).mono ?_; rintro e w3 ⟨rfl, hb3⟩))
              obtain ⟨fc3, z5, H3⟩ : (∀ b o, b < w2.heap.size → w3.cell? ⟨b, o, none⟩ = w2.cell? ⟨b, o, none⟩) ∧ w2.heap.size ≤ w3.heap.size ∧ Hid (Below w2.heap.size w2 w3) := by assumption
              go_wp2
              first
                | (go_roundg l.size
                   case measure => (simp [Tr.size] at hsz; omega)
                   case rel => exact ⟨⟨.left C g _ h r, l, HR.out, ⟨HNE.out, HOV.out, HBV.out, HON.out⟩, Nat.le_refl _, rfl⟩, below_step HBW.out (below_step H2.out H3.out)⟩)
                | (go_roundg r.size
                   case measure => (simp [Tr.size] at hsz; omega)
                   case rel => exact ⟨⟨.right C g _ h l, r, HR.out, ⟨HNE.out, HOV.out, by rw [HBV.out]; decide, HON.out⟩, Nat.le_refl _, rfl⟩, below_step HBW.out (below_step H2.out H3.out)⟩)

end Go.Proofs.Ytnflaaoapmhjgaa

namespace Go.Proofs.Ytnflaaoapmhjgaa
open Go.ChangeShapes Go.WideShapes Go.ChangeAt Go.RowKit

set_option maxHeartbeats 400000 in
theorem half_low (six : Bool) (hi lo n : Int) (w : World) (h3 : 0 ≤ n) (h4 : n ≤ 128) :
    Calls Try.prog 178 #[.agg #[.bool six, .int .u64 hi, .int .u64 lo, .int .i64 n], .int .i64 0] w fun e w' => e = .returned (.agg #[.bool six, .int .u64 hi, .int .u64 lo, .int .i64 (n + 1)]) ∧ Below w.heap.size w w' := by
  go_enter Try.func178, Try.ntmps178
  go_wp2
  exact bodyPost_ret (v := .agg #[.bool six, .int .u64 hi, .int .u64 lo, .int .i64 (n + 1)]) (by simp [results, Try.results178, go_sem]) rfl
    ⟨rfl, ((Below.refl _ _).alloc (Nat.le_refl _) _).alloc (by simp) _⟩

theorem or_set (x : Int) (k : Nat) (hx : 0 ≤ x ∧ x < 18446744073709551616) (hk : k < 64) : bits .or .u64 x (IntKind.u64.wrap (2 ^ k)) = (setN x k : Int) := by
  have e : (2 ^ 64 : Nat) = 18446744073709551616 := by decide
  have h1 : (2 : Nat) ^ k < 2 ^ 64 := Nat.pow_lt_pow_right (by omega) hk
  have h2 : IntKind.u64.wrap (2 ^ k) = ((2 ^ k : Nat) : Int) := by
    have h3 : ((2 ^ k : Nat) : Int) = (2 : Int) ^ k := by simp
    rw [← h3]
    generalize (2 ^ k : Nat) = m at *
    show (m : Int) % 2 ^ 64 = _
    have e2 : (2 : Int) ^ 64 = 18446744073709551616 := by decide
    rw [e2]
    omega
  rw [h2, u64_or x _ hx.1 hx.2 (Int.natCast_nonneg _) (by generalize (2 ^ k : Nat) = m at *; omega)]
  rfl

set_option maxHeartbeats 400000 in
theorem half_high (six : Bool) (hi lo : Int) (n : Nat) (w : World) (h1 : 0 ≤ hi ∧ hi < 18446744073709551616) (h2 : 0 ≤ lo ∧ lo < 18446744073709551616) (h4 : (n : Int) < wideI six) :
    Calls Try.prog 178 #[.agg #[.bool six, .int .u64 hi, .int .u64 lo, .int .i64 n], .int .i64 1] w fun e w' => e = .returned (.agg #[.bool six, .int .u64 (setHi six hi n), .int .u64 (setLo six lo n), .int .i64 (n + 1)]) ∧ Below w.heap.size w w' := by
  cases six
  · have h5 : n < 32 := by have : (n : Int) < 32 := h4; omega
    have e1 : setHi false hi n = hi := by simp [setHi]
    have e2 : setLo false lo n = bits .or .u64 lo (IntKind.u64.wrap (2 ^ (31 - n))) := by rw [or_set lo _ h2 (by omega)]; simp [setLo]
    rw [e1, e2]
    clear e1 e2 h4
    go_enter Try.func178, Try.ntmps178
    go_wp2
    go_region
    all_goals go_wp2
    all_goals exact bodyPost_ret (v := .agg #[.bool false, .int .u64 hi, .int .u64 (bits .or .u64 lo (IntKind.u64.wrap (2 ^ (31 - n)))), .int .i64 (n + 1)]) (by simp [results, Try.results178, go_sem]) rfl ⟨rfl, (((Below.refl _ _).alloc (Nat.le_refl _) _).alloc (by simp) _).drew⟩
  · have h5 : n < 128 := by have : (n : Int) < 128 := h4; omega
    by_cases h6 : n < 64
    · have e1 : setLo true lo n = lo := by simp [setLo, h6]
      have e2 : setHi true hi n = bits .or .u64 hi (IntKind.u64.wrap (2 ^ (63 - n))) := by rw [or_set hi _ h1 (by omega)]; simp [setHi, h6]
      rw [e1, e2]
      clear e1 e2 h4 h5
      go_enter Try.func178, Try.ntmps178
      go_wp2
      go_region
      all_goals go_wp2
      all_goals exact bodyPost_ret (v := .agg #[.bool true, .int .u64 (bits .or .u64 hi (IntKind.u64.wrap (2 ^ (63 - n)))), .int .u64 lo, .int .i64 (n + 1)]) (by simp [results, Try.results178, go_sem]) rfl ⟨rfl, (((Below.refl _ _).alloc (Nat.le_refl _) _).alloc (by simp) _).drew⟩
    · have e1 : setHi true hi n = hi := by simp [setHi, h6]
      have e2 : setLo true lo n = bits .or .u64 lo (IntKind.u64.wrap (2 ^ (127 - n))) := by rw [or_set lo _ h2 (by omega)]; simp [setLo, h6]
      rw [e1, e2]
      clear e1 e2 h4
      go_enter Try.func178, Try.ntmps178
      go_wp2
      go_region
      all_goals go_wp2
      all_goals exact bodyPost_ret (v := .agg #[.bool true, .int .u64 hi, .int .u64 (bits .or .u64 lo (IntKind.u64.wrap (2 ^ (127 - n)))), .int .i64 (n + 1)]) (by simp [results, Try.results178, go_sem]) rfl ⟨rfl, (((Below.refl _ _).alloc (Nat.le_refl _) _).alloc (by simp) _).drew⟩

end Go.Proofs.Ytnflaaoapmhjgaa

namespace Go.Proofs.Ytnflaaoapmhjgaa
open Go.ChangeShapes Go.WideShapes Go.ChangeAt Go.RowKit

def ZP : Value := .agg #[.bool false, .int .u64 0, .int .u64 0, .int .i64 0]

end Go.Proofs.Ytnflaaoapmhjgaa
