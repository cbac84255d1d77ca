
/-
  Proved here: trees of prefixes as they lie in memory: a place in a tree, and a store at it.
-/
import Derived.Test.YtonelibgaceflaaTriePlain
import Derived.Test.YtonelibgaceflaaAuto
namespace Go.Proofs.Ytonelibgaceflaa
open Go.ChangeShapes Go.WideShapes Go.ChangeAt Go.RowKit

def PV.cells (p : PV) : List Value := [.bool p.six, .int .u64 p.hi, .int .u64 p.lo, .int .i64 p.n]
theorem PV.cells_length (p : PV) : p.cells.length = 4 := rfl
def PV.val (p : PV) : Value := .agg #[.bool p.six, .int .u64 p.hi, .int .u64 p.lo, .int .i64 p.n]
def Tr.ptr : Tr → Value
  | .nil => .pointer none
  | .node g _ _ _ _ => .pointer (some ⟨g, 0, none⟩)
def nodeCs (p : PV) (h : Int) (a b : Value) : Array Value := #[.bool p.six, .int .u64 p.hi, .int .u64 p.lo, .int .i64 p.n, .int .i64 h, a, b]
def Tr.blocks : Tr → List Nat
  | .nil => []
  | .node g _ _ l r => g :: (l.blocks ++ r.blocks)
def Tr.size : Tr → Nat
  | .nil => 0
  | .node _ _ _ l r => l.size + r.size + 1
def Tr.Lies (w : World) (B : Nat) : Tr → Prop
  | .nil => True
  | .node g p h l r => B ≤ g ∧ Blk w g 244 (nodeCs p h l.ptr r.ptr) ∧ l.Lies w B ∧ r.Lies w B

theorem Tr.Lies.keep {w w' : World} {B : Nat} : ∀ {t : Tr}, t.Lies w B → (∀ g ∈ t.blocks, w'.heap[g]? = w.heap[g]?) → t.Lies w' B
  | .nil, _, _ => trivial
  | .node g p h l r, h1, h2 => ⟨h1.1, (h2 g (by simp [Tr.blocks])).trans h1.2.1, h1.2.2.1.keep fun k hk => h2 k (by simp [Tr.blocks, hk]), h1.2.2.2.keep fun k hk => h2 k (by simp [Tr.blocks, hk])⟩
theorem Tr.Lies.lt {w : World} {B : Nat} : ∀ {t : Tr}, t.Lies w B → ∀ g ∈ t.blocks, B ≤ g ∧ g < w.heap.size
  | .nil, _, g, hg => by simp [Tr.blocks] at hg
  | .node g p h l r, h1, k, hk => by
    simp only [Tr.blocks, List.mem_cons, List.mem_append] at hk
    rcases hk with rfl | hk | hk
    · exact ⟨h1.1, h1.2.1.lt⟩
    · exact h1.2.2.1.lt k hk
    · exact h1.2.2.2.lt k hk
theorem Tr.Lies.below {w w' : World} {B : Nat} {t : Tr} (h : t.Lies w B) (hb : Below w.heap.size w w') : t.Lies w' B := h.keep fun g hg => hb.block g (h.lt g hg).2
theorem Tr.Lies.far {w : World} {B : Nat} {t : Tr} (h : t.Lies w B) {p : Addr} (hp : p.block ∉ t.blocks) (u : Value) : t.Lies (w.setCell p u) B :=
  h.keep fun g hg => Below.heap_setCell w p u g (fun e => by subst e; exact hp hg)

/-- What stands round a place of a tree. -/
inductive Ctx where
  | top : Ctx
  | left (C : Ctx) (g : Nat) (p : PV) (h : Int) (r : Tr) : Ctx
  | right (C : Ctx) (g : Nat) (p : PV) (h : Int) (l : Tr) : Ctx

def Ctx.plug : Ctx → Tr → Tr
  | .top, t => t
  | .left C g p h r, t => C.plug (.node g p h t r)
  | .right C g p h l, t => C.plug (.node g p h l t)
def slotOf (tb : Nat) (six : Bool) : Addr := ⟨tb, if six then 1 else 0, none⟩
def Ctx.slot (tb : Nat) (six : Bool) : Ctx → Addr
  | .top => slotOf tb six
  | .left _ g _ _ _ => ⟨g, 5, none⟩
  | .right _ g _ _ _ => ⟨g, 6, none⟩
def Ctx.outer : Ctx → Value → Value
  | .top, v => v
  | .left C g _ _ _, _ => C.outer (.pointer (some ⟨g, 0, none⟩))
  | .right C g _ _ _, _ => C.outer (.pointer (some ⟨g, 0, none⟩))
def Ctx.blocks : Ctx → List Nat
  | .top => []
  | .left C g _ _ r => g :: (r.blocks ++ C.blocks)
  | .right C g _ _ l => g :: (l.blocks ++ C.blocks)
def Ctx.Lies (w : World) (B : Nat) : Ctx → Value → Prop
  | .top, _ => True
  | .left C g p h r, v => B ≤ g ∧ Blk w g 244 (nodeCs p h v r.ptr) ∧ r.Lies w B ∧ C.Lies w B (.pointer (some ⟨g, 0, none⟩))
  | .right C g p h l, v => B ≤ g ∧ Blk w g 244 (nodeCs p h l.ptr v) ∧ l.Lies w B ∧ C.Lies w B (.pointer (some ⟨g, 0, none⟩))
/-- p's way leads to the place. -/
def Ctx.OnPath (p : PV) : Ctx → Prop
  | .top => True
  | .left C _ q _ _ => ¬ q = p ∧ q.over p = true ∧ p.bit q.n = 0 ∧ C.OnPath p
  | .right C _ q _ _ => ¬ q = p ∧ q.over p = true ∧ ¬ p.bit q.n = 0 ∧ C.OnPath p

theorem plug_ptr : ∀ (C : Ctx) (t : Tr), (C.plug t).ptr = C.outer t.ptr
  | .top, _ => rfl
  | .left C g p h r, t => plug_ptr C (.node g p h t r)
  | .right C g p h l, t => plug_ptr C (.node g p h l t)
theorem plug_lies {w : World} {B : Nat} : ∀ (C : Ctx) (t : Tr), (C.plug t).Lies w B ↔ C.Lies w B t.ptr ∧ t.Lies w B
  | .top, t => by simp [Ctx.plug, Ctx.Lies]
  | .left C g p h r, t => by
    show (C.plug (.node g p h t r)).Lies w B ↔ _
    rw [plug_lies C]
    constructor
    · rintro ⟨h1, h2, h3, h4, h5⟩; exact ⟨⟨h2, h3, h5, h1⟩, h4⟩
    · rintro ⟨⟨h2, h3, h5, h1⟩, h4⟩; exact ⟨h1, h2, h3, h4, h5⟩
  | .right C g p h l, t => by
    show (C.plug (.node g p h l t)).Lies w B ↔ _
    rw [plug_lies C]
    constructor
    · rintro ⟨h1, h2, h3, h4, h5⟩; exact ⟨⟨h2, h3, h4, h1⟩, h5⟩
    · rintro ⟨⟨h2, h3, h4, h1⟩, h5⟩; exact ⟨h1, h2, h3, h4, h5⟩
theorem plug_blocks : ∀ (C : Ctx) (t : Tr), (C.plug t).blocks.Perm (t.blocks ++ C.blocks)
  | .top, t => by simp [Ctx.plug, Ctx.blocks]
  | .left C g p h r, t => by
    refine (plug_blocks C (.node g p h t r)).trans ?_
    simp only [Tr.blocks, Ctx.blocks, List.cons_append, List.append_assoc]
    exact (List.perm_middle).symm
  | .right C g p h l, t => by
    refine (plug_blocks C (.node g p h l t)).trans ?_
    simp only [Tr.blocks, Ctx.blocks, List.cons_append, List.append_assoc]
    refine List.Perm.trans ?_ (List.perm_middle).symm
    refine List.Perm.cons _ ?_
    rw [← List.append_assoc, ← List.append_assoc]
    exact List.Perm.append_right _ List.perm_append_comm
theorem plug_put {p : PV} {hop : Int} {G1 G2 : Nat} : ∀ (C : Ctx) (t : Tr), C.OnPath p → putT p hop G1 G2 (C.plug t) = C.plug (putT p hop G1 G2 t)
  | .top, _, _ => rfl
  | .left C g q h r, t, hp => by
    show putT p hop G1 G2 (C.plug (.node g q h t r)) = C.plug (.node g q h (putT p hop G1 G2 t) r)
    rw [plug_put C _ hp.2.2.2]
    congr 1
    conv => lhs; unfold putT
    rw [if_neg hp.1, if_neg (by simp [hp.2.1]), if_pos hp.2.2.1]
  | .right C g q h l, t, hp => by
    show putT p hop G1 G2 (C.plug (.node g q h l t)) = C.plug (.node g q h l (putT p hop G1 G2 t))
    rw [plug_put C _ hp.2.2.2]
    congr 1
    conv => lhs; unfold putT
    rw [if_neg hp.1, if_neg (by simp [hp.2.1]), if_neg hp.2.2.1]
theorem plug_hop {p : PV} : ∀ (C : Ctx) (t : Tr), C.OnPath p → hopAt (C.plug t) p = hopAt t p
  | .top, _, _ => rfl
  | .left C g q h r, t, hp => by
    show hopAt (C.plug (.node g q h t r)) p = _
    rw [plug_hop C _ hp.2.2.2]
    conv => lhs; unfold hopAt
    rw [if_neg hp.1, if_neg (by simp [hp.2.1]), if_pos hp.2.2.1]
  | .right C g q h l, t, hp => by
    show hopAt (C.plug (.node g q h l t)) p = _
    rw [plug_hop C _ hp.2.2.2]
    conv => lhs; unfold hopAt
    rw [if_neg hp.1, if_neg (by simp [hp.2.1]), if_neg hp.2.2.1]
theorem Ctx.Lies.keep {w w' : World} {B : Nat} : ∀ {C : Ctx} {v : Value}, C.Lies w B v → (∀ g ∈ C.blocks, w'.heap[g]? = w.heap[g]?) → C.Lies w' B v
  | .top, _, _, _ => trivial
  | .left C g p h r, v, h1, h2 => ⟨h1.1, (h2 g (by simp [Ctx.blocks])).trans h1.2.1, h1.2.2.1.keep fun k hk => h2 k (by simp [Ctx.blocks, hk]), h1.2.2.2.keep fun k hk => h2 k (by simp [Ctx.blocks, hk])⟩
  | .right C g p h l, v, h1, h2 => ⟨h1.1, (h2 g (by simp [Ctx.blocks])).trans h1.2.1, h1.2.2.1.keep fun k hk => h2 k (by simp [Ctx.blocks, hk]), h1.2.2.2.keep fun k hk => h2 k (by simp [Ctx.blocks, hk])⟩
theorem Ctx.Lies.far {w : World} {B : Nat} {C : Ctx} {v : Value} (h : C.Lies w B v) {p : Addr} (hp : p.block ∉ C.blocks) (u : Value) : C.Lies (w.setCell p u) B v :=
  h.keep fun g hg => Below.heap_setCell w p u g (fun e => by subst e; exact hp hg)
/-- A store at a place that is not the top one. -/
theorem Ctx.Lies.store {w : World} {B tb : Nat} {six : Bool} {v : Value} (u : Value) : ∀ {C : Ctx}, ¬ C = .top → C.Lies w B v → C.blocks.Nodup → C.Lies (w.setCell (C.slot tb six) u) B u
  | .top, h0, _, _ => absurd rfl h0
  | .left C g p h r, _, h1, hn => by
    simp only [Ctx.blocks, List.nodup_cons, List.mem_append, not_or] at hn
    exact ⟨h1.1, h1.2.1.set_ 5 u, h1.2.2.1.far (p := ⟨g, 5, none⟩) hn.1.1 u, h1.2.2.2.far (p := ⟨g, 5, none⟩) hn.1.2 u⟩
  | .right C g p h l, _, h1, hn => by
    simp only [Ctx.blocks, List.nodup_cons, List.mem_append, not_or] at hn
    exact ⟨h1.1, h1.2.1.set_ 6 u, h1.2.2.1.far (p := ⟨g, 6, none⟩) hn.1.1 u, h1.2.2.2.far (p := ⟨g, 6, none⟩) hn.1.2 u⟩
theorem Ctx.slot_cell {w : World} {B tb : Nat} {six : Bool} {v : Value} : ∀ {C : Ctx}, ¬ C = .top → C.Lies w B v → w.cell? (C.slot tb six) = some v ∧ w.frozen? (C.slot tb six) = false ∧ (C.slot tb six).block ∈ C.blocks
  | .top, h0, _ => absurd rfl h0
  | .left C g p h r, _, h1 => ⟨h1.2.1.cell 5, h1.2.1.frozen 5, by simp [Ctx.slot, Ctx.blocks]⟩
  | .right C g p h l, _, h1 => ⟨h1.2.1.cell 6, h1.2.1.frozen 6, by simp [Ctx.slot, Ctx.blocks]⟩
theorem outer_const {C : Ctx} (h : ¬ C = .top) (u v : Value) : C.outer u = C.outer v := by
  cases C with
  | top => exact absurd rfl h
  | left C g p h r => rfl
  | right C g p h l => rfl

/-- A table as it lies in memory. -/
structure Tab (w : World) (B tb : Nat) (R : Bool → Tr) (c : Int) : Prop where
  blk : Blk w tb 241 #[(R false).ptr, (R true).ptr, .int .i64 c]
  base : B ≤ tb
  lies : ∀ s, (R s).Lies w B
  nodup : (tb :: ((R false).blocks ++ (R true).blocks)).Nodup
def tabBlocks (tb : Nat) (R : Bool → Tr) : List Nat := tb :: ((R false).blocks ++ (R true).blocks)
theorem mem_tab {tb : Nat} {R : Bool → Tr} {s : Bool} {g : Nat} (h : g ∈ (R s).blocks) : g ∈ tabBlocks tb R := by
  cases s <;> simp [tabBlocks, h]
theorem Tab.keep {w w' : World} {B tb : Nat} {R : Bool → Tr} {c : Int} (h : Tab w B tb R c) (hk : ∀ g ∈ tabBlocks tb R, w'.heap[g]? = w.heap[g]?) : Tab w' B tb R c :=
  ⟨(hk tb (by simp [tabBlocks])).trans h.blk, h.base, fun s => (h.lies s).keep fun g hg => hk g (mem_tab hg), h.nodup⟩
theorem Tab.lt {w : World} {B tb : Nat} {R : Bool → Tr} {c : Int} (h : Tab w B tb R c) : ∀ g ∈ tabBlocks tb R, B ≤ g ∧ g < w.heap.size := by
  intro g hg
  simp only [tabBlocks, List.mem_cons, List.mem_append] at hg
  rcases hg with rfl | hg | hg
  · exact ⟨h.base, h.blk.lt⟩
  · exact (h.lies false).lt g hg
  · exact (h.lies true).lt g hg
theorem Tab.below {w w' : World} {B tb : Nat} {R : Bool → Tr} {c : Int} (h : Tab w B tb R c) (hb : Below w.heap.size w w') : Tab w' B tb R c := h.keep fun g hg => hb.block g (h.lt g hg).2

def upd (R : Bool → Tr) (s : Bool) (t : Tr) : Bool → Tr := fun s' => if s' = s then t else R s'
theorem upd_same (R : Bool → Tr) (s : Bool) (t : Tr) : upd R s t s = t := by simp [upd]
theorem upd_other (R : Bool → Tr) (s : Bool) (t : Tr) : upd R s t (!s) = R (!s) := by cases s <;> simp [upd]

theorem nodup_parts {w : World} {B tb : Nat} {R : Bool → Tr} {c : Int} {s : Bool} {C : Ctx} {cur : Tr} (h : Tab w B tb R c) (hR : R s = C.plug cur) :
    tb ∉ cur.blocks ∧ tb ∉ C.blocks ∧ tb ∉ (R (!s)).blocks ∧ cur.blocks.Nodup ∧ C.blocks.Nodup ∧ (∀ g ∈ cur.blocks, g ∉ C.blocks ∧ g ∉ (R (!s)).blocks) ∧ (∀ g ∈ C.blocks, g ∉ (R (!s)).blocks) ∧ (R (!s)).blocks.Nodup := by
  have hp := plug_blocks C cur
  rw [← hR] at hp
  have hn := h.nodup
  have hall : (tb :: ((R s).blocks ++ (R (!s)).blocks)).Nodup := by
    cases s
    · exact hn
    · refine (List.Perm.nodup_iff ?_).1 hn
      exact List.Perm.cons _ List.perm_append_comm
  have hall2 : (tb :: ((cur.blocks ++ C.blocks) ++ (R (!s)).blocks)).Nodup := (List.Perm.nodup_iff (List.Perm.cons _ (List.Perm.append_right _ hp))).1 hall
  simp only [List.nodup_cons, List.mem_append, not_or, List.nodup_append] at hall2
  obtain ⟨⟨⟨a1, a2⟩, a3⟩, ⟨b1, b2, b3⟩, b4, b5⟩ := hall2
  exact ⟨a1, a2, a3, b1, b2, fun g hg => ⟨fun h => b3 g hg g h rfl, fun h => b5 g (.inl hg) g h rfl⟩, fun g hg h => b5 g (.inr hg) g h rfl, b4⟩

theorem tab_of {w : World} {B tb : Nat} {R : Bool → Tr} {c : Int} {s : Bool} {C : Ctx} {new : Tr} (hb : Blk w tb 241 #[(upd R s (C.plug new) false).ptr, (upd R s (C.plug new) true).ptr, .int .i64 c]) (h0 : B ≤ tb)
    (h1 : C.Lies w B new.ptr) (h2 : new.Lies w B) (h3 : (R (!s)).Lies w B)
    (n1 : tb ∉ new.blocks) (n2 : tb ∉ C.blocks) (n3 : tb ∉ (R (!s)).blocks) (n4 : new.blocks.Nodup) (n5 : C.blocks.Nodup) (n6 : ∀ g ∈ new.blocks, g ∉ C.blocks ∧ g ∉ (R (!s)).blocks) (n7 : ∀ g ∈ C.blocks, g ∉ (R (!s)).blocks) (n8 : (R (!s)).blocks.Nodup) :
    Tab w B tb (upd R s (C.plug new)) c := by
  have hp := plug_blocks C new
  have hx : (tb :: ((C.plug new).blocks ++ (R (!s)).blocks)).Nodup := by
    refine (List.Perm.nodup_iff (List.Perm.cons _ (List.Perm.append_right _ hp))).2 ?_
    simp only [List.nodup_cons, List.mem_append, not_or, List.nodup_append]
    exact ⟨⟨⟨n1, n2⟩, n3⟩, ⟨n4, n5, fun a ha b hb e => by subst e; exact (n6 a ha).1 hb⟩, n8, fun a ha b hb e => by
      subst e
      rcases ha with ha | ha
      · exact (n6 a ha).2 hb
      · exact n7 a ha hb⟩
  refine ⟨hb, h0, fun s' => ?_, ?_⟩
  · by_cases e : s' = s
    · subst e; rw [upd_same]; exact (plug_lies C new).2 ⟨h1, h2⟩
    · have : s' = !s := by cases s <;> cases s' <;> simp_all
      subst this
      rw [upd_other]; exact h3
  · cases s
    · simpa [upd] using hx
    · have : (tb :: ((R false).blocks ++ (C.plug new).blocks)).Nodup := (List.Perm.nodup_iff (List.Perm.cons _ List.perm_append_comm)).1 hx
      simpa [upd] using this

/-- A store at a place of a tree. -/
theorem Tab.store {w : World} {B tb : Nat} {R : Bool → Tr} {c : Int} {s : Bool} {C : Ctx} {cur new : Tr} (h : Tab w B tb R c) (hR : R s = C.plug cur) (hl : new.Lies w B) (hn : new.blocks.Nodup)
    (hd : ∀ g ∈ new.blocks, g ∈ cur.blocks ∨ g ∉ tabBlocks tb R) : Tab (w.setCell (C.slot tb s) new.ptr) B tb (upd R s (C.plug new)) c := by
  obtain ⟨n1, n2, n3, n4, n5, n6, n7, n8⟩ := nodup_parts h hR
  have hC : ∀ g ∈ C.blocks, g ∈ tabBlocks tb R := by
    intro g hg
    have : g ∈ (R s).blocks := by rw [hR]; exact (plug_blocks C cur).mem_iff.2 (by simp [hg])
    exact mem_tab this
  have m1 : tb ∉ new.blocks := fun hx => by
    rcases hd tb hx with h' | h'
    · exact n1 h'
    · exact h' (by simp [tabBlocks])
  have m6 : ∀ g ∈ new.blocks, g ∉ C.blocks ∧ g ∉ (R (!s)).blocks := fun g hg => by
    rcases hd g hg with h' | h'
    · exact n6 g h'
    · exact ⟨fun hx => h' (hC g hx), fun hx => h' (mem_tab hx)⟩
  have hCl := (plug_lies C cur).1 (hR ▸ h.lies s)
  by_cases ht : C = .top
  · subst ht
    refine tab_of ?_ h.base trivial (hl.far (p := slotOf tb s) m1 _) ((h.lies (!s)).far (p := slotOf tb s) n3 _) m1 n2 n3 hn n5 m6 n7 n8
    have := h.blk.set_ (if s then 1 else 0) new.ptr
    cases s
    · simpa [upd, Ctx.plug, Ctx.slot, slotOf] using this
    · simpa [upd, Ctx.plug, Ctx.slot, slotOf] using this
  · have hsl := (Ctx.slot_cell (tb := tb) (six := s) ht hCl.1).2.2
    refine tab_of ?_ h.base (hCl.1.store new.ptr ht n5) (hl.far (fun hx => (m6 _ hx).1 hsl) _) ((h.lies (!s)).far (fun hx => n7 _ hsl hx) _) m1 n2 n3 hn n5 m6 n7 n8
    have := h.blk.far (p := C.slot tb s) (fun e => by rw [e] at n2; exact n2 hsl) new.ptr
    have e : (C.plug new).ptr = (R s).ptr := by rw [hR, plug_ptr, plug_ptr]; exact outer_const ht _ _
    cases s
    · simpa [upd, e] using this
    · simpa [upd, e] using this

/-- A node's hop is stored. -/
theorem Tab.hop {w : World} {B tb : Nat} {R : Bool → Tr} {c : Int} {s : Bool} {C : Ctx} {g : Nat} {q : PV} {h0 : Int} {l r : Tr} (h : Tab w B tb R c) (hR : R s = C.plug (.node g q h0 l r)) (hop : Int) :
    Tab (w.setCell ⟨g, 4, none⟩ (.int .i64 hop)) B tb (upd R s (C.plug (.node g q hop l r))) c := by
  obtain ⟨n1, n2, n3, n4, n5, n6, n7, n8⟩ := nodup_parts h hR
  have hCl := (plug_lies C _).1 (hR ▸ h.lies s)
  obtain ⟨b1, b2, b3, b4⟩ := hCl.2
  have hg : g ∈ (Tr.node g q h0 l r).blocks := by simp [Tr.blocks]
  have n4' := n4
  simp only [Tr.blocks, List.nodup_cons, List.mem_append, not_or] at n4'
  refine tab_of ?_ h.base (hCl.1.far (p := ⟨g, 4, none⟩) (n6 g hg).1 _) ⟨b1, b2.set_ 4 _, b3.far (p := ⟨g, 4, none⟩) n4'.1.1 _, b4.far (p := ⟨g, 4, none⟩) n4'.1.2 _⟩ ((h.lies (!s)).far (p := ⟨g, 4, none⟩) (n6 g hg).2 _) n1 n2 n3 n4 n5 n6 n7 n8
  have := h.blk.far (p := ⟨g, 4, none⟩) (fun e => by subst e; exact n1 hg) (.int .i64 hop)
  have e : (C.plug (.node g q hop l r)).ptr = (R s).ptr := by rw [hR, plug_ptr, plug_ptr]; rfl
  cases s
  · simpa [upd, e] using this
  · simpa [upd, e] using this
theorem Tab.count {w : World} {B tb : Nat} {R : Bool → Tr} {c : Int} (h : Tab w B tb R c) (c' : Int) : Tab (w.setCell ⟨tb, 2, none⟩ (.int .i64 c')) B tb R c' := by
  have hn := h.nodup
  simp only [List.nodup_cons, List.mem_append, not_or] at hn
  refine ⟨h.blk.set_ 2 _, h.base, fun s => (h.lies s).far (p := ⟨tb, 2, none⟩) (by cases s; exact hn.1.1; exact hn.1.2) _, h.nodup⟩

theorem Tab.slot {w : World} {B tb : Nat} {R : Bool → Tr} {c : Int} {s : Bool} {C : Ctx} {cur : Tr} (h : Tab w B tb R c) (hR : R s = C.plug cur) :
    w.cell? (C.slot tb s) = some cur.ptr ∧ w.frozen? (C.slot tb s) = false ∧ (C.slot tb s).block ∈ tabBlocks tb R := by
  by_cases ht : C = .top
  · subst ht
    have e : (R s).ptr = cur.ptr := by rw [hR]; rfl
    refine ⟨?_, h.blk.frozen _, by simp [Ctx.slot, slotOf, tabBlocks]⟩
    show w.cell? ⟨tb, _, none⟩ = _
    rw [h.blk.cell, ← e]
    cases s <;> rfl
  · have hCl := (plug_lies C cur).1 (hR ▸ h.lies s)
    obtain ⟨a, b, d⟩ := Ctx.slot_cell (tb := tb) (six := s) ht hCl.1
    refine ⟨a, b, mem_tab (s := s) ?_⟩
    rw [hR]
    exact (plug_blocks C cur).mem_iff.2 (by simp [d])
theorem Tab.node {w : World} {B tb : Nat} {R : Bool → Tr} {c : Int} {s : Bool} {C : Ctx} {g : Nat} {q : PV} {h0 : Int} {l r : Tr} (h : Tab w B tb R c) (hR : R s = C.plug (.node g q h0 l r)) :
    Blk w g 244 (nodeCs q h0 l.ptr r.ptr) ∧ g ∈ tabBlocks tb R := by
  have hCl := (plug_lies C _).1 (hR ▸ h.lies s)
  refine ⟨hCl.2.2.1, mem_tab (s := s) ?_⟩
  rw [hR]
  exact (plug_blocks C _).mem_iff.2 (by simp [Tr.blocks])

/-- All blocks but some are as they were. -/
structure Kept (S : List Nat) (w w' : World) : Prop where
  os : w'.os = w.os
  tape : w'.tape = w.tape
  output : w'.output = w.output
  size : w.heap.size ≤ w'.heap.size
  block : ∀ k, k < w.heap.size → k ∉ S → w'.heap[k]? = w.heap[k]?

end Go.Proofs.Ytonelibgaceflaa
