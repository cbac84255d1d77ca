/-
  
  
  
  
  
  
  
  
  
  
  
  
  
  
  
  
  
-/
import Derived.Test.YtmljdjakbbedlaaC1
import Derived.Test.YtmljdjakbbedlaaChecked
import Derived.Laws.BitsAllLaws
import Derived.Deep.RegionWith
namespace Go.Proofs.Ytmljdjakbbedlaa
open Go.RowKit

theorem cell_add {w : World} {X : Addr} {j : Nat} {u : Value} (h : w.cell? (X.add j) = some u) : w.cell? ⟨X.block, X.off + j, none⟩ = some u := by
  have hs := World.cell?_spot h
  have e : X.add j = ⟨X.block, X.off + j, none⟩ := by
    obtain ⟨b, o, s⟩ := X
    unfold Addr.add at hs ⊢
    by_cases hj : j = 0
    · subst hj
      simp at hs ⊢
      exact hs
    · simp [hj] at hs ⊢
      try exact hs
  rwa [e] at h

theorem flat_at {α : Type} {size : Nat} {f : α → List Value} (hf : ∀ x, (f x).length = size) : ∀ (l : List α) (k : Nat) (x : α) (j : Nat) (u : Value), l[k]? = some x → (f x)[j]? = some u → (l.flatMap f)[k * size + j]? = some u
  | [], k, x, j, u, h, _ => by simp at h
  | y :: l, 0, x, j, u, h, hu => by
    simp at h
    subst h
    rw [List.flatMap_cons, List.getElem?_append_left (by have := (List.getElem?_eq_some_iff.1 hu).1; omega), Nat.zero_mul, Nat.zero_add]
    exact hu
  | y :: l, k + 1, x, j, u, h, hu => by
    rw [List.flatMap_cons, List.getElem?_append_right (by rw [hf, Nat.succ_mul]; omega), hf, show (k + 1) * size + j - size = k * size + j from by rw [Nat.succ_mul]; omega]
    exact flat_at hf l k x j u (by simpa using h) hu

/-- Element k of a slice of structs, cell by cell, in the walk's own spelling. -/
theorem Reads.atS {w : World} {B n k size : Nat} {A : Option Addr} {α : Type} {l : List α} {f : α → List Value} (hf : ∀ x, (f x).length = size) (hz : l.length = n) (h : Reads w B size A n (l.flatMap f)) (hk : k < n) :
    ∃ ad x, A = some ad ∧ l[k]? = some x ∧ l.take (k + 1) = l.take k ++ [x] ∧ x ∈ l ∧ ad.block < B ∧ (∀ u, (f x)[0]? = some u → w.cell? (ad.add (k * size)) = some u) ∧
      ∀ j u, (f x)[j]? = some u → w.cell? ⟨(ad.add (k * size)).block, (ad.add (k * size)).off + j, none⟩ = some u := by
  obtain ⟨ad, rfl, hb, hc⟩ := h.2 (by omega)
  have hx : l[k]? = some (l[k]'(by omega)) := List.getElem?_eq_getElem (by omega)
  refine ⟨ad, l[k]'(by omega), rfl, hx, by rw [List.take_add_one, hx]; rfl, List.getElem_mem _, hb, fun u hu => ?_, fun j u hu => ?_⟩
  · have := hc _ u (flat_at hf l k _ 0 u hx hu)
    exact this
  · have := hc _ u (flat_at hf l k _ j u hx hu)
    rw [← add_of_add] at this
    exact cell_add this

theorem box1b {w w1 : World} {cs : List Value} {t : TypeId} {fr : Nat × Nat} {o : Obj} (hb : Below ((w.alloc (.cells cs.toArray t fr)).alloc o).heap.size ((w.alloc (.cells cs.toArray t fr)).alloc o) w1) :
    Below w.heap.size w w1 ∧ w.heap.size + 1 < w1.heap.size ∧ ∀ j u, cs[j]? = some u → w1.cell? ⟨w.heap.size, j, none⟩ = some u := by
  have hs := hb.size
  simp at hs
  refine ⟨below_step (((Below.refl _ _).alloc (Nat.le_refl _) _).alloc (by simp) _) hb, by omega, fun j u hj => cell_step hb ?_⟩
  rw [World.cell?_alloc_past _ _ _ (by simp)]
  have e := heap_alloc_new w (.cells cs.toArray t fr)
  unfold World.cell?
  simp only [e]
  simpa using hj
theorem step1 {w1 w2 : World} {o : Obj} (hb : Below (w1.alloc o).heap.size (w1.alloc o) w2) : Below w1.heap.size w1 w2 := below_step ((Below.refl _ _).alloc (Nat.le_refl _) _) hb

end Go.Proofs.Ytmljdjakbbedlaa

namespace Go.Proofs.Ytmljdjakbbedlaa
open Go.ChangeShapes Go.WideShapes Go.ChangeAt Go.RowKit

/-- Behind a call that changes nothing that existed all old cells read as before. -/
theorem bcell {W w1 : World} (hb : Below W.heap.size W w1) : (∀ b o, b < W.heap.size → w1.cell? ⟨b, o, none⟩ = W.cell? ⟨b, o, none⟩) ∧ (∀ b o, b < W.heap.size → w1.frozen? ⟨b, o, none⟩ = W.frozen? ⟨b, o, none⟩) :=
  ⟨fun b o h => hb.cell (p := ⟨b, o, none⟩) h, fun b o h => hb.frozen (p := ⟨b, o, none⟩) h⟩

theorem bsize1 {w w1 : World} {o : Obj} (hb : Below (w.alloc o).heap.size (w.alloc o) w1) : w.heap.size < w1.heap.size := by
  have := hb.size
  simp at this
  omega
theorem bsize2 {w w1 : World} {o o' : Obj} (hb : Below ((w.alloc o).alloc o').heap.size ((w.alloc o).alloc o') w1) : w.heap.size < w1.heap.size ∧ w.heap.size + 1 < w1.heap.size := by
  have := hb.size
  simp at this
  omega
theorem bsize3 {w w1 : World} {o o' o'' : Obj} (hb : Below (((w.alloc o).alloc o').alloc o'').heap.size (((w.alloc o).alloc o').alloc o'') w1) :
    w.heap.size < w1.heap.size ∧ w.heap.size + 1 < w1.heap.size ∧ w.heap.size + 1 + 1 < w1.heap.size := by
  have := hb.size
  simp at this
  omega
theorem balloc1 {w w1 : World} {o : Obj} (hb : Below (w.alloc o).heap.size (w.alloc o) w1) : Below w.heap.size w w1 := below_step ((Below.refl _ _).alloc (Nat.le_refl _) _) hb
theorem balloc2 {w w1 : World} {o o' : Obj} (hb : Below ((w.alloc o).alloc o').heap.size ((w.alloc o).alloc o') w1) : Below w.heap.size w w1 :=
  below_step (((Below.refl _ _).alloc (Nat.le_refl _) _).alloc (by simp) _) hb
theorem balloc3 {w w1 : World} {o o' o'' : Obj} (hb : Below (((w.alloc o).alloc o').alloc o'').heap.size (((w.alloc o).alloc o').alloc o'') w1) : Below w.heap.size w w1 :=
  below_step ((((Below.refl _ _).alloc (Nat.le_refl _) _).alloc (by simp) _).alloc (by simp; omega) _) hb

/-- The same behind a world that differs from a named one by draws alone. -/
theorem bcellN {w1 X w2 : World} (hb : Below X.heap.size X w2) (hX : X.heap = w1.heap) :
    (∀ b o, b < w1.heap.size → w2.cell? ⟨b, o, none⟩ = w1.cell? ⟨b, o, none⟩) ∧ (∀ b o, b < w1.heap.size → w2.frozen? ⟨b, o, none⟩ = w1.frozen? ⟨b, o, none⟩) ∧ w1.heap.size ≤ w2.heap.size := by
  have hs : X.heap.size = w1.heap.size := by rw [hX]
  refine ⟨fun b o h => ?_, fun b o h => ?_, by have := hb.size; omega⟩
  · exact (hb.cell (p := ⟨b, o, none⟩) (by show b < _; omega)).trans (World.cell?_of_block (w := w1) (by rw [hX]))
  · exact (hb.frozen (p := ⟨b, o, none⟩) (by show b < _; omega)).trans (World.frozen?_of_block (w := w1) (by rw [hX]))

/-! What a region keeps: all cells of a world w1. -/
theorem keep0 (w1 : World) : (∀ b o, b < w1.heap.size → w1.drew.cell? ⟨b, o, none⟩ = w1.cell? ⟨b, o, none⟩) ∧ w1.heap.size ≤ w1.drew.heap.size ∧ Hid (Below w1.heap.size w1 w1.drew) :=
  ⟨fun _ _ _ => rfl, Nat.le_refl _, (Below.refl _ _).drew⟩
theorem keepD {w1 X : World} (h : (∀ b o, b < w1.heap.size → X.cell? ⟨b, o, none⟩ = w1.cell? ⟨b, o, none⟩) ∧ w1.heap.size ≤ X.heap.size ∧ Hid (Below w1.heap.size w1 X)) :
    (∀ b o, b < w1.heap.size → X.drew.cell? ⟨b, o, none⟩ = w1.cell? ⟨b, o, none⟩) ∧ w1.heap.size ≤ X.drew.heap.size ∧ Hid (Below w1.heap.size w1 X.drew) :=
  ⟨h.1, h.2.1, h.2.2.out.drew⟩
theorem keep1 {w1 X w2 : World} (h : (∀ b o, b < w1.heap.size → X.cell? ⟨b, o, none⟩ = w1.cell? ⟨b, o, none⟩) ∧ w1.heap.size ≤ X.heap.size ∧ Hid (Below w1.heap.size w1 X)) (hb : Below X.heap.size X w2) :
    (∀ b o, b < w1.heap.size → w2.cell? ⟨b, o, none⟩ = w1.cell? ⟨b, o, none⟩) ∧ w1.heap.size ≤ w2.heap.size ∧ Hid (Below w1.heap.size w1 w2) :=
  ⟨fun b o hb' => (hb.cell (p := ⟨b, o, none⟩) (by show b < _; have := h.2.1; omega)).trans (h.1 b o hb'), Nat.le_trans h.2.1 hb.size, below_step h.2.2.out hb⟩

theorem own_block_lt {w : World} {base : Nat} {e : TypeId} {size n : Nat} {v : Value} {xs : List Value} (h : w.ownsRow base e size v n xs) {k : Nat} (hk : w.heap.size ≤ k) : v.ownBlock ≠ some k := by
  rcases h.2 with ⟨rfl, _⟩ | ⟨g, cap, cur, rfl, _, hh, _⟩
  · simp [Value.ownBlock]
  · intro he
    have : g = k := by simpa [Value.ownBlock] using he
    subst this
    rw [Array.getElem?_eq_none hk] at hh
    cases hh

/-- As wpList_append_one, where the number of the new block is spelled otherwise; it tells of all blocks but the row's own. -/
theorem wpList_append_oneN {P : Program} {ops : Array Oper} {rest : List Oper} {o : Oper} {a : Act} {Q : Exit → Act → World → Prop} {w0 : World} {us : List Value} {fr : Nat × Nat} {e : TypeId} {g : Nat} (hgd : o.guard = none) (s x : Operand) (t : TypeId)
    (ho : o.op = .call { callee := .builtin .append, args := #[s, x], argTypes := #[t, t] })
    (base : Nat) (z : Value) (size bytes : Nat) (ht : P.underlying t = some (.slice e)) (hi : (P.info? e).map (fun i => (i.zero, i.size, i.bytes)) = some (some z, size, bytes))
    (hzs : z.cells.size = size) (hsz : 0 < size) (v : Value) (n : Nat) (xs : List Value) (hs : a.eval s = v)
    (hx : a.eval x = .slice (some ⟨g, 0, none⟩) 1 1) (hg : g = w0.heap.size) (hown : w0.ownsRow base e size v n xs) (hbase : base ≤ w0.heap.size)
    (hl : us.length = size) (h1 : ∀ u ∈ us, u.oneCell' = true) (h63 : n + 1 ≤ maxLen) (hbytes : (n + 1) * bytes ≤ 140737488355328)
    (h : ∀ v' w', w'.ownsRow base e size v' (n + 1) (xs ++ us) → Below base w0 w' → w0.heap.size < w'.heap.size → (∀ k, k < w0.heap.size → v.ownBlock ≠ some k → w'.heap[k]? = w0.heap[k]?) → wpList P ops Q rest (a.put o.dst v') w') :
    wpList P ops Q (o :: rest) a (w0.alloc (.cells us.toArray e fr)) := by
  subst hg
  obtain ⟨i0, hi, hz0, hz1, hz2⟩ := info_parts hi
  refine wpList_append_own _ hgd s x t ho base e i0 z size bytes ht hi hz0 hz1 hz2 hzs hsz v n xs hs (hown.alloc _) ⟨w0.heap.size, 0, none⟩ 1 1 us hx (by omega) ?_ h1 h63 hbytes (by simp; omega) ?_
  · intro j u hj
    have e1 : (⟨w0.heap.size, 0, none⟩ : Addr).add j = ⟨w0.heap.size, j, none⟩ := by unfold Addr.add; split <;> simp_all
    rw [e1]
    have : (w0.alloc (.cells us.toArray e fr)).heap[w0.heap.size]? = some (.cells us.toArray e fr) := heap_alloc_new w0 _
    unfold World.cell?
    simp only [this]
    simpa using hj
  · intro v' w' hown' hg _
    have hb : Below base w0 (w0.alloc (.cells us.toArray e fr)) := (Below.refl _ _).alloc hbase _
    refine h v' w' hown' (hb.grown hg (by simp; omega) ?_) ?_ ?_
    · intro k hk
      rcases hown.2 with ⟨rfl, _⟩ | ⟨g, cap, cur, rfl, hgb, _⟩
      · simp [Value.ownBlock] at hk
      · simp only [Value.ownBlock, Option.some.injEq] at hk
        omega
    · have := hg.size
      simp at this
      omega
    · intro k hk hne
      rw [hg.block k (by simp; omega) (fun he => hne he.symm)]
      exact Below.heap_alloc _ _ _ hk

theorem keepB {w1 X w2 : World} (h : (∀ b o, b < w1.heap.size → X.cell? ⟨b, o, none⟩ = w1.cell? ⟨b, o, none⟩) ∧ w1.heap.size ≤ X.heap.size ∧ Hid (Below w1.heap.size w1 X)) (hb : Below w1.heap.size X w2) :
    (∀ b o, b < w1.heap.size → w2.cell? ⟨b, o, none⟩ = w1.cell? ⟨b, o, none⟩) ∧ w1.heap.size ≤ w2.heap.size ∧ Hid (Below w1.heap.size w1 w2) :=
  ⟨fun b o hb' => (hb.cell (p := ⟨b, o, none⟩) hb').trans (h.1 b o hb'), Nat.le_trans h.2.1 hb.size, h.2.2.out.trans hb⟩
theorem keepBelow {w1 X : World} (h : (∀ b o, b < w1.heap.size → X.cell? ⟨b, o, none⟩ = w1.cell? ⟨b, o, none⟩) ∧ w1.heap.size ≤ X.heap.size ∧ Hid (Below w1.heap.size w1 X)) : Below w1.heap.size w1 X := h.2.2.out
theorem keepSize {w1 X : World} (h : (∀ b o, b < w1.heap.size → X.cell? ⟨b, o, none⟩ = w1.cell? ⟨b, o, none⟩) ∧ w1.heap.size ≤ X.heap.size ∧ Hid (Below w1.heap.size w1 X)) : w1.heap.size ≤ X.heap.size := h.2.1
theorem keepA {w1 X : World} (h : (∀ b o, b < w1.heap.size → X.cell? ⟨b, o, none⟩ = w1.cell? ⟨b, o, none⟩) ∧ w1.heap.size ≤ X.heap.size ∧ Hid (Below w1.heap.size w1 X)) (o : Obj) :
    (∀ b o', b < w1.heap.size → (X.alloc o).cell? ⟨b, o', none⟩ = w1.cell? ⟨b, o', none⟩) ∧ w1.heap.size ≤ (X.alloc o).heap.size ∧ Hid (Below w1.heap.size w1 (X.alloc o)) :=
  keepB h ((Below.refl _ _).alloc h.2.1 o)

/-- A builtin append in a region that draws its order: a row of the call's own, and whatever is appended. -/
theorem step_append_below {P : Program} {ops : Array Oper} {o : Oper} {a : Act} {w : World} {K : Act → World → Prop} {Q : Exit → Act → World → Prop} {E : Prop} (hgd : o.guard = none) (s x : Operand) (t : TypeId)
    (ho : o.op = .call { callee := .builtin .append, args := #[s, x], argTypes := #[t, t] })
    (base : Nat) (e : TypeId) (z : Value) (size bytes : Nat) (ht : P.underlying t = some (.slice e)) (hi : (P.info? e).map (fun i => (i.zero, i.size, i.bytes)) = some (some z, size, bytes))
    (hzs : z.cells.size = size) (hsz : 0 < size)
    (v : Value) (n : Nat) (xs : List Value) (hs : a.eval s = v) (hown : w.ownsRow base e size v n xs)
    (B : Nat) (A : Option Addr) (m c : Nat) (news : List Value) (hx : a.eval x = .slice A m c) (hr : Reads w B size A m news) (h1 : ∀ u ∈ news, u.oneCell' = true)
    (h63 : n + m ≤ maxLen) (hbytes : (n + m) * bytes ≤ 140737488355328) (hbase : base ≤ w.heap.size)
    (h : ∀ v' w', w'.ownsRow base e size v' (n + m) (xs ++ news) → Below base w w' → K (a.put o.dst v') w') :
    if Region.wanted o (yielded ops a.tmps) = true then Oper.wp P o a w K Q else E := by
  obtain ⟨i0, hi, hz0, hz1, hz2⟩ := info_parts hi
  refine step_append_any w hgd s x t ho base e i0 z size bytes ht hi hz0 hz1 hz2 hzs hsz v n xs hs hown B A m c news hx hr h1 h63 hbytes hbase fun v' w' h2 h3 _ => h v' w' h2 ((Below.refl _ _).grown h3 hbase ?_)
  intro k hk
  rcases hown.2 with ⟨rfl, _⟩ | ⟨g, cap, cur, rfl, hgb, _⟩
  · simp [Value.ownBlock] at hk
  · simp only [Value.ownBlock, Option.some.injEq] at hk
    omega

/-- A builtin append onto nil in a region that draws its order: a new block; nothing that existed is changed. -/
theorem step_append_nil {P : Program} {ops : Array Oper} {o : Oper} {a : Act} {w : World} {K : Act → World → Prop} {Q : Exit → Act → World → Prop} {E : Prop} (hgd : o.guard = none) (s x : Operand) (t : TypeId)
    (ho : o.op = .call { callee := .builtin .append, args := #[s, x], argTypes := #[t, t] })
    (base : Nat) (e : TypeId) (z : Value) (size bytes : Nat) (ht : P.underlying t = some (.slice e)) (hi : (P.info? e).map (fun i => (i.zero, i.size, i.bytes)) = some (some z, size, bytes))
    (hzs : z.cells.size = size) (hsz : 0 < size) (hs : a.eval s = .slice none 0 0)
    (B : Nat) (A : Option Addr) (m c : Nat) (news : List Value) (hx : a.eval x = .slice A m c) (hr : Reads w B size A m news) (h1 : ∀ u ∈ news, u.oneCell' = true)
    (h63 : m ≤ maxLen) (hbytes : m * bytes ≤ 140737488355328) (hbase : base ≤ w.heap.size)
    (h : ∀ v' w', w'.ownsRow base e size v' m news → Below w.heap.size w w' → K (a.put o.dst v') w') :
    if Region.wanted o (yielded ops a.tmps) = true then Oper.wp P o a w K Q else E := by
  obtain ⟨i0, hi, hz0, hz1, hz2⟩ := info_parts hi
  refine step_append_any w hgd s x t ho base e i0 z size bytes ht hi hz0 hz1 hz2 hzs hsz (.slice none 0 0) 0 [] hs (World.ownsRow_nil _ _ _ _) B A m c news hx hr h1 (by omega) (by rw [Nat.zero_add]; exact hbytes) hbase fun v' w' h2 h3 _ => h v' w' (by rw [Nat.zero_add, List.nil_append] at h2; exact h2) ((Below.refl _ _).grown h3 (Nat.le_refl _) ?_)
  intro k hk
  simp [Value.ownBlock] at hk

theorem reads_one {w : World} {g : Nat} {u : Value} (h : w.cell? ⟨g, 0, none⟩ = some u) (hg : g < w.heap.size) : Reads w w.heap.size 1 (some ⟨g, 0, none⟩) 1 [u] := by
  refine ⟨rfl, fun _ => ⟨_, rfl, hg, fun j v hj => ?_⟩⟩
  have : j = 0 := by
    rcases Nat.eq_zero_or_pos j with h0 | h0
    · exact h0
    · rw [List.getElem?_eq_none (by simp; omega)] at hj; cases hj
  subst this
  simp at hj
  subst hj
  exact h

end Go.Proofs.Ytmljdjakbbedlaa

namespace Go.Proofs.Ytmljdjakbbedlaa
open Go.ChangeShapes Go.WideShapes Go.ChangeAt Go.RowKit

def PV.cells (p : PV) : List Value := [.bool p.six, .int .u64 p.hi, .int .u64 p.lo, .int .i64 p.n]
theorem PV.cells_length (p : PV) : p.cells.length = 4 := rfl
def PV.val (p : PV) : Value := .agg #[.bool p.six, .int .u64 p.hi, .int .u64 p.lo, .int .i64 p.n]
def Tr.ptr : Tr → Value
  | .nil => .pointer none
  | .node g _ _ _ _ => .pointer (some ⟨g, 0, none⟩)
def nodeCs (p : PV) (h : Int) (a b : Value) : Array Value := #[.bool p.six, .int .u64 p.hi, .int .u64 p.lo, .int .i64 p.n, .int .i64 h, a, b]
def Tr.blocks : Tr → List Nat
  | .nil => []
  | .node g _ _ l r => g :: (l.blocks ++ r.blocks)
def Tr.size : Tr → Nat
  | .nil => 0
  | .node _ _ _ l r => l.size + r.size + 1
def Tr.Lies (w : World) (B : Nat) : Tr → Prop
  | .nil => True
  | .node g p h l r => B ≤ g ∧ Blk w g 193 (nodeCs p h l.ptr r.ptr) ∧ l.Lies w B ∧ r.Lies w B

theorem Tr.Lies.keep {w w' : World} {B : Nat} : ∀ {t : Tr}, t.Lies w B → (∀ g ∈ t.blocks, w'.heap[g]? = w.heap[g]?) → t.Lies w' B
  | .nil, _, _ => trivial
  | .node g p h l r, h1, h2 => ⟨h1.1, (h2 g (by simp [Tr.blocks])).trans h1.2.1, h1.2.2.1.keep fun k hk => h2 k (by simp [Tr.blocks, hk]), h1.2.2.2.keep fun k hk => h2 k (by simp [Tr.blocks, hk])⟩
theorem Tr.Lies.lt {w : World} {B : Nat} : ∀ {t : Tr}, t.Lies w B → ∀ g ∈ t.blocks, B ≤ g ∧ g < w.heap.size
  | .nil, _, g, hg => by simp [Tr.blocks] at hg
  | .node g p h l r, h1, k, hk => by
    simp only [Tr.blocks, List.mem_cons, List.mem_append] at hk
    rcases hk with rfl | hk | hk
    · exact ⟨h1.1, h1.2.1.lt⟩
    · exact h1.2.2.1.lt k hk
    · exact h1.2.2.2.lt k hk
theorem Tr.Lies.below {w w' : World} {B : Nat} {t : Tr} (h : t.Lies w B) (hb : Below w.heap.size w w') : t.Lies w' B := h.keep fun g hg => hb.block g (h.lt g hg).2
theorem Tr.Lies.far {w : World} {B : Nat} {t : Tr} (h : t.Lies w B) {p : Addr} (hp : p.block ∉ t.blocks) (u : Value) : t.Lies (w.setCell p u) B :=
  h.keep fun g hg => Below.heap_setCell w p u g (fun e => by subst e; exact hp hg)

/-- What stands round a place of a tree. -/
inductive Ctx where
  | top : Ctx
  | left (C : Ctx) (g : Nat) (p : PV) (h : Int) (r : Tr) : Ctx
  | right (C : Ctx) (g : Nat) (p : PV) (h : Int) (l : Tr) : Ctx

def Ctx.plug : Ctx → Tr → Tr
  | .top, t => t
  | .left C g p h r, t => C.plug (.node g p h t r)
  | .right C g p h l, t => C.plug (.node g p h l t)
def slotOf (tb : Nat) (six : Bool) : Addr := ⟨tb, if six then 1 else 0, none⟩
def Ctx.slot (tb : Nat) (six : Bool) : Ctx → Addr
  | .top => slotOf tb six
  | .left _ g _ _ _ => ⟨g, 5, none⟩
  | .right _ g _ _ _ => ⟨g, 6, none⟩
def Ctx.outer : Ctx → Value → Value
  | .top, v => v
  | .left C g _ _ _, _ => C.outer (.pointer (some ⟨g, 0, none⟩))
  | .right C g _ _ _, _ => C.outer (.pointer (some ⟨g, 0, none⟩))
def Ctx.blocks : Ctx → List Nat
  | .top => []
  | .left C g _ _ r => g :: (r.blocks ++ C.blocks)
  | .right C g _ _ l => g :: (l.blocks ++ C.blocks)
def Ctx.Lies (w : World) (B : Nat) : Ctx → Value → Prop
  | .top, _ => True
  | .left C g p h r, v => B ≤ g ∧ Blk w g 193 (nodeCs p h v r.ptr) ∧ r.Lies w B ∧ C.Lies w B (.pointer (some ⟨g, 0, none⟩))
  | .right C g p h l, v => B ≤ g ∧ Blk w g 193 (nodeCs p h l.ptr v) ∧ l.Lies w B ∧ C.Lies w B (.pointer (some ⟨g, 0, none⟩))
/-- p's way leads to the place. -/
def Ctx.OnPath (p : PV) : Ctx → Prop
  | .top => True
  | .left C _ q _ _ => ¬ q = p ∧ q.over p = true ∧ p.bit q.n = 0 ∧ C.OnPath p
  | .right C _ q _ _ => ¬ q = p ∧ q.over p = true ∧ ¬ p.bit q.n = 0 ∧ C.OnPath p

theorem plug_ptr : ∀ (C : Ctx) (t : Tr), (C.plug t).ptr = C.outer t.ptr
  | .top, _ => rfl
  | .left C g p h r, t => plug_ptr C (.node g p h t r)
  | .right C g p h l, t => plug_ptr C (.node g p h l t)
theorem plug_lies {w : World} {B : Nat} : ∀ (C : Ctx) (t : Tr), (C.plug t).Lies w B ↔ C.Lies w B t.ptr ∧ t.Lies w B
  | .top, t => by simp [Ctx.plug, Ctx.Lies]
  | .left C g p h r, t => by
    show (C.plug (.node g p h t r)).Lies w B ↔ _
    rw [plug_lies C]
    constructor
    · rintro ⟨h1, h2, h3, h4, h5⟩; exact ⟨⟨h2, h3, h5, h1⟩, h4⟩
    · rintro ⟨⟨h2, h3, h5, h1⟩, h4⟩; exact ⟨h1, h2, h3, h4, h5⟩
  | .right C g p h l, t => by
    show (C.plug (.node g p h l t)).Lies w B ↔ _
    rw [plug_lies C]
    constructor
    · rintro ⟨h1, h2, h3, h4, h5⟩; exact ⟨⟨h2, h3, h4, h1⟩, h5⟩
    · rintro ⟨⟨h2, h3, h4, h1⟩, h5⟩; exact ⟨h1, h2, h3, h4, h5⟩
theorem plug_blocks : ∀ (C : Ctx) (t : Tr), (C.plug t).blocks.Perm (t.blocks ++ C.blocks)
  | .top, t => by simp [Ctx.plug, Ctx.blocks]
  | .left C g p h r, t => by
    refine (plug_blocks C (.node g p h t r)).trans ?_
    simp only [Tr.blocks, Ctx.blocks, List.cons_append, List.append_assoc]
    exact (List.perm_middle).symm
  | .right C g p h l, t => by
    refine (plug_blocks C (.node g p h l t)).trans ?_
    simp only [Tr.blocks, Ctx.blocks, List.cons_append, List.append_assoc]
    refine List.Perm.trans ?_ (List.perm_middle).symm
    refine List.Perm.cons _ ?_
    rw [← List.append_assoc, ← List.append_assoc]
    exact List.Perm.append_right _ List.perm_append_comm
theorem plug_put {p : PV} {hop : Int} {G1 G2 : Nat} : ∀ (C : Ctx) (t : Tr), C.OnPath p → putT p hop G1 G2 (C.plug t) = C.plug (putT p hop G1 G2 t)
  | .top, _, _ => rfl
  | .left C g q h r, t, hp => by
    show putT p hop G1 G2 (C.plug (.node g q h t r)) = C.plug (.node g q h (putT p hop G1 G2 t) r)
    rw [plug_put C _ hp.2.2.2]
    congr 1
    conv => lhs; unfold putT
    rw [if_neg hp.1, if_neg (by simp [hp.2.1]), if_pos hp.2.2.1]
  | .right C g q h l, t, hp => by
    show putT p hop G1 G2 (C.plug (.node g q h l t)) = C.plug (.node g q h l (putT p hop G1 G2 t))
    rw [plug_put C _ hp.2.2.2]
    congr 1
    conv => lhs; unfold putT
    rw [if_neg hp.1, if_neg (by simp [hp.2.1]), if_neg hp.2.2.1]
theorem plug_hop {p : PV} : ∀ (C : Ctx) (t : Tr), C.OnPath p → hopAt (C.plug t) p = hopAt t p
  | .top, _, _ => rfl
  | .left C g q h r, t, hp => by
    show hopAt (C.plug (.node g q h t r)) p = _
    rw [plug_hop C _ hp.2.2.2]
    conv => lhs; unfold hopAt
    rw [if_neg hp.1, if_neg (by simp [hp.2.1]), if_pos hp.2.2.1]
  | .right C g q h l, t, hp => by
    show hopAt (C.plug (.node g q h l t)) p = _
    rw [plug_hop C _ hp.2.2.2]
    conv => lhs; unfold hopAt
    rw [if_neg hp.1, if_neg (by simp [hp.2.1]), if_neg hp.2.2.1]
theorem Ctx.Lies.keep {w w' : World} {B : Nat} : ∀ {C : Ctx} {v : Value}, C.Lies w B v → (∀ g ∈ C.blocks, w'.heap[g]? = w.heap[g]?) → C.Lies w' B v
  | .top, _, _, _ => trivial
  | .left C g p h r, v, h1, h2 => ⟨h1.1, (h2 g (by simp [Ctx.blocks])).trans h1.2.1, h1.2.2.1.keep fun k hk => h2 k (by simp [Ctx.blocks, hk]), h1.2.2.2.keep fun k hk => h2 k (by simp [Ctx.blocks, hk])⟩
  | .right C g p h l, v, h1, h2 => ⟨h1.1, (h2 g (by simp [Ctx.blocks])).trans h1.2.1, h1.2.2.1.keep fun k hk => h2 k (by simp [Ctx.blocks, hk]), h1.2.2.2.keep fun k hk => h2 k (by simp [Ctx.blocks, hk])⟩
theorem Ctx.Lies.far {w : World} {B : Nat} {C : Ctx} {v : Value} (h : C.Lies w B v) {p : Addr} (hp : p.block ∉ C.blocks) (u : Value) : C.Lies (w.setCell p u) B v :=
  h.keep fun g hg => Below.heap_setCell w p u g (fun e => by subst e; exact hp hg)
/-- A store at a place that is not the top one. -/
theorem Ctx.Lies.store {w : World} {B tb : Nat} {six : Bool} {v : Value} (u : Value) : ∀ {C : Ctx}, ¬ C = .top → C.Lies w B v → C.blocks.Nodup → C.Lies (w.setCell (C.slot tb six) u) B u
  | .top, h0, _, _ => absurd rfl h0
  | .left C g p h r, _, h1, hn => by
    simp only [Ctx.blocks, List.nodup_cons, List.mem_append, not_or] at hn
    exact ⟨h1.1, h1.2.1.set_ 5 u, h1.2.2.1.far (p := ⟨g, 5, none⟩) hn.1.1 u, h1.2.2.2.far (p := ⟨g, 5, none⟩) hn.1.2 u⟩
  | .right C g p h l, _, h1, hn => by
    simp only [Ctx.blocks, List.nodup_cons, List.mem_append, not_or] at hn
    exact ⟨h1.1, h1.2.1.set_ 6 u, h1.2.2.1.far (p := ⟨g, 6, none⟩) hn.1.1 u, h1.2.2.2.far (p := ⟨g, 6, none⟩) hn.1.2 u⟩
theorem Ctx.slot_cell {w : World} {B tb : Nat} {six : Bool} {v : Value} : ∀ {C : Ctx}, ¬ C = .top → C.Lies w B v → w.cell? (C.slot tb six) = some v ∧ w.frozen? (C.slot tb six) = false ∧ (C.slot tb six).block ∈ C.blocks
  | .top, h0, _ => absurd rfl h0
  | .left C g p h r, _, h1 => ⟨h1.2.1.cell 5, h1.2.1.frozen 5, by simp [Ctx.slot, Ctx.blocks]⟩
  | .right C g p h l, _, h1 => ⟨h1.2.1.cell 6, h1.2.1.frozen 6, by simp [Ctx.slot, Ctx.blocks]⟩
theorem outer_const {C : Ctx} (h : ¬ C = .top) (u v : Value) : C.outer u = C.outer v := by
  cases C with
  | top => exact absurd rfl h
  | left C g p h r => rfl
  | right C g p h l => rfl

/-- A table as it lies in memory. -/
structure Tab (w : World) (B tb : Nat) (R : Bool → Tr) (c : Int) : Prop where
  blk : Blk w tb 190 #[(R false).ptr, (R true).ptr, .int .i64 c]
  base : B ≤ tb
  lies : ∀ s, (R s).Lies w B
  nodup : (tb :: ((R false).blocks ++ (R true).blocks)).Nodup
def tabBlocks (tb : Nat) (R : Bool → Tr) : List Nat := tb :: ((R false).blocks ++ (R true).blocks)
theorem mem_tab {tb : Nat} {R : Bool → Tr} {s : Bool} {g : Nat} (h : g ∈ (R s).blocks) : g ∈ tabBlocks tb R := by
  cases s <;> simp [tabBlocks, h]
theorem Tab.keep {w w' : World} {B tb : Nat} {R : Bool → Tr} {c : Int} (h : Tab w B tb R c) (hk : ∀ g ∈ tabBlocks tb R, w'.heap[g]? = w.heap[g]?) : Tab w' B tb R c :=
  ⟨(hk tb (by simp [tabBlocks])).trans h.blk, h.base, fun s => (h.lies s).keep fun g hg => hk g (mem_tab hg), h.nodup⟩
theorem Tab.lt {w : World} {B tb : Nat} {R : Bool → Tr} {c : Int} (h : Tab w B tb R c) : ∀ g ∈ tabBlocks tb R, B ≤ g ∧ g < w.heap.size := by
  intro g hg
  simp only [tabBlocks, List.mem_cons, List.mem_append] at hg
  rcases hg with rfl | hg | hg
  · exact ⟨h.base, h.blk.lt⟩
  · exact (h.lies false).lt g hg
  · exact (h.lies true).lt g hg
theorem Tab.below {w w' : World} {B tb : Nat} {R : Bool → Tr} {c : Int} (h : Tab w B tb R c) (hb : Below w.heap.size w w') : Tab w' B tb R c := h.keep fun g hg => hb.block g (h.lt g hg).2

def upd (R : Bool → Tr) (s : Bool) (t : Tr) : Bool → Tr := fun s' => if s' = s then t else R s'
theorem upd_same (R : Bool → Tr) (s : Bool) (t : Tr) : upd R s t s = t := by simp [upd]
theorem upd_other (R : Bool → Tr) (s : Bool) (t : Tr) : upd R s t (!s) = R (!s) := by cases s <;> simp [upd]

theorem nodup_parts {w : World} {B tb : Nat} {R : Bool → Tr} {c : Int} {s : Bool} {C : Ctx} {cur : Tr} (h : Tab w B tb R c) (hR : R s = C.plug cur) :
    tb ∉ cur.blocks ∧ tb ∉ C.blocks ∧ tb ∉ (R (!s)).blocks ∧ cur.blocks.Nodup ∧ C.blocks.Nodup ∧ (∀ g ∈ cur.blocks, g ∉ C.blocks ∧ g ∉ (R (!s)).blocks) ∧ (∀ g ∈ C.blocks, g ∉ (R (!s)).blocks) ∧ (R (!s)).blocks.Nodup := by
  have hp := plug_blocks C cur
  rw [← hR] at hp
  have hn := h.nodup
  have hall : (tb :: ((R s).blocks ++ (R (!s)).blocks)).Nodup := by
    cases s
    · exact hn
    · refine (List.Perm.nodup_iff ?_).1 hn
      exact List.Perm.cons _ List.perm_append_comm
  have hall2 : (tb :: ((cur.blocks ++ C.blocks) ++ (R (!s)).blocks)).Nodup := (List.Perm.nodup_iff (List.Perm.cons _ (List.Perm.append_right _ hp))).1 hall
  simp only [List.nodup_cons, List.mem_append, not_or, List.nodup_append] at hall2
  obtain ⟨⟨⟨a1, a2⟩, a3⟩, ⟨b1, b2, b3⟩, b4, b5⟩ := hall2
  exact ⟨a1, a2, a3, b1, b2, fun g hg => ⟨fun h => b3 g hg g h rfl, fun h => b5 g (.inl hg) g h rfl⟩, fun g hg h => b5 g (.inr hg) g h rfl, b4⟩

theorem tab_of {w : World} {B tb : Nat} {R : Bool → Tr} {c : Int} {s : Bool} {C : Ctx} {new : Tr} (hb : Blk w tb 190 #[(upd R s (C.plug new) false).ptr, (upd R s (C.plug new) true).ptr, .int .i64 c]) (h0 : B ≤ tb)
    (h1 : C.Lies w B new.ptr) (h2 : new.Lies w B) (h3 : (R (!s)).Lies w B)
    (n1 : tb ∉ new.blocks) (n2 : tb ∉ C.blocks) (n3 : tb ∉ (R (!s)).blocks) (n4 : new.blocks.Nodup) (n5 : C.blocks.Nodup) (n6 : ∀ g ∈ new.blocks, g ∉ C.blocks ∧ g ∉ (R (!s)).blocks) (n7 : ∀ g ∈ C.blocks, g ∉ (R (!s)).blocks) (n8 : (R (!s)).blocks.Nodup) :
    Tab w B tb (upd R s (C.plug new)) c := by
  have hp := plug_blocks C new
  have hx : (tb :: ((C.plug new).blocks ++ (R (!s)).blocks)).Nodup := by
    refine (List.Perm.nodup_iff (List.Perm.cons _ (List.Perm.append_right _ hp))).2 ?_
    simp only [List.nodup_cons, List.mem_append, not_or, List.nodup_append]
    exact ⟨⟨⟨n1, n2⟩, n3⟩, ⟨n4, n5, fun a ha b hb e => by subst e; exact (n6 a ha).1 hb⟩, n8, fun a ha b hb e => by
      subst e
      rcases ha with ha | ha
      · exact (n6 a ha).2 hb
      · exact n7 a ha hb⟩
  refine ⟨hb, h0, fun s' => ?_, ?_⟩
  · by_cases e : s' = s
    · subst e; rw [upd_same]; exact (plug_lies C new).2 ⟨h1, h2⟩
    · have : s' = !s := by cases s <;> cases s' <;> simp_all
      subst this
      rw [upd_other]; exact h3
  · cases s
    · simpa [upd] using hx
    · have : (tb :: ((R false).blocks ++ (C.plug new).blocks)).Nodup := (List.Perm.nodup_iff (List.Perm.cons _ List.perm_append_comm)).1 hx
      simpa [upd] using this

/-- A store at a place of a tree. -/
theorem Tab.store {w : World} {B tb : Nat} {R : Bool → Tr} {c : Int} {s : Bool} {C : Ctx} {cur new : Tr} (h : Tab w B tb R c) (hR : R s = C.plug cur) (hl : new.Lies w B) (hn : new.blocks.Nodup)
    (hd : ∀ g ∈ new.blocks, g ∈ cur.blocks ∨ g ∉ tabBlocks tb R) : Tab (w.setCell (C.slot tb s) new.ptr) B tb (upd R s (C.plug new)) c := by
  obtain ⟨n1, n2, n3, n4, n5, n6, n7, n8⟩ := nodup_parts h hR
  have hC : ∀ g ∈ C.blocks, g ∈ tabBlocks tb R := by
    intro g hg
    have : g ∈ (R s).blocks := by rw [hR]; exact (plug_blocks C cur).mem_iff.2 (by simp [hg])
    exact mem_tab this
  have m1 : tb ∉ new.blocks := fun hx => by
    rcases hd tb hx with h' | h'
    · exact n1 h'
    · exact h' (by simp [tabBlocks])
  have m6 : ∀ g ∈ new.blocks, g ∉ C.blocks ∧ g ∉ (R (!s)).blocks := fun g hg => by
    rcases hd g hg with h' | h'
    · exact n6 g h'
    · exact ⟨fun hx => h' (hC g hx), fun hx => h' (mem_tab hx)⟩
  have hCl := (plug_lies C cur).1 (hR ▸ h.lies s)
  by_cases ht : C = .top
  · subst ht
    refine tab_of ?_ h.base trivial (hl.far (p := slotOf tb s) m1 _) ((h.lies (!s)).far (p := slotOf tb s) n3 _) m1 n2 n3 hn n5 m6 n7 n8
    have := h.blk.set_ (if s then 1 else 0) new.ptr
    cases s
    · simpa [upd, Ctx.plug, Ctx.slot, slotOf] using this
    · simpa [upd, Ctx.plug, Ctx.slot, slotOf] using this
  · have hsl := (Ctx.slot_cell (tb := tb) (six := s) ht hCl.1).2.2
    refine tab_of ?_ h.base (hCl.1.store new.ptr ht n5) (hl.far (fun hx => (m6 _ hx).1 hsl) _) ((h.lies (!s)).far (fun hx => n7 _ hsl hx) _) m1 n2 n3 hn n5 m6 n7 n8
    have := h.blk.far (p := C.slot tb s) (fun e => by rw [e] at n2; exact n2 hsl) new.ptr
    have e : (C.plug new).ptr = (R s).ptr := by rw [hR, plug_ptr, plug_ptr]; exact outer_const ht _ _
    cases s
    · simpa [upd, e] using this
    · simpa [upd, e] using this

/-- A node's hop is stored. -/
theorem Tab.hop {w : World} {B tb : Nat} {R : Bool → Tr} {c : Int} {s : Bool} {C : Ctx} {g : Nat} {q : PV} {h0 : Int} {l r : Tr} (h : Tab w B tb R c) (hR : R s = C.plug (.node g q h0 l r)) (hop : Int) :
    Tab (w.setCell ⟨g, 4, none⟩ (.int .i64 hop)) B tb (upd R s (C.plug (.node g q hop l r))) c := by
  obtain ⟨n1, n2, n3, n4, n5, n6, n7, n8⟩ := nodup_parts h hR
  have hCl := (plug_lies C _).1 (hR ▸ h.lies s)
  obtain ⟨b1, b2, b3, b4⟩ := hCl.2
  have hg : g ∈ (Tr.node g q h0 l r).blocks := by simp [Tr.blocks]
  have n4' := n4
  simp only [Tr.blocks, List.nodup_cons, List.mem_append, not_or] at n4'
  refine tab_of ?_ h.base (hCl.1.far (p := ⟨g, 4, none⟩) (n6 g hg).1 _) ⟨b1, b2.set_ 4 _, b3.far (p := ⟨g, 4, none⟩) n4'.1.1 _, b4.far (p := ⟨g, 4, none⟩) n4'.1.2 _⟩ ((h.lies (!s)).far (p := ⟨g, 4, none⟩) (n6 g hg).2 _) n1 n2 n3 n4 n5 n6 n7 n8
  have := h.blk.far (p := ⟨g, 4, none⟩) (fun e => by subst e; exact n1 hg) (.int .i64 hop)
  have e : (C.plug (.node g q hop l r)).ptr = (R s).ptr := by rw [hR, plug_ptr, plug_ptr]; rfl
  cases s
  · simpa [upd, e] using this
  · simpa [upd, e] using this
theorem Tab.count {w : World} {B tb : Nat} {R : Bool → Tr} {c : Int} (h : Tab w B tb R c) (c' : Int) : Tab (w.setCell ⟨tb, 2, none⟩ (.int .i64 c')) B tb R c' := by
  have hn := h.nodup
  simp only [List.nodup_cons, List.mem_append, not_or] at hn
  refine ⟨h.blk.set_ 2 _, h.base, fun s => (h.lies s).far (p := ⟨tb, 2, none⟩) (by cases s; exact hn.1.1; exact hn.1.2) _, h.nodup⟩

theorem Tab.slot {w : World} {B tb : Nat} {R : Bool → Tr} {c : Int} {s : Bool} {C : Ctx} {cur : Tr} (h : Tab w B tb R c) (hR : R s = C.plug cur) :
    w.cell? (C.slot tb s) = some cur.ptr ∧ w.frozen? (C.slot tb s) = false ∧ (C.slot tb s).block ∈ tabBlocks tb R := by
  by_cases ht : C = .top
  · subst ht
    have e : (R s).ptr = cur.ptr := by rw [hR]; rfl
    refine ⟨?_, h.blk.frozen _, by simp [Ctx.slot, slotOf, tabBlocks]⟩
    show w.cell? ⟨tb, _, none⟩ = _
    rw [h.blk.cell, ← e]
    cases s <;> rfl
  · have hCl := (plug_lies C cur).1 (hR ▸ h.lies s)
    obtain ⟨a, b, d⟩ := Ctx.slot_cell (tb := tb) (six := s) ht hCl.1
    refine ⟨a, b, mem_tab (s := s) ?_⟩
    rw [hR]
    exact (plug_blocks C cur).mem_iff.2 (by simp [d])
theorem Tab.node {w : World} {B tb : Nat} {R : Bool → Tr} {c : Int} {s : Bool} {C : Ctx} {g : Nat} {q : PV} {h0 : Int} {l r : Tr} (h : Tab w B tb R c) (hR : R s = C.plug (.node g q h0 l r)) :
    Blk w g 193 (nodeCs q h0 l.ptr r.ptr) ∧ g ∈ tabBlocks tb R := by
  have hCl := (plug_lies C _).1 (hR ▸ h.lies s)
  refine ⟨hCl.2.2.1, mem_tab (s := s) ?_⟩
  rw [hR]
  exact (plug_blocks C _).mem_iff.2 (by simp [Tr.blocks])

/-- All blocks but some are as they were. -/
structure Kept (S : List Nat) (w w' : World) : Prop where
  os : w'.os = w.os
  tape : w'.tape = w.tape
  output : w'.output = w.output
  size : w.heap.size ≤ w'.heap.size
  block : ∀ k, k < w.heap.size → k ∉ S → w'.heap[k]? = w.heap[k]?

end Go.Proofs.Ytmljdjakbbedlaa

namespace Go.Proofs.Ytmljdjakbbedlaa
open Go.ChangeShapes Go.WideShapes Go.ChangeAt Go.RowKit

theorem ret_bool {a b : Bool} (h : a = b) : Ending.returned (.bool a) = .returned (.bool b) := by rw [h]

set_option maxHeartbeats 400000 in
theorem may_any (six : Bool) (hi lo : Int) (w : World) (h1 : 0 ≤ lo) :
    Calls Try.prog 51 #[.agg #[.bool six, .int .u64 hi, .int .u64 lo]] w fun e w' => e = .returned (.bool (mayB six hi lo)) ∧ Below w.heap.size w w' := by
  cases six
  · by_cases hh : hi = 0
    · subst hh
      go_enter Try.func51, Try.ntmps51
      go_wp2
      go_ret
      exact ⟨ret_bool (by simp only [mayB]; rw [Bool.eq_iff_iff]; simp; omega), (Below.refl _ _).alloc (Nat.le_refl _) _⟩
    · have hb : (hi == 0) = false := by simpa using hh
      go_enter Try.func51, Try.ntmps51
      go_wp2
      go_ret
      exact ⟨ret_bool (by simp [mayB, hh]), (Below.refl _ _).alloc (Nat.le_refl _) _⟩
  · go_enter Try.func51, Try.ntmps51
    go_wp2
    go_ret
    exact ⟨ret_bool (by simp [mayB]), (Below.refl _ _).alloc (Nat.le_refl _) _⟩

set_option maxHeartbeats 400000 in
theorem refMay_any (six : Bool) (hi lo : Int) (w : World) (h1 : 0 ≤ lo) :
    Calls Try.prog 115 #[.agg #[.bool six, .int .u64 hi, .int .u64 lo]] w fun e w' => e = .returned (.bool (mayB six hi lo)) ∧ Below w.heap.size w w' := by
  cases six
  · by_cases hh : hi = 0
    · subst hh
      go_enter Try.func115, Try.ntmps115
      go_wp2
      all_goals go_ret
      all_goals exact ⟨ret_bool (by simp only [mayB]; rw [Bool.eq_iff_iff]; simp; omega), (Below.refl _ _).alloc (Nat.le_refl _) _⟩
    · have hb : (hi == 0) = false := by simpa using hh
      go_enter Try.func115, Try.ntmps115
      go_wp2
      go_ret
      exact ⟨ret_bool (by simp [mayB, hh]), (Below.refl _ _).alloc (Nat.le_refl _) _⟩
  · go_enter Try.func115, Try.ntmps115
    go_wp2
    go_ret
    exact ⟨ret_bool (by simp [mayB]), (Below.refl _ _).alloc (Nat.le_refl _) _⟩

set_option maxRecDepth 100000 in
/-- An address that came in. -/
theorem open_addr {H : Type} {enc : TypeId × Value → H} {W : World} {base : Nat} {sp : Nat → Bool} {held : Bool} {b0 : Nat} {v : Value} {d : DataW H} {p : List MemPlace}
    (hv : Value.okWide Try.prog W .any b0 35 v) (h : DataW.Trod enc Try.prog W base sp held 35 v d p) :
    ∃ six hi lo, v = .agg #[.bool six, .int .u64 hi, .int .u64 lo] ∧ (0 ≤ hi ∧ hi < 18446744073709551616) ∧ (0 ≤ lo ∧ lo < 18446744073709551616) := by
  have hc : Try.prog.cellsOf 35 = 3 := by kernel_rfl
  have hk : flat Try.prog 9 35 = some [none, some .u64, some .u64] := by kernel_rfl
  obtain ⟨cs, rfl, hf⟩ := open_flat (fun fuel cs x hl hx => trod_flat 9 _ _ fuel cs x hk hl (by rw [hc]; rfl) hx) Try.underlying35 hv h
  obtain ⟨six, _, rfl, hf1⟩ := hf.bool_inv
  obtain ⟨hi, _, rfl, wy, hf2⟩ := hf1.int_inv
  obtain ⟨lo, _, rfl, wz, hf3⟩ := hf2.int_inv
  obtain rfl := hf3.nil_inv
  exact ⟨six, hi, lo, rfl, range_u64 wy, range_u64 wz⟩

end Go.Proofs.Ytmljdjakbbedlaa

namespace Go.Proofs.Ytmljdjakbbedlaa
open Go.RowKit

theorem and1_u64 (x : Int) (h1 : 0 ≤ x) (h2 : x < 18446744073709551616) : bits .and .u64 x 1 = x % 2 := by
  rw [u64_and x 1 h1 h2 (by omega) (by omega)]
  rw [show (1 : Int).toNat = 1 from rfl, nat_mask1]
  omega

theorem or_u32 (x y : Int) (h1 : 0 ≤ x) (h2 : x < 65536) (h3 : 0 ≤ y) (h4 : y < 65536) : bits .or .u32 (x * 65536) y = x * 65536 + y := by
  rw [u32_or (x * 65536) y (by omega) (by omega) h3 (by omega), nat_join 16 _ _ (by omega) (by omega)]
  omega

theorem shr_range (x : Int) (k : Nat) (h1 : 0 ≤ x) (h2 : x < 18446744073709551616) : 0 ≤ x / 2 ^ k ∧ x / 2 ^ k < 18446744073709551616 := by
  have hp : (0 : Int) < 2 ^ k := Int.pow_pos (by omega)
  exact ⟨Int.ediv_nonneg h1 (by omega), Int.lt_of_le_of_lt (Int.ediv_le_self _ h1) h2⟩

theorem bit_wrap (x : Int) (k : Nat) (h1 : 0 ≤ x) (h2 : x < 18446744073709551616) : wrap64 (bits .and .u64 (x / 2 ^ k) 1) = x / 2 ^ k % 2 := by
  have h := shr_range x k h1 h2
  rw [and1_u64 _ h.1 h.2]
  unfold wrap64
  omega

theorem bit_wrap0 (x : Int) (h1 : 0 ≤ x) (h2 : x < 18446744073709551616) : wrap64 (bits .and .u64 x 1) = x % 2 := by
  rw [and1_u64 _ h1 h2]
  unfold wrap64
  omega

end Go.Proofs.Ytmljdjakbbedlaa

namespace Go.Proofs.Ytmljdjakbbedlaa
open Go.ChangeShapes Go.WideShapes Go.ChangeAt Go.RowKit

theorem wide_any (six : Bool) (w : World) : Calls Try.prog 100 #[.bool six] w fun e w' => e = .returned (.int .i64 (wideI six)) ∧ w = w' := by
  cases six <;>
  · go_enter Try.func100, Try.ntmps100
    go_wp2
    go_ret
    exact ⟨rfl, rfl⟩

set_option maxHeartbeats 800000 in
theorem at_any (six : Bool) (hi lo i : Int) (w : World) (h1 : 0 ≤ hi ∧ hi < 18446744073709551616) (h2 : 0 ≤ lo ∧ lo < 18446744073709551616) (h3 : 0 ≤ i) (h4 : i < wideI six) :
    Calls Try.prog 132 #[.agg #[.bool six, .int .u64 hi, .int .u64 lo], .int .i64 i] w fun e w' => e = .returned (.int .i64 (bitI six hi lo i)) ∧ Below w.heap.size w w' := by
  cases six
  · have h5 : i < 32 := h4
    clear h4
    go_enter Try.func132, Try.ntmps132
    go_wp2
    go_ret
    exact ⟨ret_int (by rw [bit_wrap _ _ h2.1 h2.2]; simp [bitI]), (Below.refl _ _).alloc (Nat.le_refl _) _⟩
  · have h5 : i < 128 := h4
    clear h4
    by_cases h6 : i < 64
    · go_enter Try.func132, Try.ntmps132
      go_wp2
      go_ret
      exact ⟨ret_int (by rw [bit_wrap _ _ h1.1 h1.2]; simp [bitI, h6]), (Below.refl _ _).alloc (Nat.le_refl _) _⟩
    · go_enter Try.func132, Try.ntmps132
      go_wp2
      go_ret
      exact ⟨ret_int (by rw [bit_wrap _ _ h2.1 h2.2]; unfold bitI; rw [if_pos rfl, if_neg (by omega)]), (Below.refl _ _).alloc (Nat.le_refl _) _⟩

theorem infoInt : (Try.prog.info? 3).map (fun i => (i.zero, i.size, i.bytes)) = some (some (.int .i64 0), 1, 8) := by kernel_rfl

def bitsTo (f : Nat → Int) (k : Nat) : List Value := (List.range k).map fun j => Value.int .i64 (f j)
theorem bitsTo_succ (f : Nat → Int) (k : Nat) : bitsTo f (k + 1) = bitsTo f k ++ [Value.int .i64 (f k)] := by simp [bitsTo, List.range_succ]

theorem bits_four_eq (hi lo : Int) : (bitsL false hi lo).map (Value.int .i64) = bitsTo (fun j => lo / 2 ^ (31 - j) % 2) 32 := by
  unfold bitsL bitsTo
  rw [List.map_map]
  apply List.map_congr_left
  intro j hj
  have : j < 32 := by simpa [wideI] using hj
  show Value.int .i64 (bitI false hi lo j) = _
  unfold bitI
  rw [if_neg (by simp), show (31 - (j : Int)).toNat = 31 - j from by omega]

theorem bits_six_eq (hi lo : Int) : (bitsL true hi lo).map (Value.int .i64) = bitsTo (fun j => hi / 2 ^ (63 - j) % 2) 64 ++ bitsTo (fun j => lo / 2 ^ (63 - j) % 2) 64 := by
  have e : ∀ f : Nat → Int, bitsTo f 128 = bitsTo f 64 ++ bitsTo (fun j => f (64 + j)) 64 := by
    intro f
    unfold bitsTo
    rw [show (128 : Nat) = 64 + 64 from rfl, List.range_add, List.map_append, List.map_map]
    rfl
  have h1 : (bitsL true hi lo).map (Value.int .i64) = bitsTo (fun j => bitI true hi lo j) 128 := by
    unfold bitsL bitsTo
    rw [List.map_map]
    rfl
  rw [h1, e]
  refine congr (congrArg _ ?_) ?_
  · unfold bitsTo
    apply List.map_congr_left
    intro j hj
    have : j < 64 := by simpa using hj
    show Value.int .i64 (bitI true hi lo j) = _
    unfold bitI
    rw [if_pos rfl, if_pos (by omega), show (63 - (j : Int)).toNat = 63 - j from by omega]
  · unfold bitsTo
    apply List.map_congr_left
    intro j hj
    have : j < 64 := by simpa using hj
    show Value.int .i64 (bitI true hi lo ((64 + j : Nat) : Int)) = _
    unfold bitI
    rw [if_pos rfl, if_neg (by omega), show (127 - ((64 + j : Nat) : Int)).toNat = 63 - j from by omega]

def OwnBits (six : Bool) (hi lo : Int) (w : World) (e : Ending) (w' : World) : Prop :=
  ∃ v, e = .returned v ∧ w'.ownsRow (w.heap.size + 1) 3 1 v (wideI six).toNat ((bitsL six hi lo).map (Value.int .i64)) ∧ Below w.heap.size w w' ∧ w.heap.size < w'.heap.size

set_option maxHeartbeats 1000000 in
theorem bitsOf_four (hi lo : Int) (w : World) (h2 : 0 ≤ lo ∧ lo < 18446744073709551616) :
    Calls Try.prog 127 #[.agg #[.bool false, .int .u64 hi, .int .u64 lo]] w (OwnBits false hi lo w) := by
  go_enter Try.func127, Try.ntmps127
  go_wp2
  go_loopw [3, 6] (fun v i wr => ∃ k : Nat, k ≤ 32 ∧ i = .int .i64 (31 - k) ∧ wr.ownsRow (w.heap.size + 1) 3 1 v k (bitsTo (fun j => lo / 2 ^ (31 - j) % 2) k) ∧ Below (w.heap.size + 1) (w.alloc (.cells #[.bool false, .int .u64 hi, .int .u64 lo] 35)) wr)
    (fun _ i _ => (intOf i + 1).toNat)
  case atStart => exact ⟨0, by omega, rfl, World.ownsRow_nil _ _ _ _, Below.refl _ _⟩
  case round =>
    obtain ⟨k, hk, rfl, hown, hb⟩ := hrel
    have hc : wr.cell? ⟨w.heap.size, 2, none⟩ = some (.int .u64 lo) := box_cell (cs := [.bool false, .int .u64 hi, .int .u64 lo]) hb 2
    have hs := hb.size
    simp at hs
    by_cases hlt : k < 32
    · have hk1 : (0 : Int) ≤ 31 - (k : Int) := by omega
      go_wp2_with (at_builtin; go_loud (refine wpList_append_one rfl _ _ 23 rfl (w.heap.size + 1) (.int .i64 0) 1 8 Try.underlying23 infoInt rfl (by decide) _ _ _ rfl hown ?c1 rfl ?c2 rfl ?c3 ?c4 ?_))
      case c1 => omega
      case c2 => intro u hu; simp at hu; subst hu; rfl
      case c3 => unfold maxLen; omega
      case c4 => omega
      intro v' w' hown' hb' _
      have R : w'.ownsRow (w.heap.size + 1) 3 1 v' (k + 1) (bitsTo (fun j => lo / 2 ^ (31 - j) % 2) (k + 1)) := by
        rw [bitsTo_succ, ← bit_wrap _ _ h2.1 h2.2]
        exact hown'
      have B := hb.trans hb'
      clear hown' hb' hown hb hc
      go_wp2
      go_roundw
      case rel => exact ⟨k + 1, by omega, by go_num, R, B⟩
      case measure => simp [intOf]; omega
    · obtain rfl : k = 32 := by omega
      go_wp2
      go_ret
      exact ⟨_, rfl, by rw [bits_four_eq]; exact hown, below_box hb, by omega⟩

set_option maxHeartbeats 1000000 in
theorem bitsOf_six (hi lo : Int) (w : World) (h1 : 0 ≤ hi ∧ hi < 18446744073709551616) (h2 : 0 ≤ lo ∧ lo < 18446744073709551616) :
    Calls Try.prog 127 #[.agg #[.bool true, .int .u64 hi, .int .u64 lo]] w (OwnBits true hi lo w) := by
  go_enter Try.func127, Try.ntmps127
  go_wp2
  go_loopw [3, 4] (fun v i wr => ∃ k : Nat, k ≤ 64 ∧ i = .int .i64 (63 - k) ∧ wr.ownsRow (w.heap.size + 1) 3 1 v k (bitsTo (fun j => hi / 2 ^ (63 - j) % 2) k) ∧ Below (w.heap.size + 1) (w.alloc (.cells #[.bool true, .int .u64 hi, .int .u64 lo] 35)) wr)
    (fun _ i _ => (intOf i + 1).toNat)
  case atStart => exact ⟨0, by omega, rfl, World.ownsRow_nil _ _ _ _, Below.refl _ _⟩
  case round =>
    obtain ⟨k, hk, rfl, hown, hb⟩ := hrel
    have hc : wr.cell? ⟨w.heap.size, 1, none⟩ = some (.int .u64 hi) := box_cell (cs := [.bool true, .int .u64 hi, .int .u64 lo]) hb 1
    have hs := hb.size
    simp at hs
    by_cases hlt : k < 64
    · have hk1 : (0 : Int) ≤ 63 - (k : Int) := by omega
      go_wp2_with (at_builtin; go_loud (refine wpList_append_one rfl _ _ 23 rfl (w.heap.size + 1) (.int .i64 0) 1 8 Try.underlying23 infoInt rfl (by decide) _ _ _ rfl hown ?c1 rfl ?c2 rfl ?c3 ?c4 ?_))
      case c1 => omega
      case c2 => intro u hu; simp at hu; subst hu; rfl
      case c3 => unfold maxLen; omega
      case c4 => omega
      intro v' w' hown' hb' _
      have R : w'.ownsRow (w.heap.size + 1) 3 1 v' (k + 1) (bitsTo (fun j => hi / 2 ^ (63 - j) % 2) (k + 1)) := by
        rw [bitsTo_succ, ← bit_wrap _ _ h1.1 h1.2]
        exact hown'
      have B := hb.trans hb'
      clear hown' hb' hown hb hc
      go_wp2
      go_roundw
      case rel => exact ⟨k + 1, by omega, by go_num, R, B⟩
      case measure => simp [intOf]; omega
    · obtain rfl : k = 64 := by omega
      clear hc hs
      go_wp2
      obtain ⟨wo, rfl⟩ : ∃ wo : World, wo = wr := ⟨_, rfl⟩
      go_loopw [3, 5] (fun v i wr => ∃ k : Nat, k ≤ 64 ∧ i = .int .i64 (63 - k) ∧ wr.ownsRow (w.heap.size + 1) 3 1 v (64 + k) (bitsTo (fun j => hi / 2 ^ (63 - j) % 2) 64 ++ bitsTo (fun j => lo / 2 ^ (63 - j) % 2) k) ∧ Below (w.heap.size + 1) (w.alloc (.cells #[.bool true, .int .u64 hi, .int .u64 lo] 35)) wr)
        (fun _ i _ => (intOf i + 1).toNat)
      case atStart => exact ⟨0, by omega, rfl, by simpa [bitsTo] using hown, hb⟩
      case round =>
        obtain ⟨k, hk, rfl, hown, hb⟩ := hrel
        have hc : wr.cell? ⟨w.heap.size, 2, none⟩ = some (.int .u64 lo) := box_cell (cs := [.bool true, .int .u64 hi, .int .u64 lo]) hb 2
        have hs := hb.size
        simp at hs
        by_cases hlt : k < 64
        · have hk1 : (0 : Int) ≤ 63 - (k : Int) := by omega
          go_wp2_with (at_builtin; go_loud (refine wpList_append_one rfl _ _ 23 rfl (w.heap.size + 1) (.int .i64 0) 1 8 Try.underlying23 infoInt rfl (by decide) _ _ _ rfl hown ?c1 rfl ?c2 rfl ?c3 ?c4 ?_))
          case c1 => omega
          case c2 => intro u hu; simp at hu; subst hu; rfl
          case c3 => unfold maxLen; omega
          case c4 => omega
          intro v' w' hown' hb' _
          have R : w'.ownsRow (w.heap.size + 1) 3 1 v' (64 + (k + 1)) (bitsTo (fun j => hi / 2 ^ (63 - j) % 2) 64 ++ bitsTo (fun j => lo / 2 ^ (63 - j) % 2) (k + 1)) := by
            rw [bitsTo_succ _ k, ← bit_wrap _ _ h2.1 h2.2]
            exact hown'
          have B := hb.trans hb'
          clear hown' hb' hown hb hc
          go_wp2
          go_roundw
          case rel => first | exact ⟨k + 1, by omega, by go_num, R, B⟩ | ((repeat apply Exists.intro); exact ⟨⟨k + 1, by omega, by go_num, R, B⟩, rfl⟩)
          case measure => simp [intOf]; omega
        · obtain rfl : k = 64 := by omega
          go_wp2
          go_ret
          exact ⟨_, rfl, by rw [bits_six_eq]; exact hown, below_box hb, by omega⟩

theorem bitsOf_any (six : Bool) (hi lo : Int) (w : World) (h1 : 0 ≤ hi ∧ hi < 18446744073709551616) (h2 : 0 ≤ lo ∧ lo < 18446744073709551616) :
    Calls Try.prog 127 #[.agg #[.bool six, .int .u64 hi, .int .u64 lo]] w (OwnBits six hi lo w) := by
  cases six
  · exact bitsOf_four hi lo w h2
  · exact bitsOf_six hi lo w h1 h2
end Go.Proofs.Ytmljdjakbbedlaa

namespace Go.Proofs.Ytmljdjakbbedlaa
open Go.ChangeShapes Go.WideShapes Go.ChangeAt Go.RowKit

set_option maxHeartbeats 400000 in
theorem ones_any (n : Int) (w : World) (h1 : -1000 ≤ n) (h2 : n ≤ 1000) :
    Calls Try.prog 178 #[.int .i64 n] w fun e w' => e = .returned (.int .u64 (onesI n)) ∧ w = w' := by
  rcases (by omega : n ≤ 0 ∨ (0 < n ∧ n < 64) ∨ 64 ≤ n) with h | h | h
  · have e : onesI n = 0 := by unfold onesI; rw [if_pos h]
    rw [e]
    have h4 : n < 64 := by omega
    go_enter Try.func178, Try.ntmps178
    go_wp2
    all_goals go_ret
    all_goals exact ⟨ret_int (by simp [IntKind.wrap, IntKind.bits, IntKind.signed]), rfl⟩
  · have e : onesI n = IntKind.u64.wrap (18446744073709551615 * 2 ^ (64 - n).toNat) := by
      have := ones_wrap (64 - n).toNat (by omega)
      unfold onesI
      rw [if_neg (by omega), if_neg (by omega), ← this]
      simp [IntKind.wrap, IntKind.bits, IntKind.signed]
    rw [e]
    clear e
    have h3 := h.1
    have h4 := h.2
    clear h
    go_enter Try.func178, Try.ntmps178
    go_wp2
    all_goals go_ret
    all_goals exact ⟨rfl, rfl⟩
  · have e : onesI n = 18446744073709551615 := by unfold onesI; rw [if_neg (by omega), if_pos h]
    rw [e]
    go_enter Try.func178, Try.ntmps178
    go_wp2
    all_goals go_ret
    all_goals exact ⟨ret_int (by simp), rfl⟩

def maskHi (six : Bool) (n : Int) : Int := if six then onesI n else 0
def maskLo (six : Bool) (n : Int) : Int := if six then onesI (n - 64) else onesI n / 4294967296
theorem maskHi_range (six : Bool) (n : Int) : 0 ≤ maskHi six n ∧ maskHi six n < 18446744073709551616 := by
  unfold maskHi
  split
  · exact onesI_range n
  · omega
theorem maskLo_range (six : Bool) (n : Int) : 0 ≤ maskLo six n ∧ maskLo six n < 18446744073709551616 := by
  unfold maskLo
  split
  · exact onesI_range _
  · have := onesI_range n
    omega

theorem and_32 (x : Int) (h1 : 0 ≤ x) (h2 : x < 4294967296) : bits .and .u64 x 4294967295 = x := by
  rw [u64_and x _ h1 (by omega) (by omega) (by omega)]
  rw [show (4294967295 : Int).toNat = 2 ^ 32 - 1 from rfl, Nat.and_two_pow_sub_one_eq_mod, Nat.mod_eq_of_lt (by omega)]
  omega

set_option maxHeartbeats 400000 in
theorem mask_any (six : Bool) (n : Int) (w : World) (h1 : -500 ≤ n) (h2 : n ≤ 500) :
    Calls Try.prog 143 #[.bool six, .int .i64 n] w fun e w' => e = .returned (.tuple #[.int .u64 (maskHi six n), .int .u64 (maskLo six n)]) ∧ w = w' := by
  cases six
  · have hr := onesI_range n
    go_enter Try.func143, Try.ntmps143
    go_wp2_with (go_at_call 178; refine (ones_any _ _ (by omega) (by omega)).mono ?_; rintro e w' ⟨rfl, rfl⟩)
    go_ret2
    exact ⟨by rw [and_32 _ (by omega) (by omega)]; rfl, rfl⟩
  · go_enter Try.func143, Try.ntmps143
    go_wp2_with (go_at_call 178; refine (ones_any _ _ (by omega) (by omega)).mono ?_; rintro e w' ⟨rfl, rfl⟩)
    go_ret2
    exact ⟨rfl, rfl⟩

theorem and_hi (six : Bool) (hi n : Int) (h1 : 0 ≤ hi ∧ hi < 18446744073709551616) : bits .and .u64 hi (maskHi six n) = cutHi six hi n := by
  have hm := maskHi_range six n
  rw [u64_and _ _ h1.1 h1.2 hm.1 hm.2]
  unfold maskHi cutHi
  cases six
  · simp
  · exact and_ones_int hi n h1.1 h1.2

theorem and_lo (six : Bool) (lo n : Int) (h1 : 0 ≤ lo ∧ lo < 18446744073709551616) (h2 : six = false → lo < 4294967296) : bits .and .u64 lo (maskLo six n) = cutLo six lo n := by
  have hm := maskLo_range six n
  rw [u64_and _ _ h1.1 h1.2 hm.1 hm.2]
  unfold maskLo cutLo
  cases six
  · have h3 := h2 rfl
    have e := and_ones_int (lo * 4294967296) n (by omega) (by omega)
    rw [if_neg (by simp), if_neg (by simp), ← e]
    have hr := onesI_range n
    have e1 : (onesI n / 4294967296).toNat = (onesI n).toNat / 2 ^ 32 := by omega
    have e2 : lo.toNat = (lo * 4294967296).toNat / 2 ^ 32 := by omega
    rw [e1, e2, ← Nat.and_div_two_pow]
    omega
  · exact and_ones_int lo (n - 64) h1.1 h1.2

set_option maxHeartbeats 800000 in
theorem cut_any (six : Bool) (hi lo n : Int) (w : World) (h1 : 0 ≤ hi ∧ hi < 18446744073709551616) (h2 : 0 ≤ lo ∧ lo < 18446744073709551616) (h3 : six = false → lo < 4294967296) (h4 : -500 ≤ n) (h5 : n ≤ 500) :
    Calls Try.prog 107 #[.agg #[.bool six, .int .u64 hi, .int .u64 lo], .int .i64 n] w fun e w' => e = .returned (.agg #[.bool six, .int .u64 (cutHi six hi n), .int .u64 (cutLo six lo n)]) ∧ Below w.heap.size w w' := by
  rw [← and_hi six hi n h1, ← and_lo six lo n h2 h3]
  clear h3
  go_enter Try.func107, Try.ntmps107
  go_wp2_with (go_at_call 143; refine (mask_any six n _ (by omega) (by omega)).mono ?_; rintro e w' ⟨rfl, rfl⟩)
  exact bodyPost_ret (v := .agg #[.bool six, .int .u64 (bits .and .u64 hi (maskHi six n)), .int .u64 (bits .and .u64 lo (maskLo six n))]) (by simp [results, Try.results107, go_sem]) rfl
    ⟨rfl, ((Below.refl _ _).alloc (Nat.le_refl _) _).alloc (by simp) _⟩

end Go.Proofs.Ytmljdjakbbedlaa

namespace Go.Proofs.Ytmljdjakbbedlaa
open Go.ChangeShapes Go.WideShapes Go.ChangeAt Go.RowKit

set_option maxHeartbeats 1600000 in
theorem check_any (six : Bool) (hi lo n : Int) (w : World) (h1 : 0 ≤ hi ∧ hi < 18446744073709551616) (h2 : 0 ≤ lo ∧ lo < 18446744073709551616) :
    Calls Try.prog 53 #[.agg #[.bool six, .int .u64 hi, .int .u64 lo, .int .i64 n]] w fun e w' => e = .returned (.int .i64 (chk six hi lo n)) ∧ Below w.heap.size w w' := by
  unfold chk
  by_cases hm : mayB six hi lo = false
  · rw [if_pos hm]
    go_enter Try.func53, Try.ntmps53
    go_wp2_with (go_at_call 51; refine (may_any six hi lo _ h2.1).mono ?_; rintro e w1 ⟨rfl, hb⟩; obtain ⟨B1, S1, q0, q1, q2, q3⟩ := box4 hb; clear hb)
    go_ret
    exact ⟨rfl, B1⟩
  · rw [if_neg hm]
    have hm' : mayB six hi lo = true := by simpa using hm
    clear hm
    by_cases hr : n < 0
    · rw [if_pos (.inl hr)]
      go_enter Try.func53, Try.ntmps53
      go_wp2_with (go_at_call 51; refine (may_any six hi lo _ h2.1).mono ?_; rintro e w1 ⟨rfl, hb⟩; obtain ⟨B1, S1, q0, q1, q2, q3⟩ := box4 hb; clear hb)
      go_quiet ((go_at_call 100; refine (wide_any six _).mono ?_; rintro e w2 ⟨rfl, rfl⟩))
      go_wp2
      go_ret
      exact ⟨rfl, below_drewN B1 _⟩
    · have hl := wideI_le six
      have hd : decide (n < 0) = false := by simpa using hr
      by_cases hr2 : wideI six < n
      · rw [if_pos (.inr hr2)]
        go_enter Try.func53, Try.ntmps53
        go_wp2_with (go_at_call 51; refine (may_any six hi lo _ h2.1).mono ?_; rintro e w1 ⟨rfl, hb⟩; obtain ⟨B1, S1, q0, q1, q2, q3⟩ := box4 hb; clear hb)
        go_quiet ((go_at_call 100; exact Calls.quiet_of_same ((wide_any six _).mono fun e w' h => ⟨h.1, h.2.symm⟩)))
        go_wp2
        go_ret
        exact ⟨rfl, below_drewN B1 _⟩
      · rw [if_neg (by omega)]
        have hq : six = false → lo < 4294967296 := by
          rintro rfl
          exact (mayB_four hm').2
        have HQ := Lib.hid hq
        clear hq
        by_cases hc : cleanB six hi lo n = true
        · rw [if_pos hc]
          have e1 : cutHi six hi n = hi := by simp only [cleanB, Bool.and_eq_true, beq_iff_eq] at hc; exact hc.1
          have e2 : cutLo six lo n = lo := by simp only [cleanB, Bool.and_eq_true, beq_iff_eq] at hc; exact hc.2
          clear hc
          go_enter Try.func53, Try.ntmps53
          go_wp2_with (go_at_call 51; refine (may_any six hi lo _ h2.1).mono ?_; rintro e w1 ⟨rfl, hb⟩; obtain ⟨B1, S1, q0, q1, q2, q3⟩ := box4 hb; clear hb)
          go_quiet ((go_at_call 100; exact Calls.quiet_of_same ((wide_any six _).mono fun e w' h => ⟨h.1, h.2.symm⟩)))
          go_wp2_with fail
          go_region_held3 (fun w' => Below w.heap.size w w' ∧ w.heap.size < w'.heap.size ∧ w'.cell? ⟨w.heap.size, 0, none⟩ = some (.bool six) ∧ w'.cell? ⟨w.heap.size, 1, none⟩ = some (.int .u64 hi) ∧ w'.cell? ⟨w.heap.size, 2, none⟩ = some (.int .u64 lo) ∧ w'.cell? ⟨w.heap.size, 3, none⟩ = some (.int .i64 n))
            (((try go_split_ands); (repeat' apply And.intro) <;> first | assumption | exact (below_drewN B1 _).drew | exact below_step (by assumption) (by assumption) | exact cell_step (by assumption) (by assumption) | exact size_step (by assumption) (by assumption) | go_keep))
            (first | (go_at_call 107; refine (cut_any six hi lo n _ h1 h2 HQ.out (by omega) (by omega)).mono ?_; rintro e w' ⟨rfl, hb⟩))
          all_goals go_wp2
          all_goals go_ret
          all_goals (go_split_ands; exact ⟨by simp, by assumption⟩)
        · rw [if_neg hc]
          by_cases e1 : cutHi six hi n = hi
          · have e2 : ¬ cutLo six lo n = lo := by
              intro e2
              exact hc (by simp [cleanB, e1, e2])
            have e3 : (cutLo six lo n == lo) = false := by simpa using e2
            clear hc
            go_enter Try.func53, Try.ntmps53
            go_wp2_with (go_at_call 51; refine (may_any six hi lo _ h2.1).mono ?_; rintro e w1 ⟨rfl, hb⟩; obtain ⟨B1, S1, q0, q1, q2, q3⟩ := box4 hb; clear hb)
            go_quiet ((go_at_call 100; exact Calls.quiet_of_same ((wide_any six _).mono fun e w' h => ⟨h.1, h.2.symm⟩)))
            go_wp2_with fail
            go_region_held3 (fun w' => Below w.heap.size w w' ∧ w.heap.size < w'.heap.size ∧ w'.cell? ⟨w.heap.size, 0, none⟩ = some (.bool six) ∧ w'.cell? ⟨w.heap.size, 1, none⟩ = some (.int .u64 hi) ∧ w'.cell? ⟨w.heap.size, 2, none⟩ = some (.int .u64 lo) ∧ w'.cell? ⟨w.heap.size, 3, none⟩ = some (.int .i64 n))
              (((try go_split_ands); (repeat' apply And.intro) <;> first | assumption | exact (below_drewN B1 _).drew | exact below_step (by assumption) (by assumption) | exact cell_step (by assumption) (by assumption) | exact size_step (by assumption) (by assumption) | go_keep))
              (first | (go_at_call 107; refine (cut_any six hi lo n _ h1 h2 HQ.out (by omega) (by omega)).mono ?_; rintro e w' ⟨rfl, hb⟩))
            all_goals go_wp2
            all_goals go_ret
            all_goals (go_split_ands; exact ⟨by simp, by assumption⟩)
          · have e3 : (cutHi six hi n == hi) = false := by simpa using e1
            clear hc
            go_enter Try.func53, Try.ntmps53
            go_wp2_with (go_at_call 51; refine (may_any six hi lo _ h2.1).mono ?_; rintro e w1 ⟨rfl, hb⟩; obtain ⟨B1, S1, q0, q1, q2, q3⟩ := box4 hb; clear hb)
            go_quiet ((go_at_call 100; exact Calls.quiet_of_same ((wide_any six _).mono fun e w' h => ⟨h.1, h.2.symm⟩)))
            go_wp2_with fail
            go_region_held3 (fun w' => Below w.heap.size w w' ∧ w.heap.size < w'.heap.size ∧ w'.cell? ⟨w.heap.size, 0, none⟩ = some (.bool six) ∧ w'.cell? ⟨w.heap.size, 1, none⟩ = some (.int .u64 hi) ∧ w'.cell? ⟨w.heap.size, 2, none⟩ = some (.int .u64 lo) ∧ w'.cell? ⟨w.heap.size, 3, none⟩ = some (.int .i64 n))
              (((try go_split_ands); (repeat' apply And.intro) <;> first | assumption | exact (below_drewN B1 _).drew | exact below_step (by assumption) (by assumption) | exact cell_step (by assumption) (by assumption) | exact size_step (by assumption) (by assumption) | go_keep))
              (first | (go_at_call 107; refine (cut_any six hi lo n _ h1 h2 HQ.out (by omega) (by omega)).mono ?_; rintro e w' ⟨rfl, hb⟩))
            all_goals go_wp2
            all_goals go_ret
            all_goals (go_split_ands; exact ⟨by simp, by assumption⟩)

set_option maxRecDepth 100000 in
/-- A prefix that came in. -/
theorem open_prefix {H : Type} {enc : TypeId × Value → H} {W : World} {base : Nat} {sp : Nat → Bool} {held : Bool} {b0 : Nat} {v : Value} {d : DataW H} {p : List MemPlace}
    (hv : Value.okWide Try.prog W .any b0 42 v) (h : DataW.Trod enc Try.prog W base sp held 42 v d p) :
    ∃ six hi lo n, v = .agg #[.bool six, .int .u64 hi, .int .u64 lo, .int .i64 n] ∧ (0 ≤ hi ∧ hi < 18446744073709551616) ∧ (0 ≤ lo ∧ lo < 18446744073709551616) ∧ (-9223372036854775808 ≤ n ∧ n ≤ 9223372036854775807) := by
  have hc : Try.prog.cellsOf 42 = 4 := by kernel_rfl
  have hk : flat Try.prog 9 42 = some [none, some .u64, some .u64, some .i64] := by kernel_rfl
  obtain ⟨cs, rfl, hf⟩ := open_flat (fun fuel cs x hl hx => trod_flat 9 _ _ fuel cs x hk hl (by rw [hc]; rfl) hx) Try.underlying42 hv h
  obtain ⟨six, _, rfl, hf1⟩ := hf.bool_inv
  obtain ⟨hi, _, rfl, wy, hf2⟩ := hf1.int_inv
  obtain ⟨lo, _, rfl, wz, hf3⟩ := hf2.int_inv
  obtain ⟨n, _, rfl, wu, hf4⟩ := hf3.int_inv
  obtain rfl := hf4.nil_inv
  exact ⟨six, hi, lo, n, rfl, range_u64 wy, range_u64 wz, bounds_i64 wu⟩

end Go.Proofs.Ytmljdjakbbedlaa

namespace Go.Proofs.Ytmljdjakbbedlaa
open Go.ChangeShapes Go.WideShapes Go.ChangeAt Go.RowKit

theorem own_cap {w : World} {base : Nat} {e : TypeId} {size n cap : Nat} {A : Option Addr} {xs : List Value} (h : w.ownsRow base e size (.slice A n cap) n xs) : n ≤ cap ∧ cap ≤ maxLen := by
  rcases h.2 with ⟨h1, rfl⟩ | ⟨g, c, cur, hv, _, _, h3, h4, _⟩
  · injection h1 with _ _ h2
    subst h2
    exact ⟨Nat.le_refl _, by unfold maxLen; omega⟩
  · injection hv with _ _ h2
    subst h2
    exact ⟨h3, h4⟩

theorem wideN (six : Bool) : ∃ n : Nat, wideI six = n ∧ 0 < n ∧ n ≤ 128 := by
  refine ⟨(wideI six).toNat, ?_⟩
  unfold wideI
  split <;> decide

/-- Cell i of a row that the call owns, of integers. -/
theorem own_int {w : World} {base n cap g : Nat} {e : TypeId} {l : List Int} (h : w.ownsRow base e 1 (.slice (some ⟨g, 0, none⟩) n cap) n (l.map (Value.int .i64))) {i : Nat} {x : Int} (hx : l[i]? = some x) : w.cell? ⟨g, i, none⟩ = some (.int .i64 x) := by
  have := h.cells (g := g) rfl i (.int .i64 x) (by rw [List.getElem?_map, hx]; rfl)
  rwa [show (⟨g, 0, none⟩ : Addr).add i = ⟨g, i, none⟩ from by unfold Addr.add; split <;> simp_all] at this

theorem bitsL_at {six : Bool} {hi lo : Int} {m i : Nat} (hm : wideI six = m) (hi' : i < m) : (bitsL six hi lo)[i]? = some (bitI six hi lo i) := by
  unfold bitsL
  rw [hm, List.getElem?_map, List.getElem?_range (by simpa using hi')]
  rfl

def ZeroTo (six : Bool) (hi lo : Int) (k j : Nat) : Prop := ∀ i : Nat, k ≤ i → i < k + j → bitI six hi lo i = 0
theorem ZeroTo.zero (six : Bool) (hi lo : Int) (k : Nat) : ZeroTo six hi lo k 0 := fun _ _ _ => by omega
theorem ZeroTo.succ {six : Bool} {hi lo : Int} {k j : Nat} (h : ZeroTo six hi lo k j) (hb : bitI six hi lo ((k + j : Nat) : Int) = 0) : ZeroTo six hi lo k (j + 1) := fun i h1 h2 => by
  rcases Nat.lt_or_ge i (k + j) with h3 | h3
  · exact h i h1 h3
  · obtain rfl : i = k + j := by omega
    exact hb

set_option maxHeartbeats 1600000 in
theorem preFault_any (six : Bool) (hi lo n : Int) (w : World) (h1 : 0 ≤ hi ∧ hi < 18446744073709551616) (h2 : 0 ≤ lo ∧ lo < 18446744073709551616) :
    Calls Try.prog 110 #[.agg #[.bool six, .int .u64 hi, .int .u64 lo, .int .i64 n]] w fun e w' => e = .returned (.int .i64 (chk six hi lo n)) ∧ Below w.heap.size w w' := by
  unfold chk
  by_cases hm : mayB six hi lo = false
  · rw [if_pos hm]
    go_enter Try.func110, Try.ntmps110
    go_wp2_with (go_at_call 115; refine (refMay_any six hi lo _ h2.1).mono ?_; rintro e w1 ⟨rfl, hb⟩; obtain ⟨B1, S1, q0, q1, q2, q3⟩ := box4 hb; clear hb)
    go_ret
    exact ⟨rfl, B1⟩
  · rw [if_neg hm]
    have hm' : mayB six hi lo = true := by simpa using hm
    clear hm
    obtain ⟨m, hn, hpos, hle⟩ := wideN six
    rw [hn]
    have HN := Lib.hid hn
    clear hn
    by_cases hr : n < 0
    · rw [if_pos (.inl hr)]
      go_enter Try.func110, Try.ntmps110
      go_wp2_with (go_at_call 115; refine (refMay_any six hi lo _ h2.1).mono ?_; rintro e w1 ⟨rfl, hb⟩; obtain ⟨B1, S1, q0, q1, q2, q3⟩ := box4 hb; clear hb)
      refine (bitsOf_any six hi lo _ h1 h2).mono ?_
      rintro e w2 ⟨v, rfl, hown, hb2, hs2⟩
      have B2 := B1.trans (hb2.mono (Nat.le_of_lt S1))
      have Q0 := cell_step hb2 q0
      have Q1 := cell_step hb2 q1
      have Q2 := cell_step hb2 q2
      have Q3 := cell_step hb2 q3
      rw [HN.out] at hown
      simp only [Int.toNat_natCast] at hown
      obtain ⟨g, cap, rfl, hg, hlt⟩ := hown.form hpos
      have hncap := own_cap hown
      have HO := Lib.hid hown
      clear hown hb2 q0 q1 q2 q3
      go_wp2
      go_ret
      exact ⟨rfl, B2⟩
    · by_cases hr2 : (m : Int) < n
      · rw [if_pos (.inr hr2)]
        go_enter Try.func110, Try.ntmps110
        go_wp2_with (go_at_call 115; refine (refMay_any six hi lo _ h2.1).mono ?_; rintro e w1 ⟨rfl, hb⟩; obtain ⟨B1, S1, q0, q1, q2, q3⟩ := box4 hb; clear hb)
        refine (bitsOf_any six hi lo _ h1 h2).mono ?_
        rintro e w2 ⟨v, rfl, hown, hb2, hs2⟩
        have B2 := B1.trans (hb2.mono (Nat.le_of_lt S1))
        have Q0 := cell_step hb2 q0
        have Q1 := cell_step hb2 q1
        have Q2 := cell_step hb2 q2
        have Q3 := cell_step hb2 q3
        rw [HN.out] at hown
        simp only [Int.toNat_natCast] at hown
        obtain ⟨g, cap, rfl, hg, hlt⟩ := hown.form hpos
        have hncap := own_cap hown
        have HO := Lib.hid hown
        clear hown hb2 q0 q1 q2 q3
        go_wp2
        go_ret
        exact ⟨rfl, B2⟩
      · rw [if_neg (by omega)]
        obtain ⟨k, rfl⟩ := Int.eq_ofNat_of_zero_le (by omega : 0 ≤ n)
        have hkm : k ≤ m := by omega
        obtain ⟨r, hr0⟩ : ∃ r : Int, r = if cleanB six hi lo k = true then 0 else 5 := ⟨_, rfl⟩
        rw [← hr0]
        have hci := clean_iff six hi lo k h1 h2 hm' (by rw [HN.out]; omega)
        rw [HN.out] at hci
        have hall : ZeroTo six hi lo k (m - k) → r = 0 := fun hz => by
          rw [hr0, if_pos (hci.2 fun i h3 h4 => hz i h3 (by omega))]
        have hone : ∀ j : Nat, j < m - k → bitI six hi lo ((k + j : Nat) : Int) = 1 → r = 5 := fun j hj hb => by
          rw [hr0, if_neg]
          intro hc
          have := hci.1 hc (k + j) (by omega) (by omega)
          omega
        have HA := Lib.hid hall
        have HB := Lib.hid hone
        clear hall hone hr0 hci hr hr2
        have hd : decide ((k : Int) < 0) = false := by simp
        have hd2 : decide ((m : Int) < (k : Int)) = false := by simp; omega
        go_enter Try.func110, Try.ntmps110
        go_wp2_with (go_at_call 115; refine (refMay_any six hi lo _ h2.1).mono ?_; rintro e w1 ⟨rfl, hb⟩; obtain ⟨B1, S1, q0, q1, q2, q3⟩ := box4 hb; clear hb)
        refine (bitsOf_any six hi lo _ h1 h2).mono ?_
        rintro e w2 ⟨v, rfl, hown, hb2, hs2⟩
        have B2 := B1.trans (hb2.mono (Nat.le_of_lt S1))
        have Q0 := cell_step hb2 q0
        have Q1 := cell_step hb2 q1
        have Q2 := cell_step hb2 q2
        have Q3 := cell_step hb2 q3
        rw [HN.out] at hown
        simp only [Int.toNat_natCast] at hown
        obtain ⟨g, cap, rfl, hg, hlt⟩ := hown.form hpos
        have hncap := own_cap hown
        have HO := Lib.hid hown
        clear hown hb2 q0 q1 q2 q3
        have hc1 := hncap.1
        have hc2 := hncap.2
        unfold maxLen at hc2
        clear hncap
        have hz1 : ((m - k : Nat) : Int) ≤ 128 := by omega
        by_cases hck : cap = k
        · obtain rfl : m = k := by omega
          go_wp2
          refine wp_loop_rounds 1 ?_
          rw [rounds_succ]
          go_wp2
          go_ret
          exact ⟨ret_int (HA.out (by rw [Nat.sub_self]; exact ZeroTo.zero _ _ _ _)).symm, B2⟩
        · go_wp2
          go_loop [28, 5] (fun i _ => ∃ j : Nat, j ≤ m - k ∧ i = .int .i64 j ∧ ZeroTo six hi lo k j) (fun i _ => m - k - (intOf i).toNat)
          case atStart => exact ⟨0, by omega, rfl, ZeroTo.zero _ _ _ _⟩
          case round =>
            obtain ⟨j, hj, rfl, hz⟩ := hrel
            by_cases hlt : j < m - k
            · have hcell := own_int HO.out (bitsL_at (hi := hi) (lo := lo) HN.out (show k + j < m by omega))
              have h01 := bitI_01 six hi lo ((k + j : Nat) : Int)
              have HZ := Lib.hid hz
              clear hz
              by_cases hb1 : bitI six hi lo ((k + j : Nat) : Int) = 1
              · have hr5 := HB.out j hlt hb1
                rw [hb1] at hcell
                clear hb1 h01
                have HR := Lib.hid hr5
                clear hr5
                go_wp2
                go_ret
                exact ⟨ret_int HR.out.symm, B2⟩
              · have hb0 : bitI six hi lo ((k + j : Nat) : Int) = 0 := by omega
                rw [hb0] at hcell
                have HZ2 := Lib.hid (HZ.out.succ hb0)
                clear hb1 hb0 h01
                go_wp2
                go_round
                case rel => exact ⟨j + 1, by omega, by go_num, HZ2.out⟩
                case measure => simp [intOf]; omega
            · obtain rfl : j = m - k := by omega
              have HR := Lib.hid (HA.out hz)
              clear hz
              go_wp2
              go_ret
              exact ⟨ret_int HR.out.symm, B2⟩

end Go.Proofs.Ytmljdjakbbedlaa

namespace Go.Proofs.Ytmljdjakbbedlaa
open Go.ChangeShapes Go.WideShapes Go.ChangeAt Go.RowKit

/-- What two boxes, of four cells and of three, read as later on. -/
structure Box43 (w : World) (a b c d e f g : Value) (w' : World) : Prop where
  below : Below w.heap.size w w'
  size : w.heap.size + 1 < w'.heap.size
  c0 : w'.cell? ⟨w.heap.size, 0, none⟩ = some a
  c1 : w'.cell? ⟨w.heap.size, 1, none⟩ = some b
  c2 : w'.cell? ⟨w.heap.size, 2, none⟩ = some c
  c3 : w'.cell? ⟨w.heap.size, 3, none⟩ = some d
  d0 : w'.cell? ⟨w.heap.size + 1, 0, none⟩ = some e
  d1 : w'.cell? ⟨w.heap.size + 1, 1, none⟩ = some f
  d2 : w'.cell? ⟨w.heap.size + 1, 2, none⟩ = some g

theorem box43_start (w : World) (a b c d e f g : Value) (t t' : TypeId) : Box43 w a b c d e f g ((w.alloc (.cells #[a, b, c, d] t)).alloc (.cells #[e, f, g] t')) := by
  have hb : Below w.heap.size w ((w.alloc (.cells #[a, b, c, d] t)).alloc (.cells #[e, f, g] t')) := ((Below.refl _ _).alloc (Nat.le_refl _) _).alloc (by simp) _
  have e0 : ∀ j u, (#[a, b, c, d] : Array Value)[j]? = some u → ((w.alloc (.cells #[a, b, c, d] t)).alloc (.cells #[e, f, g] t')).cell? ⟨w.heap.size, j, none⟩ = some u := by
    intro j u hj
    rw [World.cell?_alloc_past _ _ _ (by simp), World.cell?_alloc_at _ _ _ _ rfl]
    exact hj
  have e1 : ∀ j u, (#[e, f, g] : Array Value)[j]? = some u → ((w.alloc (.cells #[a, b, c, d] t)).alloc (.cells #[e, f, g] t')).cell? ⟨w.heap.size + 1, j, none⟩ = some u := by
    intro j u hj
    rw [World.cell?_alloc_at _ _ _ _ (by simp)]
    exact hj
  exact ⟨hb, by simp, e0 0 a rfl, e0 1 b rfl, e0 2 c rfl, e0 3 d rfl, e1 0 e rfl, e1 1 f rfl, e1 2 g rfl⟩

theorem Box43.step {w w1 w2 : World} {a b c d e f g : Value} (h : Box43 w a b c d e f g w1) (hb : Below w1.heap.size w1 w2) : Box43 w a b c d e f g w2 :=
  ⟨below_step h.below hb, size_step h.size hb, cell_step hb h.c0, cell_step hb h.c1, cell_step hb h.c2, cell_step hb h.c3, cell_step hb h.d0, cell_step hb h.d1, cell_step hb h.d2⟩

theorem ne_bool {a b : Bool} (h : ¬ a = b) : b = !a := by cases a <;> cases b <;> simp_all

set_option maxHeartbeats 1600000 in
theorem in_any (six : Bool) (hi lo n : Int) (six' : Bool) (hi' lo' : Int) (w : World) (h3 : 0 ≤ hi' ∧ hi' < 18446744073709551616) (h4 : 0 ≤ lo' ∧ lo' < 18446744073709551616) (h5 : six' = false → lo' < 4294967296) (h6 : -500 ≤ n) (h7 : n ≤ 500) :
    Calls Try.prog 54 #[.agg #[.bool six, .int .u64 hi, .int .u64 lo, .int .i64 n], .agg #[.bool six', .int .u64 hi', .int .u64 lo']] w fun e w' => e = .returned (.bool (inB six hi lo n six' hi' lo')) ∧ Below w.heap.size w w' := by
  have HQ := Lib.hid h5
  clear h5
  by_cases hs : six = six'
  · subst hs
    have hres : inB six hi lo n six hi' lo' = (cutHi six hi' n == hi && cutLo six lo' n == lo) := by unfold inB; simp
    rw [hres]
    clear hres
    by_cases e1 : cutHi six hi' n = hi
    · by_cases e2 : cutLo six lo' n = lo
      · subst e1 e2
        rw [beq_self_eq_true, beq_self_eq_true]
        cases six
        · obtain ⟨b0, b1, c0, c1, c2, c3, d0, d1, d2⟩ := box43_start w (.bool false) (.int .u64 (cutHi false hi' n)) (.int .u64 (cutLo false lo' n)) (.int .i64 n) (.bool false) (.int .u64 hi') (.int .u64 lo') 42 35
          go_enter Try.func54, Try.ntmps54
          go_wp2_with fail
          go_region_held3 (fun w' => Below w.heap.size w w' ∧ w.heap.size + 1 < w'.heap.size ∧ w'.cell? ⟨w.heap.size, 0, none⟩ = some (.bool false) ∧ w'.cell? ⟨w.heap.size, 1, none⟩ = some (.int .u64 (cutHi false hi' n)) ∧ w'.cell? ⟨w.heap.size, 2, none⟩ = some (.int .u64 (cutLo false lo' n)) ∧ w'.cell? ⟨w.heap.size, 3, none⟩ = some (.int .i64 n) ∧ w'.cell? ⟨w.heap.size + 1, 0, none⟩ = some (.bool false) ∧ w'.cell? ⟨w.heap.size + 1, 1, none⟩ = some (.int .u64 hi') ∧ w'.cell? ⟨w.heap.size + 1, 2, none⟩ = some (.int .u64 lo'))
            (((try go_split_ands); (repeat' apply And.intro) <;> first | assumption | exact Below.drew (by assumption) | exact cell_drew (by assumption) | exact size_drew (by assumption) | exact below_step (by assumption) (by assumption) | exact cell_step (by assumption) (by assumption) | exact size_step (by assumption) (by assumption)))
            (first | (go_at_call 107; refine (cut_any _ hi' lo' n _ h3 h4 (by first | exact fun _ => HQ.out trivial | exact fun h => HQ.out h | simp) h6 h7).mono ?_; rintro e w' ⟨rfl, hb⟩))
          all_goals go_wp2
          all_goals go_ret
          all_goals (go_split_ands; exact ⟨by simp, by assumption⟩)
        · obtain ⟨b0, b1, c0, c1, c2, c3, d0, d1, d2⟩ := box43_start w (.bool true) (.int .u64 (cutHi true hi' n)) (.int .u64 (cutLo true lo' n)) (.int .i64 n) (.bool true) (.int .u64 hi') (.int .u64 lo') 42 35
          go_enter Try.func54, Try.ntmps54
          go_wp2_with fail
          go_region_held3 (fun w' => Below w.heap.size w w' ∧ w.heap.size + 1 < w'.heap.size ∧ w'.cell? ⟨w.heap.size, 0, none⟩ = some (.bool true) ∧ w'.cell? ⟨w.heap.size, 1, none⟩ = some (.int .u64 (cutHi true hi' n)) ∧ w'.cell? ⟨w.heap.size, 2, none⟩ = some (.int .u64 (cutLo true lo' n)) ∧ w'.cell? ⟨w.heap.size, 3, none⟩ = some (.int .i64 n) ∧ w'.cell? ⟨w.heap.size + 1, 0, none⟩ = some (.bool true) ∧ w'.cell? ⟨w.heap.size + 1, 1, none⟩ = some (.int .u64 hi') ∧ w'.cell? ⟨w.heap.size + 1, 2, none⟩ = some (.int .u64 lo'))
            (((try go_split_ands); (repeat' apply And.intro) <;> first | assumption | exact Below.drew (by assumption) | exact cell_drew (by assumption) | exact size_drew (by assumption) | exact below_step (by assumption) (by assumption) | exact cell_step (by assumption) (by assumption) | exact size_step (by assumption) (by assumption)))
            (first | (go_at_call 107; refine (cut_any _ hi' lo' n _ h3 h4 (by first | exact fun _ => HQ.out trivial | exact fun h => HQ.out h | simp) h6 h7).mono ?_; rintro e w' ⟨rfl, hb⟩))
          all_goals go_wp2
          all_goals go_ret
          all_goals (go_split_ands; exact ⟨by simp, by assumption⟩)
      · have e3 : (cutLo six lo' n == lo) = false := by simpa using e2
        rw [e3, Bool.and_false]
        subst e1
        cases six
        · obtain ⟨b0, b1, c0, c1, c2, c3, d0, d1, d2⟩ := box43_start w (.bool false) (.int .u64 (cutHi false hi' n)) (.int .u64 lo) (.int .i64 n) (.bool false) (.int .u64 hi') (.int .u64 lo') 42 35
          go_enter Try.func54, Try.ntmps54
          go_wp2_with fail
          go_region_held3 (fun w' => Below w.heap.size w w' ∧ w.heap.size + 1 < w'.heap.size ∧ w'.cell? ⟨w.heap.size, 0, none⟩ = some (.bool false) ∧ w'.cell? ⟨w.heap.size, 1, none⟩ = some (.int .u64 (cutHi false hi' n)) ∧ w'.cell? ⟨w.heap.size, 2, none⟩ = some (.int .u64 lo) ∧ w'.cell? ⟨w.heap.size, 3, none⟩ = some (.int .i64 n) ∧ w'.cell? ⟨w.heap.size + 1, 0, none⟩ = some (.bool false) ∧ w'.cell? ⟨w.heap.size + 1, 1, none⟩ = some (.int .u64 hi') ∧ w'.cell? ⟨w.heap.size + 1, 2, none⟩ = some (.int .u64 lo'))
            (((try go_split_ands); (repeat' apply And.intro) <;> first | assumption | exact Below.drew (by assumption) | exact cell_drew (by assumption) | exact size_drew (by assumption) | exact below_step (by assumption) (by assumption) | exact cell_step (by assumption) (by assumption) | exact size_step (by assumption) (by assumption)))
            (first | (go_at_call 107; refine (cut_any _ hi' lo' n _ h3 h4 (by first | exact fun _ => HQ.out trivial | exact fun h => HQ.out h | simp) h6 h7).mono ?_; rintro e w' ⟨rfl, hb⟩))
          all_goals go_wp2
          all_goals go_ret
          all_goals (go_split_ands; exact ⟨by simp, by assumption⟩)
        · obtain ⟨b0, b1, c0, c1, c2, c3, d0, d1, d2⟩ := box43_start w (.bool true) (.int .u64 (cutHi true hi' n)) (.int .u64 lo) (.int .i64 n) (.bool true) (.int .u64 hi') (.int .u64 lo') 42 35
          go_enter Try.func54, Try.ntmps54
          go_wp2_with fail
          go_region_held3 (fun w' => Below w.heap.size w w' ∧ w.heap.size + 1 < w'.heap.size ∧ w'.cell? ⟨w.heap.size, 0, none⟩ = some (.bool true) ∧ w'.cell? ⟨w.heap.size, 1, none⟩ = some (.int .u64 (cutHi true hi' n)) ∧ w'.cell? ⟨w.heap.size, 2, none⟩ = some (.int .u64 lo) ∧ w'.cell? ⟨w.heap.size, 3, none⟩ = some (.int .i64 n) ∧ w'.cell? ⟨w.heap.size + 1, 0, none⟩ = some (.bool true) ∧ w'.cell? ⟨w.heap.size + 1, 1, none⟩ = some (.int .u64 hi') ∧ w'.cell? ⟨w.heap.size + 1, 2, none⟩ = some (.int .u64 lo'))
            (((try go_split_ands); (repeat' apply And.intro) <;> first | assumption | exact Below.drew (by assumption) | exact cell_drew (by assumption) | exact size_drew (by assumption) | exact below_step (by assumption) (by assumption) | exact cell_step (by assumption) (by assumption) | exact size_step (by assumption) (by assumption)))
            (first | (go_at_call 107; refine (cut_any _ hi' lo' n _ h3 h4 (by first | exact fun _ => HQ.out trivial | exact fun h => HQ.out h | simp) h6 h7).mono ?_; rintro e w' ⟨rfl, hb⟩))
          all_goals go_wp2
          all_goals go_ret
          all_goals (go_split_ands; exact ⟨by simp, by assumption⟩)
    · have e3 : (cutHi six hi' n == hi) = false := by simpa using e1
      rw [e3, Bool.false_and]
      cases six
      · obtain ⟨b0, b1, c0, c1, c2, c3, d0, d1, d2⟩ := box43_start w (.bool false) (.int .u64 hi) (.int .u64 lo) (.int .i64 n) (.bool false) (.int .u64 hi') (.int .u64 lo') 42 35
        go_enter Try.func54, Try.ntmps54
        go_wp2_with fail
        go_region_held3 (fun w' => Below w.heap.size w w' ∧ w.heap.size + 1 < w'.heap.size ∧ w'.cell? ⟨w.heap.size, 0, none⟩ = some (.bool false) ∧ w'.cell? ⟨w.heap.size, 1, none⟩ = some (.int .u64 hi) ∧ w'.cell? ⟨w.heap.size, 2, none⟩ = some (.int .u64 lo) ∧ w'.cell? ⟨w.heap.size, 3, none⟩ = some (.int .i64 n) ∧ w'.cell? ⟨w.heap.size + 1, 0, none⟩ = some (.bool false) ∧ w'.cell? ⟨w.heap.size + 1, 1, none⟩ = some (.int .u64 hi') ∧ w'.cell? ⟨w.heap.size + 1, 2, none⟩ = some (.int .u64 lo'))
          (((try go_split_ands); (repeat' apply And.intro) <;> first | assumption | exact Below.drew (by assumption) | exact cell_drew (by assumption) | exact size_drew (by assumption) | exact below_step (by assumption) (by assumption) | exact cell_step (by assumption) (by assumption) | exact size_step (by assumption) (by assumption)))
          (first | (go_at_call 107; refine (cut_any _ hi' lo' n _ h3 h4 (by first | exact fun _ => HQ.out trivial | exact fun h => HQ.out h | simp) h6 h7).mono ?_; rintro e w' ⟨rfl, hb⟩))
        all_goals go_wp2
        all_goals go_ret
        all_goals (go_split_ands; exact ⟨by simp, by assumption⟩)
      · obtain ⟨b0, b1, c0, c1, c2, c3, d0, d1, d2⟩ := box43_start w (.bool true) (.int .u64 hi) (.int .u64 lo) (.int .i64 n) (.bool true) (.int .u64 hi') (.int .u64 lo') 42 35
        go_enter Try.func54, Try.ntmps54
        go_wp2_with fail
        go_region_held3 (fun w' => Below w.heap.size w w' ∧ w.heap.size + 1 < w'.heap.size ∧ w'.cell? ⟨w.heap.size, 0, none⟩ = some (.bool true) ∧ w'.cell? ⟨w.heap.size, 1, none⟩ = some (.int .u64 hi) ∧ w'.cell? ⟨w.heap.size, 2, none⟩ = some (.int .u64 lo) ∧ w'.cell? ⟨w.heap.size, 3, none⟩ = some (.int .i64 n) ∧ w'.cell? ⟨w.heap.size + 1, 0, none⟩ = some (.bool true) ∧ w'.cell? ⟨w.heap.size + 1, 1, none⟩ = some (.int .u64 hi') ∧ w'.cell? ⟨w.heap.size + 1, 2, none⟩ = some (.int .u64 lo'))
          (((try go_split_ands); (repeat' apply And.intro) <;> first | assumption | exact Below.drew (by assumption) | exact cell_drew (by assumption) | exact size_drew (by assumption) | exact below_step (by assumption) (by assumption) | exact cell_step (by assumption) (by assumption) | exact size_step (by assumption) (by assumption)))
          (first | (go_at_call 107; refine (cut_any _ hi' lo' n _ h3 h4 (by first | exact fun _ => HQ.out trivial | exact fun h => HQ.out h | simp) h6 h7).mono ?_; rintro e w' ⟨rfl, hb⟩))
        all_goals go_wp2
        all_goals go_ret
        all_goals (go_split_ands; exact ⟨by simp, by assumption⟩)
  · have hres : inB six hi lo n six' hi' lo' = false := by
      unfold inB
      rw [show (six' == six) = false from by simpa using fun h => hs h.symm, Bool.false_and]
    rw [hres]
    clear hres
    obtain rfl := ne_bool hs
    have hb0 : Below w.heap.size w ((w.alloc (.cells #[.bool six, .int .u64 hi, .int .u64 lo, .int .i64 n] 42)).alloc (.cells #[.bool (!six), .int .u64 hi', .int .u64 lo'] 35)) := ((Below.refl _ _).alloc (Nat.le_refl _) _).alloc (by simp) _
    cases six
    · go_enter Try.func54, Try.ntmps54
      go_wp2_with fail
      go_quiet (fail)
      go_wp2
      go_ret
      exact ⟨by simp, below_drewN hb0 _⟩
    · go_enter Try.func54, Try.ntmps54
      go_wp2_with fail
      go_quiet (fail)
      go_wp2
      go_ret
      exact ⟨by simp, below_drewN hb0 _⟩

end Go.Proofs.Ytmljdjakbbedlaa

namespace Go.Proofs.Ytmljdjakbbedlaa
open Go.ChangeShapes Go.WideShapes Go.ChangeAt Go.RowKit

/-- What two boxes of four cells read as later on. -/
structure Box44 (w : World) (a b c d e f g h : Value) (w' : World) : Prop where
  below : Below w.heap.size w w'
  size : w.heap.size + 1 < w'.heap.size
  c0 : w'.cell? ⟨w.heap.size, 0, none⟩ = some a
  c1 : w'.cell? ⟨w.heap.size, 1, none⟩ = some b
  c2 : w'.cell? ⟨w.heap.size, 2, none⟩ = some c
  c3 : w'.cell? ⟨w.heap.size, 3, none⟩ = some d
  d0 : w'.cell? ⟨w.heap.size + 1, 0, none⟩ = some e
  d1 : w'.cell? ⟨w.heap.size + 1, 1, none⟩ = some f
  d2 : w'.cell? ⟨w.heap.size + 1, 2, none⟩ = some g
  d3 : w'.cell? ⟨w.heap.size + 1, 3, none⟩ = some h

theorem box44_start (w : World) (a b c d e f g h : Value) (t : TypeId) : Box44 w a b c d e f g h ((w.alloc (.cells #[a, b, c, d] t)).alloc (.cells #[e, f, g, h] t)) := by
  have hb : Below w.heap.size w ((w.alloc (.cells #[a, b, c, d] t)).alloc (.cells #[e, f, g, h] t)) := ((Below.refl _ _).alloc (Nat.le_refl _) _).alloc (by simp) _
  have e0 : ∀ j u, (#[a, b, c, d] : Array Value)[j]? = some u → ((w.alloc (.cells #[a, b, c, d] t)).alloc (.cells #[e, f, g, h] t)).cell? ⟨w.heap.size, j, none⟩ = some u := by
    intro j u hj
    rw [World.cell?_alloc_past _ _ _ (by simp), World.cell?_alloc_at _ _ _ _ rfl]
    exact hj
  have e1 : ∀ j u, (#[e, f, g, h] : Array Value)[j]? = some u → ((w.alloc (.cells #[a, b, c, d] t)).alloc (.cells #[e, f, g, h] t)).cell? ⟨w.heap.size + 1, j, none⟩ = some u := by
    intro j u hj
    rw [World.cell?_alloc_at _ _ _ _ (by simp)]
    exact hj
  exact ⟨hb, by simp, e0 0 a rfl, e0 1 b rfl, e0 2 c rfl, e0 3 d rfl, e1 0 e rfl, e1 1 f rfl, e1 2 g rfl, e1 3 h rfl⟩

theorem Box44.step {w w1 w2 : World} {a b c d e f g h : Value} (x : Box44 w a b c d e f g h w1) (hb : Below w1.heap.size w1 w2) : Box44 w a b c d e f g h w2 :=
  ⟨below_step x.below hb, size_step x.size hb, cell_step hb x.c0, cell_step hb x.c1, cell_step hb x.c2, cell_step hb x.c3, cell_step hb x.d0, cell_step hb x.d1, cell_step hb x.d2, cell_step hb x.d3⟩

def bothE (six : Bool) (hi lo n : Int) (six' : Bool) (hi' lo' n' : Int) : Int :=
  if ¬ chk six hi lo n = 0 then chk six hi lo n else if ¬ chk six' hi' lo' n' = 0 then chk six' hi' lo' n' else if ¬ six = six' then 6 else 0

set_option maxHeartbeats 1600000 in
theorem both_any (six : Bool) (hi lo n : Int) (six' : Bool) (hi' lo' n' : Int) (w : World) (h1 : 0 ≤ hi ∧ hi < 18446744073709551616) (h2 : 0 ≤ lo ∧ lo < 18446744073709551616) (h3 : 0 ≤ hi' ∧ hi' < 18446744073709551616) (h4 : 0 ≤ lo' ∧ lo' < 18446744073709551616) :
    Calls Try.prog 176 #[.agg #[.bool six, .int .u64 hi, .int .u64 lo, .int .i64 n], .agg #[.bool six', .int .u64 hi', .int .u64 lo', .int .i64 n']] w fun e w' => e = .returned (.int .i64 (bothE six hi lo n six' hi' lo' n')) ∧ Below w.heap.size w w' := by
  have c1 := fun w => check_any six hi lo n w h1 h2
  have c2 := fun w => check_any six' hi' lo' n' w h3 h4
  by_cases hz : chk six hi lo n = 0
  · by_cases hz2 : chk six' hi' lo' n' = 0
    · rw [hz] at c1
      rw [hz2] at c2
      by_cases hs : six = six'
      · have hE : bothE six hi lo n six' hi' lo' n' = 0 := by unfold bothE; rw [if_neg (fun h => h hz), if_neg (fun h => h hz2), if_neg (fun h => h hs)]
        rw [hE]
        subst hs
        have C1 := Lib.hid c1
        have C2 := Lib.hid c2
        clear c1 c2 hz hz2 hE
        go_enter Try.func176, Try.ntmps176
        go_wp2_with fail
        refine (C1.out _).mono ?_
        rintro e w1 ⟨rfl, hb⟩
        obtain ⟨b0, b1, c0, c1, c2, c3, d0, d1, d2, d3⟩ := Box44.step (box44_start w _ _ _ _ _ _ _ _ _) hb
        clear hb
        go_wp2_with fail
        refine (C2.out _).mono ?_
        rintro e w2 ⟨rfl, hb⟩
        have bx := Box44.step ⟨b0, b1, c0, c1, c2, c3, d0, d1, d2, d3⟩ hb
        clear b0 b1 c0 c1 c2 c3 d0 d1 d2 d3 hb
        obtain ⟨b0, b1, c0, c1, c2, c3, d0, d1, d2, d3⟩ := bx
        go_wp2
        go_ret
        exact ⟨rfl, b0⟩
      · have hE : bothE six hi lo n six' hi' lo' n' = 6 := by unfold bothE; rw [if_neg (fun h => h hz), if_neg (fun h => h hz2), if_pos hs]
        rw [hE]
        obtain rfl := ne_bool hs
        clear hz hz2 hE hs
        cases six
        · replace c2 : ∀ w, Calls Try.prog 53 #[.agg #[.bool true, .int .u64 hi', .int .u64 lo', .int .i64 n']] w fun e w' => e = .returned (.int .i64 0) ∧ Below w.heap.size w w' := c2
          have C1 := Lib.hid c1
          have C2 := Lib.hid c2
          clear c1 c2
          go_enter Try.func176, Try.ntmps176
          go_wp2_with fail
          refine (C1.out _).mono ?_
          rintro e w1 ⟨rfl, hb⟩
          obtain ⟨b0, b1, c0, c1, c2, c3, d0, d1, d2, d3⟩ := Box44.step (box44_start w _ _ _ _ _ _ _ _ _) hb
          clear hb
          go_wp2_with fail
          refine (C2.out _).mono ?_
          rintro e w2 ⟨rfl, hb⟩
          have bx := Box44.step ⟨b0, b1, c0, c1, c2, c3, d0, d1, d2, d3⟩ hb
          clear b0 b1 c0 c1 c2 c3 d0 d1 d2 d3 hb
          obtain ⟨b0, b1, c0, c1, c2, c3, d0, d1, d2, d3⟩ := bx
          go_wp2
          go_ret
          exact ⟨rfl, b0⟩
        · replace c2 : ∀ w, Calls Try.prog 53 #[.agg #[.bool false, .int .u64 hi', .int .u64 lo', .int .i64 n']] w fun e w' => e = .returned (.int .i64 0) ∧ Below w.heap.size w w' := c2
          have C1 := Lib.hid c1
          have C2 := Lib.hid c2
          clear c1 c2
          go_enter Try.func176, Try.ntmps176
          go_wp2_with fail
          refine (C1.out _).mono ?_
          rintro e w1 ⟨rfl, hb⟩
          obtain ⟨b0, b1, c0, c1, c2, c3, d0, d1, d2, d3⟩ := Box44.step (box44_start w _ _ _ _ _ _ _ _ _) hb
          clear hb
          go_wp2_with fail
          refine (C2.out _).mono ?_
          rintro e w2 ⟨rfl, hb⟩
          have bx := Box44.step ⟨b0, b1, c0, c1, c2, c3, d0, d1, d2, d3⟩ hb
          clear b0 b1 c0 c1 c2 c3 d0 d1 d2 d3 hb
          obtain ⟨b0, b1, c0, c1, c2, c3, d0, d1, d2, d3⟩ := bx
          go_wp2
          go_ret
          exact ⟨rfl, b0⟩
    · have hE : bothE six hi lo n six' hi' lo' n' = chk six' hi' lo' n' := by unfold bothE; rw [if_neg (fun h => h hz), if_pos hz2]
      rw [hE]
      rw [hz] at c1
      generalize chk six' hi' lo' n' = k at *
      have C1 := Lib.hid c1
      have C2 := Lib.hid c2
      have hb1 : (k == 0) = false := by simpa using hz2
      have hb2 : (k != 0) = true := by simpa using hz2
      clear c1 c2 hz hE
      go_enter Try.func176, Try.ntmps176
      go_wp2_with fail
      refine (C1.out _).mono ?_
      rintro e w1 ⟨rfl, hb⟩
      obtain ⟨b0, b1, c0, c1, c2, c3, d0, d1, d2, d3⟩ := Box44.step (box44_start w _ _ _ _ _ _ _ _ _) hb
      clear hb
      go_wp2_with fail
      refine (C2.out _).mono ?_
      rintro e w2 ⟨rfl, hb⟩
      have bx := Box44.step ⟨b0, b1, c0, c1, c2, c3, d0, d1, d2, d3⟩ hb
      clear b0 b1 c0 c1 c2 c3 d0 d1 d2 d3 hb
      obtain ⟨b0, b1, c0, c1, c2, c3, d0, d1, d2, d3⟩ := bx
      go_wp2
      go_ret
      exact ⟨rfl, b0⟩
  · have hE : bothE six hi lo n six' hi' lo' n' = chk six hi lo n := by unfold bothE; rw [if_pos hz]
    rw [hE]
    generalize chk six hi lo n = k at *
    have C1 := Lib.hid c1
    have hb1 : (k == 0) = false := by simpa using hz
    have hb2 : (k != 0) = true := by simpa using hz
    clear c1 c2 hE
    go_enter Try.func176, Try.ntmps176
    go_wp2_with fail
    refine (C1.out _).mono ?_
    rintro e w1 ⟨rfl, hb⟩
    obtain ⟨b0, b1, c0, c1, c2, c3, d0, d1, d2, d3⟩ := Box44.step (box44_start w _ _ _ _ _ _ _ _ _) hb
    clear hb
    go_wp2
    go_ret
    exact ⟨rfl, b0⟩

end Go.Proofs.Ytmljdjakbbedlaa

namespace Go.Proofs.Ytmljdjakbbedlaa
open Go.ChangeShapes Go.WideShapes Go.ChangeAt Go.RowKit

def SameTo (six : Bool) (hi lo hi' lo' : Int) (j : Nat) : Prop := ∀ i : Nat, i < j → bitI six hi lo i = bitI six hi' lo' i
theorem SameTo.succ {six : Bool} {hi lo hi' lo' : Int} {j : Nat} (h : SameTo six hi lo hi' lo' j) (hb : bitI six hi lo (j : Int) = bitI six hi' lo' (j : Int)) : SameTo six hi lo hi' lo' (j + 1) := fun i h1 => by
  rcases Nat.lt_or_ge i j with h3 | h3
  · exact h i h3
  · obtain rfl : i = j := by omega
    exact hb

set_option maxHeartbeats 1600000 in
theorem preIn_same (six : Bool) (hi lo : Int) (n : Nat) (hi' lo' : Int) (w : World) (hp : Pfx six hi lo n) (h3 : 0 ≤ hi' ∧ hi' < 18446744073709551616) (h4 : 0 ≤ lo' ∧ lo' < 18446744073709551616) (h5 : mayB six hi' lo' = true) :
    Calls Try.prog 117 #[.agg #[.bool six, .int .u64 hi, .int .u64 lo, .int .i64 n], .agg #[.bool six, .int .u64 hi', .int .u64 lo']] w fun e w' => e = .returned (.bool (inB six hi lo n six hi' lo')) ∧ Below w.heap.size w w' := by
  obtain ⟨r, hr0⟩ : ∃ r : Bool, r = inB six hi lo n six hi' lo' := ⟨_, rfl⟩
  have hi0 := inB_iff hp h3 h4 h5
  rw [← hr0] at hi0 ⊢
  have hall : SameTo six hi lo hi' lo' n → r = true := fun h => hi0.2 h
  have hone : ∀ j : Nat, j < n → ¬ bitI six hi lo j = bitI six hi' lo' j → r = false := fun j hj hb => by
    rw [Bool.eq_false_iff]
    intro h
    exact hb (hi0.1 h j hj)
  have HA := Lib.hid hall
  have HB := Lib.hid hone
  obtain ⟨m, hn, hpos, hle⟩ := wideN six
  have hlen : n ≤ m := by have := hp.len.2; omega
  have h1 := hp.rhi
  have h2 := hp.rlo
  have HN := Lib.hid hn
  clear hall hone hr0 hi0 hn hp h5
  obtain ⟨b0, b1, c0, c1, c2, c3, d0, d1, d2⟩ := box43_start w (.bool six) (.int .u64 hi) (.int .u64 lo) (.int .i64 n) (.bool six) (.int .u64 hi') (.int .u64 lo') 42 35
  go_enter Try.func117, Try.ntmps117
  go_wp2_with fail
  refine (bitsOf_any six hi lo _ h1 h2).mono ?_
  rintro e w1 ⟨v1, rfl, own1, hb1, hs1⟩
  have bx := Box43.step ⟨b0, b1, c0, c1, c2, c3, d0, d1, d2⟩ hb1
  clear b0 b1 c0 c1 c2 c3 d0 d1 d2
  obtain ⟨b0, b1, c0, c1, c2, c3, d0, d1, d2⟩ := bx
  go_wp2_with fail
  refine (bitsOf_any six hi' lo' _ h3 h4).mono ?_
  rintro e w2 ⟨v2, rfl, own2, hb2, hs2⟩
  have bx := Box43.step ⟨b0, b1, c0, c1, c2, c3, d0, d1, d2⟩ hb2
  clear b0 b1 c0 c1 c2 c3 d0 d1 d2
  obtain ⟨b0, b1, c0, c1, c2, c3, d0, d1, d2⟩ := bx
  rw [HN.out] at own1 own2
  simp only [Int.toNat_natCast] at own1 own2
  have own1' := own_below own1 hb2
  obtain ⟨g1, cap1, rfl, _, hlt1⟩ := own1.form hpos
  obtain ⟨g2, cap2, rfl, _, hlt2⟩ := own2.form hpos
  have H1 := Lib.hid own1'
  have H2 := Lib.hid own2
  clear own1 own2 own1' hb1 hb2
  have hm1 : (m : Int) ≤ 128 := by omega
  go_wp2
  go_loopw [7] (fun i wr => ∃ j : Nat, j ≤ n ∧ i = .int .i64 j ∧ SameTo six hi lo hi' lo' j ∧ Below w2.heap.size w2 wr) (fun i _ => n - (intOf i).toNat)
  case atStart => exact ⟨0, by omega, rfl, fun _ h => by omega, Below.refl _ _⟩
  case round =>
    obtain ⟨j, hj, rfl, hsame, hbr⟩ := hrel
    have q3 := cell_step hbr c3
    by_cases hlt : j < n
    · have x1 := cell_step hbr (own_int H1.out (bitsL_at (hi := hi) (lo := lo) HN.out (show j < m by omega)))
      have x2 := cell_step hbr (own_int H2.out (bitsL_at (hi := hi') (lo := lo') HN.out (show j < m by omega)))
      have k1 : (0 : Int) ≤ (j : Int) := by omega
      have k2 : (j : Int) < (m : Int) := by omega
      by_cases hb : bitI six hi lo j = bitI six hi' lo' j
      · have HS := Lib.hid (hsame.succ hb)
        rw [← hb] at x2
        clear hsame hb
        go_wp2
        go_quiet (fail)
        go_wp2
        go_roundw
        case rel => exact ⟨j + 1, by omega, by go_num, HS.out, below_drewN hbr _⟩
        case measure => simp [intOf]; omega
      · have HR := Lib.hid (HB.out j hlt hb)
        have hb' : (bitI six hi lo j == bitI six hi' lo' j) = false := by simpa using hb
        have hb'' : (bitI six hi lo j != bitI six hi' lo' j) = true := by simpa using hb
        clear hsame
        go_wp2
        go_quiet (fail)
        go_wp2
        go_ret
        exact ⟨ret_bool HR.out.symm, b0.trans ((below_drewN hbr _).mono b0.size)⟩
    · obtain rfl : j = n := by omega
      have HR := Lib.hid (HA.out hsame)
      clear hsame
      go_wp2
      go_ret
      exact ⟨ret_bool HR.out.symm, b0.trans (hbr.mono b0.size)⟩

set_option maxHeartbeats 800000 in
theorem preIn_any (six : Bool) (hi lo : Int) (n : Nat) (six' : Bool) (hi' lo' : Int) (w : World) (hp : Pfx six hi lo n) (h3 : 0 ≤ hi' ∧ hi' < 18446744073709551616) (h4 : 0 ≤ lo' ∧ lo' < 18446744073709551616) (h5 : mayB six' hi' lo' = true) :
    Calls Try.prog 117 #[.agg #[.bool six, .int .u64 hi, .int .u64 lo, .int .i64 n], .agg #[.bool six', .int .u64 hi', .int .u64 lo']] w fun e w' => e = .returned (.bool (inB six hi lo n six' hi' lo')) ∧ Below w.heap.size w w' := by
  by_cases hs : six = six'
  · subst hs
    exact preIn_same six hi lo n hi' lo' w hp h3 h4 h5
  · have hres : inB six hi lo n six' hi' lo' = false := by
      unfold inB
      rw [show (six' == six) = false from by simpa using fun h => hs h.symm, Bool.false_and]
    rw [hres]
    clear hres hp h5
    obtain rfl := ne_bool hs
    have hb0 : Below w.heap.size w ((w.alloc (.cells #[.bool six, .int .u64 hi, .int .u64 lo, .int .i64 n] 42)).alloc (.cells #[.bool (!six), .int .u64 hi', .int .u64 lo'] 35)) := ((Below.refl _ _).alloc (Nat.le_refl _) _).alloc (by simp) _
    cases six
    · go_enter Try.func117, Try.ntmps117
      go_wp2
      go_ret
      exact ⟨by simp, hb0⟩
    · go_enter Try.func117, Try.ntmps117
      go_wp2
      go_ret
      exact ⟨by simp, hb0⟩

end Go.Proofs.Ytmljdjakbbedlaa

namespace Go.Proofs.Ytmljdjakbbedlaa
open Go.ChangeShapes Go.WideShapes Go.ChangeAt Go.RowKit

theorem half_bound (l : List Int) (k : Nat) (h : Bits l) (hk : k < 64) : 0 ≤ numL (l.take k) ∧ numL (l.take k) ≤ 9223372036854775807 := by
  have h1 := numL_range (l.take k) (h.take k)
  have h2 : (2 : Int) ^ (l.take k).length ≤ 9223372036854775808 := by
    have : (2 : Nat) ^ (l.take k).length ≤ 2 ^ 63 := Nat.pow_le_pow_right (by omega) (by rw [List.length_take]; omega)
    have e : ((2 ^ (l.take k).length : Nat) : Int) = 2 ^ (l.take k).length := by simp
    rw [← e]
    have : (2 ^ 63 : Nat) = 9223372036854775808 := by decide
    omega
  omega

set_option maxRecDepth 100000 in
set_option maxHeartbeats 1600000 in
theorem addrOf_four (l : List Int) (g cap : Nat) (w : World) (hb : Bits l) (hl : l.length = 32) (hown : ∀ (i : Nat) (b : Int), l[i]? = some b → w.cell? ⟨g, i, none⟩ = some (.int .i64 b)) (hg : g < w.heap.size) :
    Calls Try.prog 98 #[.slice (some ⟨g, 0, none⟩) 32 cap] w fun e w' => e = .returned (.agg #[.bool false, .int .u64 (hiOf false l), .int .u64 (loOf false l)]) ∧ Below w.heap.size w w' := by
  have HB := Lib.hid hb
  have HL := Lib.hid hl
  have HO := Lib.hid hown
  have HE := Lib.hid (show hiOf false l = 0 ∧ loOf false l = numL l from ⟨rfl, rfl⟩)
  obtain ⟨a, ha⟩ : ∃ a, a = hiOf false l := ⟨_, rfl⟩
  obtain ⟨b, hbb⟩ : ∃ b, b = loOf false l := ⟨_, rfl⟩
  rw [← ha, ← hbb]
  rw [← ha, ← hbb] at HE
  clear hb hl hown ha hbb
  go_enter Try.func98, Try.ntmps98
  go_wp2
  go_loopw [12, 4, 5] (fun i _ _ wr => ∃ k : Nat, k ≤ 32 ∧ i = .int .i64 k ∧ wr = (w.alloc (.cells #[.bool false, .int .u64 0, .int .u64 0] 35)).alloc (.cells #[.bool false, .int .u64 0, .int .u64 (numL (l.take k))] 35)) (fun i _ _ _ => 32 - (intOf i).toNat)
  case atStart => exact ⟨0, by omega, rfl, rfl⟩
  case round =>
    obtain ⟨k, hk, rfl, rfl⟩ := hrel
    by_cases hlt : k < 32
    · obtain ⟨x, hx⟩ : ∃ x, l[k]? = some x := ⟨_, List.getElem?_eq_getElem (by rw [HL.out]; exact hlt)⟩
      have hx1 := HB.out x (List.mem_of_getElem? hx)
      have q := HO.out k x hx
      have q2 : ((w.alloc (.cells #[.bool false, .int .u64 0, .int .u64 0] 35)).alloc (.cells #[.bool false, .int .u64 0, .int .u64 (numL (l.take k))] 35)).cell? ⟨g, k, none⟩ = some (.int .i64 x) := by
        rw [World.cell?_alloc_past _ _ _ (by simp; omega), World.cell?_alloc_past _ _ _ (by simpa using hg)]
        exact q
      have hs := half_bound l k HB.out (by omega)
      have e : Hid (numL (l.take (k + 1)) = 2 * numL (l.take k) + x) := by
        show _ = _
        rw [List.take_add_one, hx]
        exact numL_snoc _ _
      clear hx q
      go_wp2
      go_roundw
      case rel => exact ⟨k + 1, by omega, by go_num, by rw [e.out]⟩
      case measure => simp [intOf]; omega
    · obtain rfl : k = 32 := by omega
      have e0 : Hid (l.take 32 = l) := by
        show _ = _
        rw [← HL.out]
        exact List.take_length
      go_wp2
      exact bodyPost_ret (v := .agg #[.bool false, .int .u64 a, .int .u64 b]) (by simp [results, Try.results98, go_sem, HE.out.1, HE.out.2, e0.out]) rfl
        ⟨rfl, ((Below.refl _ _).alloc (Nat.le_refl _) _).alloc (by simp) _⟩

def hiTo (l : List Int) (k : Nat) : Int := numL ((l.take k).take 64)
def loTo (l : List Int) (k : Nat) : Int := numL ((l.take k).drop 64)
theorem hiTo_lt {l : List Int} {k : Nat} {x : Int} (hx : l[k]? = some x) (hk : k < 64) : hiTo l (k + 1) = 2 * hiTo l k + x := by
  unfold hiTo
  rw [List.take_take, List.take_take, show min 64 (k + 1) = k + 1 from by omega, show min 64 k = k from by omega, List.take_add_one, hx]
  exact numL_snoc _ _
theorem hiTo_ge {l : List Int} {k : Nat} (hk : 64 ≤ k) : hiTo l (k + 1) = hiTo l k := by
  unfold hiTo
  rw [List.take_take, List.take_take, show min 64 (k + 1) = 64 from by omega, show min 64 k = 64 from by omega]
theorem loTo_lt {l : List Int} {k : Nat} (hk : k < 64) : loTo l (k + 1) = loTo l k := by
  unfold loTo
  rw [List.drop_eq_nil_of_le (by rw [List.length_take]; omega), List.drop_eq_nil_of_le (by rw [List.length_take]; omega)]
theorem loTo_ge {l : List Int} {k : Nat} {x : Int} (hx : l[k]? = some x) (hk : 64 ≤ k) : loTo l (k + 1) = 2 * loTo l k + x := by
  unfold loTo
  have hl := (List.getElem?_eq_some_iff.1 hx).1
  rw [List.take_add_one, hx, List.drop_append_of_le_length (by rw [List.length_take]; omega)]
  exact numL_snoc _ _
theorem hiTo_bound (l : List Int) (k : Nat) (h : Bits l) (hk : k < 64) : 0 ≤ hiTo l k ∧ hiTo l k ≤ 9223372036854775807 := by
  have := half_bound l k h hk
  unfold hiTo
  rwa [List.take_take, show min 64 k = k from by omega]
theorem loTo_bound (l : List Int) (k : Nat) (h : Bits l) (hk : k < 128) : 0 ≤ loTo l k ∧ loTo l k ≤ 9223372036854775807 := by
  have h1 := numL_range ((l.take k).drop 64) ((h.take k).drop 64)
  have h2 : (2 : Int) ^ ((l.take k).drop 64).length ≤ 9223372036854775808 := by
    have : (2 : Nat) ^ ((l.take k).drop 64).length ≤ 2 ^ 63 := Nat.pow_le_pow_right (by omega) (by rw [List.length_drop, List.length_take]; omega)
    have e : ((2 ^ ((l.take k).drop 64).length : Nat) : Int) = 2 ^ ((l.take k).drop 64).length := by simp
    rw [← e]
    have : (2 ^ 63 : Nat) = 9223372036854775808 := by decide
    omega
  unfold loTo
  omega

set_option maxRecDepth 100000 in
set_option maxHeartbeats 1600000 in
theorem addrOf_six (l : List Int) (g cap : Nat) (w : World) (hb : Bits l) (hl : l.length = 128) (hown : ∀ (i : Nat) (b : Int), l[i]? = some b → w.cell? ⟨g, i, none⟩ = some (.int .i64 b)) (hg : g < w.heap.size) :
    Calls Try.prog 98 #[.slice (some ⟨g, 0, none⟩) 128 cap] w fun e w' => e = .returned (.agg #[.bool true, .int .u64 (hiOf true l), .int .u64 (loOf true l)]) ∧ Below w.heap.size w w' := by
  have HB := Lib.hid hb
  have HL := Lib.hid hl
  have HO := Lib.hid hown
  have HE := Lib.hid (show hiOf true l = hiTo l 128 ∧ loOf true l = loTo l 128 from by
    unfold hiOf loOf hiTo loTo
    rw [← hl, List.take_length]
    exact ⟨rfl, rfl⟩)
  obtain ⟨a, ha⟩ : ∃ a, a = hiOf true l := ⟨_, rfl⟩
  obtain ⟨b, hbb⟩ : ∃ b, b = loOf true l := ⟨_, rfl⟩
  rw [← ha, ← hbb]
  rw [← ha, ← hbb] at HE
  clear hb hl hown ha hbb
  go_enter Try.func98, Try.ntmps98
  go_wp2
  go_loopw [12, 4, 5] (fun i _ _ wr => ∃ k : Nat, k ≤ 128 ∧ i = .int .i64 k ∧ wr = (w.alloc (.cells #[.bool false, .int .u64 0, .int .u64 0] 35)).alloc (.cells #[.bool true, .int .u64 (hiTo l k), .int .u64 (loTo l k)] 35)) (fun i _ _ _ => 128 - (intOf i).toNat)
  case atStart => exact ⟨0, by omega, rfl, rfl⟩
  case round =>
    obtain ⟨k, hk, rfl, rfl⟩ := hrel
    by_cases hlt : k < 128
    · obtain ⟨x, hx⟩ : ∃ x, l[k]? = some x := ⟨_, List.getElem?_eq_getElem (by rw [HL.out]; exact hlt)⟩
      have hx1 := HB.out x (List.mem_of_getElem? hx)
      have q := HO.out k x hx
      have q2 : ((w.alloc (.cells #[.bool false, .int .u64 0, .int .u64 0] 35)).alloc (.cells #[.bool true, .int .u64 (hiTo l k), .int .u64 (loTo l k)] 35)).cell? ⟨g, k, none⟩ = some (.int .i64 x) := by
        rw [World.cell?_alloc_past _ _ _ (by simp; omega), World.cell?_alloc_past _ _ _ (by simpa using hg)]
        exact q
      by_cases h64 : k < 64
      · have hs := hiTo_bound l k HB.out h64
        have e1 := Lib.hid (hiTo_lt hx h64)
        have e2 := Lib.hid (loTo_lt (l := l) h64)
        clear hx q
        go_wp2
        go_roundw
        case rel => exact ⟨k + 1, by omega, by go_num, by rw [e1.out, e2.out]⟩
        case measure => simp [intOf]; omega
      · have hs := loTo_bound l k HB.out hlt
        have e1 := Lib.hid (hiTo_ge (l := l) (k := k) (by omega))
        have e2 := Lib.hid (loTo_ge hx (by omega))
        clear hx q
        go_wp2
        go_roundw
        case rel => exact ⟨k + 1, by omega, by go_num, by rw [e1.out, e2.out]⟩
        case measure => simp [intOf]; omega
    · obtain rfl : k = 128 := by omega
      go_wp2
      exact bodyPost_ret (v := .agg #[.bool true, .int .u64 a, .int .u64 b]) (by simp [results, Try.results98, go_sem, HE.out.1, HE.out.2]) rfl
        ⟨rfl, ((Below.refl _ _).alloc (Nat.le_refl _) _).alloc (by simp) _⟩

/-- addrOf of a row of bits of the call's own, as long as an address of a family. -/
theorem addrOf_any (six : Bool) (l : List Int) (n : Nat) (g cap : Nat) (w : World) (hb : Bits l) (hl : l.length = n) (hn : wideI six = n) (hown : ∀ (i : Nat) (b : Int), l[i]? = some b → w.cell? ⟨g, i, none⟩ = some (.int .i64 b)) (hg : g < w.heap.size) :
    Calls Try.prog 98 #[.slice (some ⟨g, 0, none⟩) n cap] w fun e w' => e = .returned (.agg #[.bool six, .int .u64 (hiOf six l), .int .u64 (loOf six l)]) ∧ Below w.heap.size w w' := by
  cases six
  · have : (32 : Int) = n := hn
    obtain rfl : n = 32 := by omega
    exact addrOf_four l g cap w hb hl hown hg
  · have : (128 : Int) = n := hn
    obtain rfl : n = 128 := by omega
    exact addrOf_six l g cap w hb hl hown hg

end Go.Proofs.Ytmljdjakbbedlaa

namespace Go.Proofs.Ytmljdjakbbedlaa
open Go.ChangeShapes Go.WideShapes Go.ChangeAt Go.RowKit

theorem or_fill (x m : Int) (hx : 0 ≤ x ∧ x < 18446744073709551616) (hm : 0 ≤ m ∧ m < 18446744073709551616) : bits .or .u64 x (bits .xor .u64 IntKind.u64.max m) = (fillN x m : Int) := by
  have e : (2 ^ 64 : Nat) = 18446744073709551616 := by decide
  have hmax : IntKind.u64.max = 18446744073709551615 := rfl
  have hlt : 18446744073709551615 ^^^ m.toNat < 2 ^ 64 := Nat.xor_lt_two_pow (by omega) (by omega)
  rw [hmax, u64_xor _ _ (by omega) (by omega) hm.1 hm.2, show (18446744073709551615 : Int).toNat = 18446744073709551615 from by decide, u64_or x _ hx.1 hx.2 (by omega) (by omega)]
  rfl

theorem and_fill (x m : Int) (hx : 0 ≤ x ∧ x < 18446744073709551616) (hm : 0 ≤ m ∧ m < 18446744073709551616) : bits .and .u64 (bits .or .u64 x (bits .xor .u64 IntKind.u64.max m)) 4294967295 = ((fillN x m % 2 ^ 32 : Nat) : Int) := by
  have e : (2 ^ 64 : Nat) = 18446744073709551616 := by decide
  have hlt := fillN_lt x m hx hm
  rw [or_fill x m hx hm, u64_and _ _ (by omega) (by omega) (by omega) (by omega), show (4294967295 : Int).toNat = 2 ^ 32 - 1 from by decide, Nat.and_two_pow_sub_one_eq_mod]
  simp

end Go.Proofs.Ytmljdjakbbedlaa

namespace Go.Proofs.Ytmljdjakbbedlaa
open Go.ChangeShapes Go.WideShapes Go.ChangeAt Go.RowKit

structure Span1 (w : World) (a b c d : Value) (w' : World) : Prop where
  below : Below w.heap.size w w'
  size : w.heap.size + 1 + 1 < w'.heap.size
  c0 : w'.cell? ⟨w.heap.size, 0, none⟩ = some a
  c1 : w'.cell? ⟨w.heap.size, 1, none⟩ = some b
  c2 : w'.cell? ⟨w.heap.size, 2, none⟩ = some c
  c3 : w'.cell? ⟨w.heap.size, 3, none⟩ = some d
  zA0 : w'.cell? ⟨w.heap.size + 1, 0, none⟩ = some (.bool false)
  zA1 : w'.cell? ⟨w.heap.size + 1, 1, none⟩ = some (.int .u64 0)
  zA2 : w'.cell? ⟨w.heap.size + 1, 2, none⟩ = some (.int .u64 0)
  zB0 : w'.cell? ⟨w.heap.size + 1 + 1, 0, none⟩ = some (.bool false)
  zB1 : w'.cell? ⟨w.heap.size + 1 + 1, 1, none⟩ = some (.int .u64 0)
  zB2 : w'.cell? ⟨w.heap.size + 1 + 1, 2, none⟩ = some (.int .u64 0)
  gA0 : w'.frozen? ⟨w.heap.size + 1, 0, none⟩ = false
  gA1 : w'.frozen? ⟨w.heap.size + 1, 1, none⟩ = false
  gA2 : w'.frozen? ⟨w.heap.size + 1, 2, none⟩ = false
  gB0 : w'.frozen? ⟨w.heap.size + 1 + 1, 0, none⟩ = false
  gB1 : w'.frozen? ⟨w.heap.size + 1 + 1, 1, none⟩ = false
  gB2 : w'.frozen? ⟨w.heap.size + 1 + 1, 2, none⟩ = false

theorem span1_start (w : World) (a b c d : Value) (t t' : TypeId) : Span1 w a b c d (((w.alloc (.cells #[a, b, c, d] t)).alloc (.cells #[.bool false, .int .u64 0, .int .u64 0] t')).alloc (.cells #[.bool false, .int .u64 0, .int .u64 0] t')) := by
  have hb : Below w.heap.size w (((w.alloc (.cells #[a, b, c, d] t)).alloc (.cells #[.bool false, .int .u64 0, .int .u64 0] t')).alloc (.cells #[.bool false, .int .u64 0, .int .u64 0] t')) := (((Below.refl _ _).alloc (Nat.le_refl _) _).alloc (by simp) _).alloc (by simp; omega) _
  have e0 : ∀ j u, (#[a, b, c, d] : Array Value)[j]? = some u → (((w.alloc (.cells #[a, b, c, d] t)).alloc (.cells #[.bool false, .int .u64 0, .int .u64 0] t')).alloc (.cells #[.bool false, .int .u64 0, .int .u64 0] t')).cell? ⟨w.heap.size, j, none⟩ = some u := by
    intro j u hj
    rw [World.cell?_alloc_past _ _ _ (by simp; omega), World.cell?_alloc_past _ _ _ (by simp), World.cell?_alloc_at _ _ _ _ rfl]
    exact hj
  have e1 : ∀ j u, (#[.bool false, .int .u64 0, .int .u64 0] : Array Value)[j]? = some u → (((w.alloc (.cells #[a, b, c, d] t)).alloc (.cells #[.bool false, .int .u64 0, .int .u64 0] t')).alloc (.cells #[.bool false, .int .u64 0, .int .u64 0] t')).cell? ⟨w.heap.size + 1, j, none⟩ = some u := by
    intro j u hj
    rw [World.cell?_alloc_past _ _ _ (by simp), World.cell?_alloc_at _ _ _ _ (by simp)]
    exact hj
  have e2 : ∀ j u, (#[.bool false, .int .u64 0, .int .u64 0] : Array Value)[j]? = some u → (((w.alloc (.cells #[a, b, c, d] t)).alloc (.cells #[.bool false, .int .u64 0, .int .u64 0] t')).alloc (.cells #[.bool false, .int .u64 0, .int .u64 0] t')).cell? ⟨w.heap.size + 1 + 1, j, none⟩ = some u := by
    intro j u hj
    rw [World.cell?_alloc_at _ _ _ _ (by simp)]
    exact hj
  have h1 : (((w.alloc (.cells #[a, b, c, d] t)).alloc (.cells #[.bool false, .int .u64 0, .int .u64 0] t')).alloc (.cells #[.bool false, .int .u64 0, .int .u64 0] t')).heap[w.heap.size + 1]? = some (.cells #[.bool false, .int .u64 0, .int .u64 0] t') := by
    rw [Below.heap_alloc _ _ _ (by simp)]
    have := heap_alloc_new (w.alloc (.cells #[a, b, c, d] t)) (.cells #[.bool false, .int .u64 0, .int .u64 0] t')
    simpa using this
  have h2 : (((w.alloc (.cells #[a, b, c, d] t)).alloc (.cells #[.bool false, .int .u64 0, .int .u64 0] t')).alloc (.cells #[.bool false, .int .u64 0, .int .u64 0] t')).heap[w.heap.size + 1 + 1]? = some (.cells #[.bool false, .int .u64 0, .int .u64 0] t') := by
    have := heap_alloc_new ((w.alloc (.cells #[a, b, c, d] t)).alloc (.cells #[.bool false, .int .u64 0, .int .u64 0] t')) (.cells #[.bool false, .int .u64 0, .int .u64 0] t')
    simpa using this
  have f1 : ∀ j, (((w.alloc (.cells #[a, b, c, d] t)).alloc (.cells #[.bool false, .int .u64 0, .int .u64 0] t')).alloc (.cells #[.bool false, .int .u64 0, .int .u64 0] t')).frozen? ⟨w.heap.size + 1, j, none⟩ = false := by
    intro j
    unfold World.frozen?
    simp only [h1]
    simp
  have f2 : ∀ j, (((w.alloc (.cells #[a, b, c, d] t)).alloc (.cells #[.bool false, .int .u64 0, .int .u64 0] t')).alloc (.cells #[.bool false, .int .u64 0, .int .u64 0] t')).frozen? ⟨w.heap.size + 1 + 1, j, none⟩ = false := by
    intro j
    unfold World.frozen?
    simp only [h2]
    simp
  exact ⟨hb, by simp, e0 0 a rfl, e0 1 b rfl, e0 2 c rfl, e0 3 d rfl, e1 0 _ rfl, e1 1 _ rfl, e1 2 _ rfl, e2 0 _ rfl, e2 1 _ rfl, e2 2 _ rfl, f1 0, f1 1, f1 2, f2 0, f2 1, f2 2⟩

theorem Span1.drew {w w1 : World} {a b c d : Value} (h : Span1 w a b c d w1) : Span1 w a b c d w1.drew := ⟨h.below.drew, h.size, h.c0, h.c1, h.c2, h.c3, h.zA0, h.zA1, h.zA2, h.zB0, h.zB1, h.zB2, h.gA0, h.gA1, h.gA2, h.gB0, h.gB1, h.gB2⟩

theorem Span1.step {w w1 w2 : World} {a b c d : Value} (h : Span1 w a b c d w1) (hb : Below w1.heap.size w1 w2) : Span1 w a b c d w2 := by
  have hs := h.size
  have f : ∀ b j, b ≤ w.heap.size + 1 + 1 → w1.frozen? ⟨b, j, none⟩ = false → w2.frozen? ⟨b, j, none⟩ = false := fun b j hb' hf => (hb.frozen (p := ⟨b, j, none⟩) (by show b < _; omega)).trans hf
  exact ⟨below_step h.below hb, size_step h.size hb, cell_step hb h.c0, cell_step hb h.c1, cell_step hb h.c2, cell_step hb h.c3, cell_step hb h.zA0, cell_step hb h.zA1, cell_step hb h.zA2, cell_step hb h.zB0, cell_step hb h.zB1, cell_step hb h.zB2,
    f _ 0 (by omega) h.gA0, f _ 1 (by omega) h.gA1, f _ 2 (by omega) h.gA2, f _ 0 (by omega) h.gB0, f _ 1 (by omega) h.gB1, f _ 2 (by omega) h.gB2⟩


theorem box33 {w w2 : World} {a b c d e f : Value} {t t' : TypeId} (hb : Below ((w.alloc (.cells #[a, b, c] t)).alloc (.cells #[d, e, f] t')).heap.size ((w.alloc (.cells #[a, b, c] t)).alloc (.cells #[d, e, f] t')) w2) :
    Below w.heap.size w w2 ∧ (w2.cell? ⟨w.heap.size, 0, none⟩ = some a ∧ w2.cell? ⟨w.heap.size, 1, none⟩ = some b ∧ w2.cell? ⟨w.heap.size, 2, none⟩ = some c) ∧
      (w2.cell? ⟨w.heap.size + 1, 0, none⟩ = some d ∧ w2.cell? ⟨w.heap.size + 1, 1, none⟩ = some e ∧ w2.cell? ⟨w.heap.size + 1, 2, none⟩ = some f) ∧ w.heap.size + 1 < w2.heap.size := by
  have e0 : ∀ j u, (#[a, b, c] : Array Value)[j]? = some u → ((w.alloc (.cells #[a, b, c] t)).alloc (.cells #[d, e, f] t')).cell? ⟨w.heap.size, j, none⟩ = some u := by
    intro j u hj
    rw [World.cell?_alloc_past _ _ _ (by simp), World.cell?_alloc_at _ _ _ _ rfl]
    exact hj
  have e1 : ∀ j u, (#[d, e, f] : Array Value)[j]? = some u → ((w.alloc (.cells #[a, b, c] t)).alloc (.cells #[d, e, f] t')).cell? ⟨w.heap.size + 1, j, none⟩ = some u := by
    intro j u hj
    rw [World.cell?_alloc_at _ _ _ _ (by simp)]
    exact hj
  have hs := hb.size
  simp at hs
  exact ⟨below_step (((Below.refl _ _).alloc (Nat.le_refl _) _).alloc (by simp) _) hb, ⟨cell_step hb (e0 0 a rfl), cell_step hb (e0 1 b rfl), cell_step hb (e0 2 c rfl)⟩, ⟨cell_step hb (e1 0 d rfl), cell_step hb (e1 1 e rfl), cell_step hb (e1 2 f rfl)⟩, by omega⟩

end Go.Proofs.Ytmljdjakbbedlaa

namespace Go.Proofs.Ytmljdjakbbedlaa
open Go.ChangeShapes Go.WideShapes Go.ChangeAt Go.RowKit

theorem Span1.stepB {w w1 w2 : World} {a b c d : Value} {B : Nat} (h : Span1 w a b c d w1) (hb : Below B w1 w2) (hB : w.heap.size + 1 + 1 < B) : Span1 w a b c d w2 := by
  have f : ∀ b j, b ≤ w.heap.size + 1 + 1 → w1.frozen? ⟨b, j, none⟩ = false → w2.frozen? ⟨b, j, none⟩ = false := fun b j hb' hf => (hb.frozen (p := ⟨b, j, none⟩) (by show b < _; omega)).trans hf
  have g : ∀ b j v, b ≤ w.heap.size + 1 + 1 → w1.cell? ⟨b, j, none⟩ = some v → w2.cell? ⟨b, j, none⟩ = some v := fun b j v hb' hf => (hb.cell (p := ⟨b, j, none⟩) (by show b < _; omega)).trans hf
  have hs := hb.size
  have h1 := h.size
  exact ⟨h.below.trans (hb.mono (by omega)), by omega, g _ _ _ (by omega) h.c0, g _ _ _ (by omega) h.c1, g _ _ _ (by omega) h.c2, g _ _ _ (by omega) h.c3, g _ _ _ (by omega) h.zA0, g _ _ _ (by omega) h.zA1, g _ _ _ (by omega) h.zA2, g _ _ _ (by omega) h.zB0, g _ _ _ (by omega) h.zB1, g _ _ _ (by omega) h.zB2,
    f _ 0 (by omega) h.gA0, f _ 1 (by omega) h.gA1, f _ 2 (by omega) h.gA2, f _ 0 (by omega) h.gB0, f _ 1 (by omega) h.gB1, f _ 2 (by omega) h.gB2⟩

theorem own_lt {w : World} {base g n cap : Nat} {e : TypeId} {size : Nat} {xs : List Value} (h : w.ownsRow base e size (.slice (some ⟨g, 0, none⟩) n cap) n xs) (hpos : 0 < n) : g < w.heap.size := by
  obtain ⟨g', c', e1, _, e2⟩ := h.form hpos
  simp at e1
  obtain ⟨rfl, _⟩ := e1
  exact e2

def lastTo (six : Bool) (hi lo : Int) (m n k : Nat) : List Int := (List.range m).map fun (j : Nat) => if j < n then bitI six hi lo j else if j < n + k then 1 else bitI six hi lo j
theorem lastTo_zero {six : Bool} {hi lo : Int} {m n : Nat} (hm : wideI six = m) : lastTo six hi lo m n 0 = bitsL six hi lo := by
  unfold lastTo bitsL
  rw [hm]
  apply List.map_congr_left
  intro j _
  split
  · rfl
  · rw [if_neg (by omega)]
theorem lastTo_end {six : Bool} {hi lo : Int} {m n k : Nat} (hm : wideI six = m) (hk : n + k = m) : lastTo six hi lo m n k = lastL six hi lo n := by
  unfold lastTo lastL
  rw [hm]
  apply List.map_congr_left
  intro j hj
  have : j < m := by simpa using hj
  by_cases h : j < n
  · rw [if_pos h, if_pos (by omega)]
  · rw [if_neg h, if_pos (show j < n + k by omega), if_neg (by omega)]
theorem lastTo_set {six : Bool} {hi lo : Int} {m n k : Nat} (hk : n + k < m) : (lastTo six hi lo m n k).set (n + k) 1 = lastTo six hi lo m n (k + 1) := by
  apply List.ext_getElem?
  intro j
  unfold lastTo
  rw [List.getElem?_set]
  by_cases h : n + k = j
  · subst h
    rw [if_pos rfl, if_pos (by simpa using hk), List.getElem?_map, List.getElem?_range hk]
    simp only [Option.map_some, Option.some.injEq]
    rw [if_neg (by omega), if_pos (by omega)]
  · rw [if_neg h, List.getElem?_map, List.getElem?_map]
    rcases Nat.lt_or_ge j m with hj | hj
    · rw [List.getElem?_range hj]
      simp only [Option.map_some, Option.some.injEq]
      by_cases h1 : j < n
      · rw [if_pos h1, if_pos h1]
      · rw [if_neg h1, if_neg h1]
        by_cases h2 : j < n + k
        · rw [if_pos h2, if_pos (by omega)]
        · rw [if_neg h2, if_neg (by omega)]
    · rw [List.getElem?_eq_none (by simpa using hj)]
      rfl

end Go.Proofs.Ytmljdjakbbedlaa

namespace Go.Proofs.Ytmljdjakbbedlaa
open Go.ChangeShapes Go.WideShapes Go.ChangeAt Go.RowKit

set_option maxHeartbeats 1600000 in
theorem over_any (six : Bool) (hi lo n : Int) (six' : Bool) (hi' lo' n' : Int) (w : World) (h3 : 0 ≤ hi' ∧ hi' < 18446744073709551616) (h4 : 0 ≤ lo' ∧ lo' < 18446744073709551616) (h5 : six' = false → lo' < 4294967296) (h6 : -500 ≤ n) (h7 : n ≤ 500) :
    Calls Try.prog 46 #[.agg #[.bool six, .int .u64 hi, .int .u64 lo, .int .i64 n], .agg #[.bool six', .int .u64 hi', .int .u64 lo', .int .i64 n']] w fun e w' => e = .returned (.bool (overB six hi lo n six' hi' lo' n')) ∧ Below w.heap.size w w' := by
  have HQ := Lib.hid h5
  clear h5
  by_cases hn : n ≤ n'
  · have hE : overB six hi lo n six' hi' lo' n' = inB six hi lo n six' hi' lo' := by unfold overB; simp [hn]
    rw [hE]
    clear hE
    go_enter Try.func46, Try.ntmps46
    go_wp2_with fail
    refine (in_any six hi lo n six' hi' lo' _ h3 h4 HQ.out h6 h7).mono ?_
    rintro e w1 ⟨rfl, hb⟩
    obtain ⟨b0, b1, c0, c1, c2, c3, d0, d1, d2, d3⟩ := Box44.step (box44_start w _ _ _ _ _ _ _ _ _) hb
    clear hb
    go_wp2
    go_ret
    exact ⟨rfl, b0⟩
  · have hE : overB six hi lo n six' hi' lo' n' = false := by unfold overB; simp [hn]
    rw [hE]
    clear hE
    go_enter Try.func46, Try.ntmps46
    go_wp2
    go_ret
    exact ⟨rfl, ((Below.refl _ _).alloc (Nat.le_refl _) _).alloc (by simp) _⟩

def covB (six : Bool) (hi lo n : Int) (six' : Bool) (hi' lo' n' : Int) : Bool :=
  if ¬ bothE six hi lo n six' hi' lo' n' = 0 then false else overB six hi lo n six' hi' lo' n'

theorem both_zero {six : Bool} {hi lo n : Int} {six' : Bool} {hi' lo' n' : Int} (h1 : 0 ≤ hi ∧ hi < 18446744073709551616) (h2 : 0 ≤ lo ∧ lo < 18446744073709551616) (h3 : 0 ≤ hi' ∧ hi' < 18446744073709551616) (h4 : 0 ≤ lo' ∧ lo' < 18446744073709551616)
    (h : bothE six hi lo n six' hi' lo' n' = 0) : Pfx six hi lo n ∧ Pfx six' hi' lo' n' ∧ six = six' ∧ chk six' hi' lo' n' = 0 := by
  unfold bothE at h
  by_cases hz : chk six hi lo n = 0
  · rw [if_neg (fun x => x hz)] at h
    by_cases hz2 : chk six' hi' lo' n' = 0
    · rw [if_neg (fun x => x hz2)] at h
      by_cases hs : six = six'
      · exact ⟨chk_zero h1 h2 hz, chk_zero h3 h4 hz2, hs, hz2⟩
      · rw [if_pos hs] at h; omega
    · rw [if_pos hz2] at h; omega
  · rw [if_pos hz] at h; omega

end Go.Proofs.Ytmljdjakbbedlaa
