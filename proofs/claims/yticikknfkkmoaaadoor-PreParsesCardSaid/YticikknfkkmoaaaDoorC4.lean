/-
  
  
  
  
  
  
  
  
  
  
  
  
-/
import Derived.Test.YticikknfkkmoaaaDoorC1
import Derived.Below
import Derived.Laws.OwnMore
import Derived.Deep.AppendLies
import Derived.Deep.Draws
import Derived.Laws.Rows
import Derived.Maps.AppendAt
import Derived.RegionTactic
import Derived.OwnWalk
import Derived.Laws.BitsAllLaws
import Derived.Test.YticikknfkkmoaaaDoorChecked
namespace Go.Proofs.YticikknfkkmoaaaDoor
open Go.RowKit

theorem block_of_add (a : Addr) (n : Nat) : (a.add n).block = a.block := by unfold Addr.add; split <;> rfl
theorem add_of_add (a : Addr) (i j : Nat) : (a.add i).add j = a.add (i + j) := by
  unfold Addr.add
  by_cases hi : i = 0 <;> by_cases hj : j = 0 <;> simp [hi, hj, Nat.add_assoc]

def Reads (w : World) (B size : Nat) (A : Option Addr) (n : Nat) (xs : List Value) : Prop :=
  xs.length = n * size ∧ (0 < n → ∃ ad, A = some ad ∧ ad.block < B ∧ ∀ j u, xs[j]? = some u → w.cell? (ad.add j) = some u)

section
variable {w w' : World} {B B' size n : Nat} {A : Option Addr} {xs : List Value}
theorem Reads.none_ : Reads w B size A 0 [] := ⟨by simp, fun h => absurd h (by omega)⟩
theorem Reads.at_ {k : Nat} (h : Reads w B 1 A n xs) (hk : k < n) : ∃ ad u, A = some ad ∧ ad.block < B ∧ xs[k]? = some u ∧ w.cell? (ad.add k) = some u := by
  obtain ⟨ad, e, hb, hc⟩ := h.2 (by omega)
  have hl : k < xs.length := by have := h.1; omega
  exact ⟨ad, xs[k], e, hb, List.getElem?_eq_getElem hl, hc k _ (List.getElem?_eq_getElem hl)⟩
theorem Reads.keep (h : Reads w B size A n xs) (hk : ∀ p : Addr, p.block < B → w'.cell? p = w.cell? p) : Reads w' B size A n xs :=
  ⟨h.1, fun hn => by
    obtain ⟨ad, e, hb, hc⟩ := h.2 hn
    exact ⟨ad, e, hb, fun j u hu => (hk _ (by rw [block_of_add]; exact hb)).trans (hc j u hu)⟩⟩
theorem Reads.more (h : Reads w B size A n xs) (hB : B ≤ B') : Reads w B' size A n xs :=
  ⟨h.1, fun hn => by
    obtain ⟨ad, e, hb, hc⟩ := h.2 hn
    exact ⟨ad, e, by omega, hc⟩⟩
theorem Reads.below (h : Reads w B size A n xs) (hb : Below B w w') : Reads w' B size A n xs := h.keep fun _ hp => hb.cell hp
theorem Reads.drew (h : Reads w B size A n xs) : Reads w.drew B size A n xs := h
theorem Reads.drewN (h : Reads w B size A n xs) (k : Nat) : Reads (w.drewN k) B size A n xs := h
theorem Reads.alloc (h : Reads w B size A n xs) (hB : B ≤ w.heap.size) (o : Obj) : Reads (w.alloc o) B size A n xs := h.keep fun p hp => World.cell?_alloc_lt w o p (by omega)
theorem Reads.setCell (h : Reads w B size A n xs) {p : Addr} (hB : B ≤ p.block) (u : Value) : Reads (w.setCell p u) B size A n xs :=
  h.keep fun q hq => World.cell?_setCell_other w p q u (fun e => by subst e; omega)
theorem Reads.grown (h : Reads w B size A n xs) {row : Option Nat} (hg : w.grownBy w' row) (hB : B ≤ w.heap.size) (hr : ∀ g, row = some g → B ≤ g) : Reads w' B size A n xs :=
  h.keep fun p hp => World.cell?_of_block (hg.block p.block (by omega) (fun e => by have := hr _ e.symm; omega))
theorem Reads.cut (h : Reads w B size A n xs) {k cap : Nat} (hk : k ≤ n) (hc : n ≤ cap) :
    Reads w B size (if cap = k then A else A.map (·.add (k * size))) (n - k) (xs.drop (k * size)) := by
  refine ⟨by rw [List.length_drop, h.1, Nat.sub_mul], fun hn => ?_⟩
  obtain ⟨ad, rfl, hb, hcell⟩ := h.2 (by omega)
  rw [if_neg (by omega)]
  refine ⟨ad.add (k * size), rfl, by rw [block_of_add]; exact hb, fun j u hu => ?_⟩
  rw [add_of_add]
  exact hcell _ u (by rw [← hu, List.getElem?_drop])
theorem Reads.of_own {base : Nat} {e : TypeId} {c : Nat} (h : w.ownsRow base e size (.slice A n c) n xs) : Reads w w.heap.size size A n xs := by
  refine ⟨h.1, fun hn => ?_⟩
  obtain ⟨g, cap, hv, _, hlt⟩ := h.form hn
  have hA : A = some ⟨g, 0, none⟩ := by injection hv
  subst hA
  exact ⟨_, rfl, hlt, h.cells (g := g) rfl⟩
end

def Blk (w : World) (g : Nat) (t : TypeId) (cs : Array Value) : Prop := w.heap[g]? = some (.cells cs t (0, 0))

section
variable {w w' : World} {g : Nat} {t : TypeId} {cs : Array Value}
theorem Blk.lt (h : Blk w g t cs) : g < w.heap.size := by
  rcases Nat.lt_or_ge g w.heap.size with hlt | hge
  · exact hlt
  · unfold Blk at h; rw [Array.getElem?_eq_none hge] at h; cases h
theorem Blk.cell (h : Blk w g t cs) (i : Nat) : w.cell? ⟨g, i, none⟩ = cs[i]? := cell_of_row w g i cs t (0, 0) h
theorem Blk.frozen (h : Blk w g t cs) (i : Nat) : w.frozen? ⟨g, i, none⟩ = false := by
  unfold Blk at h
  simp [World.frozen?, h]
theorem Blk.new (w : World) (t : TypeId) (cs : Array Value) : Blk (w.alloc (.cells cs t)) w.heap.size t cs := heap_alloc_new w _
theorem Blk.drew (h : Blk w g t cs) : Blk w.drew g t cs := h
theorem Blk.drewN (h : Blk w g t cs) (n : Nat) : Blk (w.drewN n) g t cs := h
theorem Blk.alloc (h : Blk w g t cs) (o : Obj) : Blk (w.alloc o) g t cs := (Below.heap_alloc w o g h.lt).trans h
theorem Blk.set_ (h : Blk w g t cs) (i : Nat) (u : Value) : Blk (w.setCell ⟨g, i, none⟩ u) g t (cs.setIfInBounds i u) := by
  unfold Blk at h ⊢
  simp [World.setCell, Array.getElem?_modify, h]
theorem Blk.far (h : Blk w g t cs) {p : Addr} (hp : g ≠ p.block) (u : Value) : Blk (w.setCell p u) g t cs := (Below.heap_setCell w p u g hp).trans h
theorem Blk.below {B : Nat} (h : Blk w g t cs) (hb : Below B w w') (hg : g < B) : Blk w' g t cs := (hb.block g hg).trans h
theorem Blk.grown {row : Option Nat} (h : Blk w g t cs) (hb : w.grownBy w' row) (hg : some g ≠ row) : Blk w' g t cs := (hb.block g h.lt hg).trans h
theorem Blk.ne_ {g' : Nat} {t' : TypeId} {cs' : Array Value} (h : Blk w g t cs) (h' : Blk w g' t' cs') (hne : t ≠ t') : g ≠ g' := by
  rintro rfl
  unfold Blk at h h'
  rw [h] at h'
  injection h' with h'
  injection h' with _ ht
  exact hne ht
theorem own_blk_ne {base : Nat} {e : TypeId} {size n : Nat} {v : Value} {xs : List Value} (h : w.ownsRow base e size v n xs) (hg : Blk w g t cs) (hne : e ≠ t) : v.ownBlock ≠ some g := by
  rcases h.2 with ⟨rfl, _⟩ | ⟨g', cap, cur, rfl, _, hh, _⟩
  · simp [Value.ownBlock]
  · intro he
    have : g' = g := by simpa [Value.ownBlock] using he
    subst this
    exact Blk.ne_ (t := e) hh hg hne rfl
end

section
variable {P : Program} (w : World)

theorem run_append_of_nil (base : Nat) (t ty e : TypeId) (i : TypeInfo) (size : Nat) (ht : P.underlying t = some (.slice e)) (hi : P.info? e = some i)
    (v : Value) (n : Nat) (xs : List Value) (hown : w.ownsRow base e size v n xs) (c : Nat) : (Builtin.append_ #[t, t] ty #[v, .slice none 0 c]).run P w = .ok v w := by
  rcases hown.2 with ⟨rfl, rfl⟩ | ⟨g, cap, cur, rfl, _, _, hnc, _⟩
  · simp [Builtin.append_, run_underlying ht, sizeOf, typeInfo, hi, Builtin.lenOf, Builtin.firstCells]
  · simp [Builtin.append_, run_underlying ht, sizeOf, typeInfo, hi, Builtin.lenOf, Builtin.firstCells, hnc, storeCells]

theorem run_append_any (base : Nat) (t ty e : TypeId) (i : TypeInfo) (z : Value) (size bytes : Nat) (ht : P.underlying t = some (.slice e)) (hi : P.info? e = some i) (hz : i.zero = some z)
    (hsize : i.size = size) (hby : i.bytes = bytes) (hzs : z.cells.size = size) (hsz : 0 < size)
    (v : Value) (n : Nat) (xs : List Value) (hown : w.ownsRow base e size v n xs)
    (B : Nat) (A : Option Addr) (m c : Nat) (news : List Value) (hr : Reads w B size A m news) (h1 : ∀ u ∈ news, u.oneCell' = true)
    (h63 : n + m ≤ maxLen) (hbytes : (n + m) * bytes ≤ 140737488355328) (hbase : base ≤ w.heap.size) :
    ∃ v' w', (Builtin.append_ #[t, t] ty #[v, .slice A m c]).run P w = .ok v' w' ∧ w'.ownsRow base e size v' (n + m) (xs ++ news) ∧ w.grownBy w' v.ownBlock ∧
      (v'.ownBlock = v.ownBlock ∨ v'.ownBlock = some w.heap.size) := by
  rcases A with _ | ad
  · have hm : m = 0 := by
      rcases Nat.eq_zero_or_pos m with h0 | h0
      · exact h0
      · obtain ⟨ad, h, _⟩ := hr.2 h0
        cases h
    subst hm
    have hn : news = [] := List.eq_nil_of_length_eq_zero (by simpa using hr.1)
    subst hn
    exact ⟨v, w, run_append_of_nil w base t ty e i size ht hi v n xs hown c, by simpa using hown, World.grownBy.refl w _, .inl rfl⟩
  · have hcells : ∀ j u, news[j]? = some u → w.cell? (ad.add j) = some u := by
      intro j u hu
      rcases Nat.eq_zero_or_pos m with h0 | h0
      · subst h0
        have hn : news = [] := List.eq_nil_of_length_eq_zero (by simpa using hr.1)
        subst hn
        simp at hu
      · obtain ⟨ad', h, _, hc⟩ := hr.2 h0
        injection h with h
        subst h
        exact hc j u hu
    obtain ⟨v', w', hrun, h2, h3, _, h5⟩ := run_append_own_at (P := P) w base t ty e i z size bytes ht hi hz hsize hby hzs hsz v n xs hown ad m c news hr.1 hcells h1 h63 hbytes hbase
    exact ⟨v', w', hrun, h2, h3, h5⟩

theorem wp_append_any {o : Oper} {a : Act} {K : Act → World → Prop} {Q : Exit → Act → World → Prop} (s x : Operand) (t : TypeId)
    (ho : o.op = .call { callee := .builtin .append, args := #[s, x], argTypes := #[t, t] })
    (base : Nat) (e : TypeId) (i : TypeInfo) (z : Value) (size bytes : Nat) (ht : P.underlying t = some (.slice e)) (hi : P.info? e = some i) (hz : i.zero = some z)
    (hsize : i.size = size) (hby : i.bytes = bytes) (hzs : z.cells.size = size) (hsz : 0 < size)
    (v : Value) (n : Nat) (xs : List Value) (hs : a.eval s = v) (hown : w.ownsRow base e size v n xs)
    (B : Nat) (A : Option Addr) (m c : Nat) (news : List Value) (hx : a.eval x = .slice A m c) (hr : Reads w B size A m news) (h1 : ∀ u ∈ news, u.oneCell' = true)
    (h63 : n + m ≤ maxLen) (hbytes : (n + m) * bytes ≤ 140737488355328) (hbase : base ≤ w.heap.size)
    (h : ∀ v' w', w'.ownsRow base e size v' (n + m) (xs ++ news) → w.grownBy w' v.ownBlock → (v'.ownBlock = v.ownBlock ∨ v'.ownBlock = some w.heap.size) → K (a.put o.dst v') w') : o.wp P a w K Q := by
  obtain ⟨v', w', hrun, h2, h3, h4⟩ := run_append_any (P := P) w base t o.type e i z size bytes ht hi hz hsize hby hzs hsz v n xs hown B A m c news hr h1 h63 hbytes hbase
  unfold Oper.wp execOp
  simp only [ho, resolve, invoke, builtin, Sem.run_bind, Sem.run_pure, Result.andThen_ok, List.map_toArray, List.map_cons, List.map_nil, hs, hx, hrun]
  exact h v' w' h2 h3 h4

theorem wpList_append_any {ops : Array Oper} {rest : List Oper} {o : Oper} {a : Act} {Q : Exit → Act → World → Prop} (hgd : o.guard = none) (s x : Operand) (t : TypeId)
    (ho : o.op = .call { callee := .builtin .append, args := #[s, x], argTypes := #[t, t] })
    (base : Nat) (e : TypeId) (i : TypeInfo) (z : Value) (size bytes : Nat) (ht : P.underlying t = some (.slice e)) (hi : P.info? e = some i) (hz : i.zero = some z)
    (hsize : i.size = size) (hby : i.bytes = bytes) (hzs : z.cells.size = size) (hsz : 0 < size)
    (v : Value) (n : Nat) (xs : List Value) (hs : a.eval s = v) (hown : w.ownsRow base e size v n xs)
    (B : Nat) (A : Option Addr) (m c : Nat) (news : List Value) (hx : a.eval x = .slice A m c) (hr : Reads w B size A m news) (h1 : ∀ u ∈ news, u.oneCell' = true)
    (h63 : n + m ≤ maxLen) (hbytes : (n + m) * bytes ≤ 140737488355328) (hbase : base ≤ w.heap.size)
    (h : ∀ v' w', w'.ownsRow base e size v' (n + m) (xs ++ news) → w.grownBy w' v.ownBlock → (v'.ownBlock = v.ownBlock ∨ v'.ownBlock = some w.heap.size) → wpList P ops Q rest (a.put o.dst v') w') : wpList P ops Q (o :: rest) a w :=
  wpList_plain hgd fun _ hK => wp_append_any w s x t ho base e i z size bytes ht hi hz hsize hby hzs hsz v n xs hs hown B A m c news hx hr h1 h63 hbytes hbase fun v' w' h2 h3 h4 => hK _ _ (h v' w' h2 h3 h4)

theorem step_append_any {ops : Array Oper} {o : Oper} {a : Act} {K : Act → World → Prop} {Q : Exit → Act → World → Prop} {E : Prop} (hgd : o.guard = none) (s x : Operand) (t : TypeId)
    (ho : o.op = .call { callee := .builtin .append, args := #[s, x], argTypes := #[t, t] })
    (base : Nat) (e : TypeId) (i : TypeInfo) (z : Value) (size bytes : Nat) (ht : P.underlying t = some (.slice e)) (hi : P.info? e = some i) (hz : i.zero = some z)
    (hsize : i.size = size) (hby : i.bytes = bytes) (hzs : z.cells.size = size) (hsz : 0 < size)
    (v : Value) (n : Nat) (xs : List Value) (hs : a.eval s = v) (hown : w.ownsRow base e size v n xs)
    (B : Nat) (A : Option Addr) (m c : Nat) (news : List Value) (hx : a.eval x = .slice A m c) (hr : Reads w B size A m news) (h1 : ∀ u ∈ news, u.oneCell' = true)
    (h63 : n + m ≤ maxLen) (hbytes : (n + m) * bytes ≤ 140737488355328) (hbase : base ≤ w.heap.size)
    (h : ∀ v' w', w'.ownsRow base e size v' (n + m) (xs ++ news) → w.grownBy w' v.ownBlock → (v'.ownBlock = v.ownBlock ∨ v'.ownBlock = some w.heap.size) → K (a.put o.dst v') w') :
    if Region.wanted o (yielded ops a.tmps) = true then Oper.wp P o a w K Q else E := by
  have hw : Region.wanted o (yielded ops a.tmps) = true := by simp [Region.wanted, hgd]
  rw [if_pos hw]
  exact wp_append_any w s x t ho base e i z size bytes ht hi hz hsize hby hzs hsz v n xs hs hown B A m c news hx hr h1 h63 hbytes hbase h
end

theorem Reads.at1 {w : World} {B n k : Nat} {A : Option Addr} {α : Type} {l : List α} {f : α → Value} (h : Reads w B 1 A n (l.map f)) (hk : k < n) :
    ∃ ad x, A = some ad ∧ w.cell? (ad.add k) = some (f x) ∧ l.take (k + 1) = l.take k ++ [x] ∧ l[k]? = some x ∧ x ∈ l := by
  obtain ⟨ad, u, rfl, _, hx, hc⟩ := h.at_ hk
  rw [List.getElem?_map] at hx
  cases hl : l[k]? with
  | none => rw [hl] at hx; cases hx
  | some x =>
    rw [hl] at hx
    simp only [Option.map_some, Option.some.injEq] at hx
    subst hx
    exact ⟨ad, x, rfl, hc, by rw [List.take_add_one, hl]; rfl, rfl, List.mem_of_getElem? hl⟩

/-- append of one element, laid just before in a block of its own, onto a row of the call's own. -/
theorem wpList_append_one {P : Program} {ops : Array Oper} {rest : List Oper} {o : Oper} {a : Act} {Q : Exit → Act → World → Prop} {w0 : World} {us : List Value} {fr : Nat × Nat} {e : TypeId} (hgd : o.guard = none) (s x : Operand) (t : TypeId)
    (ho : o.op = .call { callee := .builtin .append, args := #[s, x], argTypes := #[t, t] })
    (base : Nat) (z : Value) (size bytes : Nat) (ht : P.underlying t = some (.slice e)) (hi : (P.info? e).map (fun i => (i.zero, i.size, i.bytes)) = some (some z, size, bytes))
    (hzs : z.cells.size = size) (hsz : 0 < size) (v : Value) (n : Nat) (xs : List Value) (hs : a.eval s = v) (hown : w0.ownsRow base e size v n xs) (hbase : base ≤ w0.heap.size)
    (hl : us.length = size) (h1 : ∀ u ∈ us, u.oneCell' = true)
    (hx : a.eval x = .slice (some ⟨w0.heap.size, 0, none⟩) 1 1) (h63 : n + 1 ≤ maxLen) (hbytes : (n + 1) * bytes ≤ 140737488355328)
    (h : ∀ v' w', w'.ownsRow base e size v' (n + 1) (xs ++ us) → Below base w0 w' → w0.heap.size < w'.heap.size → wpList P ops Q rest (a.put o.dst v') w') :
    wpList P ops Q (o :: rest) a (w0.alloc (.cells us.toArray e fr)) := by
  obtain ⟨i0, hi, hz0, hz1, hz2⟩ := info_parts hi
  refine wpList_append_own _ hgd s x t ho base e i0 z size bytes ht hi hz0 hz1 hz2 hzs hsz v n xs hs (hown.alloc _) ⟨w0.heap.size, 0, none⟩ 1 1 us hx (by omega) ?_ h1 h63 hbytes (by simp; omega) ?_
  · intro j u hj
    have e1 : (⟨w0.heap.size, 0, none⟩ : Addr).add j = ⟨w0.heap.size, j, none⟩ := by unfold Addr.add; split <;> simp_all
    rw [e1]
    have : (w0.alloc (.cells us.toArray e fr)).heap[w0.heap.size]? = some (.cells us.toArray e fr) := heap_alloc_new w0 _
    unfold World.cell?
    simp only [this]
    simpa using hj
  · intro v' w' hown' hg _
    have hb : Below base w0 (w0.alloc (.cells us.toArray e fr)) := (Below.refl _ _).alloc hbase _
    refine h v' w' hown' (hb.grown hg (by simp; omega) ?_) ?_
    · intro k hk
      rcases hown.2 with ⟨rfl, _⟩ | ⟨g, cap, cur, rfl, hgb, _⟩
      · simp [Value.ownBlock] at hk
      · simp only [Value.ownBlock, Option.some.injEq] at hk
        omega
    · have := hg.size
      simp at this
      omega

theorem own_mono {w : World} {base base' : Nat} {e : TypeId} {size n : Nat} {v : Value} {xs : List Value} (h : w.ownsRow base e size v n xs) (hb : base' ≤ base) : w.ownsRow base' e size v n xs := by
  obtain ⟨h1, h2⟩ := h
  refine ⟨h1, ?_⟩
  rcases h2 with h2 | ⟨g, cap, cur, hv, hg, r⟩
  · exact .inl h2
  · exact .inr ⟨g, cap, cur, hv, by omega, r⟩

theorem own_below {w w' : World} {base : Nat} {e : TypeId} {size n : Nat} {v : Value} {xs : List Value} (h : w.ownsRow base e size v n xs) (hb : Below w.heap.size w w') : w'.ownsRow base e size v n xs := by
  obtain ⟨h1, h2⟩ := h
  refine ⟨h1, ?_⟩
  rcases h2 with h2 | ⟨g, cap, cur, hv, hg, hh, r⟩
  · exact .inl h2
  · refine .inr ⟨g, cap, cur, hv, hg, ?_, r⟩
    rw [hb.block g ?_]
    · exact hh
    · rcases Nat.lt_or_ge g w.heap.size with h3 | h3
      · exact h3
      · rw [Array.getElem?_eq_none h3] at hh; cases hh

/-- Behind the box of a parameter. -/
theorem below_box {w wr : World} {o : Obj} (h : Below (w.heap.size + 1) (w.alloc o) wr) : Below w.heap.size w wr :=
  ((Below.refl _ _).alloc (Nat.le_refl _) o).trans (h.mono (by omega))
theorem box_cell {w wr : World} {cs : List Value} {t : TypeId} {fr : Nat × Nat} (h : Below (w.heap.size + 1) (w.alloc (.cells cs.toArray t fr)) wr) (j : Nat) : wr.cell? ⟨w.heap.size, j, none⟩ = cs[j]? := by
  rw [h.cell (p := ⟨w.heap.size, j, none⟩) (by simp)]
  have e := heap_alloc_new w (.cells cs.toArray t fr)
  unfold World.cell?
  simp only [e]
  simp

theorem box1 {w w1 : World} {cs : List Value} {t : TypeId} {fr : Nat × Nat} (hb : Below (w.alloc (.cells cs.toArray t fr)).heap.size (w.alloc (.cells cs.toArray t fr)) w1) :
    Below w.heap.size w w1 ∧ w.heap.size < w1.heap.size ∧ ∀ j u, cs[j]? = some u → w1.cell? ⟨w.heap.size, j, none⟩ = some u := by
  have hb' : Below (w.heap.size + 1) (w.alloc (.cells cs.toArray t fr)) w1 := by simpa using hb
  have hs := hb.size
  simp at hs
  exact ⟨below_box hb', by omega, fun j u hj => (box_cell hb' j).trans hj⟩
theorem box3 {w w1 : World} {a b c : Value} {t : TypeId} {fr : Nat × Nat} (hb : Below (w.alloc (.cells #[a, b, c] t fr)).heap.size (w.alloc (.cells #[a, b, c] t fr)) w1) :
    Below w.heap.size w w1 ∧ w.heap.size < w1.heap.size ∧ w1.cell? ⟨w.heap.size, 0, none⟩ = some a ∧ w1.cell? ⟨w.heap.size, 1, none⟩ = some b ∧ w1.cell? ⟨w.heap.size, 2, none⟩ = some c := by
  obtain ⟨h1, h2, h3⟩ := box1 (cs := [a, b, c]) hb
  exact ⟨h1, h2, h3 0 a rfl, h3 1 b rfl, h3 2 c rfl⟩
theorem box4 {w w1 : World} {a b c d : Value} {t : TypeId} {fr : Nat × Nat} (hb : Below (w.alloc (.cells #[a, b, c, d] t fr)).heap.size (w.alloc (.cells #[a, b, c, d] t fr)) w1) :
    Below w.heap.size w w1 ∧ w.heap.size < w1.heap.size ∧ w1.cell? ⟨w.heap.size, 0, none⟩ = some a ∧ w1.cell? ⟨w.heap.size, 1, none⟩ = some b ∧ w1.cell? ⟨w.heap.size, 2, none⟩ = some c ∧ w1.cell? ⟨w.heap.size, 3, none⟩ = some d := by
  obtain ⟨h1, h2, h3⟩ := box1 (cs := [a, b, c, d]) hb
  exact ⟨h1, h2, h3 0 a rfl, h3 1 b rfl, h3 2 c rfl, h3 3 d rfl⟩

theorem choose_list {α β : Type} {f : α → β} {Q : α → Prop} : ∀ (css : List β), (∀ cs ∈ css, ∃ x, Q x ∧ cs = f x) → ∃ l : List α, css = l.map f ∧ ∀ x ∈ l, Q x
  | [], _ => ⟨[], rfl, by simp⟩
  | cs :: css, h => by
    obtain ⟨x, hq, rfl⟩ := h cs (by simp)
    obtain ⟨l, rfl, hl⟩ := choose_list css (fun c hc => h c (by simp [hc]))
    exact ⟨x :: l, rfl, fun y hy => by
      rcases List.mem_cons.1 hy with rfl | hy
      · exact hq
      · exact hl y hy⟩

theorem choose_nat {β : Type} {Q : Nat → β → Prop} : ∀ (n : Nat), (∀ i, i < n → ∃ x, Q i x) → ∃ l : List β, l.length = n ∧ ∀ i x, l[i]? = some x → Q i x
  | 0, _ => ⟨[], rfl, by simp⟩
  | n + 1, h => by
    obtain ⟨l, hl, hq⟩ := choose_nat n (fun i hi => h i (by omega))
    obtain ⟨x, hx⟩ := h n (by omega)
    refine ⟨l ++ [x], by simp [hl], fun i y hy => ?_⟩
    rcases Nat.lt_or_ge i l.length with hi | hi
    · rw [List.getElem?_append_left hi] at hy
      exact hq i y hy
    · rw [List.getElem?_append_right hi] at hy
      have : i - l.length = 0 := by
        rcases Nat.eq_zero_or_pos (i - l.length) with h0 | h0
        · exact h0
        · rw [List.getElem?_eq_none (by simp; omega)] at hy; cases hy
      rw [this] at hy
      simp at hy
      subst hy
      obtain rfl : i = n := by omega
      exact hx

theorem flatten_at {α : Type} {k : Nat} : ∀ (css : List (List α)), (∀ cs ∈ css, cs.length = k) → ∀ (j : Nat) (u : α), css.flatten[j]? = some u → ∃ cs, css[j / k]? = some cs ∧ cs[j % k]? = some u
  | [], _, j, u, h => by simp at h
  | cs :: css, hk, j, u, h => by
    have h0 := hk cs (by simp)
    rw [List.flatten_cons] at h
    rcases Nat.lt_or_ge j cs.length with hj | hj
    · rw [List.getElem?_append_left hj] at h
      refine ⟨cs, ?_, ?_⟩
      · rw [Nat.div_eq_of_lt (by omega)]; rfl
      · rw [Nat.mod_eq_of_lt (by omega)]; exact h
    · rw [List.getElem?_append_right hj] at h
      obtain ⟨c, h1, h2⟩ := flatten_at css (fun c hc => hk c (by simp [hc])) _ u h
      have hkp : 0 < k := by
        rcases Nat.eq_zero_or_pos k with hz | hz
        · subst hz
          have : c = [] := List.eq_nil_of_length_eq_zero (hk c (by simp [List.mem_of_getElem? h1]))
          subst this
          simp at h2
        · exact hz
      have e1 : j / k = (j - cs.length) / k + 1 := by
        rw [h0]
        rw [Nat.div_eq_sub_div hkp (by omega)]
      have e2 : j % k = (j - cs.length) % k := by
        rw [h0]
        exact Nat.mod_eq_sub_mod (by omega)
      exact ⟨c, by rw [e1]; exact h1, by rw [e2]; exact h2⟩

/-- A slice of a flat type that came in. -/
theorem open_flats {H : Type} {enc : TypeId × Value → H} {P : Program} {W : World} {base : Nat} {sp : Nat → Bool} {held : Bool} {t e : TypeId} {ks : List (Option IntKind)} {a0 : Option Addr} {len cap : Nat} {d : DataW H} {p : List MemPlace}
    (ht : P.underlying t = some (.slice e)) (hk : flat P 9 e = some ks) (hC : P.cellsOf e = ks.length) (hpos : 0 < ks.length) (h : DataW.Trod enc P W base sp held t (.slice a0 len cap) d p) :
    ∃ css : List (List Value), css.length = len ∧ (∀ cs ∈ css, FitsAll ks cs) ∧ Reads W W.heap.size ks.length a0 len css.flatten ∧ len ≤ cap ∧ cap ≤ maxLen := by
  obtain ⟨fuel, hf⟩ := h
  rcases Go.Deep.open_slice ht hf with ⟨hcs, _⟩ | ⟨a, len', cap', m, n, D, Pl, hcs, hb, hl, hm, hmm, hx, hi⟩
  · simp [Value.cells] at hcs
    obtain ⟨rfl, rfl, rfl⟩ := hcs
    exact ⟨[], rfl, by simp, by simpa using Reads.none_, Nat.le_refl _, by unfold maxLen; omega⟩
  · simp [Value.cells] at hcs
    obtain ⟨rfl, rfl, rfl⟩ := hcs
    have hml : len ≤ m := by rw [hmm]; split <;> omega
    have h1 : ∀ i, i < len → ∃ cs : List Value, FitsAll ks cs ∧ ∀ j u, cs[j]? = some u → W.cell? ((a.add (i * ks.length)).add j) = some u := by
      intro i hil
      obtain ⟨cs', hc, ht'⟩ := hi i (by omega)
      obtain ⟨_, hcl, hat⟩ := World.cells?_some hc
      refine ⟨cs', trod_flat 9 e ks _ cs' _ hk hcl hC ht', fun j u hj => ?_⟩
      rw [← hC, hat j (by have := (List.getElem?_eq_some_iff.1 hj).1; omega)]
      exact hj
    obtain ⟨css, hcl, hq⟩ := choose_nat len h1
    have hfit : ∀ cs ∈ css, FitsAll ks cs := by
      intro cs hc
      obtain ⟨i, hi⟩ := List.getElem?_of_mem hc
      exact (hq i cs hi).1
    refine ⟨css, hcl, hfit, ⟨?_, fun hn => ⟨a, rfl, ?_, ?_⟩⟩, hl, hm⟩
    · rw [List.length_flatten, ← hcl]
      clear hq hcl
      induction css with
      | nil => simp
      | cons c css ih =>
        rw [List.map_cons, List.sum_cons, ih (fun x hx => hfit x (by simp [hx])), (hfit c (by simp)).length, List.length_cons, Nat.succ_mul]
        omega
    · obtain ⟨cs, hc⟩ : ∃ cs, css[0]? = some cs := ⟨_, List.getElem?_eq_getElem (by omega)⟩
      have hlen := (hq 0 cs hc).1.length
      have hcell := (hq 0 cs hc).2 0 (cs[0]'(by omega)) (List.getElem?_eq_getElem (by omega))
      have := World.block_lt_of_cell? _ _ hcell
      rwa [block_of_add, block_of_add] at this
    · intro j u hj
      obtain ⟨cs, h1, h2⟩ := flatten_at css (fun c hc => (hfit c hc).length) j u hj
      have := (hq _ _ h1).2 _ _ h2
      rw [add_of_add] at this
      rwa [show j / ks.length * ks.length + j % ks.length = j from by rw [Nat.mul_comm]; exact Nat.div_add_mod _ _] at this

theorem ret_int {k : IntKind} {a b : Int} (h : a = b) : Ending.returned (.int k a) = .returned (.int k b) := by rw [h]

end Go.Proofs.YticikknfkkmoaaaDoor

namespace Go.Proofs.YticikknfkkmoaaaDoor
open Go.RowKit

theorem cell_add {w : World} {X : Addr} {j : Nat} {u : Value} (h : w.cell? (X.add j) = some u) : w.cell? ⟨X.block, X.off + j, none⟩ = some u := by
  have hs := World.cell?_spot h
  have e : X.add j = ⟨X.block, X.off + j, none⟩ := by
    obtain ⟨b, o, s⟩ := X
    unfold Addr.add at hs ⊢
    by_cases hj : j = 0
    · subst hj
      simp at hs ⊢
      exact hs
    · simp [hj] at hs ⊢
      try exact hs
  rwa [e] at h

theorem flat_at {α : Type} {size : Nat} {f : α → List Value} (hf : ∀ x, (f x).length = size) : ∀ (l : List α) (k : Nat) (x : α) (j : Nat) (u : Value), l[k]? = some x → (f x)[j]? = some u → (l.flatMap f)[k * size + j]? = some u
  | [], k, x, j, u, h, _ => by simp at h
  | y :: l, 0, x, j, u, h, hu => by
    simp at h
    subst h
    rw [List.flatMap_cons, List.getElem?_append_left (by have := (List.getElem?_eq_some_iff.1 hu).1; omega), Nat.zero_mul, Nat.zero_add]
    exact hu
  | y :: l, k + 1, x, j, u, h, hu => by
    rw [List.flatMap_cons, List.getElem?_append_right (by rw [hf, Nat.succ_mul]; omega), hf, show (k + 1) * size + j - size = k * size + j from by rw [Nat.succ_mul]; omega]
    exact flat_at hf l k x j u (by simpa using h) hu

/-- Element k of a slice of structs, cell by cell, in the walk's own spelling. -/
theorem Reads.atS {w : World} {B n k size : Nat} {A : Option Addr} {α : Type} {l : List α} {f : α → List Value} (hf : ∀ x, (f x).length = size) (hz : l.length = n) (h : Reads w B size A n (l.flatMap f)) (hk : k < n) :
    ∃ ad x, A = some ad ∧ l[k]? = some x ∧ l.take (k + 1) = l.take k ++ [x] ∧ x ∈ l ∧ ad.block < B ∧ (∀ u, (f x)[0]? = some u → w.cell? (ad.add (k * size)) = some u) ∧
      ∀ j u, (f x)[j]? = some u → w.cell? ⟨(ad.add (k * size)).block, (ad.add (k * size)).off + j, none⟩ = some u := by
  obtain ⟨ad, rfl, hb, hc⟩ := h.2 (by omega)
  have hx : l[k]? = some (l[k]'(by omega)) := List.getElem?_eq_getElem (by omega)
  refine ⟨ad, l[k]'(by omega), rfl, hx, by rw [List.take_add_one, hx]; rfl, List.getElem_mem _, hb, fun u hu => ?_, fun j u hu => ?_⟩
  · have := hc _ u (flat_at hf l k _ 0 u hx hu)
    exact this
  · have := hc _ u (flat_at hf l k _ j u hx hu)
    rw [← add_of_add] at this
    exact cell_add this

theorem box1b {w w1 : World} {cs : List Value} {t : TypeId} {fr : Nat × Nat} {o : Obj} (hb : Below ((w.alloc (.cells cs.toArray t fr)).alloc o).heap.size ((w.alloc (.cells cs.toArray t fr)).alloc o) w1) :
    Below w.heap.size w w1 ∧ w.heap.size + 1 < w1.heap.size ∧ ∀ j u, cs[j]? = some u → w1.cell? ⟨w.heap.size, j, none⟩ = some u := by
  have hs := hb.size
  simp at hs
  refine ⟨below_step (((Below.refl _ _).alloc (Nat.le_refl _) _).alloc (by simp) _) hb, by omega, fun j u hj => cell_step hb ?_⟩
  rw [World.cell?_alloc_past _ _ _ (by simp)]
  have e := heap_alloc_new w (.cells cs.toArray t fr)
  unfold World.cell?
  simp only [e]
  simpa using hj
theorem step1 {w1 w2 : World} {o : Obj} (hb : Below (w1.alloc o).heap.size (w1.alloc o) w2) : Below w1.heap.size w1 w2 := below_step ((Below.refl _ _).alloc (Nat.le_refl _) _) hb

end Go.Proofs.YticikknfkkmoaaaDoor

namespace Go.Proofs.YticikknfkkmoaaaDoor
open Go.ChangeShapes Go.WideShapes Go.ChangeAt Go.RowKit

/-- Behind a call that changes nothing that existed all old cells read as before. -/
theorem bcell {W w1 : World} (hb : Below W.heap.size W w1) : (∀ b o, b < W.heap.size → w1.cell? ⟨b, o, none⟩ = W.cell? ⟨b, o, none⟩) ∧ (∀ b o, b < W.heap.size → w1.frozen? ⟨b, o, none⟩ = W.frozen? ⟨b, o, none⟩) :=
  ⟨fun b o h => hb.cell (p := ⟨b, o, none⟩) h, fun b o h => hb.frozen (p := ⟨b, o, none⟩) h⟩

theorem bsize1 {w w1 : World} {o : Obj} (hb : Below (w.alloc o).heap.size (w.alloc o) w1) : w.heap.size < w1.heap.size := by
  have := hb.size
  simp at this
  omega
theorem bsize2 {w w1 : World} {o o' : Obj} (hb : Below ((w.alloc o).alloc o').heap.size ((w.alloc o).alloc o') w1) : w.heap.size < w1.heap.size ∧ w.heap.size + 1 < w1.heap.size := by
  have := hb.size
  simp at this
  omega
theorem bsize3 {w w1 : World} {o o' o'' : Obj} (hb : Below (((w.alloc o).alloc o').alloc o'').heap.size (((w.alloc o).alloc o').alloc o'') w1) :
    w.heap.size < w1.heap.size ∧ w.heap.size + 1 < w1.heap.size ∧ w.heap.size + 1 + 1 < w1.heap.size := by
  have := hb.size
  simp at this
  omega
theorem balloc1 {w w1 : World} {o : Obj} (hb : Below (w.alloc o).heap.size (w.alloc o) w1) : Below w.heap.size w w1 := below_step ((Below.refl _ _).alloc (Nat.le_refl _) _) hb
theorem balloc2 {w w1 : World} {o o' : Obj} (hb : Below ((w.alloc o).alloc o').heap.size ((w.alloc o).alloc o') w1) : Below w.heap.size w w1 :=
  below_step (((Below.refl _ _).alloc (Nat.le_refl _) _).alloc (by simp) _) hb
theorem balloc3 {w w1 : World} {o o' o'' : Obj} (hb : Below (((w.alloc o).alloc o').alloc o'').heap.size (((w.alloc o).alloc o').alloc o'') w1) : Below w.heap.size w w1 :=
  below_step ((((Below.refl _ _).alloc (Nat.le_refl _) _).alloc (by simp) _).alloc (by simp; omega) _) hb

/-- The same behind a world that differs from a named one by draws alone. -/
theorem bcellN {w1 X w2 : World} (hb : Below X.heap.size X w2) (hX : X.heap = w1.heap) :
    (∀ b o, b < w1.heap.size → w2.cell? ⟨b, o, none⟩ = w1.cell? ⟨b, o, none⟩) ∧ (∀ b o, b < w1.heap.size → w2.frozen? ⟨b, o, none⟩ = w1.frozen? ⟨b, o, none⟩) ∧ w1.heap.size ≤ w2.heap.size := by
  have hs : X.heap.size = w1.heap.size := by rw [hX]
  refine ⟨fun b o h => ?_, fun b o h => ?_, by have := hb.size; omega⟩
  · exact (hb.cell (p := ⟨b, o, none⟩) (by show b < _; omega)).trans (World.cell?_of_block (w := w1) (by rw [hX]))
  · exact (hb.frozen (p := ⟨b, o, none⟩) (by show b < _; omega)).trans (World.frozen?_of_block (w := w1) (by rw [hX]))

/-! What a region keeps: all cells of a world w1. -/
theorem keep0 (w1 : World) : (∀ b o, b < w1.heap.size → w1.drew.cell? ⟨b, o, none⟩ = w1.cell? ⟨b, o, none⟩) ∧ w1.heap.size ≤ w1.drew.heap.size ∧ Hid (Below w1.heap.size w1 w1.drew) :=
  ⟨fun _ _ _ => rfl, Nat.le_refl _, (Below.refl _ _).drew⟩
theorem keepD {w1 X : World} (h : (∀ b o, b < w1.heap.size → X.cell? ⟨b, o, none⟩ = w1.cell? ⟨b, o, none⟩) ∧ w1.heap.size ≤ X.heap.size ∧ Hid (Below w1.heap.size w1 X)) :
    (∀ b o, b < w1.heap.size → X.drew.cell? ⟨b, o, none⟩ = w1.cell? ⟨b, o, none⟩) ∧ w1.heap.size ≤ X.drew.heap.size ∧ Hid (Below w1.heap.size w1 X.drew) :=
  ⟨h.1, h.2.1, h.2.2.out.drew⟩
theorem keep1 {w1 X w2 : World} (h : (∀ b o, b < w1.heap.size → X.cell? ⟨b, o, none⟩ = w1.cell? ⟨b, o, none⟩) ∧ w1.heap.size ≤ X.heap.size ∧ Hid (Below w1.heap.size w1 X)) (hb : Below X.heap.size X w2) :
    (∀ b o, b < w1.heap.size → w2.cell? ⟨b, o, none⟩ = w1.cell? ⟨b, o, none⟩) ∧ w1.heap.size ≤ w2.heap.size ∧ Hid (Below w1.heap.size w1 w2) :=
  ⟨fun b o hb' => (hb.cell (p := ⟨b, o, none⟩) (by show b < _; have := h.2.1; omega)).trans (h.1 b o hb'), Nat.le_trans h.2.1 hb.size, below_step h.2.2.out hb⟩

theorem own_block_lt {w : World} {base : Nat} {e : TypeId} {size n : Nat} {v : Value} {xs : List Value} (h : w.ownsRow base e size v n xs) {k : Nat} (hk : w.heap.size ≤ k) : v.ownBlock ≠ some k := by
  rcases h.2 with ⟨rfl, _⟩ | ⟨g, cap, cur, rfl, _, hh, _⟩
  · simp [Value.ownBlock]
  · intro he
    have : g = k := by simpa [Value.ownBlock] using he
    subst this
    rw [Array.getElem?_eq_none hk] at hh
    cases hh

/-- As wpList_append_one, where the number of the new block is spelled otherwise; it tells of all blocks but the row's own. -/
theorem wpList_append_oneN {P : Program} {ops : Array Oper} {rest : List Oper} {o : Oper} {a : Act} {Q : Exit → Act → World → Prop} {w0 : World} {us : List Value} {fr : Nat × Nat} {e : TypeId} {g : Nat} (hgd : o.guard = none) (s x : Operand) (t : TypeId)
    (ho : o.op = .call { callee := .builtin .append, args := #[s, x], argTypes := #[t, t] })
    (base : Nat) (z : Value) (size bytes : Nat) (ht : P.underlying t = some (.slice e)) (hi : (P.info? e).map (fun i => (i.zero, i.size, i.bytes)) = some (some z, size, bytes))
    (hzs : z.cells.size = size) (hsz : 0 < size) (v : Value) (n : Nat) (xs : List Value) (hs : a.eval s = v)
    (hx : a.eval x = .slice (some ⟨g, 0, none⟩) 1 1) (hg : g = w0.heap.size) (hown : w0.ownsRow base e size v n xs) (hbase : base ≤ w0.heap.size)
    (hl : us.length = size) (h1 : ∀ u ∈ us, u.oneCell' = true) (h63 : n + 1 ≤ maxLen) (hbytes : (n + 1) * bytes ≤ 140737488355328)
    (h : ∀ v' w', w'.ownsRow base e size v' (n + 1) (xs ++ us) → Below base w0 w' → w0.heap.size < w'.heap.size → (∀ k, k < w0.heap.size → v.ownBlock ≠ some k → w'.heap[k]? = w0.heap[k]?) → wpList P ops Q rest (a.put o.dst v') w') :
    wpList P ops Q (o :: rest) a (w0.alloc (.cells us.toArray e fr)) := by
  subst hg
  obtain ⟨i0, hi, hz0, hz1, hz2⟩ := info_parts hi
  refine wpList_append_own _ hgd s x t ho base e i0 z size bytes ht hi hz0 hz1 hz2 hzs hsz v n xs hs (hown.alloc _) ⟨w0.heap.size, 0, none⟩ 1 1 us hx (by omega) ?_ h1 h63 hbytes (by simp; omega) ?_
  · intro j u hj
    have e1 : (⟨w0.heap.size, 0, none⟩ : Addr).add j = ⟨w0.heap.size, j, none⟩ := by unfold Addr.add; split <;> simp_all
    rw [e1]
    have : (w0.alloc (.cells us.toArray e fr)).heap[w0.heap.size]? = some (.cells us.toArray e fr) := heap_alloc_new w0 _
    unfold World.cell?
    simp only [this]
    simpa using hj
  · intro v' w' hown' hg _
    have hb : Below base w0 (w0.alloc (.cells us.toArray e fr)) := (Below.refl _ _).alloc hbase _
    refine h v' w' hown' (hb.grown hg (by simp; omega) ?_) ?_ ?_
    · intro k hk
      rcases hown.2 with ⟨rfl, _⟩ | ⟨g, cap, cur, rfl, hgb, _⟩
      · simp [Value.ownBlock] at hk
      · simp only [Value.ownBlock, Option.some.injEq] at hk
        omega
    · have := hg.size
      simp at this
      omega
    · intro k hk hne
      rw [hg.block k (by simp; omega) (fun he => hne he.symm)]
      exact Below.heap_alloc _ _ _ hk

theorem keepB {w1 X w2 : World} (h : (∀ b o, b < w1.heap.size → X.cell? ⟨b, o, none⟩ = w1.cell? ⟨b, o, none⟩) ∧ w1.heap.size ≤ X.heap.size ∧ Hid (Below w1.heap.size w1 X)) (hb : Below w1.heap.size X w2) :
    (∀ b o, b < w1.heap.size → w2.cell? ⟨b, o, none⟩ = w1.cell? ⟨b, o, none⟩) ∧ w1.heap.size ≤ w2.heap.size ∧ Hid (Below w1.heap.size w1 w2) :=
  ⟨fun b o hb' => (hb.cell (p := ⟨b, o, none⟩) hb').trans (h.1 b o hb'), Nat.le_trans h.2.1 hb.size, h.2.2.out.trans hb⟩
theorem keepBelow {w1 X : World} (h : (∀ b o, b < w1.heap.size → X.cell? ⟨b, o, none⟩ = w1.cell? ⟨b, o, none⟩) ∧ w1.heap.size ≤ X.heap.size ∧ Hid (Below w1.heap.size w1 X)) : Below w1.heap.size w1 X := h.2.2.out
theorem keepSize {w1 X : World} (h : (∀ b o, b < w1.heap.size → X.cell? ⟨b, o, none⟩ = w1.cell? ⟨b, o, none⟩) ∧ w1.heap.size ≤ X.heap.size ∧ Hid (Below w1.heap.size w1 X)) : w1.heap.size ≤ X.heap.size := h.2.1
theorem keepA {w1 X : World} (h : (∀ b o, b < w1.heap.size → X.cell? ⟨b, o, none⟩ = w1.cell? ⟨b, o, none⟩) ∧ w1.heap.size ≤ X.heap.size ∧ Hid (Below w1.heap.size w1 X)) (o : Obj) :
    (∀ b o', b < w1.heap.size → (X.alloc o).cell? ⟨b, o', none⟩ = w1.cell? ⟨b, o', none⟩) ∧ w1.heap.size ≤ (X.alloc o).heap.size ∧ Hid (Below w1.heap.size w1 (X.alloc o)) :=
  keepB h ((Below.refl _ _).alloc h.2.1 o)

/-- A builtin append in a region that draws its order: a row of the call's own, and whatever is appended. -/
theorem step_append_below {P : Program} {ops : Array Oper} {o : Oper} {a : Act} {w : World} {K : Act → World → Prop} {Q : Exit → Act → World → Prop} {E : Prop} (hgd : o.guard = none) (s x : Operand) (t : TypeId)
    (ho : o.op = .call { callee := .builtin .append, args := #[s, x], argTypes := #[t, t] })
    (base : Nat) (e : TypeId) (z : Value) (size bytes : Nat) (ht : P.underlying t = some (.slice e)) (hi : (P.info? e).map (fun i => (i.zero, i.size, i.bytes)) = some (some z, size, bytes))
    (hzs : z.cells.size = size) (hsz : 0 < size)
    (v : Value) (n : Nat) (xs : List Value) (hs : a.eval s = v) (hown : w.ownsRow base e size v n xs)
    (B : Nat) (A : Option Addr) (m c : Nat) (news : List Value) (hx : a.eval x = .slice A m c) (hr : Reads w B size A m news) (h1 : ∀ u ∈ news, u.oneCell' = true)
    (h63 : n + m ≤ maxLen) (hbytes : (n + m) * bytes ≤ 140737488355328) (hbase : base ≤ w.heap.size)
    (h : ∀ v' w', w'.ownsRow base e size v' (n + m) (xs ++ news) → Below base w w' → K (a.put o.dst v') w') :
    if Region.wanted o (yielded ops a.tmps) = true then Oper.wp P o a w K Q else E := by
  obtain ⟨i0, hi, hz0, hz1, hz2⟩ := info_parts hi
  refine step_append_any w hgd s x t ho base e i0 z size bytes ht hi hz0 hz1 hz2 hzs hsz v n xs hs hown B A m c news hx hr h1 h63 hbytes hbase fun v' w' h2 h3 _ => h v' w' h2 ((Below.refl _ _).grown h3 hbase ?_)
  intro k hk
  rcases hown.2 with ⟨rfl, _⟩ | ⟨g, cap, cur, rfl, hgb, _⟩
  · simp [Value.ownBlock] at hk
  · simp only [Value.ownBlock, Option.some.injEq] at hk
    omega

/-- A builtin append onto nil in a region that draws its order: a new block; nothing that existed is changed. -/
theorem step_append_nil {P : Program} {ops : Array Oper} {o : Oper} {a : Act} {w : World} {K : Act → World → Prop} {Q : Exit → Act → World → Prop} {E : Prop} (hgd : o.guard = none) (s x : Operand) (t : TypeId)
    (ho : o.op = .call { callee := .builtin .append, args := #[s, x], argTypes := #[t, t] })
    (base : Nat) (e : TypeId) (z : Value) (size bytes : Nat) (ht : P.underlying t = some (.slice e)) (hi : (P.info? e).map (fun i => (i.zero, i.size, i.bytes)) = some (some z, size, bytes))
    (hzs : z.cells.size = size) (hsz : 0 < size) (hs : a.eval s = .slice none 0 0)
    (B : Nat) (A : Option Addr) (m c : Nat) (news : List Value) (hx : a.eval x = .slice A m c) (hr : Reads w B size A m news) (h1 : ∀ u ∈ news, u.oneCell' = true)
    (h63 : m ≤ maxLen) (hbytes : m * bytes ≤ 140737488355328) (hbase : base ≤ w.heap.size)
    (h : ∀ v' w', w'.ownsRow base e size v' m news → Below w.heap.size w w' → K (a.put o.dst v') w') :
    if Region.wanted o (yielded ops a.tmps) = true then Oper.wp P o a w K Q else E := by
  obtain ⟨i0, hi, hz0, hz1, hz2⟩ := info_parts hi
  refine step_append_any w hgd s x t ho base e i0 z size bytes ht hi hz0 hz1 hz2 hzs hsz (.slice none 0 0) 0 [] hs (World.ownsRow_nil _ _ _ _) B A m c news hx hr h1 (by omega) (by rw [Nat.zero_add]; exact hbytes) hbase fun v' w' h2 h3 _ => h v' w' (by rw [Nat.zero_add, List.nil_append] at h2; exact h2) ((Below.refl _ _).grown h3 (Nat.le_refl _) ?_)
  intro k hk
  simp [Value.ownBlock] at hk

theorem reads_one {w : World} {g : Nat} {u : Value} (h : w.cell? ⟨g, 0, none⟩ = some u) (hg : g < w.heap.size) : Reads w w.heap.size 1 (some ⟨g, 0, none⟩) 1 [u] := by
  refine ⟨rfl, fun _ => ⟨_, rfl, hg, fun j v hj => ?_⟩⟩
  have : j = 0 := by
    rcases Nat.eq_zero_or_pos j with h0 | h0
    · exact h0
    · rw [List.getElem?_eq_none (by simp; omega)] at hj; cases hj
  subst this
  simp at hj
  subst hj
  exact h

end Go.Proofs.YticikknfkkmoaaaDoor

namespace Go.Proofs.YticikknfkkmoaaaDoor
open Go.RowKit

theorem and1_u64 (x : Int) (h1 : 0 ≤ x) (h2 : x < 18446744073709551616) : bits .and .u64 x 1 = x % 2 := by
  rw [u64_and x 1 h1 h2 (by omega) (by omega)]
  rw [show (1 : Int).toNat = 1 from rfl, nat_mask1]
  omega

theorem or_u32 (x y : Int) (h1 : 0 ≤ x) (h2 : x < 65536) (h3 : 0 ≤ y) (h4 : y < 65536) : bits .or .u32 (x * 65536) y = x * 65536 + y := by
  rw [u32_or (x * 65536) y (by omega) (by omega) h3 (by omega), nat_join 16 _ _ (by omega) (by omega)]
  omega

theorem shr_range (x : Int) (k : Nat) (h1 : 0 ≤ x) (h2 : x < 18446744073709551616) : 0 ≤ x / 2 ^ k ∧ x / 2 ^ k < 18446744073709551616 := by
  have hp : (0 : Int) < 2 ^ k := Int.pow_pos (by omega)
  exact ⟨Int.ediv_nonneg h1 (by omega), Int.lt_of_le_of_lt (Int.ediv_le_self _ h1) h2⟩

theorem bit_wrap (x : Int) (k : Nat) (h1 : 0 ≤ x) (h2 : x < 18446744073709551616) : wrap64 (bits .and .u64 (x / 2 ^ k) 1) = x / 2 ^ k % 2 := by
  have h := shr_range x k h1 h2
  rw [and1_u64 _ h.1 h.2]
  unfold wrap64
  omega

theorem bit_wrap0 (x : Int) (h1 : 0 ≤ x) (h2 : x < 18446744073709551616) : wrap64 (bits .and .u64 x 1) = x % 2 := by
  rw [and1_u64 _ h1 h2]
  unfold wrap64
  omega

end Go.Proofs.YticikknfkkmoaaaDoor

namespace Go.Proofs.YticikknfkkmoaaaDoor
open Go.ChangeShapes Go.WideShapes Go.ChangeAt Go.RowKit

theorem ret_bool {a b : Bool} (h : a = b) : Ending.returned (.bool a) = .returned (.bool b) := by rw [h]

set_option maxHeartbeats 400000 in
theorem may_any (six : Bool) (hi lo : Int) (w : World) (h1 : 0 ≤ lo) :
    Calls Tryd.prog 33 #[.agg #[.bool six, .int .u64 hi, .int .u64 lo]] w fun e w' => e = .returned (.bool (mayB six hi lo)) ∧ Below w.heap.size w w' := by
  cases six
  · by_cases hh : hi = 0
    · subst hh
      go_enter Tryd.func33, Tryd.ntmps33
      go_wp2
      go_ret
      exact ⟨ret_bool (by simp only [mayB]; rw [Bool.eq_iff_iff]; simp; omega), (Below.refl _ _).alloc (Nat.le_refl _) _⟩
    · have hb : (hi == 0) = false := by simpa using hh
      go_enter Tryd.func33, Tryd.ntmps33
      go_wp2
      go_ret
      exact ⟨ret_bool (by simp [mayB, hh]), (Below.refl _ _).alloc (Nat.le_refl _) _⟩
  · go_enter Tryd.func33, Tryd.ntmps33
    go_wp2
    go_ret
    exact ⟨ret_bool (by simp [mayB]), (Below.refl _ _).alloc (Nat.le_refl _) _⟩

set_option maxHeartbeats 400000 in
theorem refMay_any (six : Bool) (hi lo : Int) (w : World) (h1 : 0 ≤ lo) :
    Calls Tryd.prog 27 #[.agg #[.bool six, .int .u64 hi, .int .u64 lo]] w fun e w' => e = .returned (.bool (mayB six hi lo)) ∧ Below w.heap.size w w' := by
  cases six
  · by_cases hh : hi = 0
    · subst hh
      go_enter Tryd.func27, Tryd.ntmps27
      go_wp2
      all_goals go_ret
      all_goals exact ⟨ret_bool (by simp only [mayB]; rw [Bool.eq_iff_iff]; simp; omega), (Below.refl _ _).alloc (Nat.le_refl _) _⟩
    · have hb : (hi == 0) = false := by simpa using hh
      go_enter Tryd.func27, Tryd.ntmps27
      go_wp2
      go_ret
      exact ⟨ret_bool (by simp [mayB, hh]), (Below.refl _ _).alloc (Nat.le_refl _) _⟩
  · go_enter Tryd.func27, Tryd.ntmps27
    go_wp2
    go_ret
    exact ⟨ret_bool (by simp [mayB]), (Below.refl _ _).alloc (Nat.le_refl _) _⟩

set_option maxRecDepth 100000 in
/-- An address that came in. -/
theorem open_addr {H : Type} {enc : TypeId × Value → H} {W : World} {base : Nat} {sp : Nat → Bool} {held : Bool} {b0 : Nat} {v : Value} {d : DataW H} {p : List MemPlace}
    (hv : Value.okWide Tryd.prog W .any b0 24 v) (h : DataW.Trod enc Tryd.prog W base sp held 24 v d p) :
    ∃ six hi lo, v = .agg #[.bool six, .int .u64 hi, .int .u64 lo] ∧ (0 ≤ hi ∧ hi < 18446744073709551616) ∧ (0 ≤ lo ∧ lo < 18446744073709551616) := by
  have hc : Tryd.prog.cellsOf 24 = 3 := by kernel_rfl
  have hk : flat Tryd.prog 9 24 = some [none, some .u64, some .u64] := by kernel_rfl
  obtain ⟨cs, rfl, hf⟩ := open_flat (fun fuel cs x hl hx => trod_flat 9 _ _ fuel cs x hk hl (by rw [hc]; rfl) hx) Tryd.underlying24 hv h
  obtain ⟨six, _, rfl, hf1⟩ := hf.bool_inv
  obtain ⟨hi, _, rfl, wy, hf2⟩ := hf1.int_inv
  obtain ⟨lo, _, rfl, wz, hf3⟩ := hf2.int_inv
  obtain rfl := hf3.nil_inv
  exact ⟨six, hi, lo, rfl, range_u64 wy, range_u64 wz⟩

end Go.Proofs.YticikknfkkmoaaaDoor

namespace Go.Proofs.YticikknfkkmoaaaDoor
open Go.ChangeShapes Go.WideShapes Go.ChangeAt Go.RowKit

theorem wide_any (six : Bool) (w : World) : Calls Tryd.prog 34 #[.bool six] w fun e w' => e = .returned (.int .i64 (wideI six)) ∧ w = w' := by
  cases six <;>
  · go_enter Tryd.func34, Tryd.ntmps34
    go_wp2
    go_ret
    exact ⟨rfl, rfl⟩

theorem infoInt : (Tryd.prog.info? 3).map (fun i => (i.zero, i.size, i.bytes)) = some (some (.int .i64 0), 1, 8) := by kernel_rfl

def bitsTo (f : Nat → Int) (k : Nat) : List Value := (List.range k).map fun j => Value.int .i64 (f j)
theorem bitsTo_succ (f : Nat → Int) (k : Nat) : bitsTo f (k + 1) = bitsTo f k ++ [Value.int .i64 (f k)] := by simp [bitsTo, List.range_succ]

theorem bits_four_eq (hi lo : Int) : (bitsL false hi lo).map (Value.int .i64) = bitsTo (fun j => lo / 2 ^ (31 - j) % 2) 32 := by
  unfold bitsL bitsTo
  rw [List.map_map]
  apply List.map_congr_left
  intro j hj
  have : j < 32 := by simpa [wideI] using hj
  show Value.int .i64 (bitI false hi lo j) = _
  unfold bitI
  rw [if_neg (by simp), show (31 - (j : Int)).toNat = 31 - j from by omega]

theorem bits_six_eq (hi lo : Int) : (bitsL true hi lo).map (Value.int .i64) = bitsTo (fun j => hi / 2 ^ (63 - j) % 2) 64 ++ bitsTo (fun j => lo / 2 ^ (63 - j) % 2) 64 := by
  have e : ∀ f : Nat → Int, bitsTo f 128 = bitsTo f 64 ++ bitsTo (fun j => f (64 + j)) 64 := by
    intro f
    unfold bitsTo
    rw [show (128 : Nat) = 64 + 64 from rfl, List.range_add, List.map_append, List.map_map]
    rfl
  have h1 : (bitsL true hi lo).map (Value.int .i64) = bitsTo (fun j => bitI true hi lo j) 128 := by
    unfold bitsL bitsTo
    rw [List.map_map]
    rfl
  rw [h1, e]
  refine congr (congrArg _ ?_) ?_
  · unfold bitsTo
    apply List.map_congr_left
    intro j hj
    have : j < 64 := by simpa using hj
    show Value.int .i64 (bitI true hi lo j) = _
    unfold bitI
    rw [if_pos rfl, if_pos (by omega), show (63 - (j : Int)).toNat = 63 - j from by omega]
  · unfold bitsTo
    apply List.map_congr_left
    intro j hj
    have : j < 64 := by simpa using hj
    show Value.int .i64 (bitI true hi lo ((64 + j : Nat) : Int)) = _
    unfold bitI
    rw [if_pos rfl, if_neg (by omega), show (127 - ((64 + j : Nat) : Int)).toNat = 63 - j from by omega]

def OwnBits (six : Bool) (hi lo : Int) (w : World) (e : Ending) (w' : World) : Prop :=
  ∃ v, e = .returned v ∧ w'.ownsRow (w.heap.size + 1) 3 1 v (wideI six).toNat ((bitsL six hi lo).map (Value.int .i64)) ∧ Below w.heap.size w w' ∧ w.heap.size < w'.heap.size

set_option maxHeartbeats 1000000 in
theorem bitsOf_four (hi lo : Int) (w : World) (h2 : 0 ≤ lo ∧ lo < 18446744073709551616) :
    Calls Tryd.prog 45 #[.agg #[.bool false, .int .u64 hi, .int .u64 lo]] w (OwnBits false hi lo w) := by
  go_enter Tryd.func45, Tryd.ntmps45
  go_wp2
  go_loopw [3, 6] (fun v i wr => ∃ k : Nat, k ≤ 32 ∧ i = .int .i64 (31 - k) ∧ wr.ownsRow (w.heap.size + 1) 3 1 v k (bitsTo (fun j => lo / 2 ^ (31 - j) % 2) k) ∧ Below (w.heap.size + 1) (w.alloc (.cells #[.bool false, .int .u64 hi, .int .u64 lo] 24)) wr)
    (fun _ i _ => (intOf i + 1).toNat)
  case atStart => exact ⟨0, by omega, rfl, World.ownsRow_nil _ _ _ _, Below.refl _ _⟩
  case round =>
    obtain ⟨k, hk, rfl, hown, hb⟩ := hrel
    have hc : wr.cell? ⟨w.heap.size, 2, none⟩ = some (.int .u64 lo) := box_cell (cs := [.bool false, .int .u64 hi, .int .u64 lo]) hb 2
    have hs := hb.size
    simp at hs
    by_cases hlt : k < 32
    · have hk1 : (0 : Int) ≤ 31 - (k : Int) := by omega
      go_wp2_with (at_builtin; go_loud (refine wpList_append_one rfl _ _ 36 rfl (w.heap.size + 1) (.int .i64 0) 1 8 Tryd.underlying36 infoInt rfl (by decide) _ _ _ rfl hown ?c1 rfl ?c2 rfl ?c3 ?c4 ?_))
      case c1 => omega
      case c2 => intro u hu; simp at hu; subst hu; rfl
      case c3 => unfold maxLen; omega
      case c4 => omega
      intro v' w' hown' hb' _
      have R : w'.ownsRow (w.heap.size + 1) 3 1 v' (k + 1) (bitsTo (fun j => lo / 2 ^ (31 - j) % 2) (k + 1)) := by
        rw [bitsTo_succ, ← bit_wrap _ _ h2.1 h2.2]
        exact hown'
      have B := hb.trans hb'
      clear hown' hb' hown hb hc
      go_wp2
      go_roundw
      case rel => exact ⟨k + 1, by omega, by go_num, R, B⟩
      case measure => simp [intOf]; omega
    · obtain rfl : k = 32 := by omega
      go_wp2
      go_ret
      exact ⟨_, rfl, by rw [bits_four_eq]; exact hown, below_box hb, by omega⟩

set_option maxHeartbeats 1000000 in
theorem bitsOf_six (hi lo : Int) (w : World) (h1 : 0 ≤ hi ∧ hi < 18446744073709551616) (h2 : 0 ≤ lo ∧ lo < 18446744073709551616) :
    Calls Tryd.prog 45 #[.agg #[.bool true, .int .u64 hi, .int .u64 lo]] w (OwnBits true hi lo w) := by
  go_enter Tryd.func45, Tryd.ntmps45
  go_wp2
  go_loopw [3, 4] (fun v i wr => ∃ k : Nat, k ≤ 64 ∧ i = .int .i64 (63 - k) ∧ wr.ownsRow (w.heap.size + 1) 3 1 v k (bitsTo (fun j => hi / 2 ^ (63 - j) % 2) k) ∧ Below (w.heap.size + 1) (w.alloc (.cells #[.bool true, .int .u64 hi, .int .u64 lo] 24)) wr)
    (fun _ i _ => (intOf i + 1).toNat)
  case atStart => exact ⟨0, by omega, rfl, World.ownsRow_nil _ _ _ _, Below.refl _ _⟩
  case round =>
    obtain ⟨k, hk, rfl, hown, hb⟩ := hrel
    have hc : wr.cell? ⟨w.heap.size, 1, none⟩ = some (.int .u64 hi) := box_cell (cs := [.bool true, .int .u64 hi, .int .u64 lo]) hb 1
    have hs := hb.size
    simp at hs
    by_cases hlt : k < 64
    · have hk1 : (0 : Int) ≤ 63 - (k : Int) := by omega
      go_wp2_with (at_builtin; go_loud (refine wpList_append_one rfl _ _ 36 rfl (w.heap.size + 1) (.int .i64 0) 1 8 Tryd.underlying36 infoInt rfl (by decide) _ _ _ rfl hown ?c1 rfl ?c2 rfl ?c3 ?c4 ?_))
      case c1 => omega
      case c2 => intro u hu; simp at hu; subst hu; rfl
      case c3 => unfold maxLen; omega
      case c4 => omega
      intro v' w' hown' hb' _
      have R : w'.ownsRow (w.heap.size + 1) 3 1 v' (k + 1) (bitsTo (fun j => hi / 2 ^ (63 - j) % 2) (k + 1)) := by
        rw [bitsTo_succ, ← bit_wrap _ _ h1.1 h1.2]
        exact hown'
      have B := hb.trans hb'
      clear hown' hb' hown hb hc
      go_wp2
      go_roundw
      case rel => exact ⟨k + 1, by omega, by go_num, R, B⟩
      case measure => simp [intOf]; omega
    · obtain rfl : k = 64 := by omega
      clear hc hs
      go_wp2
      obtain ⟨wo, rfl⟩ : ∃ wo : World, wo = wr := ⟨_, rfl⟩
      go_loopw [3, 5] (fun v i wr => ∃ k : Nat, k ≤ 64 ∧ i = .int .i64 (63 - k) ∧ wr.ownsRow (w.heap.size + 1) 3 1 v (64 + k) (bitsTo (fun j => hi / 2 ^ (63 - j) % 2) 64 ++ bitsTo (fun j => lo / 2 ^ (63 - j) % 2) k) ∧ Below (w.heap.size + 1) (w.alloc (.cells #[.bool true, .int .u64 hi, .int .u64 lo] 24)) wr)
        (fun _ i _ => (intOf i + 1).toNat)
      case atStart => exact ⟨0, by omega, rfl, by simpa [bitsTo] using hown, hb⟩
      case round =>
        obtain ⟨k, hk, rfl, hown, hb⟩ := hrel
        have hc : wr.cell? ⟨w.heap.size, 2, none⟩ = some (.int .u64 lo) := box_cell (cs := [.bool true, .int .u64 hi, .int .u64 lo]) hb 2
        have hs := hb.size
        simp at hs
        by_cases hlt : k < 64
        · have hk1 : (0 : Int) ≤ 63 - (k : Int) := by omega
          go_wp2_with (at_builtin; go_loud (refine wpList_append_one rfl _ _ 36 rfl (w.heap.size + 1) (.int .i64 0) 1 8 Tryd.underlying36 infoInt rfl (by decide) _ _ _ rfl hown ?c1 rfl ?c2 rfl ?c3 ?c4 ?_))
          case c1 => omega
          case c2 => intro u hu; simp at hu; subst hu; rfl
          case c3 => unfold maxLen; omega
          case c4 => omega
          intro v' w' hown' hb' _
          have R : w'.ownsRow (w.heap.size + 1) 3 1 v' (64 + (k + 1)) (bitsTo (fun j => hi / 2 ^ (63 - j) % 2) 64 ++ bitsTo (fun j => lo / 2 ^ (63 - j) % 2) (k + 1)) := by
            rw [bitsTo_succ _ k, ← bit_wrap _ _ h2.1 h2.2]
            exact hown'
          have B := hb.trans hb'
          clear hown' hb' hown hb hc
          go_wp2
          go_roundw
          case rel => first | exact ⟨k + 1, by omega, by go_num, R, B⟩ | ((repeat apply Exists.intro); exact ⟨⟨k + 1, by omega, by go_num, R, B⟩, rfl⟩)
          case measure => simp [intOf]; omega
        · obtain rfl : k = 64 := by omega
          go_wp2
          go_ret
          exact ⟨_, rfl, by rw [bits_six_eq]; exact hown, below_box hb, by omega⟩

theorem bitsOf_any (six : Bool) (hi lo : Int) (w : World) (h1 : 0 ≤ hi ∧ hi < 18446744073709551616) (h2 : 0 ≤ lo ∧ lo < 18446744073709551616) :
    Calls Tryd.prog 45 #[.agg #[.bool six, .int .u64 hi, .int .u64 lo]] w (OwnBits six hi lo w) := by
  cases six
  · exact bitsOf_four hi lo w h2
  · exact bitsOf_six hi lo w h1 h2
end Go.Proofs.YticikknfkkmoaaaDoor

namespace Go.Proofs.YticikknfkkmoaaaDoor
open Go.ChangeShapes Go.WideShapes Go.ChangeAt Go.RowKit

set_option maxHeartbeats 400000 in
theorem ones_any (n : Int) (w : World) (h1 : -1000 ≤ n) (h2 : n ≤ 1000) :
    Calls Tryd.prog 68 #[.int .i64 n] w fun e w' => e = .returned (.int .u64 (onesI n)) ∧ w = w' := by
  rcases (by omega : n ≤ 0 ∨ (0 < n ∧ n < 64) ∨ 64 ≤ n) with h | h | h
  · have e : onesI n = 0 := by unfold onesI; rw [if_pos h]
    rw [e]
    have h4 : n < 64 := by omega
    go_enter Tryd.func68, Tryd.ntmps68
    go_wp2
    all_goals go_ret
    all_goals exact ⟨ret_int (by simp [IntKind.wrap, IntKind.bits, IntKind.signed]), rfl⟩
  · have e : onesI n = IntKind.u64.wrap (18446744073709551615 * 2 ^ (64 - n).toNat) := by
      have := ones_wrap (64 - n).toNat (by omega)
      unfold onesI
      rw [if_neg (by omega), if_neg (by omega), ← this]
      simp [IntKind.wrap, IntKind.bits, IntKind.signed]
    rw [e]
    clear e
    have h3 := h.1
    have h4 := h.2
    clear h
    go_enter Tryd.func68, Tryd.ntmps68
    go_wp2
    all_goals go_ret
    all_goals exact ⟨rfl, rfl⟩
  · have e : onesI n = 18446744073709551615 := by unfold onesI; rw [if_neg (by omega), if_pos h]
    rw [e]
    go_enter Tryd.func68, Tryd.ntmps68
    go_wp2
    all_goals go_ret
    all_goals exact ⟨ret_int (by simp), rfl⟩

def maskHi (six : Bool) (n : Int) : Int := if six then onesI n else 0
def maskLo (six : Bool) (n : Int) : Int := if six then onesI (n - 64) else onesI n / 4294967296
theorem maskHi_range (six : Bool) (n : Int) : 0 ≤ maskHi six n ∧ maskHi six n < 18446744073709551616 := by
  unfold maskHi
  split
  · exact onesI_range n
  · omega
theorem maskLo_range (six : Bool) (n : Int) : 0 ≤ maskLo six n ∧ maskLo six n < 18446744073709551616 := by
  unfold maskLo
  split
  · exact onesI_range _
  · have := onesI_range n
    omega

theorem and_32 (x : Int) (h1 : 0 ≤ x) (h2 : x < 4294967296) : bits .and .u64 x 4294967295 = x := by
  rw [u64_and x _ h1 (by omega) (by omega) (by omega)]
  rw [show (4294967295 : Int).toNat = 2 ^ 32 - 1 from rfl, Nat.and_two_pow_sub_one_eq_mod, Nat.mod_eq_of_lt (by omega)]
  omega

set_option maxHeartbeats 400000 in
theorem mask_any (six : Bool) (n : Int) (w : World) (h1 : -500 ≤ n) (h2 : n ≤ 500) :
    Calls Tryd.prog 52 #[.bool six, .int .i64 n] w fun e w' => e = .returned (.tuple #[.int .u64 (maskHi six n), .int .u64 (maskLo six n)]) ∧ w = w' := by
  cases six
  · have hr := onesI_range n
    go_enter Tryd.func52, Tryd.ntmps52
    go_wp2_with (go_at_call 68; refine (ones_any _ _ (by omega) (by omega)).mono ?_; rintro e w' ⟨rfl, rfl⟩)
    go_ret2
    exact ⟨by rw [and_32 _ (by omega) (by omega)]; rfl, rfl⟩
  · go_enter Tryd.func52, Tryd.ntmps52
    go_wp2_with (go_at_call 68; refine (ones_any _ _ (by omega) (by omega)).mono ?_; rintro e w' ⟨rfl, rfl⟩)
    go_ret2
    exact ⟨rfl, rfl⟩

theorem and_hi (six : Bool) (hi n : Int) (h1 : 0 ≤ hi ∧ hi < 18446744073709551616) : bits .and .u64 hi (maskHi six n) = cutHi six hi n := by
  have hm := maskHi_range six n
  rw [u64_and _ _ h1.1 h1.2 hm.1 hm.2]
  unfold maskHi cutHi
  cases six
  · simp
  · exact and_ones_int hi n h1.1 h1.2

theorem and_lo (six : Bool) (lo n : Int) (h1 : 0 ≤ lo ∧ lo < 18446744073709551616) (h2 : six = false → lo < 4294967296) : bits .and .u64 lo (maskLo six n) = cutLo six lo n := by
  have hm := maskLo_range six n
  rw [u64_and _ _ h1.1 h1.2 hm.1 hm.2]
  unfold maskLo cutLo
  cases six
  · have h3 := h2 rfl
    have e := and_ones_int (lo * 4294967296) n (by omega) (by omega)
    rw [if_neg (by simp), if_neg (by simp), ← e]
    have hr := onesI_range n
    have e1 : (onesI n / 4294967296).toNat = (onesI n).toNat / 2 ^ 32 := by omega
    have e2 : lo.toNat = (lo * 4294967296).toNat / 2 ^ 32 := by omega
    rw [e1, e2, ← Nat.and_div_two_pow]
    omega
  · exact and_ones_int lo (n - 64) h1.1 h1.2

set_option maxHeartbeats 800000 in
theorem cut_any (six : Bool) (hi lo n : Int) (w : World) (h1 : 0 ≤ hi ∧ hi < 18446744073709551616) (h2 : 0 ≤ lo ∧ lo < 18446744073709551616) (h3 : six = false → lo < 4294967296) (h4 : -500 ≤ n) (h5 : n ≤ 500) :
    Calls Tryd.prog 35 #[.agg #[.bool six, .int .u64 hi, .int .u64 lo], .int .i64 n] w fun e w' => e = .returned (.agg #[.bool six, .int .u64 (cutHi six hi n), .int .u64 (cutLo six lo n)]) ∧ Below w.heap.size w w' := by
  rw [← and_hi six hi n h1, ← and_lo six lo n h2 h3]
  clear h3
  go_enter Tryd.func35, Tryd.ntmps35
  go_wp2_with (go_at_call 52; refine (mask_any six n _ (by omega) (by omega)).mono ?_; rintro e w' ⟨rfl, rfl⟩)
  exact bodyPost_ret (v := .agg #[.bool six, .int .u64 (bits .and .u64 hi (maskHi six n)), .int .u64 (bits .and .u64 lo (maskLo six n))]) (by simp [results, Tryd.results35, go_sem]) rfl
    ⟨rfl, ((Below.refl _ _).alloc (Nat.le_refl _) _).alloc (by simp) _⟩

end Go.Proofs.YticikknfkkmoaaaDoor

namespace Go.Proofs.YticikknfkkmoaaaDoor
open Go.ChangeShapes Go.WideShapes Go.ChangeAt Go.RowKit

set_option maxHeartbeats 1600000 in
theorem check_any (six : Bool) (hi lo n : Int) (w : World) (h1 : 0 ≤ hi ∧ hi < 18446744073709551616) (h2 : 0 ≤ lo ∧ lo < 18446744073709551616) :
    Calls Tryd.prog 17 #[.agg #[.bool six, .int .u64 hi, .int .u64 lo, .int .i64 n]] w fun e w' => e = .returned (.int .i64 (chk six hi lo n)) ∧ Below w.heap.size w w' := by
  unfold chk
  by_cases hm : mayB six hi lo = false
  · rw [if_pos hm]
    go_enter Tryd.func17, Tryd.ntmps17
    go_wp2_with (go_at_call 33; refine (may_any six hi lo _ h2.1).mono ?_; rintro e w1 ⟨rfl, hb⟩; obtain ⟨B1, S1, q0, q1, q2, q3⟩ := box4 hb; clear hb)
    go_ret
    exact ⟨rfl, B1⟩
  · rw [if_neg hm]
    have hm' : mayB six hi lo = true := by simpa using hm
    clear hm
    by_cases hr : n < 0
    · rw [if_pos (.inl hr)]
      go_enter Tryd.func17, Tryd.ntmps17
      go_wp2_with (go_at_call 33; refine (may_any six hi lo _ h2.1).mono ?_; rintro e w1 ⟨rfl, hb⟩; obtain ⟨B1, S1, q0, q1, q2, q3⟩ := box4 hb; clear hb)
      go_quiet ((go_at_call 34; refine (wide_any six _).mono ?_; rintro e w2 ⟨rfl, rfl⟩))
      go_wp2
      go_ret
      exact ⟨rfl, below_drewN B1 _⟩
    · have hl := wideI_le six
      have hd : decide (n < 0) = false := by simpa using hr
      by_cases hr2 : wideI six < n
      · rw [if_pos (.inr hr2)]
        go_enter Tryd.func17, Tryd.ntmps17
        go_wp2_with (go_at_call 33; refine (may_any six hi lo _ h2.1).mono ?_; rintro e w1 ⟨rfl, hb⟩; obtain ⟨B1, S1, q0, q1, q2, q3⟩ := box4 hb; clear hb)
        go_quiet ((go_at_call 34; exact Calls.quiet_of_same ((wide_any six _).mono fun e w' h => ⟨h.1, h.2.symm⟩)))
        go_wp2
        go_ret
        exact ⟨rfl, below_drewN B1 _⟩
      · rw [if_neg (by omega)]
        have hq : six = false → lo < 4294967296 := by
          rintro rfl
          exact (mayB_four hm').2
        have HQ := Lib.hid hq
        clear hq
        by_cases hc : cleanB six hi lo n = true
        · rw [if_pos hc]
          have e1 : cutHi six hi n = hi := by simp only [cleanB, Bool.and_eq_true, beq_iff_eq] at hc; exact hc.1
          have e2 : cutLo six lo n = lo := by simp only [cleanB, Bool.and_eq_true, beq_iff_eq] at hc; exact hc.2
          clear hc
          go_enter Tryd.func17, Tryd.ntmps17
          go_wp2_with (go_at_call 33; refine (may_any six hi lo _ h2.1).mono ?_; rintro e w1 ⟨rfl, hb⟩; obtain ⟨B1, S1, q0, q1, q2, q3⟩ := box4 hb; clear hb)
          go_quiet ((go_at_call 34; exact Calls.quiet_of_same ((wide_any six _).mono fun e w' h => ⟨h.1, h.2.symm⟩)))
          go_wp2_with fail
          go_region_held3 (fun w' => Below w.heap.size w w' ∧ w.heap.size < w'.heap.size ∧ w'.cell? ⟨w.heap.size, 0, none⟩ = some (.bool six) ∧ w'.cell? ⟨w.heap.size, 1, none⟩ = some (.int .u64 hi) ∧ w'.cell? ⟨w.heap.size, 2, none⟩ = some (.int .u64 lo) ∧ w'.cell? ⟨w.heap.size, 3, none⟩ = some (.int .i64 n))
            (((try go_split_ands); (repeat' apply And.intro) <;> first | assumption | exact (below_drewN B1 _).drew | exact below_step (by assumption) (by assumption) | exact cell_step (by assumption) (by assumption) | exact size_step (by assumption) (by assumption) | go_keep))
            (first | (go_at_call 35; refine (cut_any six hi lo n _ h1 h2 HQ.out (by omega) (by omega)).mono ?_; rintro e w' ⟨rfl, hb⟩))
          all_goals go_wp2
          all_goals go_ret
          all_goals (go_split_ands; exact ⟨by simp, by assumption⟩)
        · rw [if_neg hc]
          by_cases e1 : cutHi six hi n = hi
          · have e2 : ¬ cutLo six lo n = lo := by
              intro e2
              exact hc (by simp [cleanB, e1, e2])
            have e3 : (cutLo six lo n == lo) = false := by simpa using e2
            clear hc
            go_enter Tryd.func17, Tryd.ntmps17
            go_wp2_with (go_at_call 33; refine (may_any six hi lo _ h2.1).mono ?_; rintro e w1 ⟨rfl, hb⟩; obtain ⟨B1, S1, q0, q1, q2, q3⟩ := box4 hb; clear hb)
            go_quiet ((go_at_call 34; exact Calls.quiet_of_same ((wide_any six _).mono fun e w' h => ⟨h.1, h.2.symm⟩)))
            go_wp2_with fail
            go_region_held3 (fun w' => Below w.heap.size w w' ∧ w.heap.size < w'.heap.size ∧ w'.cell? ⟨w.heap.size, 0, none⟩ = some (.bool six) ∧ w'.cell? ⟨w.heap.size, 1, none⟩ = some (.int .u64 hi) ∧ w'.cell? ⟨w.heap.size, 2, none⟩ = some (.int .u64 lo) ∧ w'.cell? ⟨w.heap.size, 3, none⟩ = some (.int .i64 n))
              (((try go_split_ands); (repeat' apply And.intro) <;> first | assumption | exact (below_drewN B1 _).drew | exact below_step (by assumption) (by assumption) | exact cell_step (by assumption) (by assumption) | exact size_step (by assumption) (by assumption) | go_keep))
              (first | (go_at_call 35; refine (cut_any six hi lo n _ h1 h2 HQ.out (by omega) (by omega)).mono ?_; rintro e w' ⟨rfl, hb⟩))
            all_goals go_wp2
            all_goals go_ret
            all_goals (go_split_ands; exact ⟨by simp, by assumption⟩)
          · have e3 : (cutHi six hi n == hi) = false := by simpa using e1
            clear hc
            go_enter Tryd.func17, Tryd.ntmps17
            go_wp2_with (go_at_call 33; refine (may_any six hi lo _ h2.1).mono ?_; rintro e w1 ⟨rfl, hb⟩; obtain ⟨B1, S1, q0, q1, q2, q3⟩ := box4 hb; clear hb)
            go_quiet ((go_at_call 34; exact Calls.quiet_of_same ((wide_any six _).mono fun e w' h => ⟨h.1, h.2.symm⟩)))
            go_wp2_with fail
            go_region_held3 (fun w' => Below w.heap.size w w' ∧ w.heap.size < w'.heap.size ∧ w'.cell? ⟨w.heap.size, 0, none⟩ = some (.bool six) ∧ w'.cell? ⟨w.heap.size, 1, none⟩ = some (.int .u64 hi) ∧ w'.cell? ⟨w.heap.size, 2, none⟩ = some (.int .u64 lo) ∧ w'.cell? ⟨w.heap.size, 3, none⟩ = some (.int .i64 n))
              (((try go_split_ands); (repeat' apply And.intro) <;> first | assumption | exact (below_drewN B1 _).drew | exact below_step (by assumption) (by assumption) | exact cell_step (by assumption) (by assumption) | exact size_step (by assumption) (by assumption) | go_keep))
              (first | (go_at_call 35; refine (cut_any six hi lo n _ h1 h2 HQ.out (by omega) (by omega)).mono ?_; rintro e w' ⟨rfl, hb⟩))
            all_goals go_wp2
            all_goals go_ret
            all_goals (go_split_ands; exact ⟨by simp, by assumption⟩)

set_option maxRecDepth 100000 in
/-- A prefix that came in. -/
theorem open_prefix {H : Type} {enc : TypeId × Value → H} {W : World} {base : Nat} {sp : Nat → Bool} {held : Bool} {b0 : Nat} {v : Value} {d : DataW H} {p : List MemPlace}
    (hv : Value.okWide Tryd.prog W .any b0 30 v) (h : DataW.Trod enc Tryd.prog W base sp held 30 v d p) :
    ∃ six hi lo n, v = .agg #[.bool six, .int .u64 hi, .int .u64 lo, .int .i64 n] ∧ (0 ≤ hi ∧ hi < 18446744073709551616) ∧ (0 ≤ lo ∧ lo < 18446744073709551616) ∧ (-9223372036854775808 ≤ n ∧ n ≤ 9223372036854775807) := by
  have hc : Tryd.prog.cellsOf 30 = 4 := by kernel_rfl
  have hk : flat Tryd.prog 9 30 = some [none, some .u64, some .u64, some .i64] := by kernel_rfl
  obtain ⟨cs, rfl, hf⟩ := open_flat (fun fuel cs x hl hx => trod_flat 9 _ _ fuel cs x hk hl (by rw [hc]; rfl) hx) Tryd.underlying30 hv h
  obtain ⟨six, _, rfl, hf1⟩ := hf.bool_inv
  obtain ⟨hi, _, rfl, wy, hf2⟩ := hf1.int_inv
  obtain ⟨lo, _, rfl, wz, hf3⟩ := hf2.int_inv
  obtain ⟨n, _, rfl, wu, hf4⟩ := hf3.int_inv
  obtain rfl := hf4.nil_inv
  exact ⟨six, hi, lo, n, rfl, range_u64 wy, range_u64 wz, bounds_i64 wu⟩

end Go.Proofs.YticikknfkkmoaaaDoor

namespace Go.Proofs.YticikknfkkmoaaaDoor
open Go.ChangeShapes Go.WideShapes Go.ChangeAt Go.RowKit

theorem own_cap {w : World} {base : Nat} {e : TypeId} {size n cap : Nat} {A : Option Addr} {xs : List Value} (h : w.ownsRow base e size (.slice A n cap) n xs) : n ≤ cap ∧ cap ≤ maxLen := by
  rcases h.2 with ⟨h1, rfl⟩ | ⟨g, c, cur, hv, _, _, h3, h4, _⟩
  · injection h1 with _ _ h2
    subst h2
    exact ⟨Nat.le_refl _, by unfold maxLen; omega⟩
  · injection hv with _ _ h2
    subst h2
    exact ⟨h3, h4⟩

theorem wideN (six : Bool) : ∃ n : Nat, wideI six = n ∧ 0 < n ∧ n ≤ 128 := by
  refine ⟨(wideI six).toNat, ?_⟩
  unfold wideI
  split <;> decide

/-- Cell i of a row that the call owns, of integers. -/
theorem own_int {w : World} {base n cap g : Nat} {e : TypeId} {l : List Int} (h : w.ownsRow base e 1 (.slice (some ⟨g, 0, none⟩) n cap) n (l.map (Value.int .i64))) {i : Nat} {x : Int} (hx : l[i]? = some x) : w.cell? ⟨g, i, none⟩ = some (.int .i64 x) := by
  have := h.cells (g := g) rfl i (.int .i64 x) (by rw [List.getElem?_map, hx]; rfl)
  rwa [show (⟨g, 0, none⟩ : Addr).add i = ⟨g, i, none⟩ from by unfold Addr.add; split <;> simp_all] at this

theorem bitsL_at {six : Bool} {hi lo : Int} {m i : Nat} (hm : wideI six = m) (hi' : i < m) : (bitsL six hi lo)[i]? = some (bitI six hi lo i) := by
  unfold bitsL
  rw [hm, List.getElem?_map, List.getElem?_range (by simpa using hi')]
  rfl

def ZeroTo (six : Bool) (hi lo : Int) (k j : Nat) : Prop := ∀ i : Nat, k ≤ i → i < k + j → bitI six hi lo i = 0
theorem ZeroTo.zero (six : Bool) (hi lo : Int) (k : Nat) : ZeroTo six hi lo k 0 := fun _ _ _ => by omega
theorem ZeroTo.succ {six : Bool} {hi lo : Int} {k j : Nat} (h : ZeroTo six hi lo k j) (hb : bitI six hi lo ((k + j : Nat) : Int) = 0) : ZeroTo six hi lo k (j + 1) := fun i h1 h2 => by
  rcases Nat.lt_or_ge i (k + j) with h3 | h3
  · exact h i h1 h3
  · obtain rfl : i = k + j := by omega
    exact hb

set_option maxHeartbeats 1600000 in
theorem preFault_any (six : Bool) (hi lo n : Int) (w : World) (h1 : 0 ≤ hi ∧ hi < 18446744073709551616) (h2 : 0 ≤ lo ∧ lo < 18446744073709551616) :
    Calls Tryd.prog 37 #[.agg #[.bool six, .int .u64 hi, .int .u64 lo, .int .i64 n]] w fun e w' => e = .returned (.int .i64 (chk six hi lo n)) ∧ Below w.heap.size w w' := by
  unfold chk
  by_cases hm : mayB six hi lo = false
  · rw [if_pos hm]
    go_enter Tryd.func37, Tryd.ntmps37
    go_wp2_with (go_at_call 27; refine (refMay_any six hi lo _ h2.1).mono ?_; rintro e w1 ⟨rfl, hb⟩; obtain ⟨B1, S1, q0, q1, q2, q3⟩ := box4 hb; clear hb)
    go_ret
    exact ⟨rfl, B1⟩
  · rw [if_neg hm]
    have hm' : mayB six hi lo = true := by simpa using hm
    clear hm
    obtain ⟨m, hn, hpos, hle⟩ := wideN six
    rw [hn]
    have HN := Lib.hid hn
    clear hn
    by_cases hr : n < 0
    · rw [if_pos (.inl hr)]
      go_enter Tryd.func37, Tryd.ntmps37
      go_wp2_with (go_at_call 27; refine (refMay_any six hi lo _ h2.1).mono ?_; rintro e w1 ⟨rfl, hb⟩; obtain ⟨B1, S1, q0, q1, q2, q3⟩ := box4 hb; clear hb)
      refine (bitsOf_any six hi lo _ h1 h2).mono ?_
      rintro e w2 ⟨v, rfl, hown, hb2, hs2⟩
      have B2 := B1.trans (hb2.mono (Nat.le_of_lt S1))
      have Q0 := cell_step hb2 q0
      have Q1 := cell_step hb2 q1
      have Q2 := cell_step hb2 q2
      have Q3 := cell_step hb2 q3
      rw [HN.out] at hown
      simp only [Int.toNat_natCast] at hown
      obtain ⟨g, cap, rfl, hg, hlt⟩ := hown.form hpos
      have hncap := own_cap hown
      have HO := Lib.hid hown
      clear hown hb2 q0 q1 q2 q3
      go_wp2
      go_ret
      exact ⟨rfl, B2⟩
    · by_cases hr2 : (m : Int) < n
      · rw [if_pos (.inr hr2)]
        go_enter Tryd.func37, Tryd.ntmps37
        go_wp2_with (go_at_call 27; refine (refMay_any six hi lo _ h2.1).mono ?_; rintro e w1 ⟨rfl, hb⟩; obtain ⟨B1, S1, q0, q1, q2, q3⟩ := box4 hb; clear hb)
        refine (bitsOf_any six hi lo _ h1 h2).mono ?_
        rintro e w2 ⟨v, rfl, hown, hb2, hs2⟩
        have B2 := B1.trans (hb2.mono (Nat.le_of_lt S1))
        have Q0 := cell_step hb2 q0
        have Q1 := cell_step hb2 q1
        have Q2 := cell_step hb2 q2
        have Q3 := cell_step hb2 q3
        rw [HN.out] at hown
        simp only [Int.toNat_natCast] at hown
        obtain ⟨g, cap, rfl, hg, hlt⟩ := hown.form hpos
        have hncap := own_cap hown
        have HO := Lib.hid hown
        clear hown hb2 q0 q1 q2 q3
        go_wp2
        go_ret
        exact ⟨rfl, B2⟩
      · rw [if_neg (by omega)]
        obtain ⟨k, rfl⟩ := Int.eq_ofNat_of_zero_le (by omega : 0 ≤ n)
        have hkm : k ≤ m := by omega
        obtain ⟨r, hr0⟩ : ∃ r : Int, r = if cleanB six hi lo k = true then 0 else 5 := ⟨_, rfl⟩
        rw [← hr0]
        have hci := clean_iff six hi lo k h1 h2 hm' (by rw [HN.out]; omega)
        rw [HN.out] at hci
        have hall : ZeroTo six hi lo k (m - k) → r = 0 := fun hz => by
          rw [hr0, if_pos (hci.2 fun i h3 h4 => hz i h3 (by omega))]
        have hone : ∀ j : Nat, j < m - k → bitI six hi lo ((k + j : Nat) : Int) = 1 → r = 5 := fun j hj hb => by
          rw [hr0, if_neg]
          intro hc
          have := hci.1 hc (k + j) (by omega) (by omega)
          omega
        have HA := Lib.hid hall
        have HB := Lib.hid hone
        clear hall hone hr0 hci hr hr2
        have hd : decide ((k : Int) < 0) = false := by simp
        have hd2 : decide ((m : Int) < (k : Int)) = false := by simp; omega
        go_enter Tryd.func37, Tryd.ntmps37
        go_wp2_with (go_at_call 27; refine (refMay_any six hi lo _ h2.1).mono ?_; rintro e w1 ⟨rfl, hb⟩; obtain ⟨B1, S1, q0, q1, q2, q3⟩ := box4 hb; clear hb)
        refine (bitsOf_any six hi lo _ h1 h2).mono ?_
        rintro e w2 ⟨v, rfl, hown, hb2, hs2⟩
        have B2 := B1.trans (hb2.mono (Nat.le_of_lt S1))
        have Q0 := cell_step hb2 q0
        have Q1 := cell_step hb2 q1
        have Q2 := cell_step hb2 q2
        have Q3 := cell_step hb2 q3
        rw [HN.out] at hown
        simp only [Int.toNat_natCast] at hown
        obtain ⟨g, cap, rfl, hg, hlt⟩ := hown.form hpos
        have hncap := own_cap hown
        have HO := Lib.hid hown
        clear hown hb2 q0 q1 q2 q3
        have hc1 := hncap.1
        have hc2 := hncap.2
        unfold maxLen at hc2
        clear hncap
        have hz1 : ((m - k : Nat) : Int) ≤ 128 := by omega
        by_cases hck : cap = k
        · obtain rfl : m = k := by omega
          go_wp2
          refine wp_loop_rounds 1 ?_
          rw [rounds_succ]
          go_wp2
          go_ret
          exact ⟨ret_int (HA.out (by rw [Nat.sub_self]; exact ZeroTo.zero _ _ _ _)).symm, B2⟩
        · go_wp2
          go_loop [28, 5] (fun i _ => ∃ j : Nat, j ≤ m - k ∧ i = .int .i64 j ∧ ZeroTo six hi lo k j) (fun i _ => m - k - (intOf i).toNat)
          case atStart => exact ⟨0, by omega, rfl, ZeroTo.zero _ _ _ _⟩
          case round =>
            obtain ⟨j, hj, rfl, hz⟩ := hrel
            by_cases hlt : j < m - k
            · have hcell := own_int HO.out (bitsL_at (hi := hi) (lo := lo) HN.out (show k + j < m by omega))
              have h01 := bitI_01 six hi lo ((k + j : Nat) : Int)
              have HZ := Lib.hid hz
              clear hz
              by_cases hb1 : bitI six hi lo ((k + j : Nat) : Int) = 1
              · have hr5 := HB.out j hlt hb1
                rw [hb1] at hcell
                clear hb1 h01
                have HR := Lib.hid hr5
                clear hr5
                go_wp2
                go_ret
                exact ⟨ret_int HR.out.symm, B2⟩
              · have hb0 : bitI six hi lo ((k + j : Nat) : Int) = 0 := by omega
                rw [hb0] at hcell
                have HZ2 := Lib.hid (HZ.out.succ hb0)
                clear hb1 hb0 h01
                go_wp2
                go_round
                case rel => exact ⟨j + 1, by omega, by go_num, HZ2.out⟩
                case measure => simp [intOf]; omega
            · obtain rfl : j = m - k := by omega
              have HR := Lib.hid (HA.out hz)
              clear hz
              go_wp2
              go_ret
              exact ⟨ret_int HR.out.symm, B2⟩

end Go.Proofs.YticikknfkkmoaaaDoor

namespace Go.Proofs.YticikknfkkmoaaaDoor
open Go.ChangeShapes Go.WideShapes Go.ChangeAt Go.RowKit

theorem own_reads {w : World} {base : Nat} {e : TypeId} {size n : Nat} {v : Value} {xs : List Value} (h : w.ownsRow base e size v n xs) : ∃ A c, v = .slice A n c ∧ (n ≤ c ∧ c ≤ maxLen) ∧ Reads w w.heap.size size A n xs := by
  rcases h.2 with ⟨rfl, rfl⟩ | ⟨g, cap, cur, rfl, _, _, h1, h2, _⟩
  · exact ⟨none, 0, rfl, ⟨Nat.le_refl _, by unfold maxLen; omega⟩, Reads.of_own h⟩
  · exact ⟨_, cap, rfl, ⟨h1, h2⟩, Reads.of_own h⟩

/-- append(own, s...) in a list of operations. -/
theorem wpList_append_reads {P : Program} {ops : Array Oper} {rest : List Oper} {o : Oper} {a : Act} {w : World} {Q : Exit → Act → World → Prop} (hgd : o.guard = none) (s x : Operand) (t : TypeId)
    (ho : o.op = .call { callee := .builtin .append, args := #[s, x], argTypes := #[t, t] })
    (base : Nat) (e : TypeId) (z : Value) (size bytes : Nat) (ht : P.underlying t = some (.slice e)) (hi : (P.info? e).map (fun i => (i.zero, i.size, i.bytes)) = some (some z, size, bytes))
    (hzs : z.cells.size = size) (hsz : 0 < size)
    (v : Value) (n : Nat) (xs : List Value) (hs : a.eval s = v) (A : Option Addr) (m c : Nat) (hx : a.eval x = .slice A m c) (hown : w.ownsRow base e size v n xs)
    (B : Nat) (news : List Value) (hr : Reads w B size A m news) (h1 : ∀ u ∈ news, u.oneCell' = true)
    (h63 : n + m ≤ maxLen) (hbytes : (n + m) * bytes ≤ 140737488355328) (hbase : base ≤ w.heap.size)
    (h : ∀ v' w', w'.ownsRow base e size v' (n + m) (xs ++ news) → Below base w w' → wpList P ops Q rest (a.put o.dst v') w') : wpList P ops Q (o :: rest) a w := by
  obtain ⟨i0, hi, hz0, hz1, hz2⟩ := info_parts hi
  refine wpList_append_any w hgd s x t ho base e i0 z size bytes ht hi hz0 hz1 hz2 hzs hsz v n xs hs hown B A m c news hx hr h1 h63 hbytes hbase fun v' w' h2 h3 _ => h v' w' h2 ((Below.refl _ _).grown h3 hbase ?_)
  intro k hk
  rcases hown.2 with ⟨rfl, _⟩ | ⟨g, cap, cur, rfl, hgb, _⟩
  · simp [Value.ownBlock] at hk
  · simp only [Value.ownBlock, Option.some.injEq] at hk
    omega

theorem own_reads_at {w : World} {base : Nat} {e : TypeId} {size n : Nat} {v : Value} {xs : List Value} (h : w.ownsRow base e size v n xs) : ∃ A c, v = .slice A n c ∧ (n ≤ c ∧ c ≤ maxLen) ∧ Reads w w.heap.size size A n xs ∧ ∀ ad, A = some ad → base ≤ ad.block := by
  rcases h.2 with ⟨rfl, rfl⟩ | ⟨g, cap, cur, rfl, hg, _, h1, h2, _⟩
  · exact ⟨none, 0, rfl, ⟨Nat.le_refl _, by unfold maxLen; omega⟩, Reads.of_own h, fun ad h => by cases h⟩
  · exact ⟨_, cap, rfl, ⟨h1, h2⟩, Reads.of_own h, fun ad h => by injection h with h; subst h; exact hg⟩

/-- A row that grows in a loop, while all that was there before the loop stays, but for the row's own first block. -/
structure RowAt (w3 : World) (G base : Nat) (e : TypeId) (size : Nat) (wr : World) (v : Value) (n : Nat) (xs : List Value) : Prop where
  own : wr.ownsRow base e size v n xs
  blk : ∀ k, v.ownBlock = some k → k = G ∨ w3.heap.size ≤ k
  below : Below base w3 wr
  kept : ∀ k, k < w3.heap.size → k ≠ G → wr.heap[k]? = w3.heap[k]?
  le : base ≤ w3.heap.size
theorem RowAt.step {w3 wr w' : World} {G base : Nat} {e : TypeId} {size n : Nat} {v : Value} {xs : List Value} (h : RowAt w3 G base e size wr v n xs) (hb : Below wr.heap.size wr w') : RowAt w3 G base e size w' v n xs :=
  ⟨own_below h.own hb, h.blk, h.below.trans (hb.mono (Nat.le_trans h.le h.below.size)), fun k hk hne => (hb.block k (by have := h.below.size; omega)).trans (h.kept k hk hne), h.le⟩
theorem RowAt.alloc {w3 wr : World} {G base : Nat} {e : TypeId} {size n : Nat} {v : Value} {xs : List Value} (h : RowAt w3 G base e size wr v n xs) (o : Obj) : RowAt w3 G base e size (wr.alloc o) v n xs := h.step ((Below.refl _ _).alloc (Nat.le_refl _) _)

theorem wpList_append_row {P : Program} {ops : Array Oper} {rest : List Oper} {o : Oper} {a : Act} {Q : Exit → Act → World → Prop} {w0 : World} {us : List Value} {fr : Nat × Nat} {e : TypeId} {g : Nat} (hgd : o.guard = none) (s x : Operand) (t : TypeId)
    (ho : o.op = .call { callee := .builtin .append, args := #[s, x], argTypes := #[t, t] })
    (w3 : World) (G base : Nat) (z : Value) (size bytes : Nat) (ht : P.underlying t = some (.slice e)) (hi : (P.info? e).map (fun i => (i.zero, i.size, i.bytes)) = some (some z, size, bytes))
    (hzs : z.cells.size = size) (hsz : 0 < size) (v : Value) (n : Nat) (xs : List Value) (hs : a.eval s = v)
    (hx : a.eval x = .slice (some ⟨g, 0, none⟩) 1 1) (hg : g = w0.heap.size) (hrow : RowAt w3 G base e size w0 v n xs)
    (hl : us.length = size) (h1 : ∀ u ∈ us, u.oneCell' = true) (h63 : n + 1 ≤ maxLen) (hbytes : (n + 1) * bytes ≤ 140737488355328)
    (h : ∀ v' w', RowAt w3 G base e size w' v' (n + 1) (xs ++ us) → w0.heap.size < w'.heap.size → (∀ k, k < w0.heap.size → v.ownBlock ≠ some k → w'.heap[k]? = w0.heap[k]?) → wpList P ops Q rest (a.put o.dst v') w') :
    wpList P ops Q (o :: rest) a (w0.alloc (.cells us.toArray e fr)) := by
  subst hg
  obtain ⟨i0, hi, hz0, hz1, hz2⟩ := info_parts hi
  have hbase : base ≤ w0.heap.size := Nat.le_trans hrow.le hrow.below.size
  have hr : Reads (w0.alloc (.cells us.toArray e fr)) (w0.alloc (.cells us.toArray e fr)).heap.size size (some ⟨w0.heap.size, 0, none⟩) 1 us := by
    refine ⟨by simp [hl], fun _ => ⟨_, rfl, by simp, fun j u hj => ?_⟩⟩
    have e1 : (⟨w0.heap.size, 0, none⟩ : Addr).add j = ⟨w0.heap.size, j, none⟩ := by unfold Addr.add; split <;> simp_all
    rw [e1]
    have : (w0.alloc (.cells us.toArray e fr)).heap[w0.heap.size]? = some (.cells us.toArray e fr) := heap_alloc_new w0 _
    unfold World.cell?
    simp only [this]
    simpa using hj
  refine wpList_append_any _ hgd s x t ho base e i0 z size bytes ht hi hz0 hz1 hz2 hzs hsz v n xs hs (hrow.own.alloc _) _ _ 1 1 us hx hr h1 h63 hbytes (by simp; omega) ?_
  intro v' w' hown' hgr hblk
  have hne : ∀ k, k < w3.heap.size → k ≠ G → v.ownBlock ≠ some k := by
    intro k hk hne he
    rcases hrow.blk k he with h | h <;> omega
  have hb : Below base w0 (w0.alloc (.cells us.toArray e fr)) := (Below.refl _ _).alloc hbase _
  have hsz' := hgr.size
  simp at hsz'
  refine h v' w' ⟨hown', ?_, hrow.below.trans (hb.grown hgr (by simp; omega) ?_), ?_, hrow.le⟩ (by omega) ?_
  · intro k hk
    rcases hblk with hh | hh
    · rw [hh] at hk
      exact hrow.blk k hk
    · rw [hh] at hk
      injection hk with hk
      have := hrow.below.size
      simp at hk
      omega
  · intro k hk
    rcases hrow.own.2 with ⟨rfl, _⟩ | ⟨g, cap, cur, rfl, hgb, _⟩
    · simp [Value.ownBlock] at hk
    · simp only [Value.ownBlock, Option.some.injEq] at hk
      omega
  · intro k hk hkG
    have := hrow.below.size
    rw [hgr.block k (by simp; omega) (fun he => hne k hk hkG he.symm)]
    exact (Below.heap_alloc _ _ _ (by omega)).trans (hrow.kept k hk hkG)
  · intro k hk hne
    rw [hgr.block k (by simp; omega) (fun he => hne he.symm)]
    exact Below.heap_alloc _ _ _ hk

end Go.Proofs.YticikknfkkmoaaaDoor

namespace Go.Proofs.YticikknfkkmoaaaDoor
open Go.ChangeShapes Go.WideShapes Go.ChangeAt Go.RowKit

theorem own_same {w w' : World} {base : Nat} {e : TypeId} {size n : Nat} {v : Value} {xs : List Value} (h : w.ownsRow base e size v n xs) (hk : ∀ k, v.ownBlock = some k → w'.heap[k]? = w.heap[k]?) : w'.ownsRow base e size v n xs := by
  obtain ⟨h1, h2⟩ := h
  refine ⟨h1, ?_⟩
  rcases h2 with ⟨rfl, h3⟩ | ⟨g, cap, cur, rfl, hg, hh, r⟩
  · exact .inl ⟨rfl, h3⟩
  · exact .inr ⟨g, cap, cur, rfl, hg, (hk g rfl).trans hh, r⟩
/-- Two rows of the call's own, in blocks apart. -/
structure Two (w : World) (base : Nat) (e : TypeId) (size : Nat) (v u : Value) (n m : Nat) (xs ys : List Value) : Prop where
  a : w.ownsRow base e size v n xs
  b : w.ownsRow base e size u m ys
  apart : ∀ k, v.ownBlock = some k → u.ownBlock ≠ some k
theorem Two.swap {w : World} {base : Nat} {e : TypeId} {size : Nat} {v u : Value} {n m : Nat} {xs ys : List Value} (h : Two w base e size v u n m xs ys) : Two w base e size u v m n ys xs :=
  ⟨h.b, h.a, fun k h1 h2 => h.apart k h2 h1⟩
theorem Two.step {w w' : World} {base : Nat} {e : TypeId} {size : Nat} {v u : Value} {n m : Nat} {xs ys : List Value} (h : Two w base e size v u n m xs ys) (hb : Below w.heap.size w w') : Two w' base e size v u n m xs ys :=
  ⟨own_below h.a hb, own_below h.b hb, h.apart⟩
theorem wpList_append_two {P : Program} {ops : Array Oper} {rest : List Oper} {o : Oper} {a : Act} {Q : Exit → Act → World → Prop} {w0 : World} {us : List Value} {fr : Nat × Nat} {e : TypeId} {g : Nat} (hgd : o.guard = none) (s x : Operand) (t : TypeId)
    (ho : o.op = .call { callee := .builtin .append, args := #[s, x], argTypes := #[t, t] })
    (base : Nat) (z : Value) (size bytes : Nat) (ht : P.underlying t = some (.slice e)) (hi : (P.info? e).map (fun i => (i.zero, i.size, i.bytes)) = some (some z, size, bytes))
    (hzs : z.cells.size = size) (hsz : 0 < size) (v u : Value) (n m : Nat) (xs ys : List Value) (hs : a.eval s = v)
    (hx : a.eval x = .slice (some ⟨g, 0, none⟩) 1 1) (hg : g = w0.heap.size) (htwo : Two w0 base e size v u n m xs ys) (hbase : base ≤ w0.heap.size)
    (hl : us.length = size) (h1 : ∀ u ∈ us, u.oneCell' = true) (h63 : n + 1 ≤ maxLen) (hbytes : (n + 1) * bytes ≤ 140737488355328)
    (h : ∀ v' w', Two w' base e size v' u (n + 1) m (xs ++ us) ys → Below base w0 w' → w0.heap.size < w'.heap.size → (∀ k, k < w0.heap.size → v.ownBlock ≠ some k → w'.heap[k]? = w0.heap[k]?) → wpList P ops Q rest (a.put o.dst v') w') :
    wpList P ops Q (o :: rest) a (w0.alloc (.cells us.toArray e fr)) := by
  subst hg
  obtain ⟨i0, hi, hz0, hz1, hz2⟩ := info_parts hi
  have hr : Reads (w0.alloc (.cells us.toArray e fr)) (w0.alloc (.cells us.toArray e fr)).heap.size size (some ⟨w0.heap.size, 0, none⟩) 1 us := by
    refine ⟨by simp [hl], fun _ => ⟨_, rfl, by simp, fun j u hj => ?_⟩⟩
    have e1 : (⟨w0.heap.size, 0, none⟩ : Addr).add j = ⟨w0.heap.size, j, none⟩ := by unfold Addr.add; split <;> simp_all
    rw [e1]
    have : (w0.alloc (.cells us.toArray e fr)).heap[w0.heap.size]? = some (.cells us.toArray e fr) := heap_alloc_new w0 _
    unfold World.cell?
    simp only [this]
    simpa using hj
  refine wpList_append_any _ hgd s x t ho base e i0 z size bytes ht hi hz0 hz1 hz2 hzs hsz v n xs hs (htwo.a.alloc _) _ _ 1 1 us hx hr h1 h63 hbytes (by simp; omega) ?_
  intro v' w' hown' hgr hblk
  have hsz' := hgr.size
  simp at hsz'
  have hkeep : ∀ k, k < w0.heap.size → v.ownBlock ≠ some k → w'.heap[k]? = w0.heap[k]? := fun k hk hne => by
    rw [hgr.block k (by simp; omega) (fun he => hne he.symm)]
    exact Below.heap_alloc _ _ _ hk
  have hub : ∀ k, u.ownBlock = some k → k < w0.heap.size := fun k hk => by
    apply Classical.byContradiction
    intro hc
    exact own_block_lt htwo.b (k := k) (by omega) hk
  have hb : Below base w0 (w0.alloc (.cells us.toArray e fr)) := (Below.refl _ _).alloc hbase _
  refine h v' w' ⟨hown', own_same htwo.b (fun k hk => hkeep k (hub k hk) (fun hh => htwo.apart k hh hk)), fun k hk hu => ?_⟩ (hb.grown hgr (by simp; omega) ?_) (by omega) hkeep
  · rcases hblk with hh | hh
    · rw [hh] at hk
      exact htwo.apart k hk hu
    · rw [hh] at hk
      injection hk with hk
      have := hub k hu
      simp at hk
      omega
  · intro k hk
    rcases htwo.a.2 with ⟨rfl, _⟩ | ⟨g, cap, cur, rfl, hgb, _⟩
    · simp [Value.ownBlock] at hk
    · simp only [Value.ownBlock, Option.some.injEq] at hk
      omega

/-- A store at a place of a row of one-cell elements. -/
theorem own_set {w : World} {base : Nat} {e : TypeId} {n : Nat} {ad : Addr} {c : Nat} {xs : List Value} (h : w.ownsRow base e 1 (.slice (some ad) n c) n xs) (i : Nat) (u : Value) (_hi : i < n) : (w.setCell (ad.add i) u).ownsRow base e 1 (.slice (some ad) n c) n (xs.set i u) := by
  obtain ⟨h1, h2⟩ := h
  refine ⟨by rw [List.length_set]; exact h1, ?_⟩
  rcases h2 with ⟨hv, _⟩ | ⟨g, cap, cur, hv, hg, hh, hn, hc, hs, ht⟩
  · injection hv with h0; cases h0
  · injection hv with h0 _ h2
    injection h0 with h0
    subst h0 h2
    have e1 : (⟨g, 0, none⟩ : Addr).add i = ⟨g, i, none⟩ := by unfold Addr.add; split <;> simp_all
    rw [e1]
    have hb : Blk w g e cur := hh
    have := hb.set_ i u
    refine .inr ⟨g, c, cur.setIfInBounds i u, rfl, hg, this, hn, hc, by simpa using hs, ?_⟩
    rw [Array.toList_setIfInBounds, List.take_set, ht]
theorem own_frozen {w : World} {base : Nat} {e : TypeId} {n size : Nat} {ad : Addr} {c : Nat} {xs : List Value} (h : w.ownsRow base e size (.slice (some ad) n c) n xs) (i : Nat) : w.frozen? (ad.add i) = false := by
  rcases h.2 with ⟨hv, _⟩ | ⟨g, cap, cur, hv, hg, hh, hn, hc, hs, ht⟩
  · injection hv with h0; cases h0
  · injection hv with h0 _ h2
    injection h0 with h0
    subst h0
    have e1 : (⟨g, 0, none⟩ : Addr).add i = ⟨g, i, none⟩ := by unfold Addr.add; split <;> simp_all
    rw [e1]
    have hb : Blk w g e cur := hh
    exact hb.frozen i
theorem own_at {w : World} {base : Nat} {e : TypeId} {n : Nat} {v : Value} {l : List Int} (h : w.ownsRow base e 1 v n (l.map (Value.int .i64))) (hn : 0 < n) : ∃ ad c, v = .slice (some ad) n c ∧ base ≤ ad.block ∧ ad.block < w.heap.size ∧ ∀ i, i < n → w.cell? (ad.add i) = some (.int .i64 (l[i]?.getD 0)) := by
  obtain ⟨A, c, rfl, hc, hr, hbase⟩ := own_reads_at h
  obtain ⟨ad, rfl, hb, hcell⟩ := hr.2 hn
  refine ⟨ad, c, rfl, hbase ad rfl, hb, fun i hi => ?_⟩
  have hl := hr.1
  rw [List.length_map] at hl
  have hx : l[i]? = some (l[i]'(by omega)) := List.getElem?_eq_getElem _
  rw [hx, Option.getD_some]
  exact hcell i _ (by rw [List.getElem?_map, hx]; rfl)

end Go.Proofs.YticikknfkkmoaaaDoor

namespace Go.Proofs.YticikknfkkmoaaaDoor
open Go.ChangeShapes Go.WideShapes Go.ChangeAt Go.RowKit

theorem half_bound (l : List Int) (k : Nat) (h : Bits l) (hk : k < 64) : 0 ≤ numL (l.take k) ∧ numL (l.take k) ≤ 9223372036854775807 := by
  have h1 := numL_range (l.take k) (h.take k)
  have h2 : (2 : Int) ^ (l.take k).length ≤ 9223372036854775808 := by
    have : (2 : Nat) ^ (l.take k).length ≤ 2 ^ 63 := Nat.pow_le_pow_right (by omega) (by rw [List.length_take]; omega)
    have e : ((2 ^ (l.take k).length : Nat) : Int) = 2 ^ (l.take k).length := by simp
    rw [← e]
    have : (2 ^ 63 : Nat) = 9223372036854775808 := by decide
    omega
  omega

set_option maxRecDepth 100000 in
set_option maxHeartbeats 1600000 in
theorem addrOf_four (l : List Int) (g cap : Nat) (w : World) (hb : Bits l) (hl : l.length = 32) (hown : ∀ (i : Nat) (b : Int), l[i]? = some b → w.cell? ⟨g, i, none⟩ = some (.int .i64 b)) (hg : g < w.heap.size) :
    Calls Tryd.prog 12 #[.slice (some ⟨g, 0, none⟩) 32 cap] w fun e w' => e = .returned (.agg #[.bool false, .int .u64 (hiOf false l), .int .u64 (loOf false l)]) ∧ Below w.heap.size w w' := by
  have HB := Lib.hid hb
  have HL := Lib.hid hl
  have HO := Lib.hid hown
  have HE := Lib.hid (show hiOf false l = 0 ∧ loOf false l = numL l from ⟨rfl, rfl⟩)
  obtain ⟨a, ha⟩ : ∃ a, a = hiOf false l := ⟨_, rfl⟩
  obtain ⟨b, hbb⟩ : ∃ b, b = loOf false l := ⟨_, rfl⟩
  rw [← ha, ← hbb]
  rw [← ha, ← hbb] at HE
  clear hb hl hown ha hbb
  go_enter Tryd.func12, Tryd.ntmps12
  go_wp2
  go_loopw [12, 4, 5] (fun i _ _ wr => ∃ k : Nat, k ≤ 32 ∧ i = .int .i64 k ∧ wr = (w.alloc (.cells #[.bool false, .int .u64 0, .int .u64 0] 24)).alloc (.cells #[.bool false, .int .u64 0, .int .u64 (numL (l.take k))] 24)) (fun i _ _ _ => 32 - (intOf i).toNat)
  case atStart => exact ⟨0, by omega, rfl, rfl⟩
  case round =>
    obtain ⟨k, hk, rfl, rfl⟩ := hrel
    by_cases hlt : k < 32
    · obtain ⟨x, hx⟩ : ∃ x, l[k]? = some x := ⟨_, List.getElem?_eq_getElem (by rw [HL.out]; exact hlt)⟩
      have hx1 := HB.out x (List.mem_of_getElem? hx)
      have q := HO.out k x hx
      have q2 : ((w.alloc (.cells #[.bool false, .int .u64 0, .int .u64 0] 24)).alloc (.cells #[.bool false, .int .u64 0, .int .u64 (numL (l.take k))] 24)).cell? ⟨g, k, none⟩ = some (.int .i64 x) := by
        rw [World.cell?_alloc_past _ _ _ (by simp; omega), World.cell?_alloc_past _ _ _ (by simpa using hg)]
        exact q
      have hs := half_bound l k HB.out (by omega)
      have e : Hid (numL (l.take (k + 1)) = 2 * numL (l.take k) + x) := by
        show _ = _
        rw [List.take_add_one, hx]
        exact numL_snoc _ _
      clear hx q
      go_wp2
      go_roundw
      case rel => exact ⟨k + 1, by omega, by go_num, by rw [e.out]⟩
      case measure => simp [intOf]; omega
    · obtain rfl : k = 32 := by omega
      have e0 : Hid (l.take 32 = l) := by
        show _ = _
        rw [← HL.out]
        exact List.take_length
      go_wp2
      exact bodyPost_ret (v := .agg #[.bool false, .int .u64 a, .int .u64 b]) (by simp [results, Tryd.results12, go_sem, HE.out.1, HE.out.2, e0.out]) rfl
        ⟨rfl, ((Below.refl _ _).alloc (Nat.le_refl _) _).alloc (by simp) _⟩

def hiTo (l : List Int) (k : Nat) : Int := numL ((l.take k).take 64)
def loTo (l : List Int) (k : Nat) : Int := numL ((l.take k).drop 64)
theorem hiTo_lt {l : List Int} {k : Nat} {x : Int} (hx : l[k]? = some x) (hk : k < 64) : hiTo l (k + 1) = 2 * hiTo l k + x := by
  unfold hiTo
  rw [List.take_take, List.take_take, show min 64 (k + 1) = k + 1 from by omega, show min 64 k = k from by omega, List.take_add_one, hx]
  exact numL_snoc _ _
theorem hiTo_ge {l : List Int} {k : Nat} (hk : 64 ≤ k) : hiTo l (k + 1) = hiTo l k := by
  unfold hiTo
  rw [List.take_take, List.take_take, show min 64 (k + 1) = 64 from by omega, show min 64 k = 64 from by omega]
theorem loTo_lt {l : List Int} {k : Nat} (hk : k < 64) : loTo l (k + 1) = loTo l k := by
  unfold loTo
  rw [List.drop_eq_nil_of_le (by rw [List.length_take]; omega), List.drop_eq_nil_of_le (by rw [List.length_take]; omega)]
theorem loTo_ge {l : List Int} {k : Nat} {x : Int} (hx : l[k]? = some x) (hk : 64 ≤ k) : loTo l (k + 1) = 2 * loTo l k + x := by
  unfold loTo
  have hl := (List.getElem?_eq_some_iff.1 hx).1
  rw [List.take_add_one, hx, List.drop_append_of_le_length (by rw [List.length_take]; omega)]
  exact numL_snoc _ _
theorem hiTo_bound (l : List Int) (k : Nat) (h : Bits l) (hk : k < 64) : 0 ≤ hiTo l k ∧ hiTo l k ≤ 9223372036854775807 := by
  have := half_bound l k h hk
  unfold hiTo
  rwa [List.take_take, show min 64 k = k from by omega]
theorem loTo_bound (l : List Int) (k : Nat) (h : Bits l) (hk : k < 128) : 0 ≤ loTo l k ∧ loTo l k ≤ 9223372036854775807 := by
  have h1 := numL_range ((l.take k).drop 64) ((h.take k).drop 64)
  have h2 : (2 : Int) ^ ((l.take k).drop 64).length ≤ 9223372036854775808 := by
    have : (2 : Nat) ^ ((l.take k).drop 64).length ≤ 2 ^ 63 := Nat.pow_le_pow_right (by omega) (by rw [List.length_drop, List.length_take]; omega)
    have e : ((2 ^ ((l.take k).drop 64).length : Nat) : Int) = 2 ^ ((l.take k).drop 64).length := by simp
    rw [← e]
    have : (2 ^ 63 : Nat) = 9223372036854775808 := by decide
    omega
  unfold loTo
  omega

set_option maxRecDepth 100000 in
set_option maxHeartbeats 1600000 in
theorem addrOf_six (l : List Int) (g cap : Nat) (w : World) (hb : Bits l) (hl : l.length = 128) (hown : ∀ (i : Nat) (b : Int), l[i]? = some b → w.cell? ⟨g, i, none⟩ = some (.int .i64 b)) (hg : g < w.heap.size) :
    Calls Tryd.prog 12 #[.slice (some ⟨g, 0, none⟩) 128 cap] w fun e w' => e = .returned (.agg #[.bool true, .int .u64 (hiOf true l), .int .u64 (loOf true l)]) ∧ Below w.heap.size w w' := by
  have HB := Lib.hid hb
  have HL := Lib.hid hl
  have HO := Lib.hid hown
  have HE := Lib.hid (show hiOf true l = hiTo l 128 ∧ loOf true l = loTo l 128 from by
    unfold hiOf loOf hiTo loTo
    rw [← hl, List.take_length]
    exact ⟨rfl, rfl⟩)
  obtain ⟨a, ha⟩ : ∃ a, a = hiOf true l := ⟨_, rfl⟩
  obtain ⟨b, hbb⟩ : ∃ b, b = loOf true l := ⟨_, rfl⟩
  rw [← ha, ← hbb]
  rw [← ha, ← hbb] at HE
  clear hb hl hown ha hbb
  go_enter Tryd.func12, Tryd.ntmps12
  go_wp2
  go_loopw [12, 4, 5] (fun i _ _ wr => ∃ k : Nat, k ≤ 128 ∧ i = .int .i64 k ∧ wr = (w.alloc (.cells #[.bool false, .int .u64 0, .int .u64 0] 24)).alloc (.cells #[.bool true, .int .u64 (hiTo l k), .int .u64 (loTo l k)] 24)) (fun i _ _ _ => 128 - (intOf i).toNat)
  case atStart => exact ⟨0, by omega, rfl, rfl⟩
  case round =>
    obtain ⟨k, hk, rfl, rfl⟩ := hrel
    by_cases hlt : k < 128
    · obtain ⟨x, hx⟩ : ∃ x, l[k]? = some x := ⟨_, List.getElem?_eq_getElem (by rw [HL.out]; exact hlt)⟩
      have hx1 := HB.out x (List.mem_of_getElem? hx)
      have q := HO.out k x hx
      have q2 : ((w.alloc (.cells #[.bool false, .int .u64 0, .int .u64 0] 24)).alloc (.cells #[.bool true, .int .u64 (hiTo l k), .int .u64 (loTo l k)] 24)).cell? ⟨g, k, none⟩ = some (.int .i64 x) := by
        rw [World.cell?_alloc_past _ _ _ (by simp; omega), World.cell?_alloc_past _ _ _ (by simpa using hg)]
        exact q
      by_cases h64 : k < 64
      · have hs := hiTo_bound l k HB.out h64
        have e1 := Lib.hid (hiTo_lt hx h64)
        have e2 := Lib.hid (loTo_lt (l := l) h64)
        clear hx q
        go_wp2
        go_roundw
        case rel => exact ⟨k + 1, by omega, by go_num, by rw [e1.out, e2.out]⟩
        case measure => simp [intOf]; omega
      · have hs := loTo_bound l k HB.out hlt
        have e1 := Lib.hid (hiTo_ge (l := l) (k := k) (by omega))
        have e2 := Lib.hid (loTo_ge hx (by omega))
        clear hx q
        go_wp2
        go_roundw
        case rel => exact ⟨k + 1, by omega, by go_num, by rw [e1.out, e2.out]⟩
        case measure => simp [intOf]; omega
    · obtain rfl : k = 128 := by omega
      go_wp2
      exact bodyPost_ret (v := .agg #[.bool true, .int .u64 a, .int .u64 b]) (by simp [results, Tryd.results12, go_sem, HE.out.1, HE.out.2]) rfl
        ⟨rfl, ((Below.refl _ _).alloc (Nat.le_refl _) _).alloc (by simp) _⟩

/-- addrOf of a row of bits of the call's own, as long as an address of a family. -/
theorem addrOf_any (six : Bool) (l : List Int) (n : Nat) (g cap : Nat) (w : World) (hb : Bits l) (hl : l.length = n) (hn : wideI six = n) (hown : ∀ (i : Nat) (b : Int), l[i]? = some b → w.cell? ⟨g, i, none⟩ = some (.int .i64 b)) (hg : g < w.heap.size) :
    Calls Tryd.prog 12 #[.slice (some ⟨g, 0, none⟩) n cap] w fun e w' => e = .returned (.agg #[.bool six, .int .u64 (hiOf six l), .int .u64 (loOf six l)]) ∧ Below w.heap.size w w' := by
  cases six
  · have : (32 : Int) = n := hn
    obtain rfl : n = 32 := by omega
    exact addrOf_four l g cap w hb hl hown hg
  · have : (128 : Int) = n := hn
    obtain rfl : n = 128 := by omega
    exact addrOf_six l g cap w hb hl hown hg

end Go.Proofs.YticikknfkkmoaaaDoor
