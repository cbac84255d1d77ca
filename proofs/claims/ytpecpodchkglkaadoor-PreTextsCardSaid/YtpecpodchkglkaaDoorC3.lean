/-
  
  
  
  
  
-/
import Derived.Test.YtpecpodchkglkaaDoorC2
namespace Go.Proofs.YtpecpodchkglkaaDoor
open Go.ChangeShapes Go.WideShapes Go.ChangeAt Go.RowKit

/-- Behind a call that changes nothing that existed all old cells read as before. -/
theorem bcell {W w1 : World} (hb : Below W.heap.size W w1) : (∀ b o, b < W.heap.size → w1.cell? ⟨b, o, none⟩ = W.cell? ⟨b, o, none⟩) ∧ (∀ b o, b < W.heap.size → w1.frozen? ⟨b, o, none⟩ = W.frozen? ⟨b, o, none⟩) :=
  ⟨fun b o h => hb.cell (p := ⟨b, o, none⟩) h, fun b o h => hb.frozen (p := ⟨b, o, none⟩) h⟩

theorem bsize1 {w w1 : World} {o : Obj} (hb : Below (w.alloc o).heap.size (w.alloc o) w1) : w.heap.size < w1.heap.size := by
  have := hb.size
  simp at this
  omega
theorem bsize2 {w w1 : World} {o o' : Obj} (hb : Below ((w.alloc o).alloc o').heap.size ((w.alloc o).alloc o') w1) : w.heap.size < w1.heap.size ∧ w.heap.size + 1 < w1.heap.size := by
  have := hb.size
  simp at this
  omega
theorem bsize3 {w w1 : World} {o o' o'' : Obj} (hb : Below (((w.alloc o).alloc o').alloc o'').heap.size (((w.alloc o).alloc o').alloc o'') w1) :
    w.heap.size < w1.heap.size ∧ w.heap.size + 1 < w1.heap.size ∧ w.heap.size + 1 + 1 < w1.heap.size := by
  have := hb.size
  simp at this
  omega
theorem balloc1 {w w1 : World} {o : Obj} (hb : Below (w.alloc o).heap.size (w.alloc o) w1) : Below w.heap.size w w1 := below_step ((Below.refl _ _).alloc (Nat.le_refl _) _) hb
theorem balloc2 {w w1 : World} {o o' : Obj} (hb : Below ((w.alloc o).alloc o').heap.size ((w.alloc o).alloc o') w1) : Below w.heap.size w w1 :=
  below_step (((Below.refl _ _).alloc (Nat.le_refl _) _).alloc (by simp) _) hb
theorem balloc3 {w w1 : World} {o o' o'' : Obj} (hb : Below (((w.alloc o).alloc o').alloc o'').heap.size (((w.alloc o).alloc o').alloc o'') w1) : Below w.heap.size w w1 :=
  below_step ((((Below.refl _ _).alloc (Nat.le_refl _) _).alloc (by simp) _).alloc (by simp; omega) _) hb

/-- The same behind a world that differs from a named one by draws alone. -/
theorem bcellN {w1 X w2 : World} (hb : Below X.heap.size X w2) (hX : X.heap = w1.heap) :
    (∀ b o, b < w1.heap.size → w2.cell? ⟨b, o, none⟩ = w1.cell? ⟨b, o, none⟩) ∧ (∀ b o, b < w1.heap.size → w2.frozen? ⟨b, o, none⟩ = w1.frozen? ⟨b, o, none⟩) ∧ w1.heap.size ≤ w2.heap.size := by
  have hs : X.heap.size = w1.heap.size := by rw [hX]
  refine ⟨fun b o h => ?_, fun b o h => ?_, by have := hb.size; omega⟩
  · exact (hb.cell (p := ⟨b, o, none⟩) (by show b < _; omega)).trans (World.cell?_of_block (w := w1) (by rw [hX]))
  · exact (hb.frozen (p := ⟨b, o, none⟩) (by show b < _; omega)).trans (World.frozen?_of_block (w := w1) (by rw [hX]))

/-! What a region keeps: all cells of a world w1. -/
theorem keep0 (w1 : World) : (∀ b o, b < w1.heap.size → w1.drew.cell? ⟨b, o, none⟩ = w1.cell? ⟨b, o, none⟩) ∧ w1.heap.size ≤ w1.drew.heap.size ∧ Hid (Below w1.heap.size w1 w1.drew) :=
  ⟨fun _ _ _ => rfl, Nat.le_refl _, (Below.refl _ _).drew⟩
theorem keepD {w1 X : World} (h : (∀ b o, b < w1.heap.size → X.cell? ⟨b, o, none⟩ = w1.cell? ⟨b, o, none⟩) ∧ w1.heap.size ≤ X.heap.size ∧ Hid (Below w1.heap.size w1 X)) :
    (∀ b o, b < w1.heap.size → X.drew.cell? ⟨b, o, none⟩ = w1.cell? ⟨b, o, none⟩) ∧ w1.heap.size ≤ X.drew.heap.size ∧ Hid (Below w1.heap.size w1 X.drew) :=
  ⟨h.1, h.2.1, h.2.2.out.drew⟩
theorem keep1 {w1 X w2 : World} (h : (∀ b o, b < w1.heap.size → X.cell? ⟨b, o, none⟩ = w1.cell? ⟨b, o, none⟩) ∧ w1.heap.size ≤ X.heap.size ∧ Hid (Below w1.heap.size w1 X)) (hb : Below X.heap.size X w2) :
    (∀ b o, b < w1.heap.size → w2.cell? ⟨b, o, none⟩ = w1.cell? ⟨b, o, none⟩) ∧ w1.heap.size ≤ w2.heap.size ∧ Hid (Below w1.heap.size w1 w2) :=
  ⟨fun b o hb' => (hb.cell (p := ⟨b, o, none⟩) (by show b < _; have := h.2.1; omega)).trans (h.1 b o hb'), Nat.le_trans h.2.1 hb.size, below_step h.2.2.out hb⟩

theorem own_block_lt {w : World} {base : Nat} {e : TypeId} {size n : Nat} {v : Value} {xs : List Value} (h : w.ownsRow base e size v n xs) {k : Nat} (hk : w.heap.size ≤ k) : v.ownBlock ≠ some k := by
  rcases h.2 with ⟨rfl, _⟩ | ⟨g, cap, cur, rfl, _, hh, _⟩
  · simp [Value.ownBlock]
  · intro he
    have : g = k := by simpa [Value.ownBlock] using he
    subst this
    rw [Array.getElem?_eq_none hk] at hh
    cases hh

/-- As wpList_append_one, where the number of the new block is spelled otherwise; it tells of all blocks but the row's own. -/
theorem wpList_append_oneN {P : Program} {ops : Array Oper} {rest : List Oper} {o : Oper} {a : Act} {Q : Exit → Act → World → Prop} {w0 : World} {us : List Value} {fr : Nat × Nat} {e : TypeId} {g : Nat} (hgd : o.guard = none) (s x : Operand) (t : TypeId)
    (ho : o.op = .call { callee := .builtin .append, args := #[s, x], argTypes := #[t, t] })
    (base : Nat) (z : Value) (size bytes : Nat) (ht : P.underlying t = some (.slice e)) (hi : (P.info? e).map (fun i => (i.zero, i.size, i.bytes)) = some (some z, size, bytes))
    (hzs : z.cells.size = size) (hsz : 0 < size) (v : Value) (n : Nat) (xs : List Value) (hs : a.eval s = v)
    (hx : a.eval x = .slice (some ⟨g, 0, none⟩) 1 1) (hg : g = w0.heap.size) (hown : w0.ownsRow base e size v n xs) (hbase : base ≤ w0.heap.size)
    (hl : us.length = size) (h1 : ∀ u ∈ us, u.oneCell' = true) (h63 : n + 1 ≤ maxLen) (hbytes : (n + 1) * bytes ≤ 140737488355328)
    (h : ∀ v' w', w'.ownsRow base e size v' (n + 1) (xs ++ us) → Below base w0 w' → w0.heap.size < w'.heap.size → (∀ k, k < w0.heap.size → v.ownBlock ≠ some k → w'.heap[k]? = w0.heap[k]?) → wpList P ops Q rest (a.put o.dst v') w') :
    wpList P ops Q (o :: rest) a (w0.alloc (.cells us.toArray e fr)) := by
  subst hg
  obtain ⟨i0, hi, hz0, hz1, hz2⟩ := info_parts hi
  refine wpList_append_own _ hgd s x t ho base e i0 z size bytes ht hi hz0 hz1 hz2 hzs hsz v n xs hs (hown.alloc _) ⟨w0.heap.size, 0, none⟩ 1 1 us hx (by omega) ?_ h1 h63 hbytes (by simp; omega) ?_
  · intro j u hj
    have e1 : (⟨w0.heap.size, 0, none⟩ : Addr).add j = ⟨w0.heap.size, j, none⟩ := by unfold Addr.add; split <;> simp_all
    rw [e1]
    have : (w0.alloc (.cells us.toArray e fr)).heap[w0.heap.size]? = some (.cells us.toArray e fr) := heap_alloc_new w0 _
    unfold World.cell?
    simp only [this]
    simpa using hj
  · intro v' w' hown' hg _
    have hb : Below base w0 (w0.alloc (.cells us.toArray e fr)) := (Below.refl _ _).alloc hbase _
    refine h v' w' hown' (hb.grown hg (by simp; omega) ?_) ?_ ?_
    · intro k hk
      rcases hown.2 with ⟨rfl, _⟩ | ⟨g, cap, cur, rfl, hgb, _⟩
      · simp [Value.ownBlock] at hk
      · simp only [Value.ownBlock, Option.some.injEq] at hk
        omega
    · have := hg.size
      simp at this
      omega
    · intro k hk hne
      rw [hg.block k (by simp; omega) (fun he => hne he.symm)]
      exact Below.heap_alloc _ _ _ hk

theorem keepB {w1 X w2 : World} (h : (∀ b o, b < w1.heap.size → X.cell? ⟨b, o, none⟩ = w1.cell? ⟨b, o, none⟩) ∧ w1.heap.size ≤ X.heap.size ∧ Hid (Below w1.heap.size w1 X)) (hb : Below w1.heap.size X w2) :
    (∀ b o, b < w1.heap.size → w2.cell? ⟨b, o, none⟩ = w1.cell? ⟨b, o, none⟩) ∧ w1.heap.size ≤ w2.heap.size ∧ Hid (Below w1.heap.size w1 w2) :=
  ⟨fun b o hb' => (hb.cell (p := ⟨b, o, none⟩) hb').trans (h.1 b o hb'), Nat.le_trans h.2.1 hb.size, h.2.2.out.trans hb⟩
theorem keepBelow {w1 X : World} (h : (∀ b o, b < w1.heap.size → X.cell? ⟨b, o, none⟩ = w1.cell? ⟨b, o, none⟩) ∧ w1.heap.size ≤ X.heap.size ∧ Hid (Below w1.heap.size w1 X)) : Below w1.heap.size w1 X := h.2.2.out
theorem keepSize {w1 X : World} (h : (∀ b o, b < w1.heap.size → X.cell? ⟨b, o, none⟩ = w1.cell? ⟨b, o, none⟩) ∧ w1.heap.size ≤ X.heap.size ∧ Hid (Below w1.heap.size w1 X)) : w1.heap.size ≤ X.heap.size := h.2.1
theorem keepA {w1 X : World} (h : (∀ b o, b < w1.heap.size → X.cell? ⟨b, o, none⟩ = w1.cell? ⟨b, o, none⟩) ∧ w1.heap.size ≤ X.heap.size ∧ Hid (Below w1.heap.size w1 X)) (o : Obj) :
    (∀ b o', b < w1.heap.size → (X.alloc o).cell? ⟨b, o', none⟩ = w1.cell? ⟨b, o', none⟩) ∧ w1.heap.size ≤ (X.alloc o).heap.size ∧ Hid (Below w1.heap.size w1 (X.alloc o)) :=
  keepB h ((Below.refl _ _).alloc h.2.1 o)

/-- A builtin append in a region that draws its order: a row of the call's own, and whatever is appended. -/
theorem step_append_below {P : Program} {ops : Array Oper} {o : Oper} {a : Act} {w : World} {K : Act → World → Prop} {Q : Exit → Act → World → Prop} {E : Prop} (hgd : o.guard = none) (s x : Operand) (t : TypeId)
    (ho : o.op = .call { callee := .builtin .append, args := #[s, x], argTypes := #[t, t] })
    (base : Nat) (e : TypeId) (z : Value) (size bytes : Nat) (ht : P.underlying t = some (.slice e)) (hi : (P.info? e).map (fun i => (i.zero, i.size, i.bytes)) = some (some z, size, bytes))
    (hzs : z.cells.size = size) (hsz : 0 < size)
    (v : Value) (n : Nat) (xs : List Value) (hs : a.eval s = v) (hown : w.ownsRow base e size v n xs)
    (B : Nat) (A : Option Addr) (m c : Nat) (news : List Value) (hx : a.eval x = .slice A m c) (hr : Reads w B size A m news) (h1 : ∀ u ∈ news, u.oneCell' = true)
    (h63 : n + m ≤ maxLen) (hbytes : (n + m) * bytes ≤ 140737488355328) (hbase : base ≤ w.heap.size)
    (h : ∀ v' w', w'.ownsRow base e size v' (n + m) (xs ++ news) → Below base w w' → K (a.put o.dst v') w') :
    if Region.wanted o (yielded ops a.tmps) = true then Oper.wp P o a w K Q else E := by
  obtain ⟨i0, hi, hz0, hz1, hz2⟩ := info_parts hi
  refine step_append_any w hgd s x t ho base e i0 z size bytes ht hi hz0 hz1 hz2 hzs hsz v n xs hs hown B A m c news hx hr h1 h63 hbytes hbase fun v' w' h2 h3 _ => h v' w' h2 ((Below.refl _ _).grown h3 hbase ?_)
  intro k hk
  rcases hown.2 with ⟨rfl, _⟩ | ⟨g, cap, cur, rfl, hgb, _⟩
  · simp [Value.ownBlock] at hk
  · simp only [Value.ownBlock, Option.some.injEq] at hk
    omega

/-- A builtin append onto nil in a region that draws its order: a new block; nothing that existed is changed. -/
theorem step_append_nil {P : Program} {ops : Array Oper} {o : Oper} {a : Act} {w : World} {K : Act → World → Prop} {Q : Exit → Act → World → Prop} {E : Prop} (hgd : o.guard = none) (s x : Operand) (t : TypeId)
    (ho : o.op = .call { callee := .builtin .append, args := #[s, x], argTypes := #[t, t] })
    (base : Nat) (e : TypeId) (z : Value) (size bytes : Nat) (ht : P.underlying t = some (.slice e)) (hi : (P.info? e).map (fun i => (i.zero, i.size, i.bytes)) = some (some z, size, bytes))
    (hzs : z.cells.size = size) (hsz : 0 < size) (hs : a.eval s = .slice none 0 0)
    (B : Nat) (A : Option Addr) (m c : Nat) (news : List Value) (hx : a.eval x = .slice A m c) (hr : Reads w B size A m news) (h1 : ∀ u ∈ news, u.oneCell' = true)
    (h63 : m ≤ maxLen) (hbytes : m * bytes ≤ 140737488355328) (hbase : base ≤ w.heap.size)
    (h : ∀ v' w', w'.ownsRow base e size v' m news → Below w.heap.size w w' → K (a.put o.dst v') w') :
    if Region.wanted o (yielded ops a.tmps) = true then Oper.wp P o a w K Q else E := by
  obtain ⟨i0, hi, hz0, hz1, hz2⟩ := info_parts hi
  refine step_append_any w hgd s x t ho base e i0 z size bytes ht hi hz0 hz1 hz2 hzs hsz (.slice none 0 0) 0 [] hs (World.ownsRow_nil _ _ _ _) B A m c news hx hr h1 (by omega) (by rw [Nat.zero_add]; exact hbytes) hbase fun v' w' h2 h3 _ => h v' w' (by rw [Nat.zero_add, List.nil_append] at h2; exact h2) ((Below.refl _ _).grown h3 (Nat.le_refl _) ?_)
  intro k hk
  simp [Value.ownBlock] at hk

theorem reads_one {w : World} {g : Nat} {u : Value} (h : w.cell? ⟨g, 0, none⟩ = some u) (hg : g < w.heap.size) : Reads w w.heap.size 1 (some ⟨g, 0, none⟩) 1 [u] := by
  refine ⟨rfl, fun _ => ⟨_, rfl, hg, fun j v hj => ?_⟩⟩
  have : j = 0 := by
    rcases Nat.eq_zero_or_pos j with h0 | h0
    · exact h0
    · rw [List.getElem?_eq_none (by simp; omega)] at hj; cases hj
  subst this
  simp at hj
  subst hj
  exact h

end Go.Proofs.YtpecpodchkglkaaDoor

namespace Go.Proofs.YtpecpodchkglkaaDoor
open Go.ChangeShapes Go.WideShapes Go.ChangeAt Go.RowKit

theorem own_cap {w : World} {base : Nat} {e : TypeId} {size n cap : Nat} {A : Option Addr} {xs : List Value} (h : w.ownsRow base e size (.slice A n cap) n xs) : n ≤ cap ∧ cap ≤ maxLen := by
  rcases h.2 with ⟨h1, rfl⟩ | ⟨g, c, cur, hv, _, _, h3, h4, _⟩
  · injection h1 with _ _ h2
    subst h2
    exact ⟨Nat.le_refl _, by unfold maxLen; omega⟩
  · injection hv with _ _ h2
    subst h2
    exact ⟨h3, h4⟩

theorem wideN (six : Bool) : ∃ n : Nat, wideI six = n ∧ 0 < n ∧ n ≤ 128 := by
  refine ⟨(wideI six).toNat, ?_⟩
  unfold wideI
  split <;> decide

/-- Cell i of a row that the call owns, of integers. -/
theorem own_int {w : World} {base n cap g : Nat} {e : TypeId} {l : List Int} (h : w.ownsRow base e 1 (.slice (some ⟨g, 0, none⟩) n cap) n (l.map (Value.int .i64))) {i : Nat} {x : Int} (hx : l[i]? = some x) : w.cell? ⟨g, i, none⟩ = some (.int .i64 x) := by
  have := h.cells (g := g) rfl i (.int .i64 x) (by rw [List.getElem?_map, hx]; rfl)
  rwa [show (⟨g, 0, none⟩ : Addr).add i = ⟨g, i, none⟩ from by unfold Addr.add; split <;> simp_all] at this

theorem bitsL_at {six : Bool} {hi lo : Int} {m i : Nat} (hm : wideI six = m) (hi' : i < m) : (bitsL six hi lo)[i]? = some (bitI six hi lo i) := by
  unfold bitsL
  rw [hm, List.getElem?_map, List.getElem?_range (by simpa using hi')]
  rfl

def ZeroTo (six : Bool) (hi lo : Int) (k j : Nat) : Prop := ∀ i : Nat, k ≤ i → i < k + j → bitI six hi lo i = 0
theorem ZeroTo.zero (six : Bool) (hi lo : Int) (k : Nat) : ZeroTo six hi lo k 0 := fun _ _ _ => by omega
theorem ZeroTo.succ {six : Bool} {hi lo : Int} {k j : Nat} (h : ZeroTo six hi lo k j) (hb : bitI six hi lo ((k + j : Nat) : Int) = 0) : ZeroTo six hi lo k (j + 1) := fun i h1 h2 => by
  rcases Nat.lt_or_ge i (k + j) with h3 | h3
  · exact h i h1 h3
  · obtain rfl : i = k + j := by omega
    exact hb

set_option maxHeartbeats 1600000 in
theorem preFault_any (six : Bool) (hi lo n : Int) (w : World) (h1 : 0 ≤ hi ∧ hi < 18446744073709551616) (h2 : 0 ≤ lo ∧ lo < 18446744073709551616) :
    Calls Tryd.prog 50 #[.agg #[.bool six, .int .u64 hi, .int .u64 lo, .int .i64 n]] w fun e w' => e = .returned (.int .i64 (chk six hi lo n)) ∧ Below w.heap.size w w' := by
  unfold chk
  by_cases hm : mayB six hi lo = false
  · rw [if_pos hm]
    go_enter Tryd.func50, Tryd.ntmps50
    go_wp2_with (go_at_call 41; refine (refMay_any six hi lo _ h2.1).mono ?_; rintro e w1 ⟨rfl, hb⟩; obtain ⟨B1, S1, q0, q1, q2, q3⟩ := box4 hb; clear hb)
    go_ret
    exact ⟨rfl, B1⟩
  · rw [if_neg hm]
    have hm' : mayB six hi lo = true := by simpa using hm
    clear hm
    obtain ⟨m, hn, hpos, hle⟩ := wideN six
    rw [hn]
    have HN := Lib.hid hn
    clear hn
    by_cases hr : n < 0
    · rw [if_pos (.inl hr)]
      go_enter Tryd.func50, Tryd.ntmps50
      go_wp2_with (go_at_call 41; refine (refMay_any six hi lo _ h2.1).mono ?_; rintro e w1 ⟨rfl, hb⟩; obtain ⟨B1, S1, q0, q1, q2, q3⟩ := box4 hb; clear hb)
      refine (bitsOf_any six hi lo _ h1 h2).mono ?_
      rintro e w2 ⟨v, rfl, hown, hb2, hs2⟩
      have B2 := B1.trans (hb2.mono (Nat.le_of_lt S1))
      have Q0 := cell_step hb2 q0
      have Q1 := cell_step hb2 q1
      have Q2 := cell_step hb2 q2
      have Q3 := cell_step hb2 q3
      rw [HN.out] at hown
      simp only [Int.toNat_natCast] at hown
      obtain ⟨g, cap, rfl, hg, hlt⟩ := hown.form hpos
      have hncap := own_cap hown
      have HO := Lib.hid hown
      clear hown hb2 q0 q1 q2 q3
      go_wp2
      go_ret
      exact ⟨rfl, B2⟩
    · by_cases hr2 : (m : Int) < n
      · rw [if_pos (.inr hr2)]
        go_enter Tryd.func50, Tryd.ntmps50
        go_wp2_with (go_at_call 41; refine (refMay_any six hi lo _ h2.1).mono ?_; rintro e w1 ⟨rfl, hb⟩; obtain ⟨B1, S1, q0, q1, q2, q3⟩ := box4 hb; clear hb)
        refine (bitsOf_any six hi lo _ h1 h2).mono ?_
        rintro e w2 ⟨v, rfl, hown, hb2, hs2⟩
        have B2 := B1.trans (hb2.mono (Nat.le_of_lt S1))
        have Q0 := cell_step hb2 q0
        have Q1 := cell_step hb2 q1
        have Q2 := cell_step hb2 q2
        have Q3 := cell_step hb2 q3
        rw [HN.out] at hown
        simp only [Int.toNat_natCast] at hown
        obtain ⟨g, cap, rfl, hg, hlt⟩ := hown.form hpos
        have hncap := own_cap hown
        have HO := Lib.hid hown
        clear hown hb2 q0 q1 q2 q3
        go_wp2
        go_ret
        exact ⟨rfl, B2⟩
      · rw [if_neg (by omega)]
        obtain ⟨k, rfl⟩ := Int.eq_ofNat_of_zero_le (by omega : 0 ≤ n)
        have hkm : k ≤ m := by omega
        obtain ⟨r, hr0⟩ : ∃ r : Int, r = if cleanB six hi lo k = true then 0 else 5 := ⟨_, rfl⟩
        rw [← hr0]
        have hci := clean_iff six hi lo k h1 h2 hm' (by rw [HN.out]; omega)
        rw [HN.out] at hci
        have hall : ZeroTo six hi lo k (m - k) → r = 0 := fun hz => by
          rw [hr0, if_pos (hci.2 fun i h3 h4 => hz i h3 (by omega))]
        have hone : ∀ j : Nat, j < m - k → bitI six hi lo ((k + j : Nat) : Int) = 1 → r = 5 := fun j hj hb => by
          rw [hr0, if_neg]
          intro hc
          have := hci.1 hc (k + j) (by omega) (by omega)
          omega
        have HA := Lib.hid hall
        have HB := Lib.hid hone
        clear hall hone hr0 hci hr hr2
        have hd : decide ((k : Int) < 0) = false := by simp
        have hd2 : decide ((m : Int) < (k : Int)) = false := by simp; omega
        go_enter Tryd.func50, Tryd.ntmps50
        go_wp2_with (go_at_call 41; refine (refMay_any six hi lo _ h2.1).mono ?_; rintro e w1 ⟨rfl, hb⟩; obtain ⟨B1, S1, q0, q1, q2, q3⟩ := box4 hb; clear hb)
        refine (bitsOf_any six hi lo _ h1 h2).mono ?_
        rintro e w2 ⟨v, rfl, hown, hb2, hs2⟩
        have B2 := B1.trans (hb2.mono (Nat.le_of_lt S1))
        have Q0 := cell_step hb2 q0
        have Q1 := cell_step hb2 q1
        have Q2 := cell_step hb2 q2
        have Q3 := cell_step hb2 q3
        rw [HN.out] at hown
        simp only [Int.toNat_natCast] at hown
        obtain ⟨g, cap, rfl, hg, hlt⟩ := hown.form hpos
        have hncap := own_cap hown
        have HO := Lib.hid hown
        clear hown hb2 q0 q1 q2 q3
        have hc1 := hncap.1
        have hc2 := hncap.2
        unfold maxLen at hc2
        clear hncap
        have hz1 : ((m - k : Nat) : Int) ≤ 128 := by omega
        by_cases hck : cap = k
        · obtain rfl : m = k := by omega
          go_wp2
          refine wp_loop_rounds 1 ?_
          rw [rounds_succ]
          go_wp2
          go_ret
          exact ⟨ret_int (HA.out (by rw [Nat.sub_self]; exact ZeroTo.zero _ _ _ _)).symm, B2⟩
        · go_wp2
          go_loop [28, 5] (fun i _ => ∃ j : Nat, j ≤ m - k ∧ i = .int .i64 j ∧ ZeroTo six hi lo k j) (fun i _ => m - k - (intOf i).toNat)
          case atStart => exact ⟨0, by omega, rfl, ZeroTo.zero _ _ _ _⟩
          case round =>
            obtain ⟨j, hj, rfl, hz⟩ := hrel
            by_cases hlt : j < m - k
            · have hcell := own_int HO.out (bitsL_at (hi := hi) (lo := lo) HN.out (show k + j < m by omega))
              have h01 := bitI_01 six hi lo ((k + j : Nat) : Int)
              have HZ := Lib.hid hz
              clear hz
              by_cases hb1 : bitI six hi lo ((k + j : Nat) : Int) = 1
              · have hr5 := HB.out j hlt hb1
                rw [hb1] at hcell
                clear hb1 h01
                have HR := Lib.hid hr5
                clear hr5
                go_wp2
                go_ret
                exact ⟨ret_int HR.out.symm, B2⟩
              · have hb0 : bitI six hi lo ((k + j : Nat) : Int) = 0 := by omega
                rw [hb0] at hcell
                have HZ2 := Lib.hid (HZ.out.succ hb0)
                clear hb1 hb0 h01
                go_wp2
                go_round
                case rel => exact ⟨j + 1, by omega, by go_num, HZ2.out⟩
                case measure => simp [intOf]; omega
            · obtain rfl : j = m - k := by omega
              have HR := Lib.hid (HA.out hz)
              clear hz
              go_wp2
              go_ret
              exact ⟨ret_int HR.out.symm, B2⟩

end Go.Proofs.YtpecpodchkglkaaDoor

namespace Go.Proofs.YtpecpodchkglkaaDoor
open Go.ChangeShapes Go.WideShapes Go.ChangeAt Go.RowKit

theorem own_reads {w : World} {base : Nat} {e : TypeId} {size n : Nat} {v : Value} {xs : List Value} (h : w.ownsRow base e size v n xs) : ∃ A c, v = .slice A n c ∧ (n ≤ c ∧ c ≤ maxLen) ∧ Reads w w.heap.size size A n xs := by
  rcases h.2 with ⟨rfl, rfl⟩ | ⟨g, cap, cur, rfl, _, _, h1, h2, _⟩
  · exact ⟨none, 0, rfl, ⟨Nat.le_refl _, by unfold maxLen; omega⟩, Reads.of_own h⟩
  · exact ⟨_, cap, rfl, ⟨h1, h2⟩, Reads.of_own h⟩

/-- append(own, s...) in a list of operations. -/
theorem wpList_append_reads {P : Program} {ops : Array Oper} {rest : List Oper} {o : Oper} {a : Act} {w : World} {Q : Exit → Act → World → Prop} (hgd : o.guard = none) (s x : Operand) (t : TypeId)
    (ho : o.op = .call { callee := .builtin .append, args := #[s, x], argTypes := #[t, t] })
    (base : Nat) (e : TypeId) (z : Value) (size bytes : Nat) (ht : P.underlying t = some (.slice e)) (hi : (P.info? e).map (fun i => (i.zero, i.size, i.bytes)) = some (some z, size, bytes))
    (hzs : z.cells.size = size) (hsz : 0 < size)
    (v : Value) (n : Nat) (xs : List Value) (hs : a.eval s = v) (A : Option Addr) (m c : Nat) (hx : a.eval x = .slice A m c) (hown : w.ownsRow base e size v n xs)
    (B : Nat) (news : List Value) (hr : Reads w B size A m news) (h1 : ∀ u ∈ news, u.oneCell' = true)
    (h63 : n + m ≤ maxLen) (hbytes : (n + m) * bytes ≤ 140737488355328) (hbase : base ≤ w.heap.size)
    (h : ∀ v' w', w'.ownsRow base e size v' (n + m) (xs ++ news) → Below base w w' → wpList P ops Q rest (a.put o.dst v') w') : wpList P ops Q (o :: rest) a w := by
  obtain ⟨i0, hi, hz0, hz1, hz2⟩ := info_parts hi
  refine wpList_append_any w hgd s x t ho base e i0 z size bytes ht hi hz0 hz1 hz2 hzs hsz v n xs hs hown B A m c news hx hr h1 h63 hbytes hbase fun v' w' h2 h3 _ => h v' w' h2 ((Below.refl _ _).grown h3 hbase ?_)
  intro k hk
  rcases hown.2 with ⟨rfl, _⟩ | ⟨g, cap, cur, rfl, hgb, _⟩
  · simp [Value.ownBlock] at hk
  · simp only [Value.ownBlock, Option.some.injEq] at hk
    omega

theorem own_reads_at {w : World} {base : Nat} {e : TypeId} {size n : Nat} {v : Value} {xs : List Value} (h : w.ownsRow base e size v n xs) : ∃ A c, v = .slice A n c ∧ (n ≤ c ∧ c ≤ maxLen) ∧ Reads w w.heap.size size A n xs ∧ ∀ ad, A = some ad → base ≤ ad.block := by
  rcases h.2 with ⟨rfl, rfl⟩ | ⟨g, cap, cur, rfl, hg, _, h1, h2, _⟩
  · exact ⟨none, 0, rfl, ⟨Nat.le_refl _, by unfold maxLen; omega⟩, Reads.of_own h, fun ad h => by cases h⟩
  · exact ⟨_, cap, rfl, ⟨h1, h2⟩, Reads.of_own h, fun ad h => by injection h with h; subst h; exact hg⟩

/-- A row that grows in a loop, while all that was there before the loop stays, but for the row's own first block. -/
structure RowAt (w3 : World) (G base : Nat) (e : TypeId) (size : Nat) (wr : World) (v : Value) (n : Nat) (xs : List Value) : Prop where
  own : wr.ownsRow base e size v n xs
  blk : ∀ k, v.ownBlock = some k → k = G ∨ w3.heap.size ≤ k
  below : Below base w3 wr
  kept : ∀ k, k < w3.heap.size → k ≠ G → wr.heap[k]? = w3.heap[k]?
  le : base ≤ w3.heap.size
theorem RowAt.step {w3 wr w' : World} {G base : Nat} {e : TypeId} {size n : Nat} {v : Value} {xs : List Value} (h : RowAt w3 G base e size wr v n xs) (hb : Below wr.heap.size wr w') : RowAt w3 G base e size w' v n xs :=
  ⟨own_below h.own hb, h.blk, h.below.trans (hb.mono (Nat.le_trans h.le h.below.size)), fun k hk hne => (hb.block k (by have := h.below.size; omega)).trans (h.kept k hk hne), h.le⟩
theorem RowAt.alloc {w3 wr : World} {G base : Nat} {e : TypeId} {size n : Nat} {v : Value} {xs : List Value} (h : RowAt w3 G base e size wr v n xs) (o : Obj) : RowAt w3 G base e size (wr.alloc o) v n xs := h.step ((Below.refl _ _).alloc (Nat.le_refl _) _)

theorem wpList_append_row {P : Program} {ops : Array Oper} {rest : List Oper} {o : Oper} {a : Act} {Q : Exit → Act → World → Prop} {w0 : World} {us : List Value} {fr : Nat × Nat} {e : TypeId} {g : Nat} (hgd : o.guard = none) (s x : Operand) (t : TypeId)
    (ho : o.op = .call { callee := .builtin .append, args := #[s, x], argTypes := #[t, t] })
    (w3 : World) (G base : Nat) (z : Value) (size bytes : Nat) (ht : P.underlying t = some (.slice e)) (hi : (P.info? e).map (fun i => (i.zero, i.size, i.bytes)) = some (some z, size, bytes))
    (hzs : z.cells.size = size) (hsz : 0 < size) (v : Value) (n : Nat) (xs : List Value) (hs : a.eval s = v)
    (hx : a.eval x = .slice (some ⟨g, 0, none⟩) 1 1) (hg : g = w0.heap.size) (hrow : RowAt w3 G base e size w0 v n xs)
    (hl : us.length = size) (h1 : ∀ u ∈ us, u.oneCell' = true) (h63 : n + 1 ≤ maxLen) (hbytes : (n + 1) * bytes ≤ 140737488355328)
    (h : ∀ v' w', RowAt w3 G base e size w' v' (n + 1) (xs ++ us) → w0.heap.size < w'.heap.size → (∀ k, k < w0.heap.size → v.ownBlock ≠ some k → w'.heap[k]? = w0.heap[k]?) → wpList P ops Q rest (a.put o.dst v') w') :
    wpList P ops Q (o :: rest) a (w0.alloc (.cells us.toArray e fr)) := by
  subst hg
  obtain ⟨i0, hi, hz0, hz1, hz2⟩ := info_parts hi
  have hbase : base ≤ w0.heap.size := Nat.le_trans hrow.le hrow.below.size
  have hr : Reads (w0.alloc (.cells us.toArray e fr)) (w0.alloc (.cells us.toArray e fr)).heap.size size (some ⟨w0.heap.size, 0, none⟩) 1 us := by
    refine ⟨by simp [hl], fun _ => ⟨_, rfl, by simp, fun j u hj => ?_⟩⟩
    have e1 : (⟨w0.heap.size, 0, none⟩ : Addr).add j = ⟨w0.heap.size, j, none⟩ := by unfold Addr.add; split <;> simp_all
    rw [e1]
    have : (w0.alloc (.cells us.toArray e fr)).heap[w0.heap.size]? = some (.cells us.toArray e fr) := heap_alloc_new w0 _
    unfold World.cell?
    simp only [this]
    simpa using hj
  refine wpList_append_any _ hgd s x t ho base e i0 z size bytes ht hi hz0 hz1 hz2 hzs hsz v n xs hs (hrow.own.alloc _) _ _ 1 1 us hx hr h1 h63 hbytes (by simp; omega) ?_
  intro v' w' hown' hgr hblk
  have hne : ∀ k, k < w3.heap.size → k ≠ G → v.ownBlock ≠ some k := by
    intro k hk hne he
    rcases hrow.blk k he with h | h <;> omega
  have hb : Below base w0 (w0.alloc (.cells us.toArray e fr)) := (Below.refl _ _).alloc hbase _
  have hsz' := hgr.size
  simp at hsz'
  refine h v' w' ⟨hown', ?_, hrow.below.trans (hb.grown hgr (by simp; omega) ?_), ?_, hrow.le⟩ (by omega) ?_
  · intro k hk
    rcases hblk with hh | hh
    · rw [hh] at hk
      exact hrow.blk k hk
    · rw [hh] at hk
      injection hk with hk
      have := hrow.below.size
      simp at hk
      omega
  · intro k hk
    rcases hrow.own.2 with ⟨rfl, _⟩ | ⟨g, cap, cur, rfl, hgb, _⟩
    · simp [Value.ownBlock] at hk
    · simp only [Value.ownBlock, Option.some.injEq] at hk
      omega
  · intro k hk hkG
    have := hrow.below.size
    rw [hgr.block k (by simp; omega) (fun he => hne k hk hkG he.symm)]
    exact (Below.heap_alloc _ _ _ (by omega)).trans (hrow.kept k hk hkG)
  · intro k hk hne
    rw [hgr.block k (by simp; omega) (fun he => hne he.symm)]
    exact Below.heap_alloc _ _ _ hk

end Go.Proofs.YtpecpodchkglkaaDoor

namespace Go.Proofs.YtpecpodchkglkaaDoor
open Go.ChangeShapes Go.WideShapes Go.ChangeAt Go.RowKit

theorem own_same {w w' : World} {base : Nat} {e : TypeId} {size n : Nat} {v : Value} {xs : List Value} (h : w.ownsRow base e size v n xs) (hk : ∀ k, v.ownBlock = some k → w'.heap[k]? = w.heap[k]?) : w'.ownsRow base e size v n xs := by
  obtain ⟨h1, h2⟩ := h
  refine ⟨h1, ?_⟩
  rcases h2 with ⟨rfl, h3⟩ | ⟨g, cap, cur, rfl, hg, hh, r⟩
  · exact .inl ⟨rfl, h3⟩
  · exact .inr ⟨g, cap, cur, rfl, hg, (hk g rfl).trans hh, r⟩
/-- Two rows of the call's own, in blocks apart. -/
structure Two (w : World) (base : Nat) (e : TypeId) (size : Nat) (v u : Value) (n m : Nat) (xs ys : List Value) : Prop where
  a : w.ownsRow base e size v n xs
  b : w.ownsRow base e size u m ys
  apart : ∀ k, v.ownBlock = some k → u.ownBlock ≠ some k
theorem Two.swap {w : World} {base : Nat} {e : TypeId} {size : Nat} {v u : Value} {n m : Nat} {xs ys : List Value} (h : Two w base e size v u n m xs ys) : Two w base e size u v m n ys xs :=
  ⟨h.b, h.a, fun k h1 h2 => h.apart k h2 h1⟩
theorem Two.step {w w' : World} {base : Nat} {e : TypeId} {size : Nat} {v u : Value} {n m : Nat} {xs ys : List Value} (h : Two w base e size v u n m xs ys) (hb : Below w.heap.size w w') : Two w' base e size v u n m xs ys :=
  ⟨own_below h.a hb, own_below h.b hb, h.apart⟩
theorem wpList_append_two {P : Program} {ops : Array Oper} {rest : List Oper} {o : Oper} {a : Act} {Q : Exit → Act → World → Prop} {w0 : World} {us : List Value} {fr : Nat × Nat} {e : TypeId} {g : Nat} (hgd : o.guard = none) (s x : Operand) (t : TypeId)
    (ho : o.op = .call { callee := .builtin .append, args := #[s, x], argTypes := #[t, t] })
    (base : Nat) (z : Value) (size bytes : Nat) (ht : P.underlying t = some (.slice e)) (hi : (P.info? e).map (fun i => (i.zero, i.size, i.bytes)) = some (some z, size, bytes))
    (hzs : z.cells.size = size) (hsz : 0 < size) (v u : Value) (n m : Nat) (xs ys : List Value) (hs : a.eval s = v)
    (hx : a.eval x = .slice (some ⟨g, 0, none⟩) 1 1) (hg : g = w0.heap.size) (htwo : Two w0 base e size v u n m xs ys) (hbase : base ≤ w0.heap.size)
    (hl : us.length = size) (h1 : ∀ u ∈ us, u.oneCell' = true) (h63 : n + 1 ≤ maxLen) (hbytes : (n + 1) * bytes ≤ 140737488355328)
    (h : ∀ v' w', Two w' base e size v' u (n + 1) m (xs ++ us) ys → Below base w0 w' → w0.heap.size < w'.heap.size → (∀ k, k < w0.heap.size → v.ownBlock ≠ some k → w'.heap[k]? = w0.heap[k]?) → wpList P ops Q rest (a.put o.dst v') w') :
    wpList P ops Q (o :: rest) a (w0.alloc (.cells us.toArray e fr)) := by
  subst hg
  obtain ⟨i0, hi, hz0, hz1, hz2⟩ := info_parts hi
  have hr : Reads (w0.alloc (.cells us.toArray e fr)) (w0.alloc (.cells us.toArray e fr)).heap.size size (some ⟨w0.heap.size, 0, none⟩) 1 us := by
    refine ⟨by simp [hl], fun _ => ⟨_, rfl, by simp, fun j u hj => ?_⟩⟩
    have e1 : (⟨w0.heap.size, 0, none⟩ : Addr).add j = ⟨w0.heap.size, j, none⟩ := by unfold Addr.add; split <;> simp_all
    rw [e1]
    have : (w0.alloc (.cells us.toArray e fr)).heap[w0.heap.size]? = some (.cells us.toArray e fr) := heap_alloc_new w0 _
    unfold World.cell?
    simp only [this]
    simpa using hj
  refine wpList_append_any _ hgd s x t ho base e i0 z size bytes ht hi hz0 hz1 hz2 hzs hsz v n xs hs (htwo.a.alloc _) _ _ 1 1 us hx hr h1 h63 hbytes (by simp; omega) ?_
  intro v' w' hown' hgr hblk
  have hsz' := hgr.size
  simp at hsz'
  have hkeep : ∀ k, k < w0.heap.size → v.ownBlock ≠ some k → w'.heap[k]? = w0.heap[k]? := fun k hk hne => by
    rw [hgr.block k (by simp; omega) (fun he => hne he.symm)]
    exact Below.heap_alloc _ _ _ hk
  have hub : ∀ k, u.ownBlock = some k → k < w0.heap.size := fun k hk => by
    apply Classical.byContradiction
    intro hc
    exact own_block_lt htwo.b (k := k) (by omega) hk
  have hb : Below base w0 (w0.alloc (.cells us.toArray e fr)) := (Below.refl _ _).alloc hbase _
  refine h v' w' ⟨hown', own_same htwo.b (fun k hk => hkeep k (hub k hk) (fun hh => htwo.apart k hh hk)), fun k hk hu => ?_⟩ (hb.grown hgr (by simp; omega) ?_) (by omega) hkeep
  · rcases hblk with hh | hh
    · rw [hh] at hk
      exact htwo.apart k hk hu
    · rw [hh] at hk
      injection hk with hk
      have := hub k hu
      simp at hk
      omega
  · intro k hk
    rcases htwo.a.2 with ⟨rfl, _⟩ | ⟨g, cap, cur, rfl, hgb, _⟩
    · simp [Value.ownBlock] at hk
    · simp only [Value.ownBlock, Option.some.injEq] at hk
      omega

/-- A store at a place of a row of one-cell elements. -/
theorem own_set {w : World} {base : Nat} {e : TypeId} {n : Nat} {ad : Addr} {c : Nat} {xs : List Value} (h : w.ownsRow base e 1 (.slice (some ad) n c) n xs) (i : Nat) (u : Value) (_hi : i < n) : (w.setCell (ad.add i) u).ownsRow base e 1 (.slice (some ad) n c) n (xs.set i u) := by
  obtain ⟨h1, h2⟩ := h
  refine ⟨by rw [List.length_set]; exact h1, ?_⟩
  rcases h2 with ⟨hv, _⟩ | ⟨g, cap, cur, hv, hg, hh, hn, hc, hs, ht⟩
  · injection hv with h0; cases h0
  · injection hv with h0 _ h2
    injection h0 with h0
    subst h0 h2
    have e1 : (⟨g, 0, none⟩ : Addr).add i = ⟨g, i, none⟩ := by unfold Addr.add; split <;> simp_all
    rw [e1]
    have hb : Blk w g e cur := hh
    have := hb.set_ i u
    refine .inr ⟨g, c, cur.setIfInBounds i u, rfl, hg, this, hn, hc, by simpa using hs, ?_⟩
    rw [Array.toList_setIfInBounds, List.take_set, ht]
theorem own_frozen {w : World} {base : Nat} {e : TypeId} {n size : Nat} {ad : Addr} {c : Nat} {xs : List Value} (h : w.ownsRow base e size (.slice (some ad) n c) n xs) (i : Nat) : w.frozen? (ad.add i) = false := by
  rcases h.2 with ⟨hv, _⟩ | ⟨g, cap, cur, hv, hg, hh, hn, hc, hs, ht⟩
  · injection hv with h0; cases h0
  · injection hv with h0 _ h2
    injection h0 with h0
    subst h0
    have e1 : (⟨g, 0, none⟩ : Addr).add i = ⟨g, i, none⟩ := by unfold Addr.add; split <;> simp_all
    rw [e1]
    have hb : Blk w g e cur := hh
    exact hb.frozen i
theorem own_at {w : World} {base : Nat} {e : TypeId} {n : Nat} {v : Value} {l : List Int} (h : w.ownsRow base e 1 v n (l.map (Value.int .i64))) (hn : 0 < n) : ∃ ad c, v = .slice (some ad) n c ∧ base ≤ ad.block ∧ ad.block < w.heap.size ∧ ∀ i, i < n → w.cell? (ad.add i) = some (.int .i64 (l[i]?.getD 0)) := by
  obtain ⟨A, c, rfl, hc, hr, hbase⟩ := own_reads_at h
  obtain ⟨ad, rfl, hb, hcell⟩ := hr.2 hn
  refine ⟨ad, c, rfl, hbase ad rfl, hb, fun i hi => ?_⟩
  have hl := hr.1
  rw [List.length_map] at hl
  have hx : l[i]? = some (l[i]'(by omega)) := List.getElem?_eq_getElem _
  rw [hx, Option.getD_some]
  exact hcell i _ (by rw [List.getElem?_map, hx]; rfl)

end Go.Proofs.YtpecpodchkglkaaDoor

namespace Go.Proofs.YtpecpodchkglkaaDoor
open Go.ChangeShapes Go.WideShapes Go.ChangeAt Go.RowKit

theorem infoInt2 : (Tryd.prog.info? 3).map (fun i => (i.zero, i.size, i.bytes)) = some (some (.int .i64 0), 1, 8) := by kernel_rfl
def PartsOut (a : AV) (wd : Nat) (w : World) (e : Ending) (w' : World) : Prop :=
  ∃ v, e = .returned v ∧ w'.ownsRow w.heap.size 3 1 v (groups a.v (widN a.six) wd (widN a.six)).length ((groups a.v (widN a.six) wd (widN a.six)).map (Value.int .i64)) ∧ Below w.heap.size w w'

set_option maxRecDepth 100000 in
set_option maxHeartbeats 1600000 in
theorem partsOf_any (six : Bool) (hi lo : Int) (wd : Nat) (w : World) (ha : (⟨six, hi, lo⟩ : AV).Ok) (hw : 0 < wd) (hw2 : wd ≤ 16) :
    Calls Tryd.prog 42 #[.agg #[.bool six, .int .u64 hi, .int .u64 lo], .int .i64 wd] w (PartsOut ⟨six, hi, lo⟩ wd w) := by
  have CB := Lib.hid (fun (W : World) => bitsOf_any six hi lo W ha.rhi ha.rlo)
  have HBIT := Lib.hid (fun (i : Nat) (hi' : i < widN six) => AV.bitN ha (i := i) hi')
  obtain ⟨V, hV⟩ : ∃ V, (⟨six, hi, lo⟩ : AV).v = V := ⟨_, rfl⟩
  simp only at HBIT
  rw [hV] at HBIT
  obtain ⟨post, hpost⟩ : ∃ post, PartsOut ⟨six, hi, lo⟩ wd w = post := ⟨_, rfl⟩
  have HP := Lib.hid hpost
  rw [hpost]
  have HV := Lib.hid hV
  obtain ⟨N, hN⟩ : ∃ N, widN six = N := ⟨_, rfl⟩
  have hN2 : N ≤ 128 := by rw [← hN]; cases six <;> simp [widN]
  have HNN := Lib.hid hN
  rw [hN] at HBIT
  have HBL : Hid ((bitsL six hi lo).length = N) := by show _ = _; rw [bitsL_length, widN_eq, hN]; simp
  have HBG : Hid (∀ i, i < N → (bitsL six hi lo)[i]? = some (bitI six hi lo (i : Int))) := by
    intro i hi'
    unfold bitsL
    rw [List.getElem?_map, List.getElem?_range (by rw [widN_eq, hN]; simpa using hi')]
    rfl
  clear hpost hV ha hN
  go_enter Tryd.func42, Tryd.ntmps42
  go_wp2_with fail
  refine (CB.out _).mono ?_
  rintro e X ⟨vb, rfl, hbits, hbX, hlX⟩
  obtain ⟨Ab, cb, rfl, hcb, hrb⟩ := own_reads hbits
  rw [widN_eq, HNN.out] at hrb hcb ⊢
  simp only [Int.toNat_natCast] at hrb hcb ⊢
  have HRB := Lib.hid hrb
  have HBX : Hid (Below w.heap.size w X) := below_step ((Below.refl _ _).alloc (Nat.le_refl _) _) hbX
  have hwX := HBX.out.size
  have hS1 : ((wd : Int) == 0) = false := by simp; omega
  have hS2 : ¬ (wd : Int) = 0 := by omega
  clear hbits hrb hbX CB
  go_wp2
  go_loopw [11, 5] (fun i s5 wr => ∃ (k : Nat) (v5 : Value), k ≤ N ∧ i = .int .i64 k ∧ v5 = s5 ∧ wr.ownsRow X.heap.size 3 1 v5 (groups V N wd k).length ((groups V N wd k).map (Value.int .i64)) ∧ Below X.heap.size X wr) (fun i _ _ => N - (intOf i).toNat)
  case atStart => exact ⟨0, _, by omega, rfl, rfl, by rw [show groups V N wd 0 = [] from List.eq_nil_of_length_eq_zero (by rw [groups_length]; exact Nat.div_eq_of_lt (by omega))]; exact World.ownsRow_nil _ _ _ _, Below.refl _ _⟩
  case round =>
    obtain ⟨k, v5, hk, rfl, rfl, hrow, hb⟩ := hrel
    obtain ⟨wo, rfl⟩ : ∃ wo : World, wo = wr := ⟨_, rfl⟩
    have hszb := hb.size
    have HB := Lib.hid hb
    by_cases hlt : k < N
    · obtain ⟨ab, x, rfl, hx, -, hxl, -⟩ := HRB.out.at1 hlt
      have hbl : ab.block < X.heap.size := by
        obtain ⟨ad', e1, hb', _⟩ := HRB.out.2 (by omega)
        injection e1 with e1
        rw [e1]; exact hb'
      have q0 := (hb.cell (p := ab.add k) (by rw [block_of_add]; exact hbl)).trans hx
      have hxv : x = ((V / 2 ^ (N - 1 - k) % 2 : Nat) : Int) := by
        rw [HBG.out k hlt] at hxl
        injection hxl with hxl
        rw [← hxl, HBIT.out k hlt]
      have hst := groups_step V N wd k hw hlt
      rw [← hxv] at hst
      have hx01 : 0 ≤ x ∧ x ≤ 1 := by rw [hxv]; omega
      have hmod : Int.tmod (k : Int) (wd : Int) = ((k % wd : Nat) : Int) := by rw [Int.tmod_eq_emod_of_nonneg (by omega)]; exact (Int.natCast_emod k wd).symm
      have hml := Nat.mod_lt k hw
      have hwm : IntKind.i64.wrap (((k % wd : Nat) : Int)) = ((k % wd : Nat) : Int) := by rw [IntWalk.i64_in _ (by omega)]
      obtain ⟨r, hr⟩ : ∃ r, k % wd = r := ⟨_, rfl⟩
      rw [hr] at hst hmod hwm hml
      have hdm := Nat.div_add_mod k wd
      have hgl := groups_length V N wd k
      obtain ⟨q, hq⟩ : ∃ q, k / wd = q := ⟨_, rfl⟩
      rw [hq] at hst hdm
      rw [hr] at hdm
      have hqk : q ≤ k := by rw [← hq]; exact Nat.div_le_self _ _
      obtain ⟨G, hG⟩ : ∃ G, groups V N wd k = G := ⟨_, rfl⟩
      rw [hG] at hst hrow hgl
      by_cases h0 : r = 0
      · rw [if_pos h0] at hst
        have hlen : G.length = q := by
          rw [hgl, show k + wd - 1 = (wd - 1) + wd * q by omega, Nat.add_mul_div_left _ _ hw, Nat.div_eq_of_lt (by omega)]
          omega
        subst h0
        rw [hlen] at hrow
        have HO := Lib.hid hrow
        have HST := Lib.hid hst
        have HLE := Lib.hid hlen
        clear hb hx hxl hxv hst hgl hlen hdm hr hq hG hrow hml
        go_wp2_with (at_builtin; go_loud (refine wpList_append_oneN (us := [.int .i64 0]) rfl _ _ 41 rfl X.heap.size _ 1 8 Tryd.underlying41 infoInt2 rfl (by decide) _ _ _ rfl rfl rfl HO.out ?c1 rfl ?c4 ?c2 ?c3 ?_))
        case c1 => exact hszb
        case c2 => unfold maxLen; omega
        case c3 => omega
        case c4 => first | rfl | (intro u hu; simp at hu; subst hu; rfl)
        intro v' w9 hown' hb9 hs9 hk9
        have ho9 : w9.ownsRow X.heap.size 3 1 v' (q + 1) ((G ++ [0]).map (Value.int .i64)) := by rw [List.map_append]; exact hown'
        obtain ⟨ad, c9, rfl, hbase, hadl, hcl⟩ := own_at ho9 (by omega)
        have hx0 := hcl q (by omega)
        rw [List.getElem?_append_right (by rw [HLE.out]; exact Nat.le_refl _), HLE.out, Nat.sub_self] at hx0
        simp only [List.getElem?_cons_zero, Option.getD_some] at hx0
        have hfz := own_frozen ho9 q
        have HOS := Lib.hid (own_set ho9 q (.int .i64 x) (by omega))
        have HB9 := Lib.hid (HB.out.trans hb9)
        have HADB := Lib.hid hbase
        have i1 : (0 : Int) ≤ (q : Int) := by omega
        have i2 : (q : Int) < (q : Int) + 1 := by omega
        have e1 : ((q : Int) + 1 - 1) = q := by omega
        clear hown' hb9 hk9 ho9 hcl
        go_wp2
        go_roundw
        case rel =>
          refine ⟨k + 1, _, by omega, by go_num, rfl, ?_, HB9.out.setCell (by rw [block_of_add]; exact HADB.out) _⟩
          have e2 : ((G ++ [0]).map (Value.int .i64)).set q (.int .i64 x) = (G ++ [x]).map (Value.int .i64) := by
            rw [List.map_append, List.map_append, List.set_append_right _ _ (by rw [List.length_map, HLE.out]; exact Nat.le_refl _), List.length_map, HLE.out, Nat.sub_self]
            rfl
          have := HOS.out
          rw [e2] at this
          rw [HST.out, List.length_append, HLE.out]
          exact this
        case measure => simp [intOf]; omega
      · rw [if_neg h0] at hst
        have hlen : G.length = q + 1 := by
          rw [hgl, show k + wd - 1 = (r - 1) + wd * (q + 1) by rw [Nat.mul_succ]; omega, Nat.add_mul_div_left _ _ hw, Nat.div_eq_of_lt (by omega)]
          omega
        obtain ⟨y, hy⟩ : ∃ y, G[q]?.getD 0 = y := ⟨_, rfl⟩
        have hy2 : 0 ≤ y ∧ y < 65536 := by
          rw [← hy, ← hG, groups_get V N wd k q (by rw [← hgl, hlen]; omega)]
          have h1 := gv_lt V N wd k q
          have h2 : 2 ^ wd ≤ 2 ^ 16 := Nat.pow_le_pow_right (by omega) hw2
          simp only [Option.getD_some]
          omega
        rw [hy] at hst
        rw [hlen] at hrow
        have d0 : ((r : Int) == 0) = false := by simp; omega
        obtain ⟨ad, c9, rfl, hbase, hadl, hcl⟩ := own_at hrow (by omega)
        have hx0 := hcl q (by omega)
        rw [hy] at hx0
        have hfz := own_frozen hrow q
        have w1 : IntKind.i64.wrap (2 * y) = 2 * y := by rw [IntWalk.i64_in _ (by omega)]
        have w2 : IntKind.i64.wrap (2 * y + x) = 2 * y + x := by rw [IntWalk.i64_in _ (by omega)]
        have HOS := Lib.hid (own_set hrow q (.int .i64 (2 * y + x)) (by omega))
        have HADB := Lib.hid hbase
        have HST := Lib.hid hst
        have HLE := Lib.hid hlen
        have i1 : (0 : Int) ≤ (q : Int) := by omega
        have i2 : (q : Int) < (q : Int) + 1 := by omega
        have e1 : ((q : Int) + 1 - 1) = q := by omega
        clear hb hx hxl hxv hst hgl hlen hdm hr hq hG hrow hml h0 hy hcl
        go_wp2
        go_roundw
        case rel =>
          refine ⟨k + 1, _, by omega, by go_num, rfl, ?_, HB.out.setCell (by rw [block_of_add]; exact HADB.out) _⟩
          rw [HST.out, List.length_set, HLE.out, List.map_set]
          exact HOS.out
        case measure => simp [intOf]; omega
    · obtain rfl : k = N := by omega
      have HO := Lib.hid hrow
      clear hrow hb
      go_wp2
      (try go_ret)
      rw [← HP.out]
      unfold PartsOut
      rw [HV.out, show widN (⟨six, hi, lo⟩ : AV).six = k from HNN.out]
      exact ⟨_, rfl, own_mono HO.out hwX, HBX.out.trans (HB.out.mono hwX)⟩

end Go.Proofs.YtpecpodchkglkaaDoor
