/-
  
  
  
  
  
-/
import Derived.Test.YtonelibgaceflaaC2
import Derived.Test.YtonelibgaceflaaC4
import Derived.Test.YtonelibgaceflaaChecked
import Derived.Test.YtonelibgaceflaaC6
import Derived.Test.YtonelibgaceflaaC5
import Derived.Deep.DeepCutAuto
namespace Go.Proofs.Ytonelibgaceflaa
open Go.ChangeShapes Go.WideShapes Go.ChangeAt Go.RowKit

theorem own_reads {w : World} {base : Nat} {e : TypeId} {size n : Nat} {v : Value} {xs : List Value} (h : w.ownsRow base e size v n xs) : ∃ A c, v = .slice A n c ∧ (n ≤ c ∧ c ≤ maxLen) ∧ Reads w w.heap.size size A n xs := by
  rcases h.2 with ⟨rfl, rfl⟩ | ⟨g, cap, cur, rfl, _, _, h1, h2, _⟩
  · exact ⟨none, 0, rfl, ⟨Nat.le_refl _, by unfold maxLen; omega⟩, Reads.of_own h⟩
  · exact ⟨_, cap, rfl, ⟨h1, h2⟩, Reads.of_own h⟩

/-- append(own, s...) in a list of operations. -/
theorem wpList_append_reads {P : Program} {ops : Array Oper} {rest : List Oper} {o : Oper} {a : Act} {w : World} {Q : Exit → Act → World → Prop} (hgd : o.guard = none) (s x : Operand) (t : TypeId)
    (ho : o.op = .call { callee := .builtin .append, args := #[s, x], argTypes := #[t, t] })
    (base : Nat) (e : TypeId) (z : Value) (size bytes : Nat) (ht : P.underlying t = some (.slice e)) (hi : (P.info? e).map (fun i => (i.zero, i.size, i.bytes)) = some (some z, size, bytes))
    (hzs : z.cells.size = size) (hsz : 0 < size)
    (v : Value) (n : Nat) (xs : List Value) (hs : a.eval s = v) (A : Option Addr) (m c : Nat) (hx : a.eval x = .slice A m c) (hown : w.ownsRow base e size v n xs)
    (B : Nat) (news : List Value) (hr : Reads w B size A m news) (h1 : ∀ u ∈ news, u.oneCell' = true)
    (h63 : n + m ≤ maxLen) (hbytes : (n + m) * bytes ≤ 140737488355328) (hbase : base ≤ w.heap.size)
    (h : ∀ v' w', w'.ownsRow base e size v' (n + m) (xs ++ news) → Below base w w' → wpList P ops Q rest (a.put o.dst v') w') : wpList P ops Q (o :: rest) a w := by
  obtain ⟨i0, hi, hz0, hz1, hz2⟩ := info_parts hi
  refine wpList_append_any w hgd s x t ho base e i0 z size bytes ht hi hz0 hz1 hz2 hzs hsz v n xs hs hown B A m c news hx hr h1 h63 hbytes hbase fun v' w' h2 h3 _ => h v' w' h2 ((Below.refl _ _).grown h3 hbase ?_)
  intro k hk
  rcases hown.2 with ⟨rfl, _⟩ | ⟨g, cap, cur, rfl, hgb, _⟩
  · simp [Value.ownBlock] at hk
  · simp only [Value.ownBlock, Option.some.injEq] at hk
    omega

theorem own_reads_at {w : World} {base : Nat} {e : TypeId} {size n : Nat} {v : Value} {xs : List Value} (h : w.ownsRow base e size v n xs) : ∃ A c, v = .slice A n c ∧ (n ≤ c ∧ c ≤ maxLen) ∧ Reads w w.heap.size size A n xs ∧ ∀ ad, A = some ad → base ≤ ad.block := by
  rcases h.2 with ⟨rfl, rfl⟩ | ⟨g, cap, cur, rfl, hg, _, h1, h2, _⟩
  · exact ⟨none, 0, rfl, ⟨Nat.le_refl _, by unfold maxLen; omega⟩, Reads.of_own h, fun ad h => by cases h⟩
  · exact ⟨_, cap, rfl, ⟨h1, h2⟩, Reads.of_own h, fun ad h => by injection h with h; subst h; exact hg⟩

/-- A row that grows in a loop, while all that was there before the loop stays, but for the row's own first block. -/
structure RowAt (w3 : World) (G base : Nat) (e : TypeId) (size : Nat) (wr : World) (v : Value) (n : Nat) (xs : List Value) : Prop where
  own : wr.ownsRow base e size v n xs
  blk : ∀ k, v.ownBlock = some k → k = G ∨ w3.heap.size ≤ k
  below : Below base w3 wr
  kept : ∀ k, k < w3.heap.size → k ≠ G → wr.heap[k]? = w3.heap[k]?
  le : base ≤ w3.heap.size
theorem RowAt.step {w3 wr w' : World} {G base : Nat} {e : TypeId} {size n : Nat} {v : Value} {xs : List Value} (h : RowAt w3 G base e size wr v n xs) (hb : Below wr.heap.size wr w') : RowAt w3 G base e size w' v n xs :=
  ⟨own_below h.own hb, h.blk, h.below.trans (hb.mono (Nat.le_trans h.le h.below.size)), fun k hk hne => (hb.block k (by have := h.below.size; omega)).trans (h.kept k hk hne), h.le⟩
theorem RowAt.alloc {w3 wr : World} {G base : Nat} {e : TypeId} {size n : Nat} {v : Value} {xs : List Value} (h : RowAt w3 G base e size wr v n xs) (o : Obj) : RowAt w3 G base e size (wr.alloc o) v n xs := h.step ((Below.refl _ _).alloc (Nat.le_refl _) _)

theorem wpList_append_row {P : Program} {ops : Array Oper} {rest : List Oper} {o : Oper} {a : Act} {Q : Exit → Act → World → Prop} {w0 : World} {us : List Value} {fr : Nat × Nat} {e : TypeId} {g : Nat} (hgd : o.guard = none) (s x : Operand) (t : TypeId)
    (ho : o.op = .call { callee := .builtin .append, args := #[s, x], argTypes := #[t, t] })
    (w3 : World) (G base : Nat) (z : Value) (size bytes : Nat) (ht : P.underlying t = some (.slice e)) (hi : (P.info? e).map (fun i => (i.zero, i.size, i.bytes)) = some (some z, size, bytes))
    (hzs : z.cells.size = size) (hsz : 0 < size) (v : Value) (n : Nat) (xs : List Value) (hs : a.eval s = v)
    (hx : a.eval x = .slice (some ⟨g, 0, none⟩) 1 1) (hg : g = w0.heap.size) (hrow : RowAt w3 G base e size w0 v n xs)
    (hl : us.length = size) (h1 : ∀ u ∈ us, u.oneCell' = true) (h63 : n + 1 ≤ maxLen) (hbytes : (n + 1) * bytes ≤ 140737488355328)
    (h : ∀ v' w', RowAt w3 G base e size w' v' (n + 1) (xs ++ us) → w0.heap.size < w'.heap.size → (∀ k, k < w0.heap.size → v.ownBlock ≠ some k → w'.heap[k]? = w0.heap[k]?) → wpList P ops Q rest (a.put o.dst v') w') :
    wpList P ops Q (o :: rest) a (w0.alloc (.cells us.toArray e fr)) := by
  subst hg
  obtain ⟨i0, hi, hz0, hz1, hz2⟩ := info_parts hi
  have hbase : base ≤ w0.heap.size := Nat.le_trans hrow.le hrow.below.size
  have hr : Reads (w0.alloc (.cells us.toArray e fr)) (w0.alloc (.cells us.toArray e fr)).heap.size size (some ⟨w0.heap.size, 0, none⟩) 1 us := by
    refine ⟨by simp [hl], fun _ => ⟨_, rfl, by simp, fun j u hj => ?_⟩⟩
    have e1 : (⟨w0.heap.size, 0, none⟩ : Addr).add j = ⟨w0.heap.size, j, none⟩ := by unfold Addr.add; split <;> simp_all
    rw [e1]
    have : (w0.alloc (.cells us.toArray e fr)).heap[w0.heap.size]? = some (.cells us.toArray e fr) := heap_alloc_new w0 _
    unfold World.cell?
    simp only [this]
    simpa using hj
  refine wpList_append_any _ hgd s x t ho base e i0 z size bytes ht hi hz0 hz1 hz2 hzs hsz v n xs hs (hrow.own.alloc _) _ _ 1 1 us hx hr h1 h63 hbytes (by simp; omega) ?_
  intro v' w' hown' hgr hblk
  have hne : ∀ k, k < w3.heap.size → k ≠ G → v.ownBlock ≠ some k := by
    intro k hk hne he
    rcases hrow.blk k he with h | h <;> omega
  have hb : Below base w0 (w0.alloc (.cells us.toArray e fr)) := (Below.refl _ _).alloc hbase _
  have hsz' := hgr.size
  simp at hsz'
  refine h v' w' ⟨hown', ?_, hrow.below.trans (hb.grown hgr (by simp; omega) ?_), ?_, hrow.le⟩ (by omega) ?_
  · intro k hk
    rcases hblk with hh | hh
    · rw [hh] at hk
      exact hrow.blk k hk
    · rw [hh] at hk
      injection hk with hk
      have := hrow.below.size
      simp at hk
      omega
  · intro k hk
    rcases hrow.own.2 with ⟨rfl, _⟩ | ⟨g, cap, cur, rfl, hgb, _⟩
    · simp [Value.ownBlock] at hk
    · simp only [Value.ownBlock, Option.some.injEq] at hk
      omega
  · intro k hk hkG
    have := hrow.below.size
    rw [hgr.block k (by simp; omega) (fun he => hne k hk hkG he.symm)]
    exact (Below.heap_alloc _ _ _ (by omega)).trans (hrow.kept k hk hkG)
  · intro k hk hne
    rw [hgr.block k (by simp; omega) (fun he => hne he.symm)]
    exact Below.heap_alloc _ _ _ hk

end Go.Proofs.Ytonelibgaceflaa

namespace Go.Proofs.Ytonelibgaceflaa
open Go.ChangeShapes Go.WideShapes Go.ChangeAt Go.RowKit

def pickedI (a n : Int) : Int := if a.tmod n < 0 then a.tmod n + n else a.tmod n
theorem picked_range (a : Int) {n : Int} (hn : 0 < n) : 0 ≤ pickedI a n ∧ pickedI a n < n := by
  unfold pickedI
  have h1 := Int.tmod_lt_of_pos a hn
  have h2 : -n < a.tmod n := by
    have := Int.tmod_lt_of_pos (-a) hn
    rw [Int.neg_tmod] at this
    omega
  split <;> omega

set_option maxRecDepth 100000 in
set_option maxHeartbeats 800000 in
theorem picked_any (a n : Int) (w : World) (hn : 0 < n) (hn2 : n ≤ 1000000) :
    Calls Try.prog 26 #[.int .i64 a, .int .i64 n] w fun e w' => e = .returned (.int .i64 (pickedI a n)) ∧ Below w.heap.size w w' := by
  have h1 := Int.tmod_lt_of_pos a hn
  have h2 : -n < a.tmod n := by
    have := Int.tmod_lt_of_pos (-a) hn
    rw [Int.neg_tmod] at this
    omega
  have hn0 : (n == 0) = false := by simp; omega
  have hw : IntKind.i64.wrap (a.tmod n) = a.tmod n := IntWalk.i64_in _ (by omega)
  have hw2 : IntKind.i64.wrap (a.tmod n + n) = a.tmod n + n := IntWalk.i64_in _ (by omega)
  by_cases hneg : a.tmod n < 0
  · have hp : pickedI a n = a.tmod n + n := by unfold pickedI; rw [if_pos hneg]
    rw [hp]
    go_enter Try.func26, Try.ntmps26
    go_wp2
    go_ret
    exact ⟨ret_int (by first | rfl | exact hw2), Below.refl _ _⟩
  · have hp : pickedI a n = a.tmod n := by unfold pickedI; rw [if_neg hneg]
    rw [hp]
    go_enter Try.func26, Try.ntmps26
    go_wp2
    go_ret
    exact ⟨ret_int (by first | rfl | exact hw), Below.refl _ _⟩

set_option maxRecDepth 100000 in
set_option maxHeartbeats 800000 in
theorem near_any (n : Int) (w : World) :
    Calls Try.prog 24 #[.int .i64 n] w fun e w' => e = .returned (.agg #[.bool false, .int .u64 0, .int .u64 (167772152 + pickedI n 540)]) ∧ Below w.heap.size w w' := by
  have CP := Lib.hid (fun w => picked_any n 540 w (by omega) (by omega))
  have hr := picked_range n (n := 540) (by omega)
  generalize pickedI n 540 = t at *
  go_enter Try.func24, Try.ntmps24
  go_wp2_with fail
  refine (CP.out _).mono ?_
  rintro e w1 ⟨rfl, hb1⟩
  have hw : IntKind.i64.wrap (167772152 + t) = 167772152 + t := IntWalk.i64_in _ (by omega)
  obtain ⟨fc, ff⟩ := bcell hb1
  have s1 := bsize1 hb1
  have HB := Lib.hid (balloc1 hb1)
  clear hb1
  go_wp2
  refine bodyPost_ret (v := .agg #[.bool false, .int .u64 0, .int .u64 (167772152 + t)]) ?_ rfl ⟨rfl, ?_⟩
  · simp [results, Try.results24, go_sem, fc]
  · (repeat' first | with_reducible exact HB.out | with_reducible refine Below.drew ?_ | with_reducible refine below_drewN ?_ _ | with_reducible refine Below.setCell ?_ ?_ _ | (simp; done) | (simp; omega) | omega)

end Go.Proofs.Ytonelibgaceflaa

namespace Go.Proofs.Ytonelibgaceflaa
set_option linter.unusedVariables false

theorem canon_mem {S : Nat → Prop} : ∀ {k v : Nat}, 2 ^ k ∣ v → ∀ b ∈ canon S k v, b.2 ≤ k ∧ 2 ^ b.2 ∣ b.1 ∧ v ≤ b.1 ∧ b.1 + 2 ^ b.2 ≤ v + 2 ^ k ∧ ∀ x, b.1 ≤ x → x < b.1 + 2 ^ b.2 → S x
  | 0, v, hd, b, hb => by
    unfold canon at hb
    split at hb
    · rename_i h
      obtain rfl : b = (v, 0) := by simpa using hb
      refine ⟨Nat.le_refl _, hd, Nat.le_refl _, Nat.le_refl _, fun x h1 h2 => ?_⟩
      obtain rfl : x = v := by simp at h1 h2; omega
      exact h
    · cases hb
  | k + 1, v, hd, b, hb => by
    have he : 2 ^ (k + 1) = 2 ^ k + 2 ^ k := by rw [Nat.pow_succ]; omega
    have hd' : 2 ^ k ∣ v := pow_dvd_le hd (by omega)
    unfold canon at hb
    split at hb
    · rename_i h
      obtain rfl : b = (v, k + 1) := by simpa using hb
      exact ⟨Nat.le_refl _, hd, Nat.le_refl _, Nat.le_refl _, h⟩
    · rcases List.mem_append.1 hb with h | h
      · obtain ⟨a1, a2, a3, a4, a5⟩ := canon_mem hd' b h
        exact ⟨by omega, a2, a3, by omega, a5⟩
      · obtain ⟨a1, a2, a3, a4, a5⟩ := canon_mem (Nat.dvd_add hd' (Nat.dvd_refl _)) b h
        exact ⟨by omega, a2, by omega, by omega, a5⟩
theorem canon_cover {S : Nat → Prop} : ∀ {k v x : Nat}, v ≤ x → x < v + 2 ^ k → S x → ∃ b ∈ canon S k v, b.1 ≤ x ∧ x < b.1 + 2 ^ b.2
  | 0, v, x, h1, h2, hx => by
    obtain rfl : x = v := by simp at h2; omega
    unfold canon
    rw [if_pos hx]
    exact ⟨(x, 0), by simp, by simp, by simp⟩
  | k + 1, v, x, h1, h2, hx => by
    have he : 2 ^ (k + 1) = 2 ^ k + 2 ^ k := by rw [Nat.pow_succ]; omega
    by_cases hall : ∀ y, v ≤ y → y < v + 2 ^ (k + 1) → S y
    · rw [canon_full hall]
      exact ⟨(v, k + 1), by simp, h1, h2⟩
    · rw [canon_split hall]
      by_cases hx2 : x < v + 2 ^ k
      · obtain ⟨b, hb, a1, a2⟩ := canon_cover h1 hx2 hx
        exact ⟨b, List.mem_append.2 (.inl hb), a1, a2⟩
      · obtain ⟨b, hb, a1, a2⟩ := canon_cover (k := k) (v := v + 2 ^ k) (by omega) (by omega) hx
        exact ⟨b, List.mem_append.2 (.inr hb), a1, a2⟩
theorem canon_pair {S : Nat → Prop} : ∀ {k v : Nat}, 2 ^ k ∣ v → (canon S k v).Pairwise fun b c => b.1 < c.1
  | 0, v, hd => by unfold canon; split <;> simp
  | k + 1, v, hd => by
    have hd' : 2 ^ k ∣ v := pow_dvd_le hd (by omega)
    have hp := Nat.two_pow_pos k
    unfold canon
    split
    · simp
    · rw [List.pairwise_append]
      refine ⟨canon_pair hd', canon_pair (Nat.dvd_add hd' (Nat.dvd_refl _)), fun b hb c hc => ?_⟩
      have h1 := canon_mem hd' b hb
      have h2 := canon_mem (Nat.dvd_add hd' (Nat.dvd_refl _)) c hc
      have := Nat.two_pow_pos b.2
      omega

/-! A short interval. -/
theorem canon_lowS (j : Nat) : ∀ (K : Nat) {v a b : Nat}, a ≤ v → b + 1 ≤ v + 2 ^ j → (canon (InI a b) K v).length ≤ j + 1
  | K, v, a, b, h, hs => by
    by_cases hK : K ≤ j
    · have := canon_low K (v := v) (a := a) (b := b) h; omega
    · obtain ⟨K', rfl⟩ : ∃ K', K = K' + 1 := ⟨K - 1, by omega⟩
      have hp := Nat.two_pow_pos K'
      have he : 2 ^ (K' + 1) = 2 ^ K' + 2 ^ K' := by rw [Nat.pow_succ]; omega
      have hj : 2 ^ j ≤ 2 ^ K' := Nat.pow_le_pow_right (by decide) (by omega)
      by_cases hall : ∀ x, v ≤ x → x < v + 2 ^ (K' + 1) → InI a b x
      · rw [canon_full hall]; simp
      · rw [canon_split hall, List.length_append, canon_none (S := InI a b) (k := K') (v := v + 2 ^ K') (fun x hx1 hx2 hx => by have := hx.2; omega)]
        have := canon_lowS j K' h hs
        simpa using this
theorem canon_highS (j : Nat) : ∀ (K : Nat) {v a b : Nat}, v + 2 ^ K ≤ b + 1 → v + 2 ^ K ≤ a + 2 ^ j → (canon (InI a b) K v).length ≤ j + 1
  | K, v, a, b, h, hs => by
    by_cases hK : K ≤ j
    · have := canon_high K (v := v) (a := a) (b := b) h; omega
    · obtain ⟨K', rfl⟩ : ∃ K', K = K' + 1 := ⟨K - 1, by omega⟩
      have hp := Nat.two_pow_pos K'
      have he : 2 ^ (K' + 1) = 2 ^ K' + 2 ^ K' := by rw [Nat.pow_succ]; omega
      have hj : 2 ^ j ≤ 2 ^ K' := Nat.pow_le_pow_right (by decide) (by omega)
      by_cases hall : ∀ x, v ≤ x → x < v + 2 ^ (K' + 1) → InI a b x
      · rw [canon_full hall]; simp
      · have := canon_highS j K' (v := v + 2 ^ K') (a := a) (b := b) (by omega) (by omega)
        rw [canon_split hall, List.length_append]
        by_cases ha : a = v + 2 ^ K'
        · rw [canon_none (S := InI a b) (k := K') (v := v) (fun x hx1 hx2 hx => by have := hx.1; omega)]
          simpa using this
        · rw [canon_none (S := InI a b) (k := K') (v := v) (fun x hx1 hx2 hx => by have := hx.1; omega)]
          simpa using this
theorem canon_short (j : Nat) : ∀ (K : Nat) {v a b : Nat}, b + 1 ≤ a + 2 ^ j → (canon (InI a b) K v).length ≤ 2 * j + 2
  | K, v, a, b, hs => by
    by_cases hK : K ≤ j
    · have := canon_len K (v := v) (a := a) (b := b); omega
    · obtain ⟨K', rfl⟩ : ∃ K', K = K' + 1 := ⟨K - 1, by omega⟩
      have hp := Nat.two_pow_pos K'
      have he : 2 ^ (K' + 1) = 2 ^ K' + 2 ^ K' := by rw [Nat.pow_succ]; omega
      by_cases hall : ∀ x, v ≤ x → x < v + 2 ^ (K' + 1) → InI a b x
      · rw [canon_full hall]; simp
      · rw [canon_split hall, List.length_append]
        by_cases h1 : a < v + 2 ^ K'
        · by_cases h2 : v + 2 ^ K' ≤ b + 1
          · have h3 := canon_highS j K' (v := v) (a := a) (b := b) h2 (by omega)
            have h4 := canon_lowS j K' (v := v + 2 ^ K') (a := a) (b := b) (by omega) (by omega)
            omega
          · rw [canon_none (S := InI a b) (k := K') (v := v + 2 ^ K') (fun x hx1 hx2 hx => by have := hx.2; omega)]
            have := canon_short j K' (v := v) hs
            simpa using this
        · rw [canon_none (S := InI a b) (k := K') (v := v) (fun x hx1 hx2 hx => by have := hx.1; omega)]
          have := canon_short j K' (v := v + 2 ^ K') hs
          simpa using this

/-! Blocks as prefixes. -/
theorem ofBlk_ok (six : Bool) {v k : Nat} (hd : 2 ^ k ∣ v) (hk : k ≤ widN six) (hv : v + 2 ^ k ≤ 2 ^ widN six) : (ofBlk six (v, k)).Ok ∧ (ofBlk six (v, k)).v = v ∧ (ofBlk six (v, k)).k = k := by
  have hp := Nat.two_pow_pos k
  have hval : (ofBlk six (v, k)).v = v := by
    unfold ofBlk PV.v PV.a AV.v valI
    cases six
    · simp
    · simp; omega
  have hkk : (ofBlk six (v, k)).k = k := by
    unfold ofBlk PV.k
    rw [widN_eq]
    simp only
    omega
  have ha : (ofBlk six (v, k)).a.Ok := by
    cases six
    · have : v < 4294967296 := by have : 2 ^ widN false = 4294967296 := by decide
                                  omega
      refine ⟨⟨by simp [ofBlk, PV.a], by simp [ofBlk, PV.a]⟩, ⟨by simp [ofBlk, PV.a], by simp [ofBlk, PV.a]; omega⟩, ?_⟩
      simp only [ofBlk, PV.a, mayB]
      simp
      omega
    · have : v < 340282366920938463463374607431768211456 := by have : 2 ^ widN true = 340282366920938463463374607431768211456 := by decide
                                                               omega
      refine ⟨⟨by simp [ofBlk, PV.a]; omega, by simp [ofBlk, PV.a]; omega⟩, ⟨by simp [ofBlk, PV.a]; omega, by simp [ofBlk, PV.a]; omega⟩, ?_⟩
      simp [ofBlk, PV.a, mayB]
  refine ⟨?_, hval, hkk⟩
  have hc : Go.Proofs.Ytonelibgaceflaa.chk (ofBlk six (v, k)).six (ofBlk six (v, k)).hi (ofBlk six (v, k)).lo (ofBlk six (v, k)).n = 0 := by
    refine (chk_num (p := ofBlk six (v, k)) ha ?_).2 (by rw [hval, hkk]; exact hd)
    unfold ofBlk
    rw [widN_eq]
    simp only
    omega
  exact chk_zero ha.rhi ha.rlo hc

/-- The prefixes of a range: what they are. -/
theorem rangeL_mem {six : Bool} {a b : Nat} {p : PV} (h : p ∈ rangeL six a b) : p.Ok ∧ p.six = six ∧ ∀ x, p.v ≤ x → x < p.v + 2 ^ p.k → a ≤ x ∧ x ≤ b := by
  obtain ⟨c, hc, rfl⟩ := List.mem_map.1 h
  obtain ⟨h1, h2, h3, h4, h5⟩ := canon_mem (Nat.dvd_zero _) c hc
  obtain ⟨v, k⟩ := c
  obtain ⟨g1, g2, g3⟩ := ofBlk_ok six h2 h1 (by simpa using h4)
  refine ⟨g1, rfl, ?_⟩
  rw [g2, g3]
  exact h5
theorem rangeL_cover {six : Bool} {a b x : Nat} (hx : x < 2 ^ widN six) (h1 : a ≤ x) (h2 : x ≤ b) : ∃ p ∈ rangeL six a b, p.v ≤ x ∧ x < p.v + 2 ^ p.k := by
  obtain ⟨c, hc, a1, a2⟩ := canon_cover (S := InI a b) (k := widN six) (v := 0) (Nat.zero_le _) (by omega) ⟨h1, h2⟩
  refine ⟨ofBlk six c, List.mem_map_of_mem hc, ?_⟩
  obtain ⟨h1, h2, h3, h4, h5⟩ := canon_mem (Nat.dvd_zero _) c hc
  obtain ⟨v, k⟩ := c
  obtain ⟨g1, g2, g3⟩ := ofBlk_ok six h2 h1 (by simpa using h4)
  rw [g2, g3]
  exact ⟨a1, a2⟩
theorem rangeL_nodup (six : Bool) (a b : Nat) : (rangeL six a b).Nodup := by
  unfold rangeL List.Nodup
  rw [List.pairwise_map]
  have hp := canon_pair (S := InI a b) (k := widN six) (v := 0) (Nat.dvd_zero _)
  have hm := fun c (hc : c ∈ canon (InI a b) (widN six) 0) => canon_mem (Nat.dvd_zero _) c hc
  refine List.Pairwise.imp_of_mem ?_ hp
  intro c d hc hd hlt he
  obtain ⟨h1, h2, h3, h4, h5⟩ := hm c hc
  obtain ⟨i1, i2, i3, i4, i5⟩ := hm d hd
  obtain ⟨v, k⟩ := c
  obtain ⟨v', k'⟩ := d
  have e1 : (ofBlk six (v, k)).v = v := (ofBlk_ok six h2 h1 (by simpa using h4)).2.1
  have e2 : (ofBlk six (v', k')).v = v' := (ofBlk_ok six i2 i1 (by simpa using i4)).2.1
  rw [he] at e1
  simp only at hlt
  omega
theorem rangeL_short (six : Bool) {a b : Nat} (h : b + 1 ≤ a + 512) : (rangeL six a b).length ≤ 20 := by
  unfold rangeL
  rw [List.length_map]
  exact canon_short 9 (widN six) (by simpa using h)

/-- Routes to one hop for prefixes: nothing is refused of them. -/
def routesTo (ps : List PV) (hop : Int) : List RouteV := ps.map fun p => ⟨p, hop⟩
theorem firstF_none {α : Type} {f : α → Int} : ∀ {l : List α}, (∀ x ∈ l, f x = 0) → firstF f l = 0
  | [], _ => rfl
  | x :: l, h => by
    unfold firstF
    rw [if_pos (h x (by simp))]
    exact firstF_none fun y hy => h y (by simp [hy])
theorem chk_of_ok {p : PV} (hp : p.Ok) : p.chk = 0 := by
  have := (chk_num hp.addr (ok_n hp)).2 (PV.dvd hp)
  exact this
theorem routesTo_fine {ps : List PV} {hop : Int} (hps : ∀ p ∈ ps, p.Ok) (hnd : ps.Nodup) (hh : 1 ≤ hop ∧ hop ≤ 999) (hl : ps.length ≤ 60) : routesF (routesTo ps hop) = 0 := by
  unfold routesF
  have hlen : (routesTo ps hop).length = ps.length := by unfold routesTo; simp
  rw [if_neg (by omega)]
  unfold routesE
  refine firstF_none fun i hi => ?_
  have hi : i < ps.length := by rw [← hlen]; exact List.mem_range.1 hi
  have hg : (routesTo ps hop)[i]? = some ⟨ps[i], hop⟩ := by unfold routesTo; rw [List.getElem?_map, List.getElem?_eq_getElem hi]; rfl
  unfold routeAt
  rw [hg]
  simp only
  unfold routeF
  rw [if_neg (by simpa using chk_of_ok (hps _ (List.getElem_mem hi))), if_neg (by omega)]
  rw [if_neg]
  intro hc
  obtain ⟨r, hr, he⟩ := List.any_eq_true.1 hc
  have he : r.p = ps[i] := by simpa using he
  obtain ⟨j, hj, rfl⟩ := List.getElem_of_mem hr
  rw [List.length_take] at hj
  rw [List.getElem_take] at he
  have : ps[j]'(by omega) = ps[i] := by
    rw [← he]
    unfold routesTo
    simp
  have := (List.getElem_inj hnd).1 this
  omega
/-- Where an address goes by such routes. -/
theorem routesTo_goes {ps : List PV} {hop : Int} (hps : ∀ p ∈ ps, p.Ok) (six : Bool) (hi lo : Int) : ((goesR (routesTo ps hop) six hi lo).1 = hop ∧ ∃ p ∈ ps, inB p.six p.hi p.lo p.n six hi lo = true) ∨ ((goesR (routesTo ps hop) six hi lo).1 = 0 ∧ ∀ p ∈ ps, inB p.six p.hi p.lo p.n six hi lo = false) := by
  have hg : (goesR (routesTo ps hop) six hi lo).1 = (bestTo (routesTo ps hop) six hi lo).1 := by unfold goesR; split <;> rfl
  rw [hg]
  rcases bestTo_cases six hi lo (routesTo ps hop) (fun r hr => by
    obtain ⟨p, hp, rfl⟩ := List.mem_map.1 hr
    exact (ok_n (hps p hp)).1) with ⟨h1, h2⟩ | ⟨r, hr, h1, h2, _⟩
  · right
    rw [h1]
    exact ⟨rfl, fun p hp => h2 ⟨p, hop⟩ (List.mem_map_of_mem hp)⟩
  · left
    obtain ⟨p, hp, rfl⟩ := List.mem_map.1 hr
    rw [h2]
    exact ⟨rfl, p, hp, h1⟩
/-- Routes for all prefixes of a range send just its addresses. -/
theorem range_goes {a b c : AV} {hop : Int} (h1 : 1 ≤ hop) (hc : c.Ok) (h6 : c.six = a.six) : ((goesR (routesTo (rangeL a.six a.v b.v) hop) c.six c.hi c.lo).1 = hop) ↔ (a.v ≤ c.v ∧ c.v ≤ b.v) := by
  rcases routesTo_goes (hop := hop) (fun p hp => (rangeL_mem (six := a.six) (a := a.v) (b := b.v) hp).1) c.six c.hi c.lo with ⟨g1, p, hp, g2⟩ | ⟨g1, g2⟩
  · obtain ⟨i1, i2, i3⟩ := rangeL_mem hp
    obtain ⟨_, j1, j2⟩ := (in_num i1 hc).1 g2
    exact ⟨fun _ => i3 _ j1 j2, fun _ => g1⟩
  · constructor
    · intro h; omega
    · rintro ⟨k1, k2⟩
      obtain ⟨p, hp, i1, i2⟩ := rangeL_cover (six := a.six) (by have := AV.v_lt hc; rw [h6] at this; exact this) k1 k2
      obtain ⟨j1, j2, j3⟩ := rangeL_mem hp
      have := (in_num j1 hc).2 ⟨j2.trans h6.symm, i1, i2⟩
      rw [g2 p hp] at this
      cases this

end Go.Proofs.Ytonelibgaceflaa

namespace Go.Proofs.Ytonelibgaceflaa
open Go.ChangeShapes Go.WideShapes Go.ChangeAt Go.RowKit

def ZA : Value := .agg #[.bool false, .int .u64 0, .int .u64 0]

set_option maxRecDepth 100000 in
set_option maxHeartbeats 800000 in
theorem next_bad1 (six : Bool) (hi lo by' : Int) (w : World) (_h1 : 0 ≤ hi ∧ hi < 18446744073709551616) (h2 : 0 ≤ lo ∧ lo < 18446744073709551616) (hm : mayB six hi lo = false) :
    Calls Try.prog 25 #[.agg #[.bool six, .int .u64 hi, .int .u64 lo], .int .i64 by'] w fun e w' => e = .returned (.tuple #[ZA, .int .i64 4]) ∧ Below w.heap.size w w' := by
  have M1 := fun w => may_any six hi lo w h2.1
  rw [hm] at M1
  have C1 := Lib.hid M1
  clear M1 hm
  go_enter Try.func25, Try.ntmps25
  go_wp2_with fail
  refine (C1.out _).mono ?_
  rintro e w1 ⟨rfl, hb⟩
  obtain ⟨fc, ff⟩ := bcell hb
  obtain ⟨s1, s2⟩ := bsize2 hb
  have HB := Lib.hid (balloc2 hb)
  clear hb
  go_wp2
  refine bodyPost_ret (v := .tuple #[ZA, .int .i64 4]) (by simp [results, Try.results25, go_sem, fc, ZA]) rfl ⟨rfl, ?_⟩
  (repeat' first | with_reducible exact HB.out | with_reducible exact Below.refl _ _ | with_reducible refine Below.drew ?_ | with_reducible refine below_drewN ?_ _ | with_reducible refine Below.setCell ?_ ?_ _ | with_reducible refine Below.alloc ?_ ?_ _ | (simp; done) | (simp; omega) | omega)

set_option maxRecDepth 100000 in
set_option maxHeartbeats 800000 in
theorem next_bad2 (six : Bool) (hi lo by' : Int) (w : World) (_h1 : 0 ≤ hi ∧ hi < 18446744073709551616) (h2 : 0 ≤ lo ∧ lo < 18446744073709551616) (hm : mayB six hi lo = true) (hb' : by' < -1099511627776 ∨ 1099511627776 < by') :
    Calls Try.prog 25 #[.agg #[.bool six, .int .u64 hi, .int .u64 lo], .int .i64 by'] w fun e w' => e = .returned (.tuple #[ZA, .int .i64 2]) ∧ Below w.heap.size w w' := by
  have M1 := fun w => may_any six hi lo w h2.1
  rw [hm] at M1
  have C1 := Lib.hid M1
  clear M1 hm
  rcases hb' with hb' | hb'
  · have hd1 : decide (by' < -1099511627776) = true := decide_eq_true hb'
    have hd2 : decide (1099511627776 < by') = false := decide_eq_false (by omega)
    go_enter Try.func25, Try.ntmps25
    go_wp2_with fail
    refine (C1.out _).mono ?_
    rintro e w1 ⟨rfl, hb⟩
    obtain ⟨fc, ff⟩ := bcell hb
    obtain ⟨s1, s2⟩ := bsize2 hb
    have HB := Lib.hid (balloc2 hb)
    clear hb
    go_wp2
    refine bodyPost_ret (v := .tuple #[ZA, .int .i64 2]) (by simp [results, Try.results25, go_sem, fc, ZA]) rfl ⟨rfl, ?_⟩
    (repeat' first | with_reducible exact HB.out | with_reducible exact Below.refl _ _ | with_reducible refine Below.drew ?_ | with_reducible refine below_drewN ?_ _ | with_reducible refine Below.setCell ?_ ?_ _ | with_reducible refine Below.alloc ?_ ?_ _ | (simp; done) | (simp; omega) | omega)
  · have hd1 : decide (by' < -1099511627776) = false := decide_eq_false (by omega)
    have hd2 : decide (1099511627776 < by') = true := decide_eq_true hb'
    go_enter Try.func25, Try.ntmps25
    go_wp2_with fail
    refine (C1.out _).mono ?_
    rintro e w1 ⟨rfl, hb⟩
    obtain ⟨fc, ff⟩ := bcell hb
    obtain ⟨s1, s2⟩ := bsize2 hb
    have HB := Lib.hid (balloc2 hb)
    clear hb
    go_wp2
    refine bodyPost_ret (v := .tuple #[ZA, .int .i64 2]) (by simp [results, Try.results25, go_sem, fc, ZA]) rfl ⟨rfl, ?_⟩
    (repeat' first | with_reducible exact HB.out | with_reducible exact Below.refl _ _ | with_reducible refine Below.drew ?_ | with_reducible refine below_drewN ?_ _ | with_reducible refine Below.setCell ?_ ?_ _ | with_reducible refine Below.alloc ?_ ?_ _ | (simp; done) | (simp; omega) | omega)


set_option maxRecDepth 100000 in
set_option maxHeartbeats 800000 in
theorem refNext_bad1 (six : Bool) (hi lo by' : Int) (w : World) (_h1 : 0 ≤ hi ∧ hi < 18446744073709551616) (h2 : 0 ≤ lo ∧ lo < 18446744073709551616) (hm : mayB six hi lo = false) :
    Calls Try.prog 163 #[.agg #[.bool six, .int .u64 hi, .int .u64 lo], .int .i64 by'] w fun e w' => e = .returned (.tuple #[ZA, .int .i64 4]) ∧ Below w.heap.size w w' := by
  have M1 := fun w => refMay_any six hi lo w h2.1
  rw [hm] at M1
  have C1 := Lib.hid M1
  clear M1 hm
  go_enter Try.func163, Try.ntmps163
  go_wp2_with fail
  refine (C1.out _).mono ?_
  rintro e w1 ⟨rfl, hb⟩
  obtain ⟨fc, ff⟩ := bcell hb
  obtain ⟨s1, s2⟩ := bsize2 hb
  have HB := Lib.hid (balloc2 hb)
  clear hb
  go_wp2
  refine bodyPost_ret (v := .tuple #[ZA, .int .i64 4]) (by simp [results, Try.results163, go_sem, fc, ZA]) rfl ⟨rfl, ?_⟩
  (repeat' first | with_reducible exact HB.out | with_reducible exact Below.refl _ _ | with_reducible refine Below.drew ?_ | with_reducible refine below_drewN ?_ _ | with_reducible refine Below.setCell ?_ ?_ _ | with_reducible refine Below.alloc ?_ ?_ _ | (simp; done) | (simp; omega) | omega)

set_option maxRecDepth 100000 in
set_option maxHeartbeats 800000 in
theorem refNext_bad2 (six : Bool) (hi lo by' : Int) (w : World) (_h1 : 0 ≤ hi ∧ hi < 18446744073709551616) (h2 : 0 ≤ lo ∧ lo < 18446744073709551616) (hm : mayB six hi lo = true) (hb' : by' < -1099511627776 ∨ 1099511627776 < by') :
    Calls Try.prog 163 #[.agg #[.bool six, .int .u64 hi, .int .u64 lo], .int .i64 by'] w fun e w' => e = .returned (.tuple #[ZA, .int .i64 2]) ∧ Below w.heap.size w w' := by
  have M1 := fun w => refMay_any six hi lo w h2.1
  rw [hm] at M1
  have C1 := Lib.hid M1
  clear M1 hm
  rcases hb' with hb' | hb'
  · have hd1 : decide (by' < -1099511627776) = true := decide_eq_true hb'
    have hd2 : decide (1099511627776 < by') = false := decide_eq_false (by omega)
    go_enter Try.func163, Try.ntmps163
    go_wp2_with fail
    refine (C1.out _).mono ?_
    rintro e w1 ⟨rfl, hb⟩
    obtain ⟨fc, ff⟩ := bcell hb
    obtain ⟨s1, s2⟩ := bsize2 hb
    have HB := Lib.hid (balloc2 hb)
    clear hb
    go_wp2
    refine bodyPost_ret (v := .tuple #[ZA, .int .i64 2]) (by simp [results, Try.results163, go_sem, fc, ZA]) rfl ⟨rfl, ?_⟩
    (repeat' first | with_reducible exact HB.out | with_reducible exact Below.refl _ _ | with_reducible refine Below.drew ?_ | with_reducible refine below_drewN ?_ _ | with_reducible refine Below.setCell ?_ ?_ _ | with_reducible refine Below.alloc ?_ ?_ _ | (simp; done) | (simp; omega) | omega)
  · have hd1 : decide (by' < -1099511627776) = false := decide_eq_false (by omega)
    have hd2 : decide (1099511627776 < by') = true := decide_eq_true hb'
    go_enter Try.func163, Try.ntmps163
    go_wp2_with fail
    refine (C1.out _).mono ?_
    rintro e w1 ⟨rfl, hb⟩
    obtain ⟨fc, ff⟩ := bcell hb
    obtain ⟨s1, s2⟩ := bsize2 hb
    have HB := Lib.hid (balloc2 hb)
    clear hb
    go_wp2
    refine bodyPost_ret (v := .tuple #[ZA, .int .i64 2]) (by simp [results, Try.results163, go_sem, fc, ZA]) rfl ⟨rfl, ?_⟩
    (repeat' first | with_reducible exact HB.out | with_reducible exact Below.refl _ _ | with_reducible refine Below.drew ?_ | with_reducible refine below_drewN ?_ _ | with_reducible refine Below.setCell ?_ ?_ _ | with_reducible refine Below.alloc ?_ ?_ _ | (simp; done) | (simp; omega) | omega)

set_option maxRecDepth 100000 in
set_option maxHeartbeats 800000 in
theorem next_sum (six : Bool) (hi lo by' : Int) (w : World) (h1 : 0 ≤ hi ∧ hi < 18446744073709551616) (h2 : 0 ≤ lo ∧ lo < 18446744073709551616) (hm : mayB six hi lo = true) (hb' : -1099511627776 ≤ by' ∧ by' ≤ 1099511627776) :
    Calls Try.prog 25 #[.agg #[.bool six, .int .u64 hi, .int .u64 lo], .int .i64 by'] w fun e w' => e = .returned (if plusOk six hi lo by' = true then .tuple #[.agg #[.bool six, .int .u64 (plusHi hi lo by'), .int .u64 (plusLo hi lo by')], .int .i64 0] else .tuple #[ZA, .int .i64 2]) ∧ Below w.heap.size w w' := by
  have M1 := fun w => may_any six hi lo w h2.1
  rw [hm] at M1
  have C1 := Lib.hid M1
  have CP := Lib.hid (fun w => plus_any six hi lo by' w h1 h2 hb')
  have hd1 : decide (by' < -1099511627776) = false := decide_eq_false (by omega)
  have hd2 : decide (1099511627776 < by') = false := decide_eq_false (by omega)
  clear M1 hm
  generalize plusHi hi lo by' = ph at *
  generalize plusLo hi lo by' = pl at *
  generalize plusOk six hi lo by' = ok at *
  cases ok
  · rw [if_neg (by simp)]
    go_enter Try.func25, Try.ntmps25
    go_wp2_with fail
    refine (C1.out _).mono ?_
    rintro e w1 ⟨rfl, hb⟩
    obtain ⟨fc, ff⟩ := bcell hb
    obtain ⟨s1, s2⟩ := bsize2 hb
    have HB := Lib.hid (balloc2 hb)
    clear hb
    go_wp2_with fail
    refine (CP.out _).mono ?_
    rintro e w2 ⟨rfl, hb⟩
    obtain ⟨fc2, ff2⟩ := bcell hb
    have z := hb.size
    have s3 : w.heap.size < w2.heap.size := by omega
    have s4 : w.heap.size + 1 < w2.heap.size := by omega
    have HB2 := Lib.hid (below_step HB.out hb)
    clear hb
    go_wp2
    refine bodyPost_ret (v := .tuple #[ZA, .int .i64 2]) (by simp [results, Try.results25, go_sem, fc2, fc, s2, s4, ZA]) rfl ⟨rfl, ?_⟩
    (repeat' first | with_reducible exact HB2.out | with_reducible exact Below.refl _ _ | with_reducible refine Below.drew ?_ | with_reducible refine below_drewN ?_ _ | with_reducible refine Below.setCell ?_ ?_ _ | with_reducible refine Below.alloc ?_ ?_ _ | (simp; done) | (simp; omega) | omega)
  · rw [if_pos rfl]
    go_enter Try.func25, Try.ntmps25
    go_wp2_with fail
    refine (C1.out _).mono ?_
    rintro e w1 ⟨rfl, hb⟩
    obtain ⟨fc, ff⟩ := bcell hb
    obtain ⟨s1, s2⟩ := bsize2 hb
    have HB := Lib.hid (balloc2 hb)
    clear hb
    go_wp2_with fail
    refine (CP.out _).mono ?_
    rintro e w2 ⟨rfl, hb⟩
    obtain ⟨fc2, ff2⟩ := bcell hb
    have z := hb.size
    have s3 : w.heap.size < w2.heap.size := by omega
    have s4 : w.heap.size + 1 < w2.heap.size := by omega
    have HB2 := Lib.hid (below_step HB.out hb)
    clear hb
    go_wp2
    refine bodyPost_ret (v := .tuple #[.agg #[.bool six, .int .u64 ph, .int .u64 pl], .int .i64 0]) (by simp [results, Try.results25, go_sem, fc2, fc, s2, s4]) rfl ⟨rfl, ?_⟩
    (repeat' first | with_reducible exact HB2.out | with_reducible exact Below.refl _ _ | with_reducible refine Below.drew ?_ | with_reducible refine below_drewN ?_ _ | with_reducible refine Below.setCell ?_ ?_ _ | with_reducible refine Below.alloc ?_ ?_ _ | (simp; done) | (simp; omega) | omega)

theorem and1_i64 (n : Int) : bits .and .i64 n 1 = n % 2 := by
  have h1 : (BitVec.ofInt 64 1).toNat = 2 ^ 1 - 1 := by decide
  have key : (BitVec.ofInt 64 n &&& BitVec.ofInt 64 1).toNat = (n % ((2 ^ 64 : Nat) : Int)).toNat % 2 ^ 1 := by
    rw [BitVec.toNat_and, BitVec.toNat_ofInt, h1, Nat.and_two_pow_sub_one_eq_mod]
  show IntKind.i64.wrap ((BitVec.ofInt 64 n &&& BitVec.ofInt 64 1).toNat : Nat) = n % 2
  rw [key, IntKind.wrap_i64]
  omega
theorem topI_pow {six : Bool} {m : Nat} (h : wideI six = m) : topI six = 2 ^ m := by
  cases six
  · have h32 : (32 : Int) = m := h
    obtain rfl : m = 32 := by omega
    decide
  · have h128 : (128 : Int) = m := h
    obtain rfl : m = 128 := by omega
    decide
theorem own_ltN {w : World} {base n cap g : Nat} {e : TypeId} {xs : List Value} (h : w.ownsRow base e 1 (.slice (some ⟨g, 0, none⟩) n cap) n xs) (hn : 0 < n) : g < w.heap.size := by
  obtain ⟨g', cap', hv, _, hlt⟩ := h.form hn
  injection hv with hv
  injection hv with hv
  injection hv with hv
  omega
theorem half_even (n nb : Int) (h : n % 2 = nb) (hb : -2000000000000 ≤ n ∧ n ≤ 2000000000000) : wrap64 ((wrap64 (n - nb)).tdiv 2) = n / 2 := by
  have e1 : wrap64 (n - nb) = 2 * (n / 2) := by unfold wrap64; omega
  rw [e1, Int.mul_tdiv_cancel_left _ (by omega)]
  unfold wrap64
  omega

set_option maxRecDepth 100000 in
set_option maxHeartbeats 1600000 in
theorem refNext_sum (six : Bool) (hi lo by' : Int) (w : World) (h1 : 0 ≤ hi ∧ hi < 18446744073709551616) (h2 : 0 ≤ lo ∧ lo < 18446744073709551616) (hm : mayB six hi lo = true) (hb' : -1099511627776 ≤ by' ∧ by' ≤ 1099511627776) :
    Calls Try.prog 163 #[.agg #[.bool six, .int .u64 hi, .int .u64 lo], .int .i64 by'] w fun e w' => e = .returned (if plusOk six hi lo by' = true then .tuple #[.agg #[.bool six, .int .u64 (plusHi hi lo by'), .int .u64 (plusLo hi lo by')], .int .i64 0] else .tuple #[ZA, .int .i64 2]) ∧ Below w.heap.size w w' := by
  have M1 := fun w => refMay_any six hi lo w h2.1
  rw [hm] at M1
  have C1 := Lib.hid M1
  obtain ⟨m, hw, hpos, hle⟩ := wideN six
  have HN := Lib.hid hw
  have hd1 : decide (by' < -1099511627776) = false := decide_eq_false (by omega)
  have hd2 : decide (1099511627776 < by') = false := decide_eq_false (by omega)
  have hm1 : (m : Int) ≤ 128 := by omega
  have HM := Lib.hid hm
  clear M1 hm hw
  obtain ⟨R, hR⟩ : ∃ R, R = (if plusOk six hi lo by' = true then Value.tuple #[.agg #[.bool six, .int .u64 (plusHi hi lo by'), .int .u64 (plusLo hi lo by')], .int .i64 0] else .tuple #[ZA, .int .i64 2]) := ⟨_, rfl⟩
  rw [← hR]
  have HRES := Lib.hid hR
  clear hR
  go_enter Try.func163, Try.ntmps163
  go_wp2_with fail
  refine (C1.out _).mono ?_
  rintro e w1 ⟨rfl, hb⟩
  obtain ⟨fc, ff⟩ := bcell hb
  obtain ⟨s1, s2⟩ := bsize2 hb
  have HB := Lib.hid (balloc2 hb)
  clear hb
  go_wp2_with fail
  refine (bitsOf_any six hi lo _ h1 h2).mono ?_
  rintro e w2 ⟨v, rfl, hown, hb2, hs2⟩
  obtain ⟨fc2, ff2⟩ := bcell hb2
  have HB2 := Lib.hid (below_step HB.out hb2)
  have HB2X := Lib.hid hb2
  rw [HN.out] at hown
  simp only [Int.toNat_natCast] at hown
  obtain ⟨g, cap, rfl, hg, hlt⟩ := hown.form hpos
  have HOW := Lib.hid hown
  have s3 : w.heap.size < w2.heap.size := by omega
  have s4 : w.heap.size + 1 < w2.heap.size := by omega
  clear hown hb2
  go_wp2
  go_loopw [7, 8, 9] (fun c i _ wr => ∃ r : Nat, r ≤ m ∧ i = .int .i64 ((m : Int) - 1 - r) ∧ c = .int .i64 (carryI (valI six hi lo) by' r) ∧ wr.ownsRow (w1.heap.size + 1) 3 1 (.slice (some ⟨g, 0, none⟩) m cap) m ((nextTo six hi lo by' m r).map (Value.int .i64)) ∧ Below (w1.heap.size + 1) w2 wr) (fun _ i _ _ => (intOf i + 1).toNat)
  case atStart => exact ⟨0, by omega, by simp, by rw [carry_zero], by rw [nextTo_zero HN.out]; exact HOW.out, Below.refl _ _⟩
  case round =>
    obtain ⟨r, hr, rfl, rfl, hown, hbr⟩ := hrel
    by_cases hlt' : r < m
    · have hi0 : ((m : Int) - 1 - r) = ((m - 1 - r : Nat) : Int) := by omega
      rw [hi0]
      have hge : (0 : Int) ≤ ((m - 1 - r : Nat) : Int) := by omega
      have hcell := own_int (n := m) hown (nextTo_at (six := six) (hi := hi) (lo := lo) (by' := by') hlt')
      have hfz : wr.frozen? ⟨g, m - 1 - r, none⟩ = false := hown.frozenAt _
      have hbv := valI_bit six hi lo (m - 1 - r) h1 h2 HN.out (by omega)
      rw [show m - 1 - (m - 1 - r) = r from by omega] at hbv
      rw [hbv] at hcell
      have hcb := carry_bit (valI six hi lo) by' r
      have hcs := carry_succ (valI six hi lo) by' r
      have hcr := carry_range (valI six hi lo) by' r hb'
      have hbr01 : 0 ≤ valI six hi lo / 2 ^ r % 2 ∧ valI six hi lo / 2 ^ r % 2 ≤ 1 := by omega
      have hst := (hown.stored (m - 1 - r) (.int .i64 ((valI six hi lo + by') / 2 ^ r % 2))).1
      rw [← List.map_set, nextTo_set hlt'] at hst
      have HBS := Lib.hid (hbr.setCell (p := ⟨g, m - 1 - r, none⟩) hg (.int .i64 ((valI six hi lo + by') / 2 ^ r % 2)))
      have HST := Lib.hid hst
      have hjm : ((m - 1 - r : Nat) : Int) < (m : Int) := by omega
      clear hown hst hbv hi0 hbr
      generalize hgb : valI six hi lo / 2 ^ r % 2 = bb at *
      generalize hgc : carryI (valI six hi lo) by' r = cc at *
      generalize hgn : (valI six hi lo + by') / 2 ^ r % 2 = nb at *
      have HCS := Lib.hid hcs
      have ha := and1_i64 (bb + cc)
      rw [hcb] at ha
      have HCB := Lib.hid hcb
      clear hgb hgc hgn hcs hcb
      generalize hj : m - 1 - r = j at *
      have HJ := Lib.hid hj
      clear hj
      have HH := Lib.hid (half_even (bb + cc) nb HCB.out (by omega))
      go_wp2
      go_roundw
      case rel => exact ⟨r + 1, by omega, by rw [← HJ.out]; congr 1; omega, by rw [HH.out, HCS.out], HST.out, HBS.out⟩
      case measure => simp [intOf] <;> omega
    · obtain rfl : r = m := by omega
      have HX : Hid (Below w1.heap.size w1 wr) := HB2X.out.trans (hbr.mono (Nat.le_succ w1.heap.size))
      obtain ⟨fc3, ff3⟩ := bcell HX.out
      have z3 := HX.out.size
      have s5 : w.heap.size < wr.heap.size := by omega
      have s6 : w.heap.size + 1 < wr.heap.size := by omega
      have hgl : g < wr.heap.size := own_ltN hown hpos
      have HBW := Lib.hid (below_step HB.out HX.out)
      have hneg : ((r : Int) - 1 - r) = -1 := by omega
      rw [hneg]
      have hce := carry_end (valI six hi lo) by' (topI six) r (topI_pow HN.out) (valI_range six hi lo h1 h2 HM.out)
      rw [← plusOk_iff six hi lo by' h1 h2 HM.out hb'] at hce
      have HWD := Lib.hid (fun h => nextTo_words (by' := by') HN.out h1 h2 HM.out h)
      have HO := Lib.hid hown
      have HBR := Lib.hid hbr
      clear hown hbr hlt' hneg
      by_cases hc0 : carryI (valI six hi lo) by' r = 0
      · have hok := hce.1 hc0
        have HR1 : Hid (R = Value.tuple #[.agg #[.bool six, .int .u64 (plusHi hi lo by'), .int .u64 (plusLo hi lo by')], .int .i64 0]) := by show R = _; rw [HRES.out, if_pos hok]
        rw [hc0]
        have hww := HWD.out hok
        have HA := Lib.hid (fun w hx hy => addrOf_any six (nextTo six hi lo by' r r) r g cap w (nextTo_bits six hi lo by' r r) (nextTo_length six hi lo by' r r) HN.out hx hy)
        rw [hww.1, hww.2] at HA
        have HA2 := Lib.hid (HA.out wr (fun i b hib => own_int (n := r) HO.out hib) hgl)
        have HRES' := HR1.out
        clear hce hc0 hok hww HR1 HRES HWD HA
        generalize plusHi hi lo by' = ph at *
        generalize plusLo hi lo by' = pl at *
        have HR1 := Lib.hid HRES'
        clear HRES'
        go_wp2_with fail
        refine HA2.out.mono ?_
        rintro e w4 ⟨rfl, hb4⟩
        obtain ⟨fc4, ff4⟩ := bcell hb4
        have z4 := hb4.size
        have s7 : w.heap.size < w4.heap.size := by omega
        have s8 : w.heap.size + 1 < w4.heap.size := by omega
        have HB4 := Lib.hid (below_step HBW.out hb4)
        clear hb4
        go_wp2
        refine bodyPost_ret (v := .tuple #[.agg #[.bool six, .int .u64 ph, .int .u64 pl], .int .i64 0]) (by simp [results, Try.results163, go_sem, fc4, fc3, fc, s2, s6]) rfl ⟨by rw [HR1.out], ?_⟩
        (repeat' first | with_reducible exact HB4.out | with_reducible exact Below.refl _ _ | with_reducible refine Below.drew ?_ | with_reducible refine below_drewN ?_ _ | with_reducible refine Below.setCell ?_ ?_ _ | with_reducible refine Below.alloc ?_ ?_ _ | (simp; done) | (simp; omega) | omega)
      · have hok : ¬ plusOk six hi lo by' = true := fun h => hc0 (hce.2 h)
        have HR1 : Hid (R = Value.tuple #[ZA, .int .i64 2]) := by show R = _; rw [HRES.out, if_neg hok]
        have hne : (carryI (valI six hi lo) by' r != 0) = true := by simpa using hc0
        generalize carryI (valI six hi lo) by' r = cc at *
        clear hce hok
        go_wp2
        refine bodyPost_ret (v := .tuple #[ZA, .int .i64 2]) (by simp [results, Try.results163, go_sem, fc3, fc, s2, ZA]) rfl ⟨by rw [HR1.out], ?_⟩
        (repeat' first | with_reducible exact HBW.out | with_reducible exact Below.refl _ _ | with_reducible refine Below.drew ?_ | with_reducible refine below_drewN ?_ _ | with_reducible refine Below.setCell ?_ ?_ _ | with_reducible refine Below.alloc ?_ ?_ _ | (simp; done) | (simp; omega) | omega)

set_option maxRecDepth 100000 in
theorem next_both (six : Bool) (hi lo by' : Int) (_w : World) (h1 : 0 ≤ hi ∧ hi < 18446744073709551616) (h2 : 0 ≤ lo ∧ lo < 18446744073709551616) : ∃ (s : Bool) (a b k : Int), ∀ w,
      (Calls Try.prog 25 #[.agg #[.bool six, .int .u64 hi, .int .u64 lo], .int .i64 by'] w fun e w' => e = .returned (.tuple #[.agg #[.bool s, .int .u64 a, .int .u64 b], .int .i64 k]) ∧ Below w.heap.size w w') ∧
      (Calls Try.prog 163 #[.agg #[.bool six, .int .u64 hi, .int .u64 lo], .int .i64 by'] w fun e w' => e = .returned (.tuple #[.agg #[.bool s, .int .u64 a, .int .u64 b], .int .i64 k]) ∧ Below w.heap.size w w') := by
  cases hm : mayB six hi lo
  · exact ⟨false, 0, 0, 4, fun w => ⟨next_bad1 six hi lo by' w h1 h2 hm, refNext_bad1 six hi lo by' w h1 h2 hm⟩⟩
  · by_cases hb : by' < -1099511627776 ∨ 1099511627776 < by'
    · exact ⟨false, 0, 0, 2, fun w => ⟨next_bad2 six hi lo by' w h1 h2 hm hb, refNext_bad2 six hi lo by' w h1 h2 hm hb⟩⟩
    · have n1 := fun w => next_sum six hi lo by' w h1 h2 hm (by omega)
      have n2 := fun w => refNext_sum six hi lo by' w h1 h2 hm (by omega)
      by_cases hok : plusOk six hi lo by' = true
      · rw [if_pos hok] at n1 n2
        exact ⟨_, _, _, _, fun w => ⟨n1 w, n2 w⟩⟩
      · rw [if_neg hok] at n1 n2
        exact ⟨false, 0, 0, 2, fun w => ⟨n1 w, n2 w⟩⟩

end Go.Proofs.Ytonelibgaceflaa

namespace Go.Proofs.Ytonelibgaceflaa
open Go.ChangeShapes Go.WideShapes Go.ChangeAt Go.RowKit

theorem infoRouteT : (Try.prog.info? 37).map (fun i => (i.zero, i.size, i.bytes)) = some (some (.agg #[.bool false, .int .u64 0, .int .u64 0, .int .i64 0, .int .i64 0]), 5, 40) := by kernel_rfl
theorem next_four {x t : Int} (hx : 0 ≤ x ∧ x ≤ 200000000) (ht : 0 ≤ t ∧ t ≤ 1000) : plusOk false 0 x t = true ∧ plusHi 0 x t = 0 ∧ plusLo 0 x t = x + t := by
  have hs : sumI 0 x t = x + t := by unfold sumI; omega
  have h1 : plusHi 0 x t = 0 := by unfold plusHi; rw [hs]; omega
  have h2 : plusLo 0 x t = x + t := by unfold plusLo; rw [hs]; omega
  refine ⟨?_, h1, h2⟩
  unfold plusOk
  rw [h1, h2, hs]
  have e1 : decide (0 ≤ x + t ∧ x + t < 340282366920938463463374607431768211456) = true := decide_eq_true (by omega)
  have e2 : decide (x + t < 4294967296) = true := decide_eq_true (by omega)
  rw [e1]
  unfold mayB
  rw [e2]
  rfl
theorem four_may {x : Int} (hx : x ≤ 300000000) : mayB false 0 x = true := by
  unfold mayB
  rw [decide_eq_true (by omega)]
  rfl
theorem four_v (x : Int) : AV.v ⟨false, 0, x⟩ = x.toNat := rfl
theorem four_range {x t : Int} (hx : 0 ≤ x ∧ x ≤ 200000000) (ht : 0 ≤ t ∧ t ≤ 300) :
    rangeE ⟨false, 0, x⟩ ⟨false, 0, x + t⟩ = 0 ∧ rangeO ⟨false, 0, x⟩ ⟨false, 0, x + t⟩ = rangeL false x.toNat (x + t).toNat := by
  have hl : lessB ⟨false, 0, x + t⟩ ⟨false, 0, x⟩ = false := by
    unfold lessB
    simp
    omega
  have hE : rangeE ⟨false, 0, x⟩ ⟨false, 0, x + t⟩ = 0 := by
    unfold rangeE
    simp only [hl, four_may (show x ≤ 300000000 by omega), four_may (show x + t ≤ 300000000 by omega)]
    simp
  refine ⟨hE, ?_⟩
  unfold rangeO
  rw [if_pos hE]
  rfl
theorem four_law {x t y : Int} (hx : 0 ≤ x ∧ x ≤ 200000000) (ht : 0 ≤ t ∧ t ≤ 300) (hy : 0 ≤ y ∧ y ≤ 200000000) :
    1 ≤ (rangeL false x.toNat (x + t).toNat).length ∧ (rangeL false x.toNat (x + t).toNat).length ≤ 20 ∧ (∀ p ∈ rangeL false x.toNat (x + t).toNat, p.Ok) ∧
      ∃ r1 r2, lookR (routesTo (rangeL false x.toNat (x + t).toNat) 5) false 0 y = (r1, r2, 0) ∧ (r1 = 5 ↔ (x ≤ y ∧ y ≤ x + t)) := by
  have hok : ∀ p ∈ rangeL false x.toNat (x + t).toNat, p.Ok := fun p hp => (rangeL_mem hp).1
  have hlen := rangeL_short false (a := x.toNat) (b := (x + t).toNat) (by omega)
  have hy2 : AV.Ok ⟨false, 0, y⟩ := ⟨⟨by simp, by simp⟩, ⟨by simp; omega, by simp; omega⟩, four_may (show y ≤ 300000000 by omega)⟩
  have hg := range_goes (a := ⟨false, 0, x⟩) (b := ⟨false, 0, x + t⟩) (c := ⟨false, 0, y⟩) (hop := 5) (by omega) hy2 rfl
  have hf := routesTo_fine (hop := 5) hok (rangeL_nodup false x.toNat (x + t).toNat) (by omega) (by omega)
  refine ⟨?_, hlen, hok, (goesR (routesTo (rangeL false x.toNat (x + t).toNat) 5) false 0 y).1, (goesR (routesTo (rangeL false x.toNat (x + t).toNat) 5) false 0 y).2, ?_, ?_⟩
  rotate_left
  · unfold lookR
    rw [if_neg (by simp [hf]), if_neg (by simp [four_may (show y ≤ 300000000 by omega)])]
  · rw [four_v, four_v, four_v] at hg
    rw [hg]
    omega
  · obtain ⟨p, hp, _⟩ := rangeL_cover (six := false) (a := x.toNat) (b := (x + t).toNat) (x := x.toNat) (by rw [show 2 ^ widN false = 4294967296 from by decide]; omega) (Nat.le_refl _) (by omega)
    exact List.length_pos_of_mem hp
theorem routesTo_ok {L : List PV} {hop : Int} (h : ∀ p ∈ L, p.Ok) (hh : 1 ≤ hop ∧ hop ≤ 999) : ∀ r ∈ routesTo L hop, r.Ok := by
  intro r hr
  obtain ⟨p, hp, rfl⟩ := List.mem_map.1 hr
  have := h p hp
  have hn := ok_n this
  have hw : wideI p.six ≤ 128 := by unfold wideI; split <;> omega
  exact ⟨Pfx.rhi this, Pfx.rlo this, by simp only; omega, by simp only; omega⟩

/-- A new block with an address. -/
def NewAddr (Y : World) (p : AV) (v e : Value) (wc : World) : Prop :=
  e = .int .i64 0 ∧ ∃ b, v = .pointer (some ⟨b, 0, none⟩) ∧ Y.heap.size ≤ b ∧ Blk wc b 24 #[.bool p.six, .int .u64 p.hi, .int .u64 p.lo] ∧ Below Y.heap.size Y wc
theorem newAddr_A {Y w3 : World} {six : Bool} {hi lo : Int} (h : Below Y.heap.size Y w3) :
    NewAddr Y ⟨six, hi, lo⟩ (.pointer (some ⟨w3.heap.size, 0, none⟩)) (.int .i64 0) (w3.alloc (.cells #[.bool six, .int .u64 hi, .int .u64 lo] 24)) :=
  ⟨rfl, _, rfl, h.size, Blk.new _ _ _, h.alloc h.size _⟩
theorem newAddr_S {Y w3 : World} {g : Nat} {six : Bool} {hi lo : Int} (hk : Blk w3 g 24 #[.bool false, .int .u64 0, .int .u64 0]) (hg : Y.heap.size ≤ g) (h : Below Y.heap.size Y w3) :
    NewAddr Y ⟨six, hi, lo⟩ (.pointer (some ⟨g, 0, none⟩)) (.int .i64 0) (((w3.setCell ⟨g, 0, none⟩ (.bool six)).setCell ⟨g, 1, none⟩ (.int .u64 hi)).setCell ⟨g, 2, none⟩ (.int .u64 lo)) := by
  have k := ((hk.set_ 0 (.bool six)).set_ 1 (.int .u64 hi)).set_ 2 (.int .u64 lo)
  exact ⟨rfl, g, rfl, hg, by simpa using k, ((h.setCell hg _).setCell hg _).setCell hg _⟩
theorem newAddr_B1 {Y Q w2 w3 : World} {six : Bool} {hi lo : Int} (hb2 : Below Q.heap.size Q w2) (hQ : Q.heap = (Y.alloc (.cells #[.bool false, .int .u64 0, .int .u64 0] 24)).heap) (hb3 : Below w2.heap.size w2 w3) (h : Below Y.heap.size Y w3) :
    NewAddr Y ⟨six, hi, lo⟩ (.pointer (some ⟨Y.heap.size, 0, none⟩)) (.int .i64 0) (((w3.setCell ⟨Y.heap.size, 0, none⟩ (.bool six)).setCell ⟨Y.heap.size, 1, none⟩ (.int .u64 hi)).setCell ⟨Y.heap.size, 2, none⟩ (.int .u64 lo)) := by
  have k1 : Blk Q Y.heap.size 24 #[.bool false, .int .u64 0, .int .u64 0] := by unfold Blk; rw [hQ]; exact Blk.new Y _ _
  have k2 := k1.below hb2 k1.lt
  exact newAddr_S (k2.below hb3 k2.lt) (Nat.le_refl _) h
theorem newAddr_B2 {Y Q w2 w3 : World} {six : Bool} {hi lo : Int} (hb3 : Below Q.heap.size Q w3) (hQ : Q.heap = (w2.alloc (.cells #[.bool false, .int .u64 0, .int .u64 0] 24)).heap) (hY : Below Y.heap.size Y w2) (h : Below Y.heap.size Y w3) :
    NewAddr Y ⟨six, hi, lo⟩ (.pointer (some ⟨w2.heap.size, 0, none⟩)) (.int .i64 0) (((w3.setCell ⟨w2.heap.size, 0, none⟩ (.bool six)).setCell ⟨w2.heap.size, 1, none⟩ (.int .u64 hi)).setCell ⟨w2.heap.size, 2, none⟩ (.int .u64 lo)) := by
  have k1 : Blk Q w2.heap.size 24 #[.bool false, .int .u64 0, .int .u64 0] := by unfold Blk; rw [hQ]; exact Blk.new w2 _ _
  exact newAddr_S (k1.below hb3 k1.lt) hY.size h
theorem ret_true {b : Bool} (h : b = true) : Ending.returned (.bool b) = Ending.returned (.bool true) := by rw [h]
theorem routesTo_len (L : List PV) (hop : Int) : (routesTo L hop).length = L.length := by unfold routesTo; simp
theorem routesTo_snoc (L : List PV) (p : PV) (hop : Int) : routesTo (L ++ [p]) hop = routesTo L hop ++ [⟨p, hop⟩] := by unfold routesTo; simp

set_option maxRecDepth 100000 in
set_option maxHeartbeats 3200000 in
theorem topRange_walk {H : Type} {enc : TypeId × Value → H} (W : World) (vs : Array Value) (ds : List (DataW H)) (ps : List MemPlace) (h : ArgsOk Try.prog [3, 3, 3] H enc W vs.toList ds ps) :
    Calls Try.prog 3 vs W fun e W' => e = .returned (.bool true) ∧ Below W.heap.size W W' := by
  obtain ⟨hA, ⟨base, hval⟩, _, _⟩ := h
  obtain ⟨v0, v1, v2, d0, d1, d2, p0, p1, p2, e0, _, _, h0, h1, h2⟩ := trodAll_three hA
  obtain ⟨a, rfl, _, _, _⟩ := open_int Try.underlying3 (hval 0 _ v0 rfl (by rw [e0]; rfl)) h0
  obtain ⟨b, rfl, _, _, _⟩ := open_int Try.underlying3 (hval 1 _ v1 rfl (by rw [e0]; rfl)) h1
  obtain ⟨c, rfl, _, _, _⟩ := open_int Try.underlying3 (hval 2 _ v2 rfl (by rw [e0]; rfl)) h2
  obtain rfl : vs = #[.int .i64 a, .int .i64 b, .int .i64 c] := by cases vs; simp_all
  have CN1 := Lib.hid (fun w => near_any a w)
  have CP := Lib.hid (fun w => picked_any b 300 w (by omega) (by omega))
  have CN2 := Lib.hid (fun w => near_any c w)
  have r1 := picked_range a (n := 540) (by omega)
  have r2 := picked_range b (n := 300) (by omega)
  have r3 := picked_range c (n := 540) (by omega)
  obtain ⟨x, hx⟩ : ∃ x, 167772152 + pickedI a 540 = x := ⟨_, rfl⟩
  obtain ⟨t, ht⟩ : ∃ t, pickedI b 300 = t := ⟨_, rfl⟩
  obtain ⟨y, hy⟩ : ∃ y, 167772152 + pickedI c 540 = y := ⟨_, rfl⟩
  rw [hx] at CN1
  rw [ht] at CP r2
  rw [hy] at CN2
  have hxr : 0 ≤ x ∧ x ≤ 200000000 := by omega
  have hyr : 0 ≤ y ∧ y ≤ 200000000 := by omega
  clear hx hy ht r1 r3 h0 h1 h2 hA hval e0
  obtain ⟨k1, k2, k3⟩ := next_four (x := x) (t := t) hxr (by omega)
  have CX := Lib.hid (fun w => next_sum false 0 x t w (by omega) (by omega) (four_may (by omega)) (by omega))
  rw [k1, k2, k3] at CX
  simp only [if_true] at CX
  have CR := Lib.hid (fun w => cidrRange_any false 0 x false 0 (x + t) w (by omega) (by omega) (by omega) (by omega))
  unfold Ranged at CR
  obtain ⟨q1, q2⟩ := four_range (x := x) (t := t) hxr (by omega)
  obtain ⟨l1, l2, l3, ra, rb, hlook, hiff⟩ := four_law (x := x) (t := t) (y := y) hxr (by omega) hyr
  have CL := Lib.hid (fun A n c w (h : IsRoutes w A n c (routesTo (rangeL false x.toNat (x + t).toNat) 5)) => tableLook_is A n c (routesTo (rangeL false x.toNat (x + t).toNat) 5) false 0 y w h (by omega) (by omega))
  unfold Looked at CL
  rw [hlook] at CL
  rw [q1, q2] at CR
  clear q1 q2 hlook k1 k2 k3
  generalize rangeL false x.toNat (x + t).toNat = L at *
  have HRO := Lib.hid (routesTo_ok l3 (hop := 5) (by omega))
  have hw1 : IntKind.i64.wrap 5 = 5 := by decide
  go_enter Try.func3, Try.ntmps3
  go_wp2_with fail
  refine (CN1.out _).mono ?_
  rintro e w1 ⟨rfl, hb1⟩
  have HB1 := Lib.hid hb1
  clear hb1
  go_wp2_with fail
  obtain ⟨X, hX⟩ : ∃ X, (w1.alloc (.cells #[.bool false, .int .u64 0, .int .u64 x] 24)) = X := ⟨_, rfl⟩
  have kX : Blk X w1.heap.size 24 #[.bool false, .int .u64 0, .int .u64 x] := by rw [← hX]; exact Blk.new _ _ _
  have HX : Hid (Below W.heap.size W X) := by rw [← hX]; exact HB1.out.alloc HB1.out.size _
  have KX := Lib.hid kX
  have c0 := kX.cell 0
  have c1 := kX.cell 1
  have c2 := kX.cell 2
  simp at c0 c1 c2
  have lX := kX.lt
  rw [hX]
  clear hX kX
  go_cut [8, 9] (fun v e wx => NewAddr X ⟨false, 0, x + t⟩ v e wx)
  case first =>
    go_region_held3 (fun w' => (∀ b o, b < X.heap.size → w'.cell? ⟨b, o, none⟩ = X.cell? ⟨b, o, none⟩) ∧ X.heap.size ≤ w'.heap.size ∧ Hid (Below X.heap.size X w'))
      ((first | assumption | exact keep0 _ | (refine keepF ?_; (repeat' first | with_reducible exact HB3.out | with_reducible exact HB2.out | with_reducible exact Below.refl _ _ | with_reducible refine Below.drew ?_ | with_reducible refine below_drewN ?_ _ | with_reducible refine Below.setCell ?_ ?_ _ | with_reducible refine Below.alloc ?_ ?_ _ | exact HB3.out.size | exact HB2.out.size | (simp; done) | (simp; have := HB3.out.size; omega) | (simp; have := HB2.out.size; omega) | (simp; omega)); done)))
      (first
        | (go_at_call 26; refine (CP.out _).mono ?_; rintro e w2 ⟨rfl, hb2⟩; obtain ⟨fc2, ff2⟩ := bcell hb2; have hz2 := hb2.size; (try (have hq2 : X.heap.size < w2.heap.size := (by simp at hz2; omega))); have HB2 : Hid (Below X.heap.size X w2) := (keepBelow (by assumption)).trans (hb2.mono (keepSize (by assumption))))
        | (go_at_call 25; refine (CX.out _).mono ?_; rintro e w3 ⟨rfl, hb3⟩; obtain ⟨fc3, ff3⟩ := bcell hb3; have hz3 := hb3.size; (try (have hq3 : X.heap.size < w3.heap.size := (by omega))); (try (have hq4 : w2.heap.size < w3.heap.size := (by simp at hz3; omega))); have HB3 : Hid (Below X.heap.size X w3) := (keepBelow (by assumption)).trans (hb3.mono (keepSize (by assumption)))))
    all_goals
      go_wp2_with fail
      go_meet
      first
        | with_reducible exact newAddr_A HB3.out
        | exact newAddr_B1 hb2 rfl hb3 HB3.out
        | exact newAddr_B2 hb3 rfl HB2.out HB3.out
  case rest =>
    obtain ⟨rfl, b8, rfl, hb8, hk8, hbx⟩ := hcut
    generalize wc = Y at *
    have KA := Lib.hid (KX.out.below hbx lX)
    have KB := Lib.hid hk8
    have HY := Lib.hid (HX.out.trans (hbx.mono HX.out.size))
    have y0 := KA.out.cell 0
    have y1 := KA.out.cell 1
    have y2 := KA.out.cell 2
    have z0 := KB.out.cell 0
    have z1 := KB.out.cell 1
    have z2 := KB.out.cell 2
    simp at y0 y1 y2 z0 z1 z2
    have lya := KA.out.lt
    have lyb := KB.out.lt
    clear hbx hk8 hb8 c0 c1 c2
    go_wp2_with fail
    refine (CR.out _).mono ?_
    rintro e w4 ⟨v, rfl, hown, hb4⟩
    obtain ⟨A4, cp4, rfl, _, hr4⟩ := own_reads hown
    have HR4 := Lib.hid hr4
    have KA4 := Lib.hid (KA.out.below hb4 lya)
    have KB4 := Lib.hid (KB.out.below hb4 lyb)
    have HB4 := Lib.hid (below_step HY.out hb4)
    have l4a := KA4.out.lt
    have l4b := KB4.out.lt
    clear hb4 hown hr4 y0 y1 y2 z0 z1 z2
    have hL0 : ((L.length : Int) == 0) = false := by simp; intro hc; rw [hc] at l1; simp at l1
    go_wp2_with fail
    go_loopw [12, 13] (fun v i wr => ∃ k : Nat, k ≤ L.length ∧ i = .int .i64 k ∧ wr.ownsRow w4.heap.size 37 5 v k ((routesTo (L.take k) 5).flatMap RouteV.cells) ∧ Below w4.heap.size w4 wr) (fun _ i _ => L.length - (intOf i).toNat)
    case atStart => exact ⟨0, by omega, rfl, World.ownsRow_nil _ _ _ _, Below.refl _ _⟩
    case round =>
      obtain ⟨k, hk, rfl, hown, hb⟩ := hrel
      have HOW := Lib.hid hown
      have hsz := hb.size
      clear hown
      by_cases hlt : k < L.length
      · obtain ⟨ad, ⟨psix, phi, plo, pn⟩, rfl, hlk, htk, hmem, hbk, hc0, hcj⟩ := HR4.out.atS PV.cells_length rfl hlt
        have e0 := (hb.cell (p := ad.add (k * 4)) (by rw [block_of_add]; exact hbk)).trans (hc0 _ rfl)
        have e1 := (hb.cell (p := ⟨(ad.add (k * 4)).block, (ad.add (k * 4)).off + 1, none⟩) (by rw [block_of_add]; exact hbk)).trans (hcj 1 _ rfl)
        have e2 := (hb.cell (p := ⟨(ad.add (k * 4)).block, (ad.add (k * 4)).off + 2, none⟩) (by rw [block_of_add]; exact hbk)).trans (hcj 2 _ rfl)
        have e3 := (hb.cell (p := ⟨(ad.add (k * 4)).block, (ad.add (k * 4)).off + 3, none⟩) (by rw [block_of_add]; exact hbk)).trans (hcj 3 _ rfl)
        have HT : Hid ((routesTo (L.take (k + 1)) 5).flatMap RouteV.cells = (routesTo (L.take k) 5).flatMap RouteV.cells ++ [.bool psix, .int .u64 phi, .int .u64 plo, .int .i64 pn, .int .i64 5]) := by show _ = _; rw [htk, routesTo_snoc, List.flatMap_append]; rfl
        have HB := Lib.hid hb
        clear hlk htk hmem hbk hc0 hcj hb
        go_wp2_with (at_builtin; go_loud (refine wpList_append_oneN rfl _ _ 33 rfl w4.heap.size (.agg #[.bool false, .int .u64 0, .int .u64 0, .int .i64 0, .int .i64 0]) 5 40 Try.underlying33 infoRouteT rfl (by decide) _ _ _ rfl rfl ?d0 HOW.out ?d1 rfl ?d2 ?d3 ?d4 ?_))
        case d0 => (try simp); done
        case d2 => first | (intro u hu; simp at hu; (rcases hu with rfl | rfl | rfl | rfl | rfl <;> rfl); done) | exact ⟨rfl, rfl, rfl, rfl, rfl⟩
        case d3 => unfold maxLen; omega
        case d4 => omega
        intro v' w' hown' hb' hs' _
        have HOW2 : Hid (w'.ownsRow w4.heap.size 37 5 v' (k + 1) ((routesTo (L.take (k + 1)) 5).flatMap RouteV.cells)) := by
          show World.ownsRow _ _ _ _ _ _ _
          rw [HT.out]
          exact hown'
        have HB2 := Lib.hid (HB.out.trans hb')
        clear hown' hb'
        go_wp2
        go_roundw
        case rel =>
          exact ⟨k + 1, by omega, by go_num, HOW2.out, HB2.out⟩
        case measure => simp [intOf]; omega
      · obtain rfl : k = L.length := by omega
        have hown := HOW.out
        rw [List.take_length] at hown
        obtain ⟨A5, cp5, rfl, hcap, hr5⟩ := own_reads hown
        have HI : Hid (IsRoutes wr A5 L.length cp5 (routesTo L 5)) := ⟨routesTo_len L 5, hcap, HRO.out, hr5⟩
        have HB5 := Lib.hid hb
        have KA5 := Lib.hid (KA4.out.below hb l4a)
        have KB5 := Lib.hid (KB4.out.below hb l4b)
        have l5a := KA5.out.lt
        have l5b := KB5.out.lt
        have HBB := Lib.hid (HB4.out.trans (hb.mono HB4.out.size))
        clear hown hr5 hb hcap
        go_wp2_with fail
        refine (CN2.out _).mono ?_
        rintro e w6 ⟨rfl, hb6⟩
        have HI6 := Lib.hid (HI.out.below hb6)
        have KA6 := Lib.hid (KA5.out.below hb6 l5a)
        have KB6 := Lib.hid (KB5.out.below hb6 l5b)
        have HB6 := Lib.hid (below_step HBB.out hb6)
        clear hb6
        go_wp2_with fail
        refine (CL.out _ _ _ _ (HI6.out.below ((Below.refl _ _).alloc (Nat.le_refl _) _))).mono ?_
        rintro e w7 ⟨rfl, hb7⟩
        have kY := (Blk.new w6 24 #[.bool false, .int .u64 0, .int .u64 y]).below hb7 (Blk.new w6 _ _).lt
        have kA7 := (KA6.out.alloc (.cells #[.bool false, .int .u64 0, .int .u64 y] 24)).below hb7 (KA6.out.alloc _).lt
        have kB7 := (KB6.out.alloc (.cells #[.bool false, .int .u64 0, .int .u64 y] 24)).below hb7 (KB6.out.alloc _).lt
        have lY := kY.lt
        have lA := kA7.lt
        have lB := kB7.lt
        have g0 := kY.cell 2
        have g1 := kA7.cell 2
        have g2 := kB7.cell 2
        simp at g0 g1 g2
        have HB7 := Lib.hid (below_step HB6.out (balloc1 hb7))
        clear hb7 kY kA7 kB7
        go_wp2
        all_goals
          go_ret
          refine ⟨ret_true ?_, HB7.out.alloc HB7.out.size _⟩
          by_cases h5 : ra = 5
          · have h := hiff.1 h5
            first | (simp [h5, h.2]; done) | omega
          · first | (have : ¬ (y ≤ x + t) := fun h => h5 (hiff.2 ⟨by omega, h⟩); simp [h5, this]; done) | (simp [h5]; done)

end Go.Proofs.Ytonelibgaceflaa
