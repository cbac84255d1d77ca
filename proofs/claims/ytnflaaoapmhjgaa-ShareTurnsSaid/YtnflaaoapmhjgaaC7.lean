/-
  
  
  
  
  
  
  
  
  
  
  
  
  
  
-/
import Derived.Test.YtnflaaoapmhjgaaC3
import Derived.Test.YtnflaaoapmhjgaaChecked
import Derived.Test.YtnflaaoapmhjgaaC2
import Derived.Test.YtnflaaoapmhjgaaC1
import Derived.Test.YtnflaaoapmhjgaaC4
import Derived.Laws.OwnMore
import Derived.Laws.EntriesVeiled
import Derived.Deep.DeepCutAuto
import Derived.Deep.CutBlock
import Derived.Laws.CopyOwn
namespace Go.Proofs.Ytnflaaoapmhjgaa
set_option linter.unusedVariables false

/-- One more at some places. -/
def incs (base : List Int) (at' : List Nat) : List Int := at'.foldl (fun o i => o.set i (o[i]?.getD 0 + 1)) base
theorem incs_snoc (base : List Int) (s : List Nat) (i : Nat) : incs base (s ++ [i]) = (incs base s).set i ((incs base s)[i]?.getD 0 + 1) := by
  unfold incs; rw [List.foldl_append]; rfl
theorem incs_length (base : List Int) (s : List Nat) : (incs base s).length = base.length := by
  unfold incs
  induction s generalizing base with
  | nil => rfl
  | cons i s ih => rw [List.foldl_cons, ih, List.length_set]
theorem set_sum : ∀ (l : List Int) (i : Nat) (x : Int), i < l.length → (l.set i x).sum = l.sum - l[i]?.getD 0 + x
  | [], i, x, h => by simp at h
  | y :: l, 0, x, h => by simp; omega
  | y :: l, i + 1, x, h => by
    have := set_sum l i x (by simpa using h)
    simp only [List.set_cons_succ, List.sum_cons, List.getElem?_cons_succ]
    omega
theorem incs_sum (base : List Int) (s : List Nat) (h : ∀ i ∈ s, i < base.length) : (incs base s).sum = base.sum + s.length := by
  induction hn : s.length generalizing s with
  | zero =>
    have : s = [] := List.eq_nil_of_length_eq_zero hn
    subst this
    simp [incs]
  | succ n ih =>
    rcases List.eq_nil_or_concat s with rfl | ⟨s', i, rfl⟩
    · simp at hn
    rw [List.concat_eq_append] at *
    rw [incs_snoc, set_sum _ _ _ (by rw [incs_length]; exact h i (by simp)), ih s' (fun j hj => h j (by simp [hj])) (by simpa using hn)]
    omega
theorem incs_ge (base : List Int) (s : List Nat) (i : Nat) : base[i]?.getD 0 ≤ (incs base s)[i]?.getD 0 ∧ (incs base s)[i]?.getD 0 ≤ base[i]?.getD 0 + s.length := by
  induction hn : s.length generalizing s with
  | zero =>
    have : s = [] := List.eq_nil_of_length_eq_zero hn
    subst this
    simp [incs]
  | succ n ih =>
    rcases List.eq_nil_or_concat s with rfl | ⟨s', j, rfl⟩
    · simp at hn
    rw [List.concat_eq_append] at *
    have h := ih s' (by simpa using hn)
    rw [incs_snoc, List.getElem?_set]
    by_cases hj : j = i
    · subst hj
      rw [if_pos rfl]
      split
      · simp only [Option.getD_some]; omega
      · rename_i hx
        simp only [Option.getD_none]
        have : (incs base s')[j]? = none := List.getElem?_eq_none (by omega)
        rw [this] at h
        simp only [Option.getD_none] at h
        omega
    · rw [if_neg hj]; omega

/-- The first place of the greatest. -/
def bestS (a : List Int) (k : Nat) : Nat := (List.range k).foldl (fun b i => if a[b]?.getD 0 < a[i]?.getD 0 then i else b) 0
theorem bestS_succ (a : List Int) (k : Nat) : bestS a (k + 1) = if a[bestS a k]?.getD 0 < a[k]?.getD 0 then k else bestS a k := by
  unfold bestS; rw [List.range_succ, List.foldl_append]; rfl
theorem bestS_law (a : List Int) : ∀ k, 0 < k → bestS a k < k ∧ (∀ i, i < k → a[i]?.getD 0 ≤ a[bestS a k]?.getD 0) ∧ ∀ i, i < bestS a k → a[i]?.getD 0 < a[bestS a k]?.getD 0
  | 0, h => by omega
  | 1, _ => by
    have e : bestS a 1 = 0 := by unfold bestS; simp
    rw [e]
    exact ⟨by omega, fun i hi => by have : i = 0 := by omega
                                    subst this; exact Int.le_refl _, fun i hi => by omega⟩
  | k + 2, _ => by
    obtain ⟨h1, h2, h3⟩ := bestS_law a (k + 1) (by omega)
    rw [bestS_succ]
    by_cases h : a[bestS a (k + 1)]?.getD 0 < a[k + 1]?.getD 0
    · rw [if_pos h]
      refine ⟨by omega, fun i hi => ?_, fun i hi => ?_⟩
      · by_cases e : i = k + 1
        · subst e; exact Int.le_refl _
        · have := h2 i (by omega); omega
      · have := h2 i (by omega); omega
    · rw [if_neg h]
      refine ⟨by omega, fun i hi => ?_, h3⟩
      by_cases e : i = k + 1
      · subst e; omega
      · exact h2 i (by omega)
theorem best_only {a : List Int} {n b : Nat} (hn : 0 < n) (hb : b < n) (h1 : ∀ i, i < n → a[i]?.getD 0 ≤ a[b]?.getD 0) (h2 : ∀ i, i < b → a[i]?.getD 0 < a[b]?.getD 0) : bestS a n = b := by
  obtain ⟨g0, g1, g2⟩ := bestS_law a n hn
  rcases Nat.lt_trichotomy (bestS a n) b with h | h | h
  · have := h2 _ h; have := g1 b hb; omega
  · exact h
  · have := g2 _ h; have := h1 _ g0; omega

/-- Some places are struck. -/
def masks (a : List Int) (s : List Nat) : List Int := s.foldl (fun o i => o.set i (-1)) a
theorem masks_snoc (a : List Int) (s : List Nat) (i : Nat) : masks a (s ++ [i]) = (masks a s).set i (-1) := by
  unfold masks; rw [List.foldl_append]; rfl
theorem masks_length (a : List Int) (s : List Nat) : (masks a s).length = a.length := by
  unfold masks
  induction s generalizing a with
  | nil => rfl
  | cons i s ih => rw [List.foldl_cons, ih, List.length_set]
theorem masks_get (a : List Int) (s : List Nat) (i : Nat) (hi : i < a.length) : (masks a s)[i]?.getD 0 = if i ∈ s then -1 else a[i]?.getD 0 := by
  induction hn : s.length generalizing s with
  | zero =>
    have : s = [] := List.eq_nil_of_length_eq_zero hn
    subst this
    simp [masks]
  | succ n ih =>
    rcases List.eq_nil_or_concat s with rfl | ⟨s', j, rfl⟩
    · simp at hn
    rw [List.concat_eq_append] at *
    have h := ih s' (by simpa using hn)
    rw [masks_snoc, List.getElem?_set, masks_length]
    by_cases hj : j = i
    · subst hj
      rw [if_pos rfl, if_pos hi, if_pos (by simp)]
      rfl
    · rw [if_neg hj, h]
      have : (i ∈ s' ++ [j]) ↔ i ∈ s' := by
        rw [List.mem_append, List.mem_singleton]
        exact ⟨fun h => h.elim id fun e => absurd e.symm hj, .inl⟩
      by_cases hm : i ∈ s'
      · rw [if_pos hm, if_pos (this.2 hm)]
      · rw [if_neg hm, if_neg (fun h => hm (this.1 h))]

/-- Where the sorted order goes on is the greatest of those not struck. -/
structure Ordered (a : List Int) (o : List Nat) : Prop where
  perm : o.Perm (List.range a.length)
  sorted : o.Pairwise fun i j => a[j]?.getD 0 < a[i]?.getD 0 ∨ (a[i]?.getD 0 = a[j]?.getD 0 ∧ i < j)
theorem ordered_best {a : List Int} {o : List Nat} (h : Ordered a o) (h0 : ∀ i, i < a.length → 0 ≤ a[i]?.getD 0) {k b : Nat} (hk : o[k]? = some b) : bestS (masks a (o.take k)) a.length = b := by
  obtain ⟨hkl, hkb⟩ := List.getElem?_eq_some_iff.1 hk
  have hbm : b ∈ o := by rw [← hkb]; exact List.getElem_mem _
  have hb : b < a.length := by simpa using h.perm.mem_iff.1 hbm
  have hnd : o.Nodup := h.perm.nodup_iff.2 List.nodup_range
  have hsplit : o = o.take k ++ b :: o.drop (k + 1) := by rw [← hkb]; simp
  have hs := h.sorted
  rw [hsplit] at hnd hs
  rw [List.nodup_append] at hnd
  rw [List.pairwise_append] at hs
  have hbn : b ∉ o.take k := fun hx => hnd.2.2 b hx b (by simp) rfl
  have hrest := (List.pairwise_cons.1 hs.2.1).1
  have key : ∀ i, i < a.length → i ∉ o.take k → ¬ i = b → a[i]?.getD 0 < a[b]?.getD 0 ∨ (a[b]?.getD 0 = a[i]?.getD 0 ∧ b < i) := by
    intro i hi hni hne
    have him : i ∈ o := h.perm.mem_iff.2 (by simpa using hi)
    rw [hsplit] at him
    rcases List.mem_append.1 him with hx | hx
    · exact absurd hx hni
    · rcases List.mem_cons.1 hx with hx | hx
      · exact absurd hx hne
      · exact hrest i hx
  refine best_only (by omega) hb (fun i hi => ?_) (fun i hi => ?_)
  · rw [masks_get a _ i hi, masks_get a _ b hb, if_neg hbn]
    by_cases hm : i ∈ o.take k
    · rw [if_pos hm]; have := h0 b hb; omega
    · rw [if_neg hm]
      by_cases hne : i = b
      · subst hne; exact Int.le_refl _
      · rcases key i hi hm hne with hx | hx <;> omega
  · have hil : i < a.length := by omega
    rw [masks_get a _ i hil, masks_get a _ b hb, if_neg hbn]
    by_cases hm : i ∈ o.take k
    · rw [if_pos hm]; have := h0 b hb; omega
    · rw [if_neg hm]
      rcases key i hil hm (by omega) with hx | hx
      · exact hx
      · omega

end Go.Proofs.Ytnflaaoapmhjgaa

namespace Go.Proofs.Ytnflaaoapmhjgaa
set_option linter.unusedVariables false

def beforeR (a : List Int) (x y : Nat) : Prop := a[y]?.getD 0 < a[x]?.getD 0 ∨ (a[x]?.getD 0 = a[y]?.getD 0 ∧ x < y)
/-- The first so many are sorted. -/
structure SortedTo (a : List Int) (s : List Nat) (i : Nat) : Prop where
  perm : s.Perm (List.range i)
  sorted : s.Pairwise (beforeR a)
theorem SortedTo.len {a : List Int} {s : List Nat} {i : Nat} (h : SortedTo a s i) : s.length = i := by rw [h.perm.length_eq, List.length_range]
theorem SortedTo.lt {a : List Int} {s : List Nat} {i : Nat} (h : SortedTo a s i) : ∀ x ∈ s, x < i := fun x hx => by simpa using h.perm.mem_iff.1 hx
theorem sortedTo_one (a : List Int) : SortedTo a [0] 1 := ⟨by simp, List.pairwise_singleton _ _⟩
/-- Where the one that is put in stands. -/
def stL (s : List Nat) (j i : Nat) (rest : List Nat) : List Nat := s.take j ++ i :: (s.drop j ++ rest)
theorem set_mid {α : Type} (x y : α) (r : List α) : ∀ p : List α, (p ++ x :: r).set p.length y = p ++ y :: r
  | [] => rfl
  | z :: p => by rw [List.cons_append, List.length_cons, List.set_cons_succ, set_mid x y r p]; rfl
theorem stL_at {s : List Nat} {j i : Nat} {rest : List Nat} (hj : j ≤ s.length) : (stL s j i rest)[j]? = some i := by
  unfold stL
  rw [List.getElem?_append_right (by rw [List.length_take]; omega), List.length_take, Nat.min_eq_left hj, Nat.sub_self]
  rfl
theorem stL_prev {s : List Nat} {j i : Nat} {rest : List Nat} (hj : j < s.length) : (stL s (j + 1) i rest)[j]? = s[j]? := by
  unfold stL
  rw [List.getElem?_append_left (by rw [List.length_take]; omega), List.getElem?_take_of_lt (by omega)]
theorem stL_swap {s : List Nat} {j i e : Nat} {rest : List Nat} (he : s[j]? = some e) : ((stL s (j + 1) i rest).set (j + 1) e).set j i = stL s j i rest := by
  obtain ⟨hj, hje⟩ := List.getElem?_eq_some_iff.1 he
  have ht : s.take (j + 1) = s.take j ++ [e] := by rw [List.take_add_one, he]; rfl
  have hd : s.drop j = e :: s.drop (j + 1) := by rw [← hje]; exact List.drop_eq_getElem_cons hj
  have hl : (s.take j).length = j := by rw [List.length_take]; omega
  unfold stL
  rw [ht, hd]
  have h1 := set_mid i e (s.drop (j + 1) ++ rest) (s.take j ++ [e])
  rw [List.length_append, hl] at h1
  rw [show (j + [e].length) = j + 1 from rfl] at h1
  rw [h1, List.append_assoc]
  have h2 := set_mid e i (e :: (s.drop (j + 1) ++ rest)) (s.take j)
  rw [hl] at h2
  exact h2
theorem stL_length {s : List Nat} {j i : Nat} {rest : List Nat} : (stL s j i rest).length = s.length + 1 + rest.length := by
  unfold stL
  rw [List.length_append, List.length_cons, List.length_append, ← Nat.add_assoc]
  have : (s.take j).length + (s.drop j).length = s.length := by rw [← List.length_append, List.take_append_drop]
  omega
theorem ins_sorted {a : List Int} {s : List Nat} {i j : Nat} (h : SortedTo a s i) (hgt : ∀ e ∈ s.drop j, a[e]?.getD 0 < a[i]?.getD 0) (hst : j = 0 ∨ ∃ (k e : Nat), j = k + 1 ∧ s[k]? = some e ∧ ¬ a[e]?.getD 0 < a[i]?.getD 0) :
    SortedTo a (s.take j ++ i :: s.drop j) (i + 1) := by
  have hs := h.sorted
  rw [← List.take_append_drop j s, List.pairwise_append] at hs
  refine ⟨?_, ?_⟩
  · refine List.perm_middle.trans ?_
    rw [List.take_append_drop, List.range_succ]
    exact (List.Perm.cons i h.perm).trans (List.perm_append_singleton _ _).symm
  · rw [List.pairwise_append]
    refine ⟨hs.1, List.pairwise_cons.2 ⟨fun e he => .inl (hgt e he), hs.2.1⟩, fun x hx y hy => ?_⟩
    rcases List.mem_cons.1 hy with rfl | hy
    · have hxs : x ∈ s := List.mem_of_mem_take hx
      have hxi := h.lt x hxs
      have hge : a[y]?.getD 0 ≤ a[x]?.getD 0 := by
        rcases hst with rfl | ⟨k, e, rfl, he, hne⟩
        · simp at hx
        · obtain ⟨p, hp, e1⟩ := List.mem_iff_getElem.1 hx
          rw [List.length_take] at hp
          obtain ⟨hk, hke⟩ := List.getElem?_eq_some_iff.1 he
          rw [List.getElem_take] at e1
          by_cases hpk : p = k
          · subst hpk
            rw [hke] at e1
            subst e1
            omega
          · have hb : beforeR a s[p] s[k] := List.pairwise_iff_getElem.1 h.sorted p k (by omega) hk (by omega)
            rw [e1, hke] at hb
            rcases hb with hb | hb <;> omega
      by_cases heq : a[x]?.getD 0 = a[y]?.getD 0
      · exact .inr ⟨heq, hxi⟩
      · exact .inl (by omega)
    · exact hs.2.2 x hx y hy
theorem sorted_ordered {a : List Int} {s : List Nat} (h : SortedTo a s a.length) : Ordered a s := ⟨h.perm, h.sorted⟩

end Go.Proofs.Ytnflaaoapmhjgaa

namespace Go.Proofs.Ytnflaaoapmhjgaa
open Go.ChangeShapes Go.WideShapes Go.ChangeAt Go.RowKit

structure ShareV where
  hop : Int
  weight : Int

def ShareV.cells (r : ShareV) : List Value := [.int .i64 r.hop, .int .i64 r.weight]
theorem ShareV.cells_length (r : ShareV) : r.cells.length = 2 := rfl

/-- What is known of a slice of shares. -/
def IsShares (w : World) (A : Option Addr) (n c : Nat) (l : List ShareV) : Prop :=
  l.length = n ∧ (n ≤ c ∧ c ≤ maxLen) ∧ Reads w w.heap.size 2 A n (l.flatMap ShareV.cells)
theorem IsShares.below {w w' : World} {A : Option Addr} {n c : Nat} {l : List ShareV} (h : IsShares w A n c l) (hb : Below w.heap.size w w') : IsShares w' A n c l :=
  ⟨h.1, h.2.1, (h.2.2.below hb).more hb.size⟩

set_option maxRecDepth 100000 in
theorem open_shares {H : Type} {enc : TypeId × Value → H} {W : World} {base : Nat} {sp : Nat → Bool} {held : Bool} {a0 : Option Addr} {len0 cap0 : Nat} {d : DataW H} {p : List MemPlace}
    (h : DataW.Trod enc Try.prog W base sp held 66 (.slice a0 len0 cap0) d p) : ∃ l : List ShareV, IsShares W a0 len0 cap0 l := by
  have hk : flat Try.prog 9 154 = some [some .i64, some .i64] := by kernel_rfl
  obtain ⟨css, hcl, hfit, hr, hl, hm⟩ := open_flats Try.underlying66 hk (by kernel_rfl) (by simp) h
  obtain ⟨l, rfl, hz⟩ := choose_list (f := ShareV.cells) (Q := fun _ => True) css (fun cs hc => by
    have hf := hfit cs hc
    clear hr hcl hfit
    obtain ⟨hop, _, rfl, _, hf1⟩ := hf.int_inv
    obtain ⟨weight, _, rfl, _, hf2⟩ := hf1.int_inv
    obtain rfl := hf2.nil_inv
    exact ⟨⟨hop, weight⟩, trivial, rfl⟩)
  exact ⟨l, by simpa using hcl, ⟨hl, hm⟩, by rw [List.flatMap_def]; exact hr⟩

end Go.Proofs.Ytnflaaoapmhjgaa

namespace Go.Proofs.Ytnflaaoapmhjgaa
open Go.ChangeShapes Go.WideShapes Go.ChangeAt Go.RowKit

/-- A test on an element, as a function value: its contract in every later world. -/
def ShareTest (w : World) (fid : FuncId) (caps : Array Value) (f : ShareV → Bool) (l : List ShareV) : Prop :=
  ∀ r ∈ l, ∀ w', Below w.heap.size w w' → Calls Try.prog fid (#[.agg r.cells.toArray] ++ caps) w' fun e w'' => e = .returned (.bool (f r)) ∧ Below w'.heap.size w' w''

set_option maxRecDepth 100000 in
set_option maxHeartbeats 1600000 in
theorem idxShare_any (A : Option Addr) (n c : Nat) (l : List ShareV) (f : ShareV → Bool) (fid : FuncId) (caps : Array Value) (w : World) (hent : ∀ (args : Array Value) (w : World), (callFunc fid args).run Try.prog w = .ok (.enter fid args) w) (hz : l.length = n) (hm : n ≤ maxLen) (hr : Reads w w.heap.size 2 A n (l.flatMap ShareV.cells))
    (ht : ShareTest w fid caps f l) :
    Calls Try.prog 88 #[.slice A n c, .func (.func fid) #[] caps] w fun e w' => e = .returned (.int .i64 (firstAt f l)) ∧ Below w.heap.size w w' := by
  have HZ := Lib.hid hz
  have HR := Lib.hid hr
  have HT := Lib.hid ht
  unfold maxLen at hm
  obtain ⟨r, hr0⟩ : ∃ r, r = firstAt f l := ⟨_, rfl⟩
  rw [← hr0]
  have H0 := Lib.hid hr0
  clear hz hr ht hr0
  go_enter Try.func88, Try.ntmps88
  go_wp2
  go_loopw [8, 5] (fun i _ wr => ∃ k : Nat, k ≤ n ∧ i = .int .i64 k ∧ NoneYet f l k ∧ Below w.heap.size w wr) (fun i _ _ => n - (intOf i).toNat)
  case atStart => exact ⟨0, by omega, rfl, noneYet_zero f l, Below.refl _ _⟩
  case round =>
    obtain ⟨k, hk, rfl, hto, hb⟩ := hrel
    have HN := Lib.hid hto
    clear hto
    by_cases hlt : k < n
    · obtain ⟨ad, ⟨hop, weight⟩, rfl, hlk, htk, hmem, hbk, hc0, hcj⟩ := HR.out.atS ShareV.cells_length HZ.out hlt
      have q0 := (hb.cell (p := ad.add (k * 2)) (by rw [block_of_add]; exact hbk)).trans (hc0 _ rfl)
      have q1 := (hb.cell (p := ⟨(ad.add (k * 2)).block, (ad.add (k * 2)).off + 1, none⟩) (by rw [block_of_add]; exact hbk)).trans (hcj 1 _ rfl)
      have HC : Hid (Calls Try.prog fid (#[.agg #[.int .i64 hop, .int .i64 weight]] ++ caps) wr fun e w'' => e = .returned (.bool (f ⟨hop, weight⟩)) ∧ Below wr.heap.size wr w'') := HT.out _ hmem wr hb
      have HL := Lib.hid hlk
      have HK := Lib.hid htk
      clear hlk htk hmem hbk hc0 hcj
      generalize hfv : f ⟨hop, weight⟩ = fv at *
      have HV := Lib.hid hfv
      clear hfv
      cases fv
      · have HN2 := Lib.hid (noneYet_succ HN.out HK.out HV.out)
        go_wp2_with fail
        refine HC.out.mono ?_
        rintro e w1 ⟨rfl, hb1⟩
        have HB := Lib.hid (below_step hb hb1)
        clear hb1
        go_wp2
        go_roundw
        case rel => exact ⟨k + 1, by omega, by go_num, HN2.out, HB.out⟩
        case measure => simp [intOf]; omega
      · have HN2 := Lib.hid (firstAt_at HN.out HL.out HV.out)
        go_wp2_with fail
        refine HC.out.mono ?_
        rintro e w1 ⟨rfl, hb1⟩
        have HB := Lib.hid (below_step hb hb1)
        clear hb1
        go_wp2
        go_ret
        exact ⟨ret_int (HN2.out.symm.trans H0.out.symm), HB.out⟩
    · obtain rfl : k = n := by omega
      have HN2 := Lib.hid (firstAt_end HN.out HZ.out)
      go_wp2
      go_ret
      exact ⟨ret_int (HN2.out.symm.trans H0.out.symm), hb⟩

set_option maxRecDepth 100000 in
set_option maxHeartbeats 400000 in
theorem hasShare_any (A : Option Addr) (n c : Nat) (l : List ShareV) (f : ShareV → Bool) (fid : FuncId) (caps : Array Value) (w : World) (hent : ∀ (args : Array Value) (w : World), (callFunc fid args).run Try.prog w = .ok (.enter fid args) w) (hz : l.length = n) (hm : n ≤ maxLen) (hr : Reads w w.heap.size 2 A n (l.flatMap ShareV.cells))
    (ht : ShareTest w fid caps f l) :
    Calls Try.prog 151 #[.slice A n c, .func (.func fid) #[] caps] w fun e w' => e = .returned (.bool (l.any f)) ∧ Below w.heap.size w w' := by
  have HI := idxShare_any A n c l f fid caps w hent hz hm hr ht
  clear hz hm hr ht hent
  rcases firstAt_cases f l with ⟨h1, h2⟩ | ⟨k, x, h1, h2, h3⟩
  · rw [show l.any f = false from by rw [List.any_eq_false]; exact fun x hx => by rw [h2 x hx]; simp]
    rw [h1] at HI
    have HI' := Lib.hid HI
    clear HI h1 h2
    go_enter Try.func151, Try.ntmps151
    go_wp2_with fail
    refine HI'.out.mono ?_
    rintro e w1 ⟨rfl, hb⟩
    go_wp2
    go_ret
    exact ⟨rfl, hb⟩
  · rw [show l.any f = true from by rw [List.any_eq_true]; exact ⟨x, List.mem_of_getElem? h2, h3⟩]
    rw [h1] at HI
    have HI' := Lib.hid HI
    clear HI h1 h2 h3
    go_enter Try.func151, Try.ntmps151
    go_wp2_with fail
    refine HI'.out.mono ?_
    rintro e w1 ⟨rfl, hb⟩
    go_wp2
    go_ret
    exact ⟨rfl, hb⟩

end Go.Proofs.Ytnflaaoapmhjgaa

namespace Go.Proofs.Ytnflaaoapmhjgaa
open Go.ChangeShapes Go.WideShapes Go.ChangeAt Go.RowKit

/-- The fault of a share behind some others. -/
def shareF (before : List ShareV) (hop weight : Int) : Int :=
  if hop < 1 ∨ 999 < hop ∨ weight < 1 ∨ 20 < weight then 2 else if before.any (fun t => hop == t.hop) = true then 8 else 0
def shareAt (l : List ShareV) (i : Nat) : Int := match l[i]? with
  | some s => shareF (l.take i) s.hop s.weight
  | none => 0
/-- The first fault of a list of shares. -/
def sharesE (l : List ShareV) : Int := firstF (shareAt l) (List.range l.length)
def sharesF (l : List ShareV) : Int := if l.length < 1 ∨ 16 < l.length then 1 else sharesE l

theorem Reads.takeS {w : World} {B n k size : Nat} {A : Option Addr} {α : Type} {l : List α} {f : α → List Value} (hf : ∀ x, (f x).length = size) (hz : l.length = n) (hk : k ≤ n) (h : Reads w B size A n (l.flatMap f)) :
    Reads w B size A k ((l.take k).flatMap f) := by
  have hlen : ∀ (l : List α), (l.flatMap f).length = l.length * size := by
    intro l
    induction l with
    | nil => simp
    | cons x l ih => rw [List.flatMap_cons, List.length_append, hf, ih, List.length_cons, Nat.succ_mul]; omega
  refine ⟨by rw [hlen, List.length_take]; congr 1; omega, fun hk0 => ?_⟩
  obtain ⟨ad, rfl, hb, hc⟩ := h.2 (by omega)
  refine ⟨ad, rfl, hb, fun j u hj => hc j u ?_⟩
  have : l = l.take k ++ l.drop k := (List.take_append_drop k l).symm
  rw [this, List.flatMap_append, List.getElem?_append_left (by have := (List.getElem?_eq_some_iff.1 hj).1; exact this)]
  exact hj

set_option maxRecDepth 100000 in
set_option maxHeartbeats 400000 in
theorem shareClosure_any (hop : Int) (r : ShareV) (b : Nat) (w : World) (c0 : w.cell? ⟨b, 0, none⟩ = some (.int .i64 hop)) (hb : b < w.heap.size) :
    Calls Try.prog 152 #[.agg r.cells.toArray, .pointer (some ⟨b, 0, none⟩)] w fun e w' => e = .returned (.bool (hop == r.hop)) ∧ Below w.heap.size w w' := by
  obtain ⟨h, wt⟩ := r
  show Calls _ _ #[.agg #[.int .i64 h, .int .i64 wt], .pointer (some ⟨b, 0, none⟩)] _ _
  go_enter Try.func152, Try.ntmps152
  go_wp2
  go_ret
  exact ⟨rfl, (Below.refl _ _).alloc (Nat.le_refl _) _⟩

theorem shareEnters (args : Array Value) (w : World) : (callFunc 152 args).run Try.prog w = .ok (.enter 152 args) w := by kernel_rfl

set_option maxRecDepth 100000 in
set_option maxHeartbeats 1600000 in
theorem sharesCheck_any (A : Option Addr) (n c : Nat) (l : List ShareV) (w : World) (hn : 1 ≤ n) (hn2 : n ≤ 16) (hnc : n ≤ c) (_hcm : c ≤ maxLen) (hz : l.length = n) (hr : Reads w w.heap.size 2 A n (l.flatMap ShareV.cells)) :
    Calls Try.prog 85 #[.slice A n c] w fun e w' => e = .returned (.int .i64 (sharesE l)) ∧ Below w.heap.size w w' := by
  have HZ := Lib.hid hz
  have HR := Lib.hid hr
  unfold maxLen at _hcm
  obtain ⟨r, hr0⟩ : ∃ r, r = firstF (shareAt l) (List.range n) := ⟨_, rfl⟩
  rw [show sharesE l = firstF (shareAt l) (List.range n) from by unfold sharesE; rw [hz], ← hr0]
  have H0 := Lib.hid hr0
  have hd1 : decide ((n : Int) < 1) = false := by simp; omega
  clear hz hr hr0
  go_enter Try.func85, Try.ntmps85
  go_wp2
  go_loopw [15, 3, 4] (fun i _ _ wr => ∃ k : Nat, k ≤ n ∧ i = .int .i64 k ∧ NoneTo (shareAt l) (List.range n) k ∧ Below w.heap.size w wr) (fun i _ _ _ => n - (intOf i).toNat)
  case atStart => exact ⟨0, by omega, rfl, rfl, Below.refl _ _⟩
  case round =>
    obtain ⟨k, hk, rfl, hto, hb⟩ := hrel
    have HT := Lib.hid hto
    clear hto
    by_cases hlt : k < n
    · obtain ⟨ad, ⟨hop, weight⟩, rfl, hlk, htk, hmem, hbk, hc0, hcj⟩ := HR.out.atS ShareV.cells_length HZ.out hlt
      have q0 := (hb.cell (p := ad.add (k * 2)) (by rw [block_of_add]; exact hbk)).trans (hc0 _ rfl)
      have q1 := (hb.cell (p := ⟨(ad.add (k * 2)).block, (ad.add (k * 2)).off + 1, none⟩) (by rw [block_of_add]; exact hbk)).trans (hcj 1 _ rfl)
      have hfd : shareAt l k = shareF (l.take k) hop weight := by unfold shareAt; rw [hlk]
      have HF := Lib.hid hfd
      have HL := Lib.hid (range_at (n := n) hlt)
      have HK := Lib.hid (range_take (n := n) hlt)
      have hkc : (k : Int) ≤ (c : Int) := by omega
      have hkc2 : (k : Int) ≤ 16 := by omega
      clear hlk htk hmem hbk hc0 hcj hfd
      have HH : Hid (∀ (t : TypeId), Calls Try.prog 151 #[.slice (some ad) k c, .func (.func 152) #[] #[.pointer (some ⟨wr.heap.size, 0, none⟩)]] (wr.alloc (.cells #[.int .i64 hop, .int .i64 weight] t)) fun e w' => e = .returned (.bool ((l.take k).any (fun t => hop == t.hop))) ∧ Below (wr.alloc (.cells #[.int .i64 hop, .int .i64 weight] t)).heap.size (wr.alloc (.cells #[.int .i64 hop, .int .i64 weight] t)) w') := by
        show ∀ _, _
        intro t
        refine hasShare_any (some ad) k c (l.take k) (fun t => hop == t.hop) _ _ _ shareEnters (by rw [List.length_take, HZ.out]; omega) (by unfold maxLen; omega) ?_ ?_
        · have hba := hb.alloc hb.size (.cells #[.int .i64 hop, .int .i64 weight] t)
          exact ((HR.out.below hba).more hba.size).takeS ShareV.cells_length HZ.out (by omega)
        · intro r _ w' hbw
          obtain ⟨D1, S1, F⟩ := box1 (cs := [.int .i64 hop, .int .i64 weight]) hbw
          exact shareClosure_any hop r wr.heap.size w' (F 0 _ rfl) S1
      go_wp2_with fail
      any_goals (go_ret; exact ⟨ret_int (fault_here HT.out HL.out HF.out H0.out (by unfold shareF; rw [if_pos (by omega)]) (by omega)), hb.alloc hb.size _⟩)
      have hrange : ¬ (hop < 1 ∨ 999 < hop ∨ weight < 1 ∨ 20 < weight) := by omega
      have HRG := Lib.hid hrange
      clear hrange
      refine (HH.out _).mono ?_
      rintro e w1 ⟨rfl, hb1⟩
      have HB := Lib.hid (below_step (hb.alloc hb.size _) hb1)
      clear hb1
      generalize hv : (l.take k).any (fun t => hop == t.hop) = v at *
      have HV := Lib.hid hv
      clear hv
      cases v
      · go_wp2
        go_roundw
        case rel => exact ⟨k + 1, by omega, by go_num, noneTo_succ HT.out HK.out (HF.out.trans (by unfold shareF; rw [if_neg HRG.out, HV.out, if_neg (by simp)])), HB.out⟩
        case measure => simp [intOf]; omega
      · go_wp2
        go_ret
        exact ⟨ret_int (fault_here HT.out HL.out HF.out H0.out (by unfold shareF; rw [if_neg HRG.out, HV.out, if_pos rfl]) (by omega)), HB.out⟩
    · obtain rfl : k = n := by omega
      have HR2 := Lib.hid (firstF_end HT.out (by simp))
      go_wp2
      go_ret
      exact ⟨ret_int (HR2.out.symm.trans H0.out.symm), hb⟩

set_option maxRecDepth 100000 in
set_option maxHeartbeats 1600000 in
theorem sharesFault_any (A : Option Addr) (n c : Nat) (l : List ShareV) (w : World) (hn : 1 ≤ n) (hn2 : n ≤ 16) (hnc : n ≤ c) (_hcm : c ≤ maxLen) (hz : l.length = n) (hr : Reads w w.heap.size 2 A n (l.flatMap ShareV.cells)) :
    Calls Try.prog 90 #[.slice A n c] w fun e w' => e = .returned (.int .i64 (sharesE l)) ∧ Below w.heap.size w w' := by
  have HZ := Lib.hid hz
  have HR := Lib.hid hr
  unfold maxLen at _hcm
  obtain ⟨r, hr0⟩ : ∃ r, r = firstF (shareAt l) (List.range n) := ⟨_, rfl⟩
  rw [show sharesE l = firstF (shareAt l) (List.range n) from by unfold sharesE; rw [hz], ← hr0]
  have H0 := Lib.hid hr0
  have hd1 : ((n : Int) == 0) = false := by simp; omega
  clear hz hr hr0
  go_enter Try.func90, Try.ntmps90
  go_wp2
  go_loopw [17, 3, 4, 6] (fun i _ _ _ wr => ∃ k : Nat, k ≤ n ∧ i = .int .i64 k ∧ NoneTo (shareAt l) (List.range n) k ∧ Below w.heap.size w wr) (fun i _ _ _ _ => n - (intOf i).toNat)
  case atStart => exact ⟨0, by omega, rfl, rfl, Below.refl _ _⟩
  case round =>
    obtain ⟨k, hk, rfl, hto, hb⟩ := hrel
    have HT := Lib.hid hto
    clear hto
    by_cases hlt : k < n
    · obtain ⟨ad, ⟨hop, weight⟩, rfl, hlk, htk, hmem, hbk, hc0, hcj⟩ := HR.out.atS ShareV.cells_length HZ.out hlt
      have q0 := (hb.cell (p := ad.add (k * 2)) (by rw [block_of_add]; exact hbk)).trans (hc0 _ rfl)
      have q1 := (hb.cell (p := ⟨(ad.add (k * 2)).block, (ad.add (k * 2)).off + 1, none⟩) (by rw [block_of_add]; exact hbk)).trans (hcj 1 _ rfl)
      have hfd : shareAt l k = shareF (l.take k) hop weight := by unfold shareAt; rw [hlk]
      have HF := Lib.hid hfd
      have HL := Lib.hid (range_at (n := n) hlt)
      have HK := Lib.hid (range_take (n := n) hlt)
      have hkc : (k : Int) ≤ (c : Int) := by omega
      have hkc2 : (k : Int) ≤ 16 := by omega
      clear hlk htk hmem hbk hc0 hcj hfd
      go_wp2_with fail
      any_goals (go_ret; exact ⟨ret_int (fault_here HT.out HL.out HF.out H0.out (by unfold shareF; rw [if_pos (by omega)]) (by omega)), hb.alloc hb.size _⟩)
      have hrange : ¬ (hop < 1 ∨ 999 < hop ∨ weight < 1 ∨ 20 < weight) := by omega
      have HRG := Lib.hid hrange
      clear hrange
      obtain ⟨wo, rfl⟩ : ∃ wo : World, wo = wr := ⟨_, rfl⟩
      have HRK := Lib.hid (HR.out.takeS ShareV.cells_length HZ.out (by omega : k ≤ n))
      have HZK : Hid ((l.take k).length = k) := by show _ = _; rw [List.length_take, HZ.out]; omega
      have HBO := Lib.hid hb
      have hsz := hb.size
      clear hb q0 q1
      generalize hlk0 : l.take k = lk at *
      clear hlk0
      go_loopw [44, 6] (fun i _ wr => ∃ j : Nat, j ≤ k ∧ i = .int .i64 j ∧ NoneYet (fun t : ShareV => hop == t.hop) lk j ∧ Below (wo.alloc (.cells #[.int .i64 hop, .int .i64 weight] 154)).heap.size (wo.alloc (.cells #[.int .i64 hop, .int .i64 weight] 154)) wr) (fun i _ _ => k - (intOf i).toNat)
      case atStart => exact ⟨0, by omega, rfl, noneYet_zero _ _, Below.refl _ _⟩
      case round =>
        obtain ⟨j, hj, rfl, hno, hbr⟩ := hrel
        have HN := Lib.hid hno
        have HB := Lib.hid (below_step (HBO.out.alloc hsz _) hbr)
        have hb := HB.out
        obtain ⟨fc, ff⟩ := bcell hbr
        have s1 := bsize1 hbr
        have HBR := Lib.hid hbr
        clear hno hbr
        by_cases hlt2 : j < k
        · obtain ⟨ad', ⟨th, tw⟩, hadd, hlk, htk, hmem, hbk, hc0, hcj⟩ := HRK.out.atS ShareV.cells_length HZK.out hlt2
          injection hadd with hadd
          subst hadd
          have q0 := (hb.cell (p := ad.add (j * 2)) (by rw [block_of_add]; exact hbk)).trans (hc0 _ rfl)
          have q1 := (hb.cell (p := ⟨(ad.add (j * 2)).block, (ad.add (j * 2)).off + 1, none⟩) (by rw [block_of_add]; exact hbk)).trans (hcj 1 _ rfl)
          have HLK := Lib.hid hlk
          have HTK := Lib.hid htk
          clear hlk htk hmem hbk hc0 hcj hb
          by_cases he : th = hop
          · subst he
            have HV : Hid (lk.any (fun t => th == t.hop) = true) := by
              show _ = _
              rw [List.any_eq_true]
              exact ⟨_, List.mem_of_getElem? HLK.out, by simp⟩
            go_wp2
            go_ret
            exact ⟨ret_int (fault_here HT.out HL.out HF.out H0.out (by unfold shareF; rw [if_neg HRG.out, HV.out, if_pos rfl]) (by omega)), HB.out.alloc HB.out.size _⟩
          · have HNE : Hid ((hop == th) = false) := by show _ = _; simpa using fun h => he h.symm
            have he2 : (th == hop) = false := by simpa using he
            have HN2 := Lib.hid (noneYet_succ HN.out HTK.out HNE.out)
            clear he
            go_wp2
            go_roundw
            case rel => exact ⟨j + 1, by omega, by go_num, HN2.out, HBR.out.alloc HBR.out.size _⟩
            case measure => simp [intOf]; omega
        · obtain rfl : j = k := by omega
          have HV : Hid (lk.any (fun t => hop == t.hop) = false) := by
            show _ = _
            rw [List.any_eq_false]
            intro x hx
            have := HN.out x (by rw [List.take_of_length_le (by rw [HZK.out]; omega)]; exact hx)
            simp only at this
            simp [this]
          clear hb
          go_wp2
          go_roundw
          case rel => exact ⟨j + 1, by omega, by go_num, noneTo_succ HT.out HK.out (HF.out.trans (by unfold shareF; rw [if_neg HRG.out, HV.out, if_neg (by simp)])), HB.out⟩
          case measure => simp [intOf]; omega
    · obtain rfl : k = n := by omega
      have HR2 := Lib.hid (firstF_end HT.out (by simp))
      go_wp2
      go_ret
      exact ⟨ret_int (HR2.out.symm.trans H0.out.symm), hb⟩

set_option maxHeartbeats 400000 in
theorem sharesCheck_big (A : Option Addr) (n c : Nat) (w : World) (hn : n < 1 ∨ 16 < n) (hm : n ≤ maxLen) :
    Calls Try.prog 85 #[.slice A n c] w fun e w' => e = .returned (.int .i64 1) ∧ Below w.heap.size w w' := by
  unfold maxLen at hm
  rcases hn with hn | hn
  · obtain rfl : n = 0 := by omega
    go_enter Try.func85, Try.ntmps85
    go_wp2
    go_ret
    exact ⟨rfl, Below.refl _ _⟩
  · have hd1 : decide ((n : Int) < 1) = false := by simp; omega
    have hd2 : ((n : Int) == 0) = false := by simp; omega
    go_enter Try.func85, Try.ntmps85
    go_wp2
    go_ret
    exact ⟨rfl, Below.refl _ _⟩
theorem sharesCheck_is {A : Option Addr} {n c : Nat} {l : List ShareV} {w : World} (h : IsShares w A n c l) :
    Calls Try.prog 85 #[.slice A n c] w fun e w' => e = .returned (.int .i64 (sharesF l)) ∧ Below w.heap.size w w' := by
  unfold sharesF
  have h1 := h.1
  by_cases hn : l.length < 1 ∨ 16 < l.length
  · rw [if_pos hn]
    exact sharesCheck_big A n c w (by omega) (by have := h.2.1; omega)
  · rw [if_neg hn]
    exact sharesCheck_any A n c l w (by omega) (by omega) h.2.1.1 h.2.1.2 h1 h.2.2

set_option maxHeartbeats 400000 in
theorem sharesFault_big (A : Option Addr) (n c : Nat) (w : World) (hn : n < 1 ∨ 16 < n) (hm : n ≤ maxLen) :
    Calls Try.prog 90 #[.slice A n c] w fun e w' => e = .returned (.int .i64 1) ∧ Below w.heap.size w w' := by
  unfold maxLen at hm
  rcases hn with hn | hn
  · obtain rfl : n = 0 := by omega
    go_enter Try.func90, Try.ntmps90
    go_wp2
    go_ret
    exact ⟨rfl, Below.refl _ _⟩
  · have hd1 : decide ((n : Int) < 1) = false := by simp; omega
    have hd2 : ((n : Int) == 0) = false := by simp; omega
    go_enter Try.func90, Try.ntmps90
    go_wp2
    go_ret
    exact ⟨rfl, Below.refl _ _⟩
theorem sharesFault_is {A : Option Addr} {n c : Nat} {l : List ShareV} {w : World} (h : IsShares w A n c l) :
    Calls Try.prog 90 #[.slice A n c] w fun e w' => e = .returned (.int .i64 (sharesF l)) ∧ Below w.heap.size w w' := by
  unfold sharesF
  have h1 := h.1
  by_cases hn : l.length < 1 ∨ 16 < l.length
  · rw [if_pos hn]
    exact sharesFault_big A n c w (by omega) (by have := h.2.1; omega)
  · rw [if_neg hn]
    exact sharesFault_any A n c l w (by omega) (by omega) h.2.1.1 h.2.1.2 h1 h.2.2

end Go.Proofs.Ytnflaaoapmhjgaa

namespace Go.Proofs.Ytnflaaoapmhjgaa
set_option linter.unusedVariables false

def allW (l : List ShareV) : Int := (l.map ShareV.weight).sum
def quoS (l : List ShareV) (many : Int) : List Int := l.map fun s => many * s.weight / allW l
def remS (l : List ShareV) (many : Int) : List Int := l.map fun s => many * s.weight % allW l
def leftS (l : List ShareV) (many : Int) : Int := many - (quoS l many).sum
/-- The first greatest ones, one by one. -/
def picks (a : List Int) : Nat → List Nat
  | 0 => []
  | k + 1 => picks a k ++ [bestS (masks a (picks a k)) a.length]
def partsS (l : List ShareV) (many : Int) : List Int := incs (quoS l many) (picks (remS l many) (leftS l many).toNat)
/-- Shares that are not refused. -/
structure SharesOk (l : List ShareV) : Prop where
  len : 1 ≤ l.length ∧ l.length ≤ 16
  each : ∀ s ∈ l, (1 ≤ s.hop ∧ s.hop ≤ 999) ∧ 1 ≤ s.weight ∧ s.weight ≤ 20

theorem picks_length (a : List Int) : ∀ k, (picks a k).length = k
  | 0 => rfl
  | k + 1 => by unfold picks; rw [List.length_append, picks_length a k]; rfl
theorem picks_lt {a : List Int} (h : 0 < a.length) : ∀ k, ∀ i ∈ picks a k, i < a.length
  | 0, i, hi => by simp [picks] at hi
  | k + 1, i, hi => by
    unfold picks at hi
    rcases List.mem_append.1 hi with hi | hi
    · exact picks_lt h k i hi
    · simp at hi
      subst hi
      exact (bestS_law (masks a (picks a k)) a.length h).1
theorem ordered_picks {a : List Int} {o : List Nat} (h : Ordered a o) (h0 : ∀ i, i < a.length → 0 ≤ a[i]?.getD 0) : ∀ k, k ≤ a.length → o.take k = picks a k
  | 0, _ => by simp [picks]
  | k + 1, hk => by
    have hl : o.length = a.length := by rw [h.perm.length_eq, List.length_range]
    have hx : o[k]? = some (o[k]'(by omega)) := List.getElem?_eq_getElem _
    have hb := ordered_best h h0 hx
    unfold picks
    rw [List.take_add_one, hx, ordered_picks h h0 k (by omega)]
    rw [ordered_picks h h0 k (by omega)] at hb
    rw [hb]; rfl

theorem allW_bounds {l : List ShareV} (h : ∀ s ∈ l, 1 ≤ s.weight ∧ s.weight ≤ 20) : (l.length : Int) ≤ allW l ∧ allW l ≤ 20 * l.length := by
  unfold allW
  induction l with
  | nil => simp
  | cons s l ih =>
    have h1 := h s (by simp)
    have h2 := ih fun t ht => h t (by simp [ht])
    rw [List.map_cons, List.sum_cons, List.length_cons]
    omega
theorem quo_rem (many A : Int) (l : List ShareV) : many * (l.map ShareV.weight).sum = A * (l.map fun s => many * s.weight / A).sum + (l.map fun s => many * s.weight % A).sum := by
  induction l with
  | nil => simp
  | cons s l ih =>
    have h1 := Int.mul_ediv_add_emod (many * s.weight) A
    simp only [List.map_cons, List.sum_cons, Int.mul_add]
    omega
theorem rem_bounds {A : Int} (hA : 0 < A) (many : Int) (l : List ShareV) : 0 ≤ (l.map fun s => many * s.weight % A).sum ∧ (l.map fun s => many * s.weight % A).sum ≤ (A - 1) * l.length := by
  induction l with
  | nil => simp
  | cons s l ih =>
    have h1 := Int.emod_nonneg (many * s.weight) (b := A) (by omega)
    have h2 := Int.emod_lt_of_pos (many * s.weight) hA
    simp only [List.map_cons, List.sum_cons, List.length_cons]
    have e : (A - 1) * ((l.length + 1 : Nat) : Int) = (A - 1) * l.length + (A - 1) := by
      rw [Int.natCast_add, Int.mul_add]; simp
    rw [e]
    omega
theorem left_bounds {l : List ShareV} (h : SharesOk l) (many : Int) : 0 ≤ leftS l many ∧ leftS l many < l.length := by
  have hb := allW_bounds fun s hs => (h.each s hs).2
  have h1 := h.len.1
  have hA : 0 < allW l := by omega
  have hq := quo_rem many (allW l) l
  have hr := rem_bounds hA many l
  have e1 : (quoS l many).sum = (l.map fun s => many * s.weight / allW l).sum := rfl
  have e2 : (l.map ShareV.weight).sum = allW l := rfl
  unfold leftS
  rw [e1]
  rw [e2] at hq
  generalize (l.map fun s => many * s.weight / allW l).sum = Q at *
  generalize (l.map fun s => many * s.weight % allW l).sum = R at *
  generalize allW l = A at *
  have hm : A * (many - Q) = R := by rw [Int.mul_sub, Int.mul_comm A many]; omega
  have hlt : R < A * (l.length : Int) := by
    have : (A - 1) * (l.length : Int) = A * (l.length : Int) - l.length := by rw [Int.sub_mul]; simp
    omega
  constructor
  · apply Classical.byContradiction
    intro hc
    have : A * (many - Q) < 0 := Int.mul_neg_of_pos_of_neg hA (by omega)
    omega
  · rw [← hm] at hlt
    exact Int.lt_of_mul_lt_mul_left hlt (by omega)
theorem quo_nth {l : List ShareV} {many : Int} {k : Nat} {s : ShareV} (h : l[k]? = some s) : (quoS l many).take (k + 1) = (quoS l many).take k ++ [many * s.weight / allW l] ∧ (remS l many).take (k + 1) = (remS l many).take k ++ [many * s.weight % allW l] := by
  unfold quoS remS
  rw [← List.map_take, ← List.map_take, ← List.map_take, ← List.map_take, List.take_add_one, h]
  simp
theorem quo_range {A many w : Int} (hA : 1 ≤ A) (hm : 1 ≤ many ∧ many ≤ 64) (hw : 1 ≤ w ∧ w ≤ 20) : (0 ≤ many * w ∧ many * w ≤ 1280) ∧ (0 ≤ many * w / A ∧ many * w / A ≤ 1280) ∧ (many * w / A) * A ≤ many * w ∧ 0 ≤ (many * w / A) * A ∧ many * w - (many * w / A) * A = many * w % A := by
  have h1 : 0 ≤ many * w := Int.mul_nonneg (by omega) (by omega)
  have h2 : many * w ≤ 64 * 20 := Int.mul_le_mul hm.2 hw.2 (by omega) (by omega)
  have h3 := Int.mul_ediv_add_emod (many * w) A
  have h4 := Int.emod_nonneg (many * w) (b := A) (by omega)
  have h5 : 0 ≤ many * w / A := Int.ediv_nonneg h1 (by omega)
  have h6 : many * w / A ≤ many * w := Int.ediv_le_self _ h1
  have e : A * (many * w / A) = (many * w / A) * A := Int.mul_comm _ _
  have h7 : 0 ≤ (many * w / A) * A := Int.mul_nonneg h5 (by omega)
  exact ⟨⟨h1, by omega⟩, ⟨h5, by omega⟩, by omega, h7, by omega⟩

end Go.Proofs.Ytnflaaoapmhjgaa

namespace Go.Proofs.Ytnflaaoapmhjgaa
open Go.ChangeShapes Go.WideShapes Go.ChangeAt Go.RowKit

theorem own_same {w w' : World} {base : Nat} {e : TypeId} {size n : Nat} {v : Value} {xs : List Value} (h : w.ownsRow base e size v n xs) (hk : ∀ k, v.ownBlock = some k → w'.heap[k]? = w.heap[k]?) : w'.ownsRow base e size v n xs := by
  obtain ⟨h1, h2⟩ := h
  refine ⟨h1, ?_⟩
  rcases h2 with ⟨rfl, h3⟩ | ⟨g, cap, cur, rfl, hg, hh, r⟩
  · exact .inl ⟨rfl, h3⟩
  · exact .inr ⟨g, cap, cur, rfl, hg, (hk g rfl).trans hh, r⟩
/-- Two rows of the call's own, in blocks apart. -/
structure Two (w : World) (base : Nat) (e : TypeId) (size : Nat) (v u : Value) (n m : Nat) (xs ys : List Value) : Prop where
  a : w.ownsRow base e size v n xs
  b : w.ownsRow base e size u m ys
  apart : ∀ k, v.ownBlock = some k → u.ownBlock ≠ some k
theorem Two.swap {w : World} {base : Nat} {e : TypeId} {size : Nat} {v u : Value} {n m : Nat} {xs ys : List Value} (h : Two w base e size v u n m xs ys) : Two w base e size u v m n ys xs :=
  ⟨h.b, h.a, fun k h1 h2 => h.apart k h2 h1⟩
theorem Two.step {w w' : World} {base : Nat} {e : TypeId} {size : Nat} {v u : Value} {n m : Nat} {xs ys : List Value} (h : Two w base e size v u n m xs ys) (hb : Below w.heap.size w w') : Two w' base e size v u n m xs ys :=
  ⟨own_below h.a hb, own_below h.b hb, h.apart⟩
theorem wpList_append_two {P : Program} {ops : Array Oper} {rest : List Oper} {o : Oper} {a : Act} {Q : Exit → Act → World → Prop} {w0 : World} {us : List Value} {fr : Nat × Nat} {e : TypeId} {g : Nat} (hgd : o.guard = none) (s x : Operand) (t : TypeId)
    (ho : o.op = .call { callee := .builtin .append, args := #[s, x], argTypes := #[t, t] })
    (base : Nat) (z : Value) (size bytes : Nat) (ht : P.underlying t = some (.slice e)) (hi : (P.info? e).map (fun i => (i.zero, i.size, i.bytes)) = some (some z, size, bytes))
    (hzs : z.cells.size = size) (hsz : 0 < size) (v u : Value) (n m : Nat) (xs ys : List Value) (hs : a.eval s = v)
    (hx : a.eval x = .slice (some ⟨g, 0, none⟩) 1 1) (hg : g = w0.heap.size) (htwo : Two w0 base e size v u n m xs ys) (hbase : base ≤ w0.heap.size)
    (hl : us.length = size) (h1 : ∀ u ∈ us, u.oneCell' = true) (h63 : n + 1 ≤ maxLen) (hbytes : (n + 1) * bytes ≤ 140737488355328)
    (h : ∀ v' w', Two w' base e size v' u (n + 1) m (xs ++ us) ys → Below base w0 w' → w0.heap.size < w'.heap.size → (∀ k, k < w0.heap.size → v.ownBlock ≠ some k → w'.heap[k]? = w0.heap[k]?) → wpList P ops Q rest (a.put o.dst v') w') :
    wpList P ops Q (o :: rest) a (w0.alloc (.cells us.toArray e fr)) := by
  subst hg
  obtain ⟨i0, hi, hz0, hz1, hz2⟩ := info_parts hi
  have hr : Reads (w0.alloc (.cells us.toArray e fr)) (w0.alloc (.cells us.toArray e fr)).heap.size size (some ⟨w0.heap.size, 0, none⟩) 1 us := by
    refine ⟨by simp [hl], fun _ => ⟨_, rfl, by simp, fun j u hj => ?_⟩⟩
    have e1 : (⟨w0.heap.size, 0, none⟩ : Addr).add j = ⟨w0.heap.size, j, none⟩ := by unfold Addr.add; split <;> simp_all
    rw [e1]
    have : (w0.alloc (.cells us.toArray e fr)).heap[w0.heap.size]? = some (.cells us.toArray e fr) := heap_alloc_new w0 _
    unfold World.cell?
    simp only [this]
    simpa using hj
  refine wpList_append_any _ hgd s x t ho base e i0 z size bytes ht hi hz0 hz1 hz2 hzs hsz v n xs hs (htwo.a.alloc _) _ _ 1 1 us hx hr h1 h63 hbytes (by simp; omega) ?_
  intro v' w' hown' hgr hblk
  have hsz' := hgr.size
  simp at hsz'
  have hkeep : ∀ k, k < w0.heap.size → v.ownBlock ≠ some k → w'.heap[k]? = w0.heap[k]? := fun k hk hne => by
    rw [hgr.block k (by simp; omega) (fun he => hne he.symm)]
    exact Below.heap_alloc _ _ _ hk
  have hub : ∀ k, u.ownBlock = some k → k < w0.heap.size := fun k hk => by
    apply Classical.byContradiction
    intro hc
    exact own_block_lt htwo.b (k := k) (by omega) hk
  have hb : Below base w0 (w0.alloc (.cells us.toArray e fr)) := (Below.refl _ _).alloc hbase _
  refine h v' w' ⟨hown', own_same htwo.b (fun k hk => hkeep k (hub k hk) (fun hh => htwo.apart k hh hk)), fun k hk hu => ?_⟩ (hb.grown hgr (by simp; omega) ?_) (by omega) hkeep
  · rcases hblk with hh | hh
    · rw [hh] at hk
      exact htwo.apart k hk hu
    · rw [hh] at hk
      injection hk with hk
      have := hub k hu
      simp at hk
      omega
  · intro k hk
    rcases htwo.a.2 with ⟨rfl, _⟩ | ⟨g, cap, cur, rfl, hgb, _⟩
    · simp [Value.ownBlock] at hk
    · simp only [Value.ownBlock, Option.some.injEq] at hk
      omega

/-- A store at a place of a row of one-cell elements. -/
theorem own_set {w : World} {base : Nat} {e : TypeId} {n : Nat} {ad : Addr} {c : Nat} {xs : List Value} (h : w.ownsRow base e 1 (.slice (some ad) n c) n xs) (i : Nat) (u : Value) (_hi : i < n) : (w.setCell (ad.add i) u).ownsRow base e 1 (.slice (some ad) n c) n (xs.set i u) := by
  obtain ⟨h1, h2⟩ := h
  refine ⟨by rw [List.length_set]; exact h1, ?_⟩
  rcases h2 with ⟨hv, _⟩ | ⟨g, cap, cur, hv, hg, hh, hn, hc, hs, ht⟩
  · injection hv with h0; cases h0
  · injection hv with h0 _ h2
    injection h0 with h0
    subst h0 h2
    have e1 : (⟨g, 0, none⟩ : Addr).add i = ⟨g, i, none⟩ := by unfold Addr.add; split <;> simp_all
    rw [e1]
    have hb : Blk w g e cur := hh
    have := hb.set_ i u
    refine .inr ⟨g, c, cur.setIfInBounds i u, rfl, hg, this, hn, hc, by simpa using hs, ?_⟩
    rw [Array.toList_setIfInBounds, List.take_set, ht]
theorem own_frozen {w : World} {base : Nat} {e : TypeId} {n size : Nat} {ad : Addr} {c : Nat} {xs : List Value} (h : w.ownsRow base e size (.slice (some ad) n c) n xs) (i : Nat) : w.frozen? (ad.add i) = false := by
  rcases h.2 with ⟨hv, _⟩ | ⟨g, cap, cur, hv, hg, hh, hn, hc, hs, ht⟩
  · injection hv with h0; cases h0
  · injection hv with h0 _ h2
    injection h0 with h0
    subst h0
    have e1 : (⟨g, 0, none⟩ : Addr).add i = ⟨g, i, none⟩ := by unfold Addr.add; split <;> simp_all
    rw [e1]
    have hb : Blk w g e cur := hh
    exact hb.frozen i
theorem own_at {w : World} {base : Nat} {e : TypeId} {n : Nat} {v : Value} {l : List Int} (h : w.ownsRow base e 1 v n (l.map (Value.int .i64))) (hn : 0 < n) : ∃ ad c, v = .slice (some ad) n c ∧ base ≤ ad.block ∧ ad.block < w.heap.size ∧ ∀ i, i < n → w.cell? (ad.add i) = some (.int .i64 (l[i]?.getD 0)) := by
  obtain ⟨A, c, rfl, hc, hr, hbase⟩ := own_reads_at h
  obtain ⟨ad, rfl, hb, hcell⟩ := hr.2 hn
  refine ⟨ad, c, rfl, hbase ad rfl, hb, fun i hi => ?_⟩
  have hl := hr.1
  rw [List.length_map] at hl
  have hx : l[i]? = some (l[i]'(by omega)) := List.getElem?_eq_getElem _
  rw [hx, Option.getD_some]
  exact hcell i _ (by rw [List.getElem?_map, hx]; rfl)

end Go.Proofs.Ytnflaaoapmhjgaa

namespace Go.Proofs.Ytnflaaoapmhjgaa
open Go.ChangeShapes Go.WideShapes Go.ChangeAt Go.RowKit

theorem infoInt1 : (Try.prog.info? 3).map (fun i => (i.zero, i.size, i.bytes)) = some (some (.int .i64 0), 1, 8) := by kernel_rfl
theorem int_one (x : Int) : ∀ u ∈ [Value.int .i64 x], u.oneCell' = true := by intro u hu; simp at hu; subst hu; rfl
theorem sum_take {l : List ShareV} (h : ∀ s ∈ l, 1 ≤ s.weight ∧ s.weight ≤ 20) (k : Nat) (hk : k ≤ l.length) : 0 ≤ allW (l.take k) ∧ allW (l.take k) ≤ 20 * k := by
  have := allW_bounds (l := l.take k) fun s hs => h s (List.mem_of_mem_take hs)
  rw [List.length_take, Nat.min_eq_left hk] at this
  omega
theorem allW_take {l : List ShareV} {k : Nat} {s : ShareV} (h : l.take (k + 1) = l.take k ++ [s]) : allW (l.take (k + 1)) = allW (l.take k) + s.weight := by
  unfold allW
  rw [h, List.map_append, List.sum_append]
  simp
theorem own_low2 {w : World} {base base' : Nat} {e : TypeId} {size : Nat} {v : Value} {n : Nat} {xs : List Value} (h : w.ownsRow base e size v n xs) (hb : base' ≤ base) : w.ownsRow base' e size v n xs :=
  ⟨h.1, h.2.imp id fun ⟨g, cap, cur, h1, h2, h3⟩ => ⟨g, cap, cur, h1, Nat.le_trans hb h2, h3⟩⟩
theorem bestS_lt (a : List Int) (k : Nat) : bestS a k < k ∨ (k = 0 ∧ bestS a k = 0) := by
  rcases Nat.eq_zero_or_pos k with h | h
  · subst h; exact .inr ⟨rfl, rfl⟩
  · exact .inl (bestS_law a k h).1
theorem own_cells {w : World} {base : Nat} {e : TypeId} {n c : Nat} {ad : Addr} {l : List Int} (h : w.ownsRow base e 1 (.slice (some ad) n c) n (l.map (Value.int .i64))) (hn : 0 < n) : ad.block < w.heap.size ∧ (∀ i, i < n → w.cell? (ad.add i) = some (.int .i64 (l[i]?.getD 0))) := by
  obtain ⟨ad', c', hv, _, hb, hc⟩ := own_at h hn
  injection hv with h1
  injection h1 with h1
  subst h1
  exact ⟨hb, hc⟩
def PartsPost (w : World) (l : List ShareV) (many : Int) (e : Ending) (w' : World) : Prop :=
  ∃ v, e = .returned v ∧ w'.ownsRow w.heap.size 3 1 v l.length ((partsS l many).map (Value.int .i64)) ∧ Below w.heap.size w w'
theorem own_set2 {w : World} {base : Nat} {e : TypeId} {n m c c' : Nat} {ad ad' : Addr} {xs ys : List Value} (h : Two w base e 1 (.slice (some ad) n c) (.slice (some ad') m c') n m xs ys) (i : Nat) (u : Value) (hi : i < n) :
    Two (w.setCell (ad.add i) u) base e 1 (.slice (some ad) n c) (.slice (some ad') m c') n m (xs.set i u) ys := by
  refine ⟨own_set h.a i u hi, ownsRow_setCell_other h.b (fun he => h.apart _ ?_ he) u, h.apart⟩
  simp [Value.ownBlock, block_of_add]
theorem own_two2 {w : World} {base : Nat} {e : TypeId} {n m c c' : Nat} {ad ad' : Addr} {xs ys : List Value} (h : Two w base e 1 (.slice (some ad) n c) (.slice (some ad') m c') n m xs ys) (i : Nat) (u : Value) (hi : i < m) :
    Two (w.setCell (ad'.add i) u) base e 1 (.slice (some ad) n c) (.slice (some ad') m c') n m xs (ys.set i u) := (own_set2 h.swap i u hi).swap

set_option maxRecDepth 100000 in
set_option maxHeartbeats 3200000 in
theorem refParts_any {A : Option Addr} {n c : Nat} {l : List ShareV} {w : World} (h : IsShares w A n c l) (hok : SharesOk l) (many : Int) (hm : 1 ≤ many ∧ many ≤ 64) :
    Calls Try.prog 92 #[.slice A n c, .int .i64 many] w (PartsPost w l many) := by
  have HZ := Lib.hid h.1
  have HR := Lib.hid h.2.2
  have hnc := h.2.1.1
  have hcm := h.2.1.2
  unfold maxLen at hcm
  have hlen := hok.len
  rw [h.1] at hlen
  have HOK := Lib.hid hok
  have HEACH := Lib.hid (fun s hs => (hok.each s hs).2)
  obtain ⟨post, hpost⟩ : ∃ post, PartsPost w l many = post := ⟨_, rfl⟩
  have HPO := Lib.hid hpost
  rw [hpost]
  clear h hok hpost
  go_enter Try.func92, Try.ntmps92
  go_wp2
  go_loopw [18, 5, 7] (fun i s _ wr => ∃ k : Nat, k ≤ n ∧ i = .int .i64 k ∧ s = .int .i64 (allW (l.take k)) ∧ Below w.heap.size w wr) (fun i _ _ _ => n - (intOf i).toNat)
  case atStart => exact ⟨0, by omega, rfl, rfl, Below.refl _ _⟩
  case round =>
    obtain ⟨k, hk, rfl, rfl, hb⟩ := hrel
    obtain ⟨wo, rfl⟩ : ∃ wo : World, wo = wr := ⟨_, rfl⟩
    have hszb := hb.size
    by_cases hlt : k < n
    · obtain ⟨ad, ⟨hop, wt⟩, rfl, hlk, htk, hmem, hbk, hc0, hcj⟩ := HR.out.atS ShareV.cells_length HZ.out hlt
      have q0 := (hb.cell (p := ad.add (k * 2)) (by rw [block_of_add]; exact hbk)).trans (hc0 _ rfl)
      have q1 := (hb.cell (p := ⟨(ad.add (k * 2)).block, (ad.add (k * 2)).off + 1, none⟩) (by rw [block_of_add]; exact hbk)).trans (hcj 1 _ rfl)
      have hw := HEACH.out _ hmem
      simp only at hw
      have hs := sum_take HEACH.out k (by rw [HZ.out]; exact hk)
      have hS := allW_take htk
      obtain ⟨S, hSS⟩ : ∃ S, allW (l.take k) = S := ⟨_, rfl⟩
      rw [hSS] at hs hS ⊢
      have HS := Lib.hid hS
      have HB := Lib.hid hb
      clear hlk htk hmem hbk hc0 hcj hb hSS hS
      go_wp2
      go_roundw
      case rel => exact ⟨k + 1, by omega, by go_num, by rw [HS.out], HB.out.alloc hszb _⟩
      case measure => simp [intOf]; omega
    · obtain rfl : k = n := by omega
      have htl : l.take k = l := List.take_of_length_le (by rw [HZ.out]; omega)
      rw [htl]
      have hA := allW_bounds HEACH.out
      rw [HZ.out] at hA
      obtain ⟨S, hSS⟩ : ∃ S, allW l = S := ⟨_, rfl⟩
      rw [hSS] at hA ⊢
      have HSS := Lib.hid hSS
      have HB := Lib.hid hb
      have HR1 := Lib.hid ((HR.out.below hb).more hb.size)
      clear hb htl hSS
      go_wp2
      go_loopw [29, 8, 9, 10, 12, 13] (fun i v u s _ _ wr => ∃ j : Nat, j ≤ k ∧ i = .int .i64 j ∧ Two wr wo.heap.size 3 1 v u j j (((quoS l many).take j).map (Value.int .i64)) (((remS l many).take j).map (Value.int .i64)) ∧ s = .int .i64 ((quoS l many).take j).sum ∧ (0 ≤ ((quoS l many).take j).sum ∧ ((quoS l many).take j).sum ≤ 1280 * (j : Int)) ∧ Below wo.heap.size wo wr) (fun i _ _ _ _ _ _ => k - (intOf i).toNat)
      case atStart => exact ⟨0, by omega, rfl, ⟨World.ownsRow_nil _ _ _ _, World.ownsRow_nil _ _ _ _, fun k h => by simp [Value.ownBlock] at h⟩, rfl, ⟨by simp, by simp⟩, Below.refl _ _⟩
      case round =>
        obtain ⟨j, hj, rfl, htwo, rfl, hsr, hb⟩ := hrel
        obtain ⟨wi, rfl⟩ : ∃ wi : World, wi = wr := ⟨_, rfl⟩
        have hszi := hb.size
        by_cases hlt2 : j < k
        · obtain ⟨ad, ⟨hop, wt⟩, rfl, hlk, htk, hmem, hbk, hc0, hcj⟩ := HR1.out.atS ShareV.cells_length HZ.out hlt2
          have q0 := (hb.cell (p := ad.add (j * 2)) (by rw [block_of_add]; exact hbk)).trans (hc0 _ rfl)
          have q1 := (hb.cell (p := ⟨(ad.add (j * 2)).block, (ad.add (j * 2)).off + 1, none⟩) (by rw [block_of_add]; exact hbk)).trans (hcj 1 _ rfl)
          have hw := HEACH.out _ hmem
          simp only at hw
          obtain ⟨hq1, hq2⟩ := quo_nth (many := many) hlk
          rw [HSS.out] at hq1 hq2
          simp only at hq1 hq2
          obtain ⟨⟨g1, g2⟩, ⟨g3, g4⟩, g5, g6, g7⟩ := quo_range (A := S) (many := many) (w := wt) (by omega) hm hw
          obtain ⟨Q, hQ⟩ : ∃ Q, many * wt / S = Q := ⟨_, rfl⟩
          obtain ⟨SQ, hSQ⟩ : ∃ SQ, ((quoS l many).take j).sum = SQ := ⟨_, rfl⟩
          have hS2 : ((quoS l many).take (j + 1)).sum = SQ + Q := by rw [hq1, List.sum_append, hSQ, hQ]; simp
          rw [hQ] at hq1 g3 g4 g5 g6 g7
          rw [hSQ] at hsr ⊢
          have HQ1 := Lib.hid hq1
          have HQ2 := Lib.hid hq2
          have HS2 := Lib.hid hS2
          have HG7 := Lib.hid g7
          have HB := Lib.hid hb
          have HTW := Lib.hid htwo
          have hszw := (HB.out.size)
          clear hlk htk hmem hbk hc0 hcj hb hq1 hq2 hS2 hSQ g7 htwo
          have HX : Hid (Two (wi.alloc (.cells #[.int .i64 hop, .int .i64 wt] 154)) wo.heap.size 3 1 u8 u9 j j (((quoS l many).take j).map (Value.int .i64)) (((remS l many).take j).map (Value.int .i64))) := HTW.out.step ((Below.refl _ _).alloc (Nat.le_refl _) _)
          go_wp2_with (at_builtin; go_loud (refine wpList_append_two (us := [.int .i64 Q]) rfl _ _ 33 rfl wo.heap.size _ 1 8 Try.underlying33 infoInt1 rfl (by decide) _ _ _ _ _ _ rfl rfl ?a0 HX.out ?a1 rfl ?a2 ?a3 ?a4 ?_))
          (try case a0 => simp)
          case a1 => first | omega | (simp; omega)
          case a2 => first | exact int_one _ | rfl
          case a3 => unfold maxLen; omega
          case a4 => omega
          intro v8 w8 htw8 hb8 hz8 hk8
          try simp at hz8
          have hnb : ∀ g, u8.ownBlock = some g → g < wi.heap.size := fun g hg => by
            apply Classical.byContradiction
            intro hc
            exact own_block_lt HTW.out.a (k := g) (by omega) hg
          have hbx8 : w8.heap[wi.heap.size]? = (wi.alloc (.cells #[.int .i64 hop, .int .i64 wt] 154)).heap[wi.heap.size]? := hk8 _ (by simp) (fun he => by have := hnb _ he; omega)
          have kb8 : Blk w8 wi.heap.size 154 #[.int .i64 hop, .int .i64 wt] := hbx8.trans (Blk.new wi _ _)
          have c1 := kb8.cell 1
          simp at c1
          have hbk8 : Below wo.heap.size wo w8 := (HB.out.alloc HB.out.size _).trans hb8
          have HT8 := Lib.hid htw8.swap
          have HB8 := Lib.hid hbk8
          clear hnb hbx8 kb8 htw8 hb8 hk8 hbk8 HX
          go_wp2_with (at_builtin; go_loud (refine wpList_append_two (us := [.int .i64 (many * wt - Q * S)]) rfl _ _ 33 rfl wo.heap.size _ 1 8 Try.underlying33 infoInt1 rfl (by decide) _ _ _ _ _ _ rfl rfl ?b0 HT8.out ?b1 rfl ?b2 ?b3 ?b4 ?_))
          (try case b0 => simp)
          case b1 => first | exact HB8.out.size | omega | (simp; omega)
          case b2 => first | exact int_one _ | rfl
          case b3 => unfold maxLen; omega
          case b4 => omega
          intro v9 w9 htw9 hb9 hz9 hk9
          have HT9 := Lib.hid htw9.swap
          have HB9 := Lib.hid (HB8.out.trans hb9)
          clear htw9 hb9 hk9
          go_wp2
          go_roundw
          case rel =>
            refine ⟨j + 1, by omega, by go_num, ?_, by rw [HS2.out], ⟨by rw [HS2.out]; omega, by rw [HS2.out]; omega⟩, HB9.out⟩
            rw [HQ1.out, HQ2.out, ← HG7.out, List.map_append, List.map_append]
            first | exact HT9.out | (rw [List.map_take, List.map_take]; exact HT9.out)
          case measure => simp [intOf]; omega
        · obtain rfl : j = k := by omega
          have hql : (quoS l many).length = j := by unfold quoS; rw [List.length_map, HZ.out]
          have hrl : (remS l many).length = j := by unfold remS; rw [List.length_map, HZ.out]
          rw [List.take_of_length_le (by omega), List.take_of_length_le (by omega)] at htwo
          rw [List.take_of_length_le (by omega)] at hsr ⊢
          have hlb := left_bounds HOK.out many
          rw [HZ.out] at hlb
          obtain ⟨SQ, hSQ⟩ : ∃ SQ, (quoS l many).sum = SQ := ⟨_, rfl⟩
          obtain ⟨L, hL⟩ : ∃ L : Nat, leftS l many = (L : Int) := ⟨(leftS l many).toNat, by omega⟩
          have hLm : many = SQ + L := by unfold leftS at hL; rw [hSQ] at hL; omega
          have hPA : partsS l many = incs (quoS l many) (picks (remS l many) L) := by unfold partsS; rw [hL]; rfl
          rw [hL] at hlb
          rw [hSQ] at hsr ⊢
          obtain ⟨qs, hqs⟩ : ∃ qs, quoS l many = qs := ⟨_, rfl⟩
          obtain ⟨rs, hrs⟩ : ∃ rs, remS l many = rs := ⟨_, rfl⟩
          rw [hqs] at hql htwo hPA
          rw [hrs] at hrl htwo hPA
          have hqr : ∀ i : Nat, 0 ≤ qs[i]?.getD 0 ∧ qs[i]?.getD 0 ≤ 1280 := by
            intro i
            rw [← hqs]
            unfold quoS
            rw [List.getElem?_map]
            cases hx : l[i]? with
            | none => simp
            | some s =>
              have := (quo_range (A := allW l) (many := many) (w := s.weight) (by rw [HSS.out]; omega) hm (HEACH.out s (List.mem_of_getElem? hx))).2.1
              simpa using this
          have HQR := Lib.hid hqr
          have HPA := Lib.hid hPA
          have HTW := Lib.hid htwo
          have HBI := Lib.hid (HB.out.trans (hb.mono HB.out.size))
          have HQL := Lib.hid hql
          have HRL := Lib.hid hrl
          have hbs : w.heap.size ≤ wo.heap.size := HB.out.size
          clear hb htwo hql hrl hqr hPA hSQ hL hqs hrs HR1 HR
          obtain ⟨a8, c8, rfl, hb8a, -, -⟩ := own_at HTW.out.a (by omega)
          obtain ⟨a9, c9, rfl, hb9a, -, -⟩ := own_at HTW.out.b (by omega)
          have hne89 : ¬ a8.block = a9.block := fun e => HTW.out.apart a8.block rfl (by rw [e]; rfl)
          have HNE := Lib.hid hne89
          clear hne89
          go_wp2
          go_loopw [10, 14, 15] (fun s _ _ wr => ∃ t : Nat, t ≤ L ∧ s = .int .i64 (SQ + (t : Int)) ∧ Two wr wo.heap.size 3 1 (.slice (some a8) j c8) (.slice (some a9) j c9) j j ((incs qs (picks rs t)).map (Value.int .i64)) ((masks rs (picks rs t)).map (Value.int .i64)) ∧ Below w.heap.size w wr) (fun s _ _ _ => (many - intOf s).toNat)
          case atStart => exact ⟨0, by omega, by go_num, HTW.out, HBI.out⟩
          case round =>
            obtain ⟨t, ht, rfl, htwo, hb⟩ := hrel
            obtain ⟨wi2, rfl⟩ : ∃ wi2 : World, wi2 = wr := ⟨_, rfl⟩
            have HT2 := Lib.hid htwo
            have HB2 := Lib.hid hb
            by_cases hlt3 : t < L
            · obtain ⟨M, hM⟩ : ∃ M, masks rs (picks rs t) = M := ⟨_, rfl⟩
              obtain ⟨O, hO⟩ : ∃ O, incs qs (picks rs t) = O := ⟨_, rfl⟩
              have hML : M.length = j := by rw [← hM, masks_length, HRL.out]
              have hOr : ∀ i : Nat, 0 ≤ O[i]?.getD 0 ∧ O[i]?.getD 0 ≤ 1300 := fun i => by
                have h1 := incs_ge qs (picks rs t) i
                have h2 := HQR.out i
                rw [hO, picks_length] at h1
                omega
              have hP1 : picks rs (t + 1) = picks rs t ++ [bestS M j] := by show picks rs t ++ [bestS (masks rs (picks rs t)) rs.length] = _; rw [hM, HRL.out]
              have hO1 : incs qs (picks rs (t + 1)) = O.set (bestS M j) (O[bestS M j]?.getD 0 + 1) := by rw [hP1, incs_snoc, hO]
              have hM1 : masks rs (picks rs (t + 1)) = M.set (bestS M j) (-1) := by rw [hP1, masks_snoc, hM]
              rw [hM, hO] at HT2
              have HO1 := Lib.hid hO1
              have HM1 := Lib.hid hM1
              have HOR := Lib.hid hOr
              obtain ⟨z9, hc9⟩ := own_cells HT2.out.b (by omega)
              have HC9 := Lib.hid hc9
              have hs2 := hb.size
              clear htwo hM hO hML hOr hP1 hO1 hM1 hc9 hb
              go_wp2
              go_loopw [65, 14, 15] (fun i b _ wr => ∃ (q B : Nat), q ≤ j ∧ i = .int .i64 q ∧ b = .int .i64 B ∧ bestS M q = B ∧ Below wi2.heap.size wi2 wr) (fun i _ _ _ => j - (intOf i).toNat)
              case atStart => exact ⟨0, 0, by omega, rfl, rfl, rfl, Below.refl _ _⟩
              case round =>
                obtain ⟨q, B, hq, rfl, rfl, hB, hbq⟩ := hrel
                obtain ⟨wq, rfl⟩ : ∃ wq : World, wq = wr := ⟨_, rfl⟩
                have hBlt : B < j := by rcases bestS_lt M q with h | ⟨_, h⟩ <;> omega
                by_cases hlt4 : q < j
                · obtain ⟨x, hx⟩ : ∃ x, M[q]?.getD 0 = x := ⟨_, rfl⟩
                  obtain ⟨y, hy⟩ : ∃ y, M[B]?.getD 0 = y := ⟨_, rfl⟩
                  have y1 := (hbq.cell (p := a9.add q) (by rw [block_of_add]; exact z9)).trans (HC9.out q hlt4)
                  have y2 := (hbq.cell (p := a9.add B) (by rw [block_of_add]; exact z9)).trans (HC9.out B hBlt)
                  rw [hx] at y1
                  rw [hy] at y2
                  have hsucc := bestS_succ M q
                  rw [hB, hx, hy] at hsucc
                  have HSU := Lib.hid hsucc
                  have HBQ := Lib.hid hbq
                  have i1 : (0 : Int) ≤ (q : Int) := by omega
                  have i2 : (q : Int) < (j : Int) := by omega
                  have i3 : (0 : Int) ≤ (B : Int) := by omega
                  have i4 : (B : Int) < (j : Int) := by omega
                  clear hx hy hsucc hbq hB
                  by_cases hxy : y < x
                  · have d1 : decide (y < x) = true := by simpa using hxy
                    rw [if_pos hxy] at HSU
                    clear hxy
                    go_wp2_with fail
                    go_quiet (fail)
                    go_wp2
                    go_roundw
                    case rel => exact ⟨q + 1, q, by omega, by go_num, rfl, HSU.out, below_drewN HBQ.out _⟩
                    case measure => simp [intOf]; omega
                  · have d1 : decide (y < x) = false := by simpa using hxy
                    rw [if_neg hxy] at HSU
                    clear hxy
                    go_wp2_with fail
                    go_quiet (fail)
                    go_wp2
                    go_roundw
                    case rel => exact ⟨q + 1, B, by omega, by go_num, rfl, HSU.out, below_drewN HBQ.out _⟩
                    case measure => simp [intOf]; omega
                · obtain rfl : q = j := by omega
                  subst hB
                  have ht3 := HT2.out.step hbq
                  obtain ⟨z8, hc8⟩ := own_cells ht3.a (by omega)
                  obtain ⟨z9', hc9'⟩ := own_cells ht3.b (by omega)
                  have x1 := hc8 _ hBlt
                  have x2 := hc9' _ hBlt
                  have x3 := own_frozen ht3.a (bestS M q)
                  have x4 := own_frozen ht3.b (bestS M q)
                  have x5 : ¬ a9.add (bestS M q) = a8.add (bestS M q) := fun e => HNE.out (by have := congrArg Addr.block e; rw [block_of_add, block_of_add] at this; exact this.symm)
                  have x6 : ¬ a8.add (bestS M q) = a9.add (bestS M q) := fun e => x5 e.symm
                  have hor := HOR.out (bestS M q)
                  obtain ⟨B, hB⟩ : ∃ B, bestS M q = B := ⟨_, rfl⟩
                  obtain ⟨x, hx⟩ : ∃ x, O[B]?.getD 0 = x := ⟨_, rfl⟩
                  rw [hB] at x1 x2 x3 x4 x5 x6 hor HO1 HM1 hBlt ⊢
                  rw [hx] at x1 hor HO1
                  have HT3 := Lib.hid ht3
                  have HBQ := Lib.hid (HB2.out.trans (hbq.mono hs2))
                  have i3 : (0 : Int) ≤ (B : Int) := by omega
                  have i4 : (B : Int) < (q : Int) := by omega
                  clear hc8 hc9' hB hx ht3 hbq
                  go_wp2
                  go_roundw
                  case rel =>
                    refine ⟨t + 1, by omega, by go_num, ?_, (HBQ.out.setCell (by rw [block_of_add]; omega) _).setCell (by rw [block_of_add]; omega) _⟩
                    rw [HO1.out, HM1.out, List.map_set, List.map_set]
                    exact own_two2 (own_set2 HT3.out B _ hBlt) B _ hBlt
                  case measure => simp [intOf]; omega
            · obtain rfl : t = L := by omega
              go_wp2
              rw [← HPO.out]
              exact ⟨_, rfl, by rw [HZ.out, HPA.out]; exact own_low2 HT2.out.a hbs, hb⟩

end Go.Proofs.Ytnflaaoapmhjgaa

namespace Go.Proofs.Ytnflaaoapmhjgaa
open Go.ChangeShapes Go.WideShapes Go.ChangeAt Go.RowKit

theorem add_zero_off (g i : Nat) : (⟨g, 0, none⟩ : Addr).add i = ⟨g, i, none⟩ := by unfold Addr.add; split <;> simp_all
def rowN (L : List Nat) : List Value := (L.map fun x : Nat => (x : Int)).map (Value.int .i64)
theorem rowN_set (L : List Nat) (i x : Nat) : (rowN L).set i (.int .i64 x) = rowN (L.set i x) := by
  unfold rowN; rw [List.map_set, List.map_set]
theorem rowN_cell {w : World} {base : Nat} {e : TypeId} {n c : Nat} {ad : Addr} {L : List Nat} (h : w.ownsRow base e 1 (.slice (some ad) n c) n (rowN L)) (hn : 0 < n) {i x : Nat} (hi : L[i]? = some x) (hin : i < n) : w.cell? (ad.add i) = some (.int .i64 x) := by
  have := (own_cells h hn).2 i hin
  rw [List.getElem?_map, hi] at this
  exact this
/-- All blocks but one are as they were. -/
structure KeepG (g : Nat) (w w' : World) : Prop where
  os : w'.os = w.os
  tape : w'.tape = w.tape
  output : w'.output = w.output
  size : w.heap.size ≤ w'.heap.size
  block : ∀ k, k < w.heap.size → k ≠ g → w'.heap[k]? = w.heap[k]?
theorem KeepG.refl (g : Nat) (w : World) : KeepG g w w := ⟨rfl, rfl, rfl, Nat.le_refl _, fun _ _ _ => rfl⟩
theorem KeepG.below {g : Nat} {w w1 w2 : World} (h : KeepG g w w1) (hb : Below w1.heap.size w1 w2) : KeepG g w w2 :=
  ⟨hb.os.trans h.os, hb.tape.trans h.tape, hb.output.trans h.output, Nat.le_trans h.size hb.size, fun k hk hn => (hb.block k (by have := h.size; omega)).trans (h.block k hk hn)⟩
theorem KeepG.drewN {g : Nat} {w w1 : World} (h : KeepG g w w1) (d : Nat) : KeepG g w (w1.drewN d) := h.below (below_drewN (Below.refl _ _) d)
theorem KeepG.drew {g : Nat} {w w1 : World} (h : KeepG g w w1) : KeepG g w w1.drew := h.below (Below.refl _ _).drew
theorem KeepG.setCell {g : Nat} {w w1 : World} (h : KeepG g w w1) {p : Addr} (hp : p.block = g) (u : Value) : KeepG g w (w1.setCell p u) :=
  ⟨h.os, h.tape, h.output, by simp; exact h.size, fun k hk hn => (Below.heap_setCell _ _ _ _ (fun e => hn (by rw [e]; exact hp))).trans (h.block k hk hn)⟩
/-- What is asked of a comparison: it only reads, wherever no more than the row's block has changed. -/
def CmpQ (w : World) (g n : Nat) (cf : Nat → Nat → Int) (fid : FuncId) (caps : Array Value) : Prop :=
  ∀ W : World, KeepG g w W → ∀ x y : Nat, x < n → y < n → Calls Try.prog fid (#[.int .i64 x, .int .i64 y] ++ caps) W fun e w' => e = .returned (.int .i64 (cf x y)) ∧ ∃ d, w' = W.drewN d

set_option maxRecDepth 100000 in
set_option maxHeartbeats 3200000 in
theorem insort_any {w : World} {base g n cap : Nat} {a : List Int} {fid : FuncId} {caps : Array Value} (hent : ∀ (args : Array Value) (w : World), (callFunc fid args).run Try.prog w = .ok (.enter fid args) w) (ha : a.length = n) (hn : 1 ≤ n ∧ n ≤ 20)
    (hown : w.ownsRow base 3 1 (.slice (some ⟨g, 0, none⟩) n cap) n (rowN (List.range n))) {cf : Nat → Nat → Int} (hcf : ∀ x y, cf x y < 0 ↔ a[y]?.getD 0 < a[x]?.getD 0) (hcmp : CmpQ w g n cf fid caps) :
    Calls Try.prog 234 #[.slice (some ⟨g, 0, none⟩) n cap, .int .i64 0, .int .i64 n, .func (.func fid) #[] caps] w fun e w' => e = .returned (.tuple #[]) ∧ ∃ o, Ordered a o ∧ w'.ownsRow base 3 1 (.slice (some ⟨g, 0, none⟩) n cap) n (rowN o) ∧ KeepG g w w' := by
  have HC := Lib.hid hcmp
  have HCF := Lib.hid hcf
  have HO := Lib.hid hown
  have HA := Lib.hid ha
  have HN := Lib.hid hn
  have hr0 : List.range n = [0] ++ List.range' 1 (n - 1) := by
    obtain ⟨m, rfl⟩ : ∃ m, n = m + 1 := ⟨n - 1, by omega⟩
    rw [List.range_eq_range', Nat.add_sub_cancel]
    rfl
  have HR0 := Lib.hid hr0
  clear hown hcmp hcf ha hr0
  go_enter Try.func234, Try.ntmps234
  go_wp2
  go_loopw [8, 9] (fun iv _ wr => ∃ (i : Nat) (s : List Nat), 1 ≤ i ∧ i ≤ n ∧ iv = .int .i64 i ∧ SortedTo a s i ∧ wr.ownsRow base 3 1 (.slice (some ⟨g, 0, none⟩) n cap) n (rowN (s ++ List.range' i (n - i))) ∧ KeepG g w wr) (fun iv _ _ => n - (intOf iv).toNat)
  case atStart => exact ⟨1, [0], by omega, by omega, rfl, sortedTo_one a, by rw [← HR0.out]; exact HO.out, KeepG.refl _ _⟩
  case round =>
    obtain ⟨i, s, hi1, hin, rfl, hs, hown, hk⟩ := hrel
    obtain ⟨wo, rfl⟩ : ∃ wo : World, wo = wr := ⟨_, rfl⟩
    have HS := Lib.hid hs
    have HOW := Lib.hid hown
    have HK := Lib.hid hk
    clear hs hown hk
    by_cases hlt : i < n
    · have hrest : List.range' i (n - i) = i :: List.range' (i + 1) (n - (i + 1)) := by
        obtain ⟨m, hm⟩ : ∃ m, n - i = m + 1 := ⟨n - i - 1, by omega⟩
        rw [hm, show n - (i + 1) = m by omega]
        rfl
      obtain ⟨rest, hre⟩ : ∃ rest, List.range' (i + 1) (n - (i + 1)) = rest := ⟨_, rfl⟩
      rw [hre] at hrest
      have hst0 : s ++ List.range' i (n - i) = stL s i i rest := by
        unfold stL
        rw [hrest, List.take_of_length_le (by rw [HS.out.len]; exact Nat.le_refl _), List.drop_eq_nil_of_le (by rw [HS.out.len]; exact Nat.le_refl _)]
        rfl
      rw [hst0] at HOW
      have HRE := Lib.hid hre
      clear hrest hst0 hre
      go_wp2
      go_loopw [9] (fun jv wr => ∃ j : Nat, j ≤ i ∧ jv = .int .i64 j ∧ (∀ e ∈ s.drop j, a[e]?.getD 0 < a[i]?.getD 0) ∧ wr.ownsRow base 3 1 (.slice (some ⟨g, 0, none⟩) n cap) n (rowN (stL s j i rest)) ∧ KeepG g w wr) (fun jv _ => (intOf jv).toNat)
      case atStart => exact ⟨i, by omega, rfl, by rw [List.drop_eq_nil_of_le (by rw [HS.out.len]; exact Nat.le_refl _)]; simp, HOW.out, HK.out⟩
      case round =>
        obtain ⟨j, hji, rfl, hgt, hown, hk⟩ := hrel
        obtain ⟨wi, rfl⟩ : ∃ wi : World, wi = wr := ⟨_, rfl⟩
        have HGT := Lib.hid hgt
        have HOI := Lib.hid hown
        have HKI := Lib.hid hk
        clear hgt hown hk
        -- the end of the inner loop
        have hend : ∀ W : World, W.heap = wi.heap → KeepG g w W → (j = 0 ∨ ∃ (k e : Nat), j = k + 1 ∧ s[k]? = some e ∧ ¬ a[e]?.getD 0 < a[i]?.getD 0) → ∃ s', SortedTo a s' (i + 1) ∧ W.ownsRow base 3 1 (.slice (some ⟨g, 0, none⟩) n cap) n (rowN (s' ++ List.range' (i + 1) (n - (i + 1)))) ∧ KeepG g w W := by
          intro W hW hKW hstop
          refine ⟨_, ins_sorted HS.out HGT.out hstop, ?_, hKW⟩
          rw [HRE.out, List.append_assoc, List.cons_append]
          have := HOI.out
          unfold stL at this
          exact own_same this fun k _ => by rw [hW]
        have HEND := Lib.hid hend
        clear hend
        by_cases hj0 : j = 0
        · subst hj0
          have d0 : decide ((0 : Int) < ((0 : Nat) : Int)) = false := by simp
          go_wp2_with fail
          go_quiet (fail)
          go_wp2
          go_roundw
          case rel =>
            obtain ⟨s', h1, h2, h3⟩ := HEND.out _ (by rfl) (HKI.out.drewN _) (by simp)
            exact ⟨i + 1, s', by omega, by omega, by go_num, h1, h2, h3⟩
          case measure => simp [intOf]; omega
        · obtain ⟨jp, rfl⟩ : ∃ jp, j = jp + 1 := ⟨j - 1, by omega⟩
          have hjs : jp < s.length := by rw [HS.out.len]; omega
          obtain ⟨e, he⟩ : ∃ e, s[jp]? = some e := ⟨s[jp], List.getElem?_eq_getElem hjs⟩
          have hei : e < i := HS.out.lt e (List.mem_of_getElem? he)
          have c1 := rowN_cell HOI.out (by omega) (stL_at (by rw [HS.out.len]; exact hji)) (by omega : jp + 1 < n)
          have f1 := own_frozen HOI.out (jp + 1)
          have f2 := own_frozen HOI.out jp
          have c2 := rowN_cell HOI.out (by omega) ((stL_prev hjs).trans he) (by omega : jp < n)
          have CQ := Lib.hid (fun (d : Nat) => HC.out (wi.drewN d) (HKI.out.drewN d) i e (by omega) (by omega))
          have hcfi := HCF.out i e
          obtain ⟨r, hr⟩ : ∃ r, cf i e = r := ⟨_, rfl⟩
          rw [hr] at CQ hcfi
          clear hr
          have HE := Lib.hid he
          have i0 : (0 : Int) < (jp : Int) + 1 := by omega
          have d0 : decide ((0 : Int) < (jp : Int) + 1) = true := by first | (simp; done) | (simp; omega)
          have i1 : (0 : Int) ≤ (jp : Int) + 1 := by omega
          have i2 : (jp : Int) + 1 < (n : Int) := by omega
          have i3 : (0 : Int) ≤ (jp : Int) := by omega
          have i4 : (jp : Int) < (n : Int) := by omega
          have w1 : IntKind.i64.wrap ((jp : Int) + 1) = (jp : Int) + 1 := by rw [IntWalk.i64_in _ (by omega)]
          have w2 : IntKind.i64.wrap (jp : Int) = (jp : Int) := by rw [IntWalk.i64_in _ (by omega)]
          obtain ⟨jN, hjN⟩ : ∃ jN, jp + 1 = jN := ⟨_, rfl⟩
          have t1 : ((jp : Int) + 1).toNat = jN := by omega
          have HJN : Hid (jN = jp + 1) := hjN.symm
          have hne1 : ¬ jN = jp := by omega
          have hne2 : ¬ jp = jN := by omega
          rw [hjN] at c1 f1
          rw [add_zero_off] at c1 c2 f1 f2
          clear he hjN
          by_cases hlt2 : a[e]?.getD 0 < a[i]?.getD 0
          · have d1 : decide (r < 0) = true := by simpa using hcfi.2 hlt2
            have HLT := Lib.hid hlt2
            clear hcfi hlt2
            go_wp2_with fail
            go_quiet ((exact Calls.quiet_of (CQ.out _)))
            go_wp2_with fail
            go_region
            go_wp2
            go_roundw
            case rel =>
              have hj1 : jp < (stL s (jp + 1) i rest).length := by rw [stL_length]; omega
              refine ⟨jp, by omega, by go_num, fun e' he' => ?_, ?_, ((HKI.out.drewN _).setCell (p := ⟨g, jN, none⟩) rfl _).setCell (p := ⟨g, jp, none⟩) rfl _⟩
              · have hd : s.drop jp = e :: s.drop (jp + 1) := by
                  obtain ⟨h1, h2⟩ := List.getElem?_eq_some_iff.1 HE.out
                  rw [← h2]; exact List.drop_eq_getElem_cons h1
                rw [hd] at he'
                rcases List.mem_cons.1 he' with h | h
                · rw [h]; exact HLT.out
                · exact HGT.out e' h
              · have hb := fun d => own_set (own_set (own_below HOI.out (below_drewN (Below.refl _ _) d)) jN (.int .i64 e) (by omega)) jp (.int .i64 i) (by omega)
                simp only [rowN_set, add_zero_off, HJN.out, stL_swap HE.out] at hb
                rw [HJN.out]
                exact hb _
            case measure => simp [intOf]
          · have d1 : decide (r < 0) = false := by simp; omega
            have HLT := Lib.hid hlt2
            clear hcfi hlt2
            go_wp2_with fail
            go_quiet ((exact Calls.quiet_of (CQ.out _)))
            go_wp2
            go_roundw
            case rel =>
              obtain ⟨s', h1, h2, h3⟩ := HEND.out _ (by rfl) (HKI.out.drewN _) (.inr ⟨jp, e, rfl, HE.out, HLT.out⟩)
              exact ⟨i + 1, s', by omega, by omega, by go_num, h1, h2, h3⟩
            case measure => simp [intOf]; omega
    · obtain rfl : i = n := by omega
      rw [Nat.sub_self] at HOW
      have HOW2 : Hid (wo.ownsRow base 3 1 (.slice (some ⟨g, 0, none⟩) i cap) i (rowN s)) := by
        show World.ownsRow _ _ _ _ _ _ _
        have := HOW.out
        simpa using this
      clear HOW
      go_wp2
      refine bodyPost_end (results_none rfl _ _ _) rfl ?_
      exact ⟨rfl, s, sorted_ordered (by rw [HA.out]; exact HS.out), HOW2.out, HK.out⟩

end Go.Proofs.Ytnflaaoapmhjgaa

namespace Go.Proofs.Ytnflaaoapmhjgaa
open Go.ChangeShapes Go.WideShapes Go.ChangeAt Go.RowKit

def SortedPost (w : World) (base g n cap : Nat) (a : List Int) (e : Ending) (w' : World) : Prop :=
  e = .returned (.tuple #[]) ∧ ∃ o, Ordered a o ∧ w'.ownsRow base 3 1 (.slice (some ⟨g, 0, none⟩) n cap) n (rowN o) ∧ KeepG g w w'
set_option maxRecDepth 100000 in
set_option maxHeartbeats 800000 in
theorem stable_any {w : World} {base g n cap : Nat} {a : List Int} {fid : FuncId} {caps : Array Value} (hent : ∀ (args : Array Value) (w : World), (callFunc fid args).run Try.prog w = .ok (.enter fid args) w) (ha : a.length = n) (hn : 1 ≤ n ∧ n ≤ 19)
    (hown : w.ownsRow base 3 1 (.slice (some ⟨g, 0, none⟩) n cap) n (rowN (List.range n))) {cf : Nat → Nat → Int} (hcf : ∀ x y, cf x y < 0 ↔ a[y]?.getD 0 < a[x]?.getD 0) (hcmp : CmpQ w g n cf fid caps) :
    Calls Try.prog 198 #[.slice (some ⟨g, 0, none⟩) n cap, .int .i64 n, .func (.func fid) #[] caps] w (SortedPost w base g n cap a) := by
  have CI := Lib.hid (insort_any hent ha ⟨hn.1, by omega⟩ hown hcf hcmp)
  obtain ⟨post, hpost⟩ : ∃ post, SortedPost w base g n cap a = post := ⟨_, rfl⟩
  have HPO := Lib.hid hpost
  rw [hpost]
  have d1 : decide ((20 : Int) ≤ (n : Int)) = false := by simp; omega
  have d2 : decide ((20 : Int) < (n : Int)) = false := by simp; omega
  clear hent ha hown hcf hcmp hpost
  go_enter Try.func198, Try.ntmps198
  go_wp2
  go_loopw [7, 8] (fun a b wr => a = .int .i64 0 ∧ b = .int .i64 20 ∧ wr = w) (fun _ _ _ => 0)
  case atStart => exact ⟨rfl, rfl, rfl⟩
  case round =>
    obtain ⟨rfl, rfl, rfl⟩ := hrel
    go_wp2_with fail
    refine CI.out.mono ?_
    intro e w1 h1
    have HE : Hid (SortedPost wr base g n cap a e w1) := h1
    obtain ⟨he, -⟩ := h1
    subst he
    go_wp2
    go_loopw [6] (fun s wr' => s = .int .i64 20 ∧ wr' = w1) (fun _ _ => 0)
    case atStart => exact ⟨rfl, rfl⟩
    case round =>
      obtain ⟨rfl, rfl⟩ := hrel
      go_wp2
      refine bodyPost_end (results_none rfl _ _ _) rfl ?_
      rw [← HPO.out]
      exact HE.out
set_option maxRecDepth 100000 in
set_option maxHeartbeats 800000 in
theorem sortStable_any {w : World} {base g n cap : Nat} {a : List Int} {fid : FuncId} {caps : Array Value} (hent : ∀ (args : Array Value) (w : World), (callFunc fid args).run Try.prog w = .ok (.enter fid args) w) (ha : a.length = n) (hn : 1 ≤ n ∧ n ≤ 19)
    (hown : w.ownsRow base 3 1 (.slice (some ⟨g, 0, none⟩) n cap) n (rowN (List.range n))) {cf : Nat → Nat → Int} (hcf : ∀ x y, cf x y < 0 ↔ a[y]?.getD 0 < a[x]?.getD 0) (hcmp : CmpQ w g n cf fid caps) :
    Calls Try.prog 156 #[.slice (some ⟨g, 0, none⟩) n cap, .func (.func fid) #[] caps] w (SortedPost w base g n cap a) := by
  have CI := Lib.hid (stable_any hent ha hn hown hcf hcmp)
  obtain ⟨post, hpost⟩ : ∃ post, SortedPost w base g n cap a = post := ⟨_, rfl⟩
  have HPO := Lib.hid hpost
  rw [hpost]
  clear hent ha hown hcf hcmp hpost
  go_enter Try.func156, Try.ntmps156
  go_wp2_with fail
  refine CI.out.mono ?_
  intro e w1 h1
  have HE : Hid (SortedPost w base g n cap a e w1) := h1
  obtain ⟨he, -⟩ := h1
  subst he
  go_wp2
  refine bodyPost_end (results_none rfl _ _ _) rfl ?_
  rw [← HPO.out]
  exact HE.out

end Go.Proofs.Ytnflaaoapmhjgaa

namespace Go.Proofs.Ytnflaaoapmhjgaa
open Go.ChangeShapes Go.WideShapes Go.ChangeAt Go.RowKit

theorem firstF_zeroS {α : Type} {f : α → Int} : ∀ {l : List α}, firstF f l = 0 → ∀ x ∈ l, f x = 0
  | [], _, x, hx => by simp at hx
  | y :: l, h, x, hx => by
    unfold firstF at h
    by_cases hy : f y = 0
    · rw [if_pos hy] at h
      rcases List.mem_cons.1 hx with rfl | hx
      · exact hy
      · exact firstF_zeroS h x hx
    · rw [if_neg hy] at h
      exact absurd h hy
theorem sharesOk_of {l : List ShareV} (h : sharesF l = 0) : SharesOk l := by
  unfold sharesF at h
  by_cases hn : l.length < 1 ∨ 16 < l.length
  · rw [if_pos hn] at h; cases h
  rw [if_neg hn] at h
  refine ⟨by omega, fun s hs => ?_⟩
  obtain ⟨i, hi, e⟩ := List.mem_iff_getElem.1 hs
  have h0 := firstF_zeroS h i (List.mem_range.2 hi)
  unfold shareAt at h0
  rw [List.getElem?_eq_getElem hi, e] at h0
  simp only at h0
  unfold shareF at h0
  by_cases hb : s.hop < 1 ∨ 999 < s.hop ∨ s.weight < 1 ∨ 20 < s.weight
  · rw [if_pos hb] at h0; cases h0
  · omega

def hopN (l : List ShareV) (i : Nat) : Int := (l[i]?.map ShareV.hop).getD 0
/-- The buckets: of each share so many. -/
def dealTo (l : List ShareV) (ps : List Int) (k : Nat) : List Int := (List.range k).flatMap fun i => List.replicate (ps[i]?.getD 0).toNat (hopN l i)
theorem dealTo_succ (l : List ShareV) (ps : List Int) (k : Nat) : dealTo l ps (k + 1) = dealTo l ps k ++ List.replicate (ps[k]?.getD 0).toNat (hopN l k) := by
  unfold dealTo; rw [List.range_succ, List.flatMap_append]; simp
theorem dealTo_len {l : List ShareV} {ps : List Int} (h : ∀ i : Nat, ps[i]?.getD 0 ≤ 1300) : ∀ k, (dealTo l ps k).length ≤ 1300 * k
  | 0 => by simp [dealTo]
  | k + 1 => by
    rw [dealTo_succ, List.length_append, List.length_replicate]
    have := dealTo_len (l := l) h k
    have := h k
    omega
theorem parts_range {l : List ShareV} {many : Int} (h : SharesOk l) (hm : 1 ≤ many ∧ many ≤ 64) (i : Nat) : 0 ≤ (partsS l many)[i]?.getD 0 ∧ (partsS l many)[i]?.getD 0 ≤ 1300 := by
  have hb := left_bounds h many
  have h1 := h.len
  have hA := allW_bounds fun s hs => (h.each s hs).2
  have hq : 0 ≤ (quoS l many)[i]?.getD 0 ∧ (quoS l many)[i]?.getD 0 ≤ 1280 := by
    unfold quoS
    rw [List.getElem?_map]
    cases hx : l[i]? with
    | none => simp
    | some s =>
      have := (quo_range (A := allW l) (many := many) (w := s.weight) (by omega) hm (h.each s (List.mem_of_getElem? hx)).2).2.1
      simpa using this
  have := incs_ge (quoS l many) (picks (remS l many) (leftS l many).toNat) i
  rw [picks_length] at this
  unfold partsS
  omega
theorem parts_length (l : List ShareV) (many : Int) : (partsS l many).length = l.length := by
  unfold partsS quoS; rw [incs_length, List.length_map]

def dealE (l : List ShareV) (many : Int) : Int := if ¬ sharesF l = 0 then sharesF l else if many < 1 ∨ 64 < many then 2 else 0
def dealL (l : List ShareV) (many : Int) : List Int := if ¬ sharesF l = 0 then [] else if many < 1 ∨ 64 < many then [] else dealTo l (partsS l many) l.length
/-- A row of numbers, and a code. -/
def RetInts (w : World) (L : List Int) (E : Int) (e : Ending) (w' : World) : Prop :=
  ∃ v, e = .returned (.tuple #[v, .int .i64 E]) ∧ w'.ownsRow w.heap.size 3 1 v L.length (L.map (Value.int .i64)) ∧ Below w.heap.size w w'
theorem retInts_nil {w w' : World} {E : Int} (hb : Below w.heap.size w w') : RetInts w [] E (.returned (.tuple #[.slice none 0 0, .int .i64 E])) w' := ⟨_, rfl, World.ownsRow_nil _ _ _ _, hb⟩

set_option maxRecDepth 100000 in
set_option maxHeartbeats 3200000 in
theorem refDeal_is {A : Option Addr} {n c : Nat} {l : List ShareV} {w : World} (h : IsShares w A n c l) (many : Int) :
    Calls Try.prog 38 #[.slice A n c, .int .i64 many] w (RetInts w (dealL l many) (dealE l many)) := by
  obtain ⟨post, hpost⟩ : ∃ post, RetInts w (dealL l many) (dealE l many) = post := ⟨_, rfl⟩
  have HPO := Lib.hid hpost
  rw [hpost]
  have CF := Lib.hid (sharesFault_is h)
  have HS := Lib.hid h
  have hnc := h.2.1.1
  have hcm := h.2.1.2
  unfold maxLen at hcm
  clear hpost
  by_cases hz : sharesF l = 0
  · rw [hz] at CF
    have hok := sharesOk_of hz
    by_cases hm : many < 1 ∨ 64 < many
    · have hE : dealE l many = 2 := by unfold dealE; rw [if_neg (by simpa using hz), if_pos hm]
      have hL : dealL l many = [] := by unfold dealL; rw [if_neg (by simpa using hz), if_pos hm]
      rw [hE, hL] at HPO
      clear hE hL hz hok h
      by_cases h1 : many < 1
      · have d1 : decide (many < 1) = true := by simpa using h1
        clear hm h1
        go_enter Try.func38, Try.ntmps38
        go_wp2_with fail
        refine CF.out.mono ?_
        rintro e w1 ⟨rfl, hb⟩
        go_wp2
        rw [← HPO.out]
        exact retInts_nil hb
      · have d1 : decide (many < 1) = false := by simpa using h1
        have d2 : decide (64 < many) = true := by simp; omega
        clear hm h1
        go_enter Try.func38, Try.ntmps38
        go_wp2_with fail
        refine CF.out.mono ?_
        rintro e w1 ⟨rfl, hb⟩
        go_wp2
        rw [← HPO.out]
        exact retInts_nil hb
    · have hE : dealE l many = 0 := by unfold dealE; rw [if_neg (by simpa using hz), if_neg hm]
      have hL : dealL l many = dealTo l (partsS l many) n := by unfold dealL; rw [if_neg (by simpa using hz), if_neg hm, h.1]
      rw [hE, hL] at HPO
      have hm2 : 1 ≤ many ∧ many ≤ 64 := by omega
      have d1 : decide (many < 1) = false := by simp; omega
      have d2 : decide (64 < many) = false := by simp; omega
      have hpr := parts_range (many := many) hok hm2
      have hpl := parts_length l many
      rw [h.1] at hpl
      have hn := hok.len
      rw [h.1] at hn
      have CP := Lib.hid (fun (Y : World) (hb : Below w.heap.size w Y) => refParts_any (h.below hb) hok many hm2)
      obtain ⟨ps, hps⟩ : ∃ ps, partsS l many = ps := ⟨_, rfl⟩
      unfold PartsPost at CP
      rw [hps] at hpr hpl HPO CP
      rw [h.1] at CP
      have HPR := Lib.hid hpr
      have HPL := Lib.hid hpl
      clear hE hL hz hok h hm hpr hpl hps
      go_enter Try.func38, Try.ntmps38
      go_wp2_with fail
      refine CF.out.mono ?_
      rintro e w1 ⟨rfl, hb1⟩
      have HB1 := Lib.hid hb1
      clear hb1
      go_wp2_with fail
      refine (CP.out _ HB1.out).mono ?_
      rintro e w2 ⟨v, rfl, hown, hb2⟩
      obtain ⟨ap, cp, rfl, -, hap, hcp⟩ := own_at hown (by omega)
      have HB2 := Lib.hid (below_step HB1.out hb2)
      have HCP := Lib.hid hcp
      have HR := Lib.hid (((HS.out.2.2.below HB2.out).more HB2.out.size))
      have HZ := Lib.hid HS.out.1
      clear hown hb2 hcp
      go_wp2
      go_loopw [25, 7, 8, 9] (fun i v _ _ wr => ∃ k : Nat, k ≤ n ∧ i = .int .i64 k ∧ wr.ownsRow w2.heap.size 3 1 v (dealTo l ps k).length ((dealTo l ps k).map (Value.int .i64)) ∧ Below w2.heap.size w2 wr) (fun i _ _ _ _ => n - (intOf i).toNat)
      case atStart => exact ⟨0, by omega, rfl, World.ownsRow_nil _ _ _ _, Below.refl _ _⟩
      case round =>
        obtain ⟨k, hk, rfl, hown, hb⟩ := hrel
        obtain ⟨wo, rfl⟩ : ∃ wo : World, wo = wr := ⟨_, rfl⟩
        have HO := Lib.hid hown
        have HB := Lib.hid hb
        by_cases hlt : k < n
        · have i1 : (0 : Int) ≤ (k : Int) := by omega
          have i2 : (k : Int) < (n : Int) := by omega
          have y1 := (hb.cell (p := ap.add k) (by rw [block_of_add]; exact hap)).trans (HCP.out k hlt)
          obtain ⟨N, hN⟩ : ∃ N : Nat, ps[k]?.getD 0 = (N : Int) := ⟨(ps[k]?.getD 0).toNat, by have := (HPR.out k).1; omega⟩
          have hN2 : N ≤ 1300 := by have := (HPR.out k).2; omega
          have hsucc := dealTo_succ l ps k
          rw [hN] at y1 hsucc
          have hlk : (dealTo l ps k).length ≤ 1300 * k := dealTo_len (fun i => (HPR.out i).2) k
          obtain ⟨H, hH⟩ : ∃ H, hopN l k = H := ⟨_, rfl⟩
          rw [hH] at hsucc
          obtain ⟨D, hD⟩ : ∃ D, dealTo l ps k = D := ⟨_, rfl⟩
          rw [hD] at hsucc HO hlk
          have HSU := Lib.hid hsucc
          have HH := Lib.hid hH
          clear hown hb hN hsucc hH hD
          go_wp2
          go_loopw [7, 9] (fun v s wr => ∃ t : Nat, t ≤ N ∧ s = .int .i64 ((N : Int) - (t : Int)) ∧ wr.ownsRow w2.heap.size 3 1 v (D ++ List.replicate t H).length ((D ++ List.replicate t H).map (Value.int .i64)) ∧ Below w2.heap.size w2 wr) (fun _ s _ => (intOf s).toNat)
          case atStart => exact ⟨0, by omega, by go_num, by simpa using HO.out, HB.out⟩
          case round =>
            obtain ⟨t, ht, rfl, hown, hb⟩ := hrel
            obtain ⟨wi, rfl⟩ : ∃ wi : World, wi = wr := ⟨_, rfl⟩
            have HOI := Lib.hid hown
            have HBI := Lib.hid hb
            have hszi := hb.size
            by_cases hlt2 : t < N
            · have d3 : decide ((0 : Int) < (N : Int) - (t : Int)) = true := by simp; omega
              obtain ⟨ad, ⟨hop, wt⟩, rfl, hlk2, -, -, hbk, hc0, hcj⟩ := HR.out.atS ShareV.cells_length HZ.out hlt
              have q0 := (hb.cell (p := ad.add (k * 2)) (by rw [block_of_add]; exact hbk)).trans (hc0 _ rfl)
              have hhop : hop = H := by rw [← HH.out]; unfold hopN; rw [hlk2]; rfl
              subst hhop
              have hlen : (D ++ List.replicate t hop).length = D.length + t := by simp
              rw [hlen] at HOI
              clear hown hb hlk2 hbk hc0 hcj hlen
              go_wp2_with (at_builtin; go_loud (refine wpList_append_oneN (us := [.int .i64 hop]) rfl _ _ 33 rfl w2.heap.size _ 1 8 Try.underlying33 infoInt1 rfl (by decide) _ _ _ rfl rfl rfl HOI.out ?c1 rfl ?c4 ?c2 ?c3 ?_))
              (try case c1 => first | exact hszi | omega)
              case c2 => unfold maxLen; omega
              case c3 => omega
              case c4 => first | exact int_one _ | rfl
              intro v9 w9 hown9 hb9 hs9 hk9
              have HO9 := Lib.hid hown9
              have HB9 := Lib.hid (HBI.out.trans hb9)
              clear hown9 hb9 hk9
              go_wp2
              go_roundw
              case rel =>
                refine ⟨t + 1, by omega, by go_num, ?_, HB9.out⟩
                have e : D ++ List.replicate (t + 1) hop = (D ++ List.replicate t hop) ++ [hop] := by rw [List.replicate_succ', List.append_assoc]
                rw [e, List.map_append, List.length_append, List.length_append, List.length_replicate]
                first | exact HO9.out | (rw [List.map_append, List.map_replicate, List.append_assoc]; exact HO9.out)
              case measure => simp [intOf]; omega
            · obtain rfl : t = N := by omega
              go_wp2
              go_roundw
              case rel => exact ⟨k + 1, by omega, by go_num, by rw [HSU.out]; simpa using HOI.out, HBI.out⟩
              case measure => simp [intOf]; omega
        · obtain rfl : k = n := by omega
          go_wp2
          rw [← HPO.out]
          exact ⟨_, rfl, own_low2 HO.out HB2.out.size, below_step HB2.out HB.out⟩
  · have hE : dealE l many = sharesF l := by unfold dealE; rw [if_pos hz]
    have hL : dealL l many = [] := by unfold dealL; rw [if_pos hz]
    rw [hE, hL] at HPO
    obtain ⟨E, hEE⟩ : ∃ E, sharesF l = E := ⟨_, rfl⟩
    rw [hEE] at CF hz HPO
    have d1 : (E != 0) = true := by simpa using hz
    clear hE hL hEE hz h
    go_enter Try.func38, Try.ntmps38
    go_wp2_with fail
    refine CF.out.mono ?_
    rintro e w1 ⟨rfl, hb⟩
    go_wp2
    rw [← HPO.out]
    exact retInts_nil hb

end Go.Proofs.Ytnflaaoapmhjgaa

namespace Go.Proofs.Ytnflaaoapmhjgaa
open Go.ChangeShapes Go.WideShapes Go.ChangeAt Go.RowKit

theorem rem_at {l : List ShareV} {many : Int} {i : Nat} {s : ShareV} (h : l[i]? = some s) : (remS l many)[i]?.getD 0 = many * s.weight % allW l := by
  unfold remS; rw [List.getElem?_map, h]; rfl
def remN (l : List ShareV) (many : Int) (i : Nat) : Int := (remS l many)[i]?.getD 0
/-- What the closures read. -/
structure PartsAt (w : World) (b2 b3 b5 : Nat) (A : Option Addr) (n c : Nat) (l : List ShareV) (many : Int) : Prop where
  c3 : w.cell? ⟨b3, 0, none⟩ = some (.int .i64 many)
  c2 : w.cell? ⟨b2, 0, none⟩ = some (.slice A n c)
  c5 : w.cell? ⟨b5, 0, none⟩ = some (.int .i64 (allW l))
  r : ∃ B, Reads w B 2 A n (l.flatMap ShareV.cells)
theorem PartsAt.drewN {w : World} {b2 b3 b5 : Nat} {A : Option Addr} {n c : Nat} {l : List ShareV} {many : Int} (h : PartsAt w b2 b3 b5 A n c l many) (d : Nat) : PartsAt (w.drewN d) b2 b3 b5 A n c l many := ⟨h.c3, h.c2, h.c5, h.r⟩

set_option maxRecDepth 100000 in
set_option maxHeartbeats 800000 in
theorem away_any {w : World} {b2 b3 b5 : Nat} {A : Option Addr} {n c : Nat} {l : List ShareV} {many : Int} (h : PartsAt w b2 b3 b5 A n c l many) (hz : l.length = n) (hok : SharesOk l) (hm : 1 ≤ many ∧ many ≤ 64) (i : Nat) (hi : i < n) :
    Calls Try.prog 155 #[.int .i64 i, .pointer (some ⟨b3, 0, none⟩), .pointer (some ⟨b2, 0, none⟩), .pointer (some ⟨b5, 0, none⟩)] w fun e w' => e = .returned (.int .i64 (remN l many i)) ∧ ∃ d, w' = w.drewN d := by
  unfold remN
  obtain ⟨c3, c2, c5, B, hr⟩ := h
  obtain ⟨ad, ⟨hop, wt⟩, rfl, hlk, -, hmem, -, hc0, hcj⟩ := hr.atS ShareV.cells_length hz hi
  have q0 := hc0 _ rfl
  have q1 := hcj 1 _ rfl
  have hn := hok.len
  rw [hz] at hn
  have hA := allW_bounds fun s hs => (hok.each s hs).2
  rw [hz] at hA
  have hw := (hok.each _ hmem).2
  simp only at hw
  rw [rem_at hlk]
  simp only
  obtain ⟨S, hS⟩ : ∃ S, allW l = S := ⟨_, rfl⟩
  rw [hS] at c5 hA ⊢
  obtain ⟨⟨g1, g2⟩, -, -, -, -⟩ := quo_range (A := S) (many := many) (w := wt) (by omega) hm hw
  have hmod : Int.tmod (many * wt) S = many * wt % S := Int.tmod_eq_emod_of_nonneg g1
  obtain ⟨R, hR⟩ : ∃ R, many * wt % S = R := ⟨_, rfl⟩
  have hmul : IntKind.i64.wrap (many * wt) = many * wt := by rw [IntWalk.i64_in _ (by omega)]
  have hR0 : 0 ≤ R ∧ R ≤ 1280 := by
    rw [← hR]
    have h1 := Int.emod_nonneg (many * wt) (b := S) (by omega)
    have h2 := Int.emod_lt_of_pos (many * wt) (b := S) (by omega)
    omega
  rw [hR] at hmod ⊢
  have hwr : IntKind.i64.wrap R = R := by rw [IntWalk.i64_in _ (by omega)]
  have hSne : (S == 0) = false := by simp; omega
  have hSne2 : ¬ S = 0 := by omega
  have i1 : (0 : Int) ≤ (i : Int) := by omega
  have i2 : (i : Int) < (n : Int) := by omega
  clear hr hlk hmem hc0 hcj hS hR hok hz
  go_enter Try.func155, Try.ntmps155
  go_wp2_with fail
  go_quiet (fail)
  go_wp2
  go_ret
  exact ⟨rfl, _, rfl⟩

theorem awayEnters (args : Array Value) (w : World) : (callFunc 155 args).run Try.prog w = .ok (.enter 155 args) w := by kernel_rfl
theorem orderEnters (args : Array Value) (w : World) : (callFunc 157 args).run Try.prog w = .ok (.enter 157 args) w := by kernel_rfl
def cfS (l : List ShareV) (many : Int) (x y : Nat) : Int := Lib.compareInt (remN l many y) (remN l many x)
theorem cfS_lt (l : List ShareV) (many : Int) (x y : Nat) : cfS l many x y < 0 ↔ (remS l many)[y]?.getD 0 < (remS l many)[x]?.getD 0 := by
  show Lib.compareInt ((remS l many)[y]?.getD 0) ((remS l many)[x]?.getD 0) < 0 ↔ _
  generalize (remS l many)[y]?.getD 0 = p
  generalize (remS l many)[x]?.getD 0 = q
  unfold Lib.compareInt
  split
  · rename_i h; simp; omega
  · split
    · simp; omega
    · simp; omega

set_option maxRecDepth 100000 in
set_option maxHeartbeats 800000 in
theorem order2_any {w : World} {b2 b3 b5 b13 : Nat} {A : Option Addr} {n c : Nat} {l : List ShareV} {many : Int} (h : PartsAt w b2 b3 b5 A n c l many) (h13 : w.cell? ⟨b13, 0, none⟩ = some (.func (.func 155) #[] #[.pointer (some ⟨b3, 0, none⟩), .pointer (some ⟨b2, 0, none⟩), .pointer (some ⟨b5, 0, none⟩)])) (hz : l.length = n) (hok : SharesOk l) (hm : 1 ≤ many ∧ many ≤ 64) (x y : Nat) (hx : x < n) (hy : y < n) :
    Calls Try.prog 157 #[.int .i64 x, .int .i64 y, .pointer (some ⟨b13, 0, none⟩)] w fun e w' => e = .returned (.int .i64 (cfS l many x y)) ∧ ∃ d, w' = w.drewN d := by
  have C1 := Lib.hid (fun d i hi => away_any (h.drewN d) hz hok hm i hi)
  have CC := Lib.hid Try.cmp_Compare_int
  unfold cfS
  obtain ⟨rx, hrx⟩ : ∃ r : Nat → Int, remN l many = r := ⟨_, rfl⟩
  rw [hrx] at C1 ⊢
  have hent := awayEnters
  clear h hz hok hrx
  go_enter Try.func157, Try.ntmps157
  go_wp2_with fail
  go_quiet ((first | (go_at_call 155; exact Calls.quiet_of (C1.out _ _ (by assumption))) | (go_at_call 103; exact Calls.quiet_of_same (CC.out _ _ _))))
  go_wp2
  go_ret
  exact ⟨rfl, _, rfl⟩

end Go.Proofs.Ytnflaaoapmhjgaa

namespace Go.Proofs.Ytnflaaoapmhjgaa
open Go.ChangeShapes Go.WideShapes Go.ChangeAt Go.RowKit

theorem own_of_blk {w : World} {base g n : Nat} {cs : Array Value} {e : TypeId} (h : Blk w g e cs) (hs : cs.size = n) (hb : base ≤ g) (hm : n ≤ maxLen) : w.ownsRow base e 1 (.slice (some ⟨g, 0, none⟩) n n) n cs.toList :=
  ⟨by simp [hs], .inr ⟨g, n, cs, rfl, hb, h, Nat.le_refl _, hm, by omega, by rw [List.take_of_length_le (by simp [hs])]⟩⟩
theorem own_val {w : World} {base : Nat} {e : TypeId} {n c : Nat} {ad : Addr} {xs : List Value} (h : w.ownsRow base e 1 (.slice (some ad) n c) n xs) {i : Nat} (hi : i < n) : ∃ u, xs[i]? = some u ∧ w.cell? (ad.add i) = some u := by
  obtain ⟨ad', u, h1, _, h3, h4⟩ := (Reads.of_own h).at_ hi
  injection h1 with h1
  subst h1
  exact ⟨u, h3, h4⟩
theorem take_set_snoc {α : Type} {l : List α} {k : Nat} {x : α} (hk : k < l.length) : (l.set k x).take (k + 1) = l.take k ++ [x] := by
  rw [List.take_add_one, List.take_set_of_le (Nat.le_refl _), List.getElem?_set_self hk]
  rfl
def zerosA (n : Nat) : Array Value := madeCells #[.int .i64 0] (n * 1)
theorem zerosA_size (n : Nat) : (zerosA n).size = n := by unfold zerosA; rw [size_madeCells]; omega
theorem made_ints (n : Nat) (hn : n ≤ 100000) (w : World) : (Instr.makeSlice 33 (.int .i64 n) (.int .i64 n)).run Try.prog w = .ok (.slice (some ⟨w.heap.size, 0, none⟩) n n) (w.alloc (.cells (zerosA n) 3)) := by
  obtain ⟨i0, hi, hz0, hz1, hz2⟩ := info_parts infoInt1
  have := run_make (P := Try.prog) w 33 3 i0 _ Try.underlying33 hi hz0 .i64 .i64 n n (by omega) (Int.le_refl _) (by rw [hz2]; omega) (by omega)
  rw [this, hz1]
  rfl

theorem two_made {w : World} {n : Nat} {Z : Array Value} (hz : Z.size = n) (hn : n ≤ maxLen) : Two ((w.alloc (.cells Z 3)).alloc (.cells Z 3)) w.heap.size 3 1 (.slice (some ⟨w.heap.size, 0, none⟩) n n) (.slice (some ⟨w.heap.size + 1, 0, none⟩) n n) n n Z.toList Z.toList := by
  refine ⟨own_of_blk ((Blk.new _ _ _).alloc _) hz (Nat.le_refl _) hn, own_of_blk ?_ hz (by omega) hn, fun k h1 h2 => ?_⟩
  · have := Blk.new (w.alloc (.cells Z 3)) 3 Z
    rwa [World.size_alloc] at this
  · simp [Value.ownBlock] at h1 h2; omega
theorem Two.heap {w w' : World} {base : Nat} {e : TypeId} {size : Nat} {v u : Value} {n m : Nat} {xs ys : List Value} (h : Two w base e size v u n m xs ys) (hh : w'.heap = w.heap) : Two w' base e size v u n m xs ys :=
  ⟨own_same h.a fun k _ => by rw [hh], own_same h.b fun k _ => by rw [hh], h.apart⟩

set_option maxRecDepth 100000 in
set_option maxHeartbeats 3200000 in
theorem parts_any {A : Option Addr} {n c : Nat} {l : List ShareV} {w : World} (h : IsShares w A n c l) (hok : SharesOk l) (many : Int) (hm : 1 ≤ many ∧ many ≤ 64) :
    Calls Try.prog 87 #[.slice A n c, .int .i64 many] w (PartsPost w l many) := by
  have HZ := Lib.hid h.1
  have HS := Lib.hid h
  have hnc := h.2.1.1
  have hcm := h.2.1.2
  unfold maxLen at hcm
  have hlen := hok.len
  rw [h.1] at hlen
  have HOK := Lib.hid hok
  have HEACH := Lib.hid (fun s hs => (hok.each s hs).2)
  obtain ⟨post, hpost⟩ : ∃ post, PartsPost w l many = post := ⟨_, rfl⟩
  have HPO := Lib.hid hpost
  rw [hpost]
  clear h hok hpost
  go_enter Try.func87, Try.ntmps87
  go_wp2_with fail
  go_loopw [18, 7] (fun i _ wr => ∃ k : Nat, k ≤ n ∧ i = .int .i64 k ∧ Blk wr w.heap.size 66 #[.slice A n c] ∧ Blk wr (w.heap.size + 1) 3 #[.int .i64 many] ∧ Blk wr (w.heap.size + 1 + 1) 3 #[.int .i64 (allW (l.take k))] ∧ Below w.heap.size w wr) (fun i _ _ => n - (intOf i).toNat)
  case atStart =>
    refine ⟨0, by omega, rfl, ((Blk.new _ _ _).alloc _).alloc _, ?_, ?_, (((Below.refl _ _).alloc (Nat.le_refl _) _).alloc (by simp) _).alloc (by simp; omega) _⟩
    · have := (Blk.new (w.alloc (.cells #[.slice A n c] 66)) 3 #[.int .i64 many]).alloc (.cells #[.int .i64 0] 3)
      rwa [World.size_alloc] at this
    · have := Blk.new ((w.alloc (.cells #[.slice A n c] 66)).alloc (.cells #[.int .i64 many] 3)) 3 #[.int .i64 0]
      rwa [World.size_alloc, World.size_alloc] at this
  case round =>
    obtain ⟨k, hk, rfl, hk2, hk3, hk5, hb⟩ := hrel
    obtain ⟨wo, rfl⟩ : ∃ wo : World, wo = wr := ⟨_, rfl⟩
    have H2 := Lib.hid hk2
    have H3 := Lib.hid hk3
    have H5 := Lib.hid hk5
    have HB := Lib.hid hb
    have hszb := hb.size
    have hlt5 := hk5.lt
    have c2 := hk2.cell 0
    have c3 := hk3.cell 0
    have c5 := hk5.cell 0
    have f5 := hk5.frozen 0
    simp at c2 c3 c5
    by_cases hlt : k < n
    · obtain ⟨ad, ⟨hop, wt⟩, rfl, hlk, htk, hmem, hbk, hc0, hcj⟩ := HS.out.2.2.atS ShareV.cells_length HZ.out hlt
      have q0 := (hb.cell (p := ad.add (k * 2)) (by rw [block_of_add]; exact hbk)).trans (hc0 _ rfl)
      have q1 := (hb.cell (p := ⟨(ad.add (k * 2)).block, (ad.add (k * 2)).off + 1, none⟩) (by rw [block_of_add]; exact hbk)).trans (hcj 1 _ rfl)
      have hw := HEACH.out _ hmem
      simp only at hw
      have hs := sum_take HEACH.out k (by rw [HZ.out]; exact hk)
      have hS := allW_take htk
      obtain ⟨S, hSS⟩ : ∃ S, allW (l.take k) = S := ⟨_, rfl⟩
      rw [hSS] at hs hS c5 H5
      have HSN := Lib.hid hS
      clear hlk htk hmem hbk hc0 hcj hb hSS hS hk2 hk3 hk5
      go_wp2
      go_roundw
      case rel => exact ⟨k + 1, by omega, by go_num, (H2.out.far (p := ⟨w.heap.size + 1 + 1, 0, none⟩) (by show ¬ _ = _; simp; omega) _).alloc _, (H3.out.far (p := ⟨w.heap.size + 1 + 1, 0, none⟩) (by show ¬ _ = _; simp) _).alloc _, by rw [HSN.out]; exact (H5.out.set_ 0 _).alloc _, (HB.out.setCell (p := ⟨w.heap.size + 1 + 1, 0, none⟩) (by show _ ≤ _; simp; omega) _).alloc (by simpa using hszb) _⟩
      case measure => simp [intOf]; omega
    · obtain rfl : k = n := by omega
      have htl : l.take k = l := List.take_of_length_le (by rw [HZ.out]; omega)
      rw [htl] at H5 c5
      have hA := allW_bounds HEACH.out
      rw [HZ.out] at hA
      obtain ⟨S, hSS⟩ : ∃ S, allW l = S := ⟨_, rfl⟩
      rw [hSS] at hA H5 c5
      have HSS := Lib.hid hSS
      have HMK := made_ints k (by omega)
      obtain ⟨Z, hZ⟩ : ∃ Z, zerosA k = Z := ⟨_, rfl⟩
      have hZs : Z.size = k := by rw [← hZ]; exact zerosA_size k
      rw [hZ] at HMK
      have HZS := Lib.hid hZs
      have HREF := Lib.hid (Below.refl wo.heap.size wo)
      clear hb htl hSS hk2 hk3 hk5 hZ hZs
      have hw1 : w.heap.size < wo.heap.size := by omega
      have hw2 : w.heap.size + 1 < wo.heap.size := by omega
      go_upto_region 7 with fail
      go_cut [8, 9] (fun v8 v9 wx => ∃ g8 g9 : Nat, v8 = .slice (some ⟨g8, 0, none⟩) k k ∧ v9 = .slice (some ⟨g9, 0, none⟩) k k ∧ Two wx wo.heap.size 3 1 v8 v9 k k Z.toList Z.toList ∧ Below wo.heap.size wo wx)
      case first =>
        go_region
        all_goals
          go_wp2_with fail
          go_meet
          case rel =>
            first
              | exact ⟨wo.heap.size, wo.heap.size + 1, rfl, rfl, (two_made HZS.out (by unfold maxLen; omega)).heap (by rfl), by (repeat' first | with_reducible exact HREF.out | with_reducible exact Below.refl _ _ | with_reducible refine Below.drew ?_ | with_reducible refine below_drewN ?_ _ | with_reducible refine Below.setCell ?_ ?_ _ | with_reducible refine Below.alloc ?_ ?_ _ | (simp; done) | (simp; omega) | omega)⟩
              | exact ⟨wo.heap.size + 1, wo.heap.size, rfl, rfl, (two_made HZS.out (by unfold maxLen; omega)).swap.heap (by rfl), by (repeat' first | with_reducible exact HREF.out | with_reducible exact Below.refl _ _ | with_reducible refine Below.drew ?_ | with_reducible refine below_drewN ?_ _ | with_reducible refine Below.setCell ?_ ?_ _ | with_reducible refine Below.alloc ?_ ?_ _ | (simp; done) | (simp; omega) | omega)⟩
      case rest =>
        obtain ⟨g8, g9, rfl, rfl, htwo, hbx⟩ := hcut
        obtain ⟨W, rfl⟩ : ∃ W : World, W = wc := ⟨_, rfl⟩
        have hg8 : wo.heap.size ≤ g8 := by have := (htwo.a.lt g8 rfl).1; exact this
        have hg9 : wo.heap.size ≤ g9 := by have := (htwo.b.lt g9 rfl).1; exact this
        have hg89 : ¬ g8 = g9 := fun e => htwo.apart g8 rfl (by rw [e]; rfl)
        have k2 := H2.out.below hbx hw1
        have k3 := H3.out.below hbx hw2
        have k5 := H5.out.below hbx hlt5
        have K2 := Lib.hid k2
        have K3 := Lib.hid k3
        have K5 := Lib.hid k5
        have HTW := Lib.hid htwo
        have HBX := Lib.hid hbx
        have c2 := k2.cell 0
        have c3 := k3.cell 0
        have c5 := k5.cell 0
        simp at c2 c3 c5
        have HSW := Lib.hid (HS.out.below (HB.out.trans (hbx.mono hszb)))
        have hszx := hbx.size
        clear k2 k3 k5 htwo hbx
        go_wp2_with fail
        go_loopw [36, 10, 11, 12] (fun i lf _ _ wr => ∃ (j : Nat) (X Y : List Value), j ≤ k ∧ i = .int .i64 j ∧ lf = .int .i64 (many - ((quoS l many).take j).sum) ∧ (0 ≤ ((quoS l many).take j).sum ∧ ((quoS l many).take j).sum ≤ 1280 * (j : Int)) ∧ Two wr wo.heap.size 3 1 (.slice (some ⟨g8, 0, none⟩) k k) (.slice (some ⟨g9, 0, none⟩) k k) k k X Y ∧ X.take j = ((quoS l many).take j).map (Value.int .i64) ∧ Y.take j = rowN (List.range j) ∧ Below wo.heap.size wo wr) (fun i _ _ _ _ => k - (intOf i).toNat)
        case atStart => exact ⟨0, _, _, by omega, rfl, by simp, ⟨by simp, by simp⟩, HTW.out, rfl, rfl, HBX.out⟩
        case round =>
          obtain ⟨j, X, Y, hj, rfl, rfl, hsr, htwo, hX, hY, hb⟩ := hrel
          obtain ⟨wi, rfl⟩ : ∃ wi : World, wi = wr := ⟨_, rfl⟩
          have k2 := H2.out.below hb hw1
          have k3 := H3.out.below hb hw2
          have k5 := H5.out.below hb hlt5
          have c2 := k2.cell 0
          have c3 := k3.cell 0
          have c5 := k5.cell 0
          simp at c2 c3 c5
          have hszi := hb.size
          have HT2 := Lib.hid htwo
          have HX := Lib.hid hX
          have HY := Lib.hid hY
          have HBI := Lib.hid hb
          have hXl : X.length = k := by have := htwo.a.1; omega
          have hYl : Y.length = k := by have := htwo.b.1; omega
          by_cases hlt2 : j < k
          · have hsi := HS.out.below (HB.out.trans (hb.mono hszb))
            obtain ⟨ad, ⟨hop, wt⟩, rfl, hlk, htk, hmem, hbk, hc0, hcj⟩ := hsi.2.2.atS ShareV.cells_length HZ.out hlt2
            have q0 := hc0 _ rfl
            have q1 := hcj 1 _ rfl
            have hw := HEACH.out _ hmem
            simp only at hw
            obtain ⟨hq1, -⟩ := quo_nth (many := many) hlk
            rw [HSS.out] at hq1
            simp only at hq1
            obtain ⟨⟨g1, g2⟩, ⟨g3, g4⟩, -, -, -⟩ := quo_range (A := S) (many := many) (w := wt) (by omega) hm hw
            obtain ⟨Q, hQ⟩ : ∃ Q, many * wt / S = Q := ⟨_, rfl⟩
            obtain ⟨SQ, hSQ⟩ : ∃ SQ, ((quoS l many).take j).sum = SQ := ⟨_, rfl⟩
            have hS2 : ((quoS l many).take (j + 1)).sum = SQ + Q := by rw [hq1, List.sum_append, hSQ, hQ]; simp
            rw [hQ] at hq1 g3 g4
            rw [hSQ] at hsr ⊢
            have HQ1 := Lib.hid hq1
            have HS2 := Lib.hid hS2
            obtain ⟨u8, -, x8⟩ := own_val htwo.a hlt2
            obtain ⟨u9, -, x9⟩ := own_val htwo.b hlt2
            have y8 := own_frozen htwo.a j
            have y9 := own_frozen htwo.b j
            rw [add_zero_off] at x8 x9 y8 y9
            have z8 := (htwo.a.lt g8 rfl).2
            have z9 := (htwo.b.lt g9 rfl).2
            have n1 : ¬ g9 = g8 := fun e => hg89 e.symm
            have hwi0 : w.heap.size < wi.heap.size := by omega
            have hwi1 : w.heap.size + 1 < wi.heap.size := by omega
            have hwi2 : w.heap.size + 1 + 1 < wi.heap.size := by omega
            have m1 : ¬ w.heap.size + 1 = g8 := by omega
            have m2 : ¬ w.heap.size + 1 + 1 = g8 := by omega
            have m3 : ¬ w.heap.size + 1 = g9 := by omega
            have m4 : ¬ w.heap.size + 1 + 1 = g9 := by omega
            have i1 : (0 : Int) ≤ (j : Int) := by omega
            have i2 : (j : Int) < (k : Int) := by omega
            have HXL := Lib.hid hXl
            have HYL := Lib.hid hYl
            clear hlk htk hmem hbk hc0 hcj hb hq1 hS2 hSQ htwo hX hY hsi k2 k3 k5 hXl hYl
            go_wp2
            go_roundw
            case rel =>
              refine ⟨j + 1, X.set j (.int .i64 Q), Y.set j (.int .i64 j), by omega, by go_num, by rw [HS2.out]; go_num, ⟨by rw [HS2.out]; omega, by rw [HS2.out]; omega⟩, ?_, ?_, ?_, ?_⟩
              · have := own_two2 (own_set2 HT2.out j (.int .i64 Q) hlt2) j (.int .i64 j) hlt2
                rw [add_zero_off, add_zero_off] at this
                exact this.step ((Below.refl _ _).alloc (Nat.le_refl _) _)
              · rw [take_set_snoc (by rw [HXL.out]; exact hlt2), HX.out, HQ1.out, List.map_append]; rfl
              · rw [take_set_snoc (by rw [HYL.out]; exact hlt2), HY.out, List.range_succ]; unfold rowN; rw [List.map_append, List.map_append]; rfl
              · (repeat' first | with_reducible exact HBI.out | with_reducible exact Below.refl _ _ | with_reducible refine Below.drew ?_ | with_reducible refine below_drewN ?_ _ | with_reducible refine Below.setCell ?_ ?_ _ | with_reducible refine Below.alloc ?_ ?_ _ | (simp; done) | (simp; omega) | omega)
            case measure => simp [intOf]; omega
          · obtain rfl : j = k := by omega
            have hql : (quoS l many).length = j := by unfold quoS; rw [List.length_map, HZ.out]
            have hrl : (remS l many).length = j := by unfold remS; rw [List.length_map, HZ.out]
            rw [List.take_of_length_le (by omega), List.take_of_length_le (by omega)] at hX
            rw [List.take_of_length_le (by omega)] at hY
            rw [List.take_of_length_le (by omega)] at hsr ⊢
            subst hX hY
            have hlb := left_bounds HOK.out many
            rw [HZ.out] at hlb
            obtain ⟨L, hL⟩ : ∃ L : Nat, leftS l many = (L : Int) := ⟨(leftS l many).toNat, by omega⟩
            have hLm : many - (quoS l many).sum = (L : Int) := by rw [← hL]; rfl
            have hPA : partsS l many = incs (quoS l many) (picks (remS l many) L) := by unfold partsS; rw [hL]; rfl
            rw [hL] at hlb
            rw [hLm]
            have HPA := Lib.hid hPA
            have HRL := Lib.hid hrl
            have HQL := Lib.hid hql
            -- the closures' boxes
            have HB13 : Hid (∀ (o : Obj) (V : World), KeepG g9 (wi.alloc o) V → PartsAt V w.heap.size (w.heap.size + 1) (w.heap.size + 1 + 1) A j c l many) := by
              intro o V hV
              have hz : (wi.alloc o).heap.size = wi.heap.size + 1 := by simp
              have e2 := (k2.alloc o).trans rfl
              have v2 : Blk V w.heap.size 66 #[.slice A j c] := (hV.block _ (by omega) (by omega)).trans (k2.alloc o)
              have v3 : Blk V (w.heap.size + 1) 3 #[.int .i64 many] := (hV.block _ (by omega) (by omega)).trans (k3.alloc o)
              have v5 : Blk V (w.heap.size + 1 + 1) 3 #[.int .i64 S] := (hV.block _ (by omega) (by omega)).trans (k5.alloc o)
              refine ⟨by rw [v3.cell]; rfl, by rw [v2.cell]; rfl, by rw [v5.cell, HSS.out]; rfl, w.heap.size, ?_⟩
              refine HS.out.2.2.keep fun p hp => ?_
              have h1 : V.heap[p.block]? = wi.heap[p.block]? := (hV.block _ (by omega) (by omega)).trans (Below.heap_alloc _ _ _ (by omega))
              exact World.cell?_of_block (h1.trans ((hb.block _ (by omega)).trans (HB.out.block _ hp)))
            have z9 := (htwo.b.lt g9 rfl).2
            have hbi := HBI.out
            have hqr : ∀ i : Nat, 0 ≤ (quoS l many)[i]?.getD 0 ∧ (quoS l many)[i]?.getD 0 ≤ 1280 := by
              intro i
              unfold quoS
              rw [List.getElem?_map]
              cases hx : l[i]? with
              | none => simp
              | some s =>
                have := (quo_range (A := allW l) (many := many) (w := s.weight) (by rw [HSS.out]; omega) hm (HEACH.out s (List.mem_of_getElem? hx))).2.1
                simpa using this
            have HQR := Lib.hid hqr
            have hr0 : ∀ i, i < (remS l many).length → 0 ≤ (remS l many)[i]?.getD 0 := by
              intro i hi
              obtain ⟨s, hs⟩ : ∃ s, l[i]? = some s := ⟨l[i]'(by rw [HZ.out]; omega), List.getElem?_eq_getElem _⟩
              rw [rem_at hs, HSS.out]
              exact Int.emod_nonneg _ (by omega)
            have HR0 := Lib.hid hr0
            have CS := Lib.hid (sortStable_any (w := wi.alloc (.cells #[.func (.func 155) #[] #[.pointer (some ⟨w.heap.size + 1, 0, none⟩), .pointer (some ⟨w.heap.size, 0, none⟩), .pointer (some ⟨w.heap.size + 1 + 1, 0, none⟩)]] 253)) (base := wo.heap.size) (g := g9) (n := j) (cap := j) (a := remS l many) (fid := 157) (caps := #[.pointer (some ⟨wi.heap.size, 0, none⟩)])
              orderEnters hrl ⟨by omega, by omega⟩ (htwo.step ((Below.refl _ _).alloc (Nat.le_refl _) _)).b (cfS_lt l many)
              (fun V hV x y hx hy => order2_any (HB13.out _ V hV) (by
                have v13 : Blk V wi.heap.size 253 #[.func (.func 155) #[] #[.pointer (some ⟨w.heap.size + 1, 0, none⟩), .pointer (some ⟨w.heap.size, 0, none⟩), .pointer (some ⟨w.heap.size + 1 + 1, 0, none⟩)]] := (hV.block _ (by simp) (by omega)).trans (Blk.new _ _ _)
                rw [v13.cell]; rfl) HZ.out HOK.out hm x y hx hy))
            unfold SortedPost at CS
            have L0 : (0 : Int) ≤ (L : Int) := by omega
            have L1 : (L : Int) ≤ (j : Int) := by omega
            clear hb htwo k2 k3 k5 hbi hqr hr0 hrl hql hPA hLm hL c2 c3 c5 HB13
            go_wp2_with fail
            refine CS.out.mono ?_
            rintro e w5 ⟨rfl, o, hord, hown9, hkg⟩
            have hg8l := (HT2.out.a.lt g8 rfl).2
            have ht5 : Two w5 wo.heap.size 3 1 (.slice (some ⟨g8, 0, none⟩) j j) (.slice (some ⟨g9, 0, none⟩) j j) j j (((quoS l many)).map (Value.int .i64)) (rowN o) := by
              refine ⟨own_same HT2.out.a (fun q hq => ?_), hown9, HT2.out.apart⟩
              have : q = g8 := by simpa [Value.ownBlock] using hq.symm
              subst this
              exact (hkg.block _ (by simp; omega) hg89).trans (Below.heap_alloc _ _ _ hg8l)
            have hb5 : Below wo.heap.size wo w5 := by
              have h1 : Below wo.heap.size wo (wi.alloc (.cells #[.func (.func 155) #[] #[.pointer (some ⟨w.heap.size + 1, 0, none⟩), .pointer (some ⟨w.heap.size, 0, none⟩), .pointer (some ⟨w.heap.size + 1 + 1, 0, none⟩)]] 253)) := HBI.out.alloc HBI.out.size _
              exact h1.trans ⟨hkg.os, hkg.tape, hkg.output, hkg.size, fun q hq => hkg.block q (by have := h1.size; omega) (by omega)⟩
            have HT5 := Lib.hid ht5
            have HB5 := Lib.hid hb5
            have HOR := Lib.hid hord
            clear hord hown9 hkg ht5 hb5
            go_wp2
            go_loopw [69, 15] (fun i _ wr => ∃ t : Nat, t ≤ L ∧ i = .int .i64 t ∧ Two wr wo.heap.size 3 1 (.slice (some ⟨g8, 0, none⟩) j j) (.slice (some ⟨g9, 0, none⟩) j j) j j ((incs (quoS l many) (o.take t)).map (Value.int .i64)) (rowN o) ∧ Below wo.heap.size wo wr) (fun i _ _ => L - (intOf i).toNat)
            case atStart => exact ⟨0, by omega, rfl, HT5.out, HB5.out⟩
            case round =>
              obtain ⟨t, ht, rfl, htwo, hb⟩ := hrel
              obtain ⟨wq, rfl⟩ : ∃ wq : World, wq = wr := ⟨_, rfl⟩
              have HTQ := Lib.hid htwo
              have HBQ := Lib.hid hb
              by_cases hlt3 : t < L
              · have hol : o.length = j := by rw [HOR.out.perm.length_eq, List.length_range, HRL.out]
                obtain ⟨b, hbo⟩ : ∃ b, o[t]? = some b := ⟨o[t]'(by omega), List.getElem?_eq_getElem _⟩
                have hbj : b < j := by
                  have := HOR.out.perm.mem_iff.1 (List.mem_of_getElem? hbo)
                  rw [List.mem_range, HRL.out] at this
                  exact this
                have x9 := rowN_cell htwo.b (by omega) hbo (by omega)
                have x8 := (own_cells htwo.a (by omega)).2 b hbj
                have y8 := own_frozen htwo.a b
                rw [add_zero_off] at x8 x9 y8
                have hge := incs_ge (quoS l many) (o.take t) b
                have hq := HQR.out b
                have htl : (o.take t).length ≤ 20 := by rw [List.length_take]; omega
                obtain ⟨x, hx⟩ : ∃ x, (incs (quoS l many) (o.take t))[b]?.getD 0 = x := ⟨_, rfl⟩
                have hsn : incs (quoS l many) (o.take (t + 1)) = (incs (quoS l many) (o.take t)).set b (x + 1) := by
                  rw [List.take_add_one, hbo, Option.toList_some, incs_snoc, hx]
                rw [hx] at x8 hge
                have hxr : 0 ≤ x ∧ x ≤ 1300 := by omega
                have HSN := Lib.hid hsn
                have i1 : (0 : Int) ≤ (t : Int) := by omega
                have i2 : (t : Int) < (L : Int) := by omega
                have i3 : (0 : Int) ≤ (b : Int) := by omega
                have i4 : (b : Int) < (j : Int) := by omega
                clear htwo hb hbo hge hq hx hsn htl
                go_wp2
                go_roundw
                case rel =>
                  refine ⟨t + 1, by omega, by go_num, ?_, HBQ.out.setCell (p := ⟨g8, b, none⟩) hg8 _⟩
                  have := own_set2 HTQ.out b (.int .i64 (x + 1)) hbj
                  rw [add_zero_off] at this
                  rw [HSN.out, List.map_set]
                  exact this
                case measure => simp [intOf]; omega
              · obtain rfl : t = L := by omega
                have hpk := ordered_picks HOR.out HR0.out t (by rw [HRL.out]; omega)
                rw [hpk, ← HPA.out] at HTQ
                go_wp2
                rw [← HPO.out]
                exact ⟨_, rfl, by rw [HZ.out]; exact own_low2 HTQ.out.a HB.out.size, HB.out.trans (hb.mono HB.out.size)⟩


end Go.Proofs.Ytnflaaoapmhjgaa

namespace Go.Proofs.Ytnflaaoapmhjgaa
open Go.ChangeShapes Go.WideShapes Go.ChangeAt Go.RowKit

def RepPost (w : World) (h : Int) (N : Nat) (e : Ending) (w' : World) : Prop :=
  ∃ v, e = .returned v ∧ w'.ownsRow w.heap.size 3 1 v N (List.replicate N (.int .i64 h)) ∧ Below w.heap.size w w'
/-- Where the copying stands. -/
def RepAt (w : World) (h : Int) (N p : Nat) (wr : World) : Prop :=
  ∃ cur : List Value, wr.heap[w.heap.size]? = some (.cells cur.toArray 3 (0, 0)) ∧ cur.length = N ∧ cur.take p = List.replicate p (.int .i64 h) ∧ Below w.heap.size w wr
theorem infoSize : (Try.prog.info? 3).map (·.size) = some 1 := by kernel_rfl
theorem splice_take {cur cs : List Value} {off : Nat} (h : off + cs.length ≤ cur.length) : (splice cur off cs).length = cur.length ∧ (splice cur off cs).take (off + cs.length) = cur.take off ++ cs := by
  unfold splice
  refine ⟨by simp; omega, ?_⟩
  rw [← List.append_assoc, List.take_append_of_le_length (by simp; omega), List.take_of_length_le (by simp; omega)]

set_option maxRecDepth 100000 in
set_option maxHeartbeats 1600000 in
theorem repeat_any {w : World} {gx : Nat} (h : Int) (N : Nat) (hN : N ≤ 2000) (hx : w.cell? ⟨gx, 0, none⟩ = some (.int .i64 h)) (hgx : gx < w.heap.size) :
    Calls Try.prog 93 #[.slice (some ⟨gx, 0, none⟩) 1 1, .int .i64 N] w (RepPost w h N) := by
  obtain ⟨post, hpost⟩ : ∃ post, RepPost w h N = post := ⟨_, rfl⟩
  have HPO := Lib.hid hpost
  rw [hpost]
  clear hpost
  have CM := Try.bits_Mul 1 N (by omega) (by omega)
  rw [Nat.one_mul, Nat.div_eq_of_lt (by omega), Nat.mod_eq_of_lt (by omega)] at CM
  have CML := Lib.hid CM
  have HMK := made_ints N (by omega)
  obtain ⟨Z, hZ⟩ : ∃ Z, zerosA N = Z := ⟨_, rfl⟩
  have hZs : Z.size = N := by rw [← hZ]; exact zerosA_size N
  rw [hZ] at HMK
  have HZS := Lib.hid hZs
  have d1 : decide ((N : Int) < 0) = false := by simp
  have d2 : decide ((9223372036854775807 : Int) < (N : Int)) = false := by simp; omega
  clear hZ hZs CM
  by_cases hN0 : N = 0
  · have HN0 := Lib.hid hN0
    have d3 : decide ((0 : Int) < (N : Int)) = false := by simp; omega
    have d4 : decide (0 < N) = false := by simp; omega
    have hmin : Nat.min 1 N = 0 := by rw [HN0.out]; rfl
    clear hN0
    go_enter Try.func93, Try.ntmps93
    go_wp2_with fail
    refine (CML.out _).mono ?_
    rintro e w1 ⟨rfl, rfl⟩
    go_wp2_with (refine wpList_copy_nothing (o := ⟨some 33, _, _, _, _, _⟩) rfl _ _ 33 33 rfl 3 Try.underlying33 infoSize _ _ _ _ _ _ rfl rfl hmin ?_)
    go_loopw [8] (fun p wr => p = .int .i64 0 ∧ wr = w1.alloc (.cells Z 3)) (fun _ _ => 0)
    case atStart => exact ⟨rfl, rfl⟩
    case round =>
      obtain ⟨rfl, rfl⟩ := hrel
      go_wp2
      rw [← HPO.out]
      refine ⟨_, rfl, ?_, (Below.refl _ _).alloc (Nat.le_refl _) _⟩
      have hb := own_of_blk (base := w1.heap.size) (Blk.new w1 3 Z) HZS.out (Nat.le_refl _) (by unfold maxLen; omega)
      have e : Z.toList = List.replicate N (.int .i64 h) := by rw [HN0.out]; exact List.eq_nil_of_length_eq_zero (by rw [Array.length_toList, HZS.out, HN0.out])
      rw [e] at hb
      exact hb
  · have n1 : 1 ≤ N := by omega
    go_enter Try.func93, Try.ntmps93
    go_wp2_with fail
    refine (CML.out _).mono ?_
    rintro e w1 ⟨rfl, rfl⟩
    go_wp2_with (refine wpList_copy_splice (o := ⟨some 33, _, _, _, _, _⟩) rfl _ _ 33 33 rfl 3 Try.underlying33 infoSize _ _ _ _ _ _ rfl rfl w1.heap.size 0 Z.toList 3 ?c1 [.int .i64 h] ?c2 ?c3 ?c4 ?c5 w1.heap.size w1 ?c6 ?c7 ?_)
    case c1 => first | (rw [Array.toArray_toList]; exact Blk.new w1 3 Z) | exact Blk.new w1 3 Z
    case c2 => simp [Nat.min_def]; omega
    case c3 =>
      intro j v hj
      have hj0 : j = 0 := by
        rcases Nat.eq_zero_or_pos j with h0 | h0
        · exact h0
        · rw [List.getElem?_eq_none (by simp; omega)] at hj; cases hj
      subst hj0
      simp at hj
      subst hj
      exact hx
    case c4 => simp; rw [HZS.out]; omega
    case c5 => exact int_one _
    case c6 => exact (Below.refl _ _).alloc (Nat.le_refl _) _
    case c7 => exact Nat.le_refl _
    intro w2 hh2 hb2
    have hs1 : 0 + [Value.int .i64 h].length ≤ Z.toList.length := by have := HZS.out; simp; omega
    have hst := splice_take hs1
    have hr0 : RepAt w1 h N 1 w2 := ⟨splice Z.toList 0 [.int .i64 h], hh2, by rw [hst.1, Array.length_toList, HZS.out], by simpa using hst.2, hb2⟩
    have HR0 := Lib.hid hr0
    clear hs1 hst hr0 hh2 hb2
    go_wp2_with fail
    go_loopw [8] (fun pv wr => ∃ p : Nat, 1 ≤ p ∧ p ≤ N ∧ pv = .int .i64 p ∧ RepAt w1 h N p wr) (fun pv _ => N - (intOf pv).toNat)
    case atStart => exact ⟨1, by omega, by omega, rfl, HR0.out⟩
    case round =>
      obtain ⟨p, hp1, hpN, rfl, cur, hh, hcl, hct, hb⟩ := hrel
      obtain ⟨wo, rfl⟩ : ∃ wo : World, wo = wr := ⟨_, rfl⟩
      have HH := Lib.hid hh
      have HCL := Lib.hid hcl
      have HCT := Lib.hid hct
      have HB := Lib.hid hb
      clear hh hcl hct hb
      by_cases hlt : p < N
      · obtain ⟨m, hm⟩ : ∃ m, min p (N - p) = m := ⟨_, rfl⟩
        have hm1 : 1 ≤ m := by omega
        have hm2 : p + m ≤ N := by omega
        have hm3 : m ≤ p := by omega
        have HM : Hid ((List.replicate m (Value.int .i64 h)).length = Nat.min p (N - p)) := by show _ = _; rw [List.length_replicate]; exact hm.symm
        have hlen : (List.replicate m (Value.int .i64 h)).length = m := List.length_replicate
        have HLN := Lib.hid hlen
        have HSP := Lib.hid (splice_take (cur := cur) (cs := List.replicate m (Value.int .i64 h)) (off := p) (by rw [hlen, HCL.out]; exact hm2))
        have HSRC : Hid (∀ j v, (List.replicate m (Value.int .i64 h))[j]? = some v → wo.cell? ⟨w1.heap.size, j, none⟩ = some v) := by
          intro j v hj
          obtain ⟨hjm, hjv⟩ := List.getElem?_eq_some_iff.1 hj
          rw [List.length_replicate] at hjm
          have hk : Blk wo w1.heap.size 3 cur.toArray := HH.out
          rw [hk.cell, ← hjv, List.getElem_replicate]
          have h1 : (cur.take p)[j]? = some (.int .i64 h) := by rw [HCT.out, List.getElem?_replicate, if_pos (by omega)]
          rw [List.getElem?_take_of_lt (by omega)] at h1
          simpa using h1
        have d5 : decide (p < N) = true := by simpa using hlt
        have i1 : (0 : Int) ≤ (p : Int) := by omega
        have i2 : (p : Int) ≤ (N : Int) := by omega
        have i3 : ¬ N = p := by omega
        have i4 : ¬ p = N := by omega
        have wq : IntKind.i64.wrap ((p : Int) + (m : Int)) = (p : Int) + (m : Int) := by rw [IntWalk.i64_in _ (by omega)]
        clear hm hlen
        go_wp2_with fail
        go_region_held3 (fun w' => 0 ≤ w'.heap.size)
          ((exact Nat.zero_le _))
          (first
            | (refine step_copy_splice (o := ⟨some 45, _, _, _, _, _⟩) rfl _ _ 33 33 rfl 3 Try.underlying33 infoSize _ _ _ _ _ _ rfl rfl w1.heap.size p cur 3 ?_ (List.replicate m (Value.int .i64 h)) ?_ ?_ ?_ ?_ w1.heap.size w1 ?_ ?_ ?_; (focus exact HH.out); (focus exact HM.out); (focus (refine fun _ => ⟨rfl, _, rfl, fun j v hj => ?_⟩; rw [add_zero_off]; exact HSRC.out j v hj)); (focus (rw [HLN.out, HCL.out]; exact hm2)); (focus (intro u hu; obtain ⟨_, rfl⟩ := List.mem_replicate.1 hu; rfl)); (focus exact HB.out.drew); (focus exact Nat.le_refl _); intro w3 hh3 hb3))
        have hlq := HSP.out
        rw [HLN.out] at hlq
        have hr3 : RepAt w1 h N (p + m) w3 := ⟨splice cur p (List.replicate m (.int .i64 h)), hh3, by rw [hlq.1, HCL.out], by rw [hlq.2, HCT.out, List.replicate_append_replicate], hb3⟩
        have HR3 := Lib.hid hr3
        rw [HLN.out]
        clear hlq hr3 hh3 hb3
        go_wp2
        go_roundw
        case rel => exact ⟨p + m, by omega, by omega, by first | rfl | go_num | (congr 1; omega), HR3.out⟩
        case measure => simp [intOf]; omega
      · obtain rfl : p = N := by omega
        have d5 : decide (p < p) = false := by simp
        go_wp2
        rw [← HPO.out]
        refine ⟨_, rfl, ?_, HB.out⟩
        have hk : Blk wo w1.heap.size 3 cur.toArray := HH.out
        have := own_of_blk (base := w1.heap.size) hk (by simpa using HCL.out) (Nat.le_refl _) (by unfold maxLen; omega)
        rw [← HCT.out, List.take_of_length_le (by rw [HCL.out]; exact Nat.le_refl _)]
        simpa using this

end Go.Proofs.Ytnflaaoapmhjgaa
