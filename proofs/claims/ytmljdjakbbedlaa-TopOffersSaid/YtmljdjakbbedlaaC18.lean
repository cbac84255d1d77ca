/-
  
  
  
  
  
  
  
-/
import Derived.Test.YtmljdjakbbedlaaC17
import Derived.Test.YtmljdjakbbedlaaC13
import Derived.DeepKeys4
import Derived.Test.YtmljdjakbbedlaaC2
import Derived.Test.YtmljdjakbbedlaaC3
import Derived.Laws.CopyOwn
import Derived.Deep.RegionLaw
namespace Go.Proofs.Ytmljdjakbbedlaa

structure OffV where
  p : PV
  src : Int
  peer : Int
  met : Int
  hop : Int
  deriving DecidableEq
def OffV.E (o : OffV) : Int := offE (chk o.p.six o.p.hi o.p.lo o.p.n) o.src o.peer o.met o.hop
structure OffV.Good (o : OffV) : Prop where
  ok : o.p.Ok
  src : 1 ≤ o.src ∧ o.src ≤ 4
  peer : 0 ≤ o.peer ∧ o.peer ≤ 999
  met : 0 ≤ o.met ∧ o.met ≤ 999
  hop : 1 ≤ o.hop ∧ o.hop ≤ 999
def OffV.Raw (o : OffV) : Prop := (0 ≤ o.p.hi ∧ o.p.hi < 18446744073709551616) ∧ (0 ≤ o.p.lo ∧ o.p.lo < 18446744073709551616)
theorem OffV.good {o : OffV} (hr : o.Raw) (h : o.E = 0) : o.Good := by
  unfold OffV.E offE at h
  split at h
  · exact absurd h ‹_›
  · rename_i hz
    split at h
    · cases h
    · split at h
      · cases h
      · refine ⟨chk_zero hr.1 hr.2 (by simpa using hz), ?_, ?_, ?_, ?_⟩ <;> omega
/-- The first fault of a list. -/
def offsTo : List OffV → Int
  | [] => 0
  | o :: l => if o.E = 0 then offsTo l else o.E
def offsF (l : List OffV) : Int := if 100 < l.length then 1 else offsTo l
theorem offsTo_zero : ∀ {l : List OffV}, offsTo l = 0 ↔ ∀ o ∈ l, o.E = 0
  | [] => by simp [offsTo]
  | o :: l => by
    unfold offsTo
    by_cases h : o.E = 0
    · rw [if_pos h, offsTo_zero]
      simp [h]
    · rw [if_neg h]
      simp [h]
theorem offsTo_at {l : List OffV} {k : Nat} {o : OffV} (h : ∀ x ∈ l.take k, x.E = 0) (hx : l[k]? = some o) (ho : ¬ o.E = 0) : offsTo l = o.E := by
  induction l generalizing k with
  | nil => cases hx
  | cons y l ih =>
    cases k with
    | zero =>
      simp at hx
      subst hx
      unfold offsTo
      rw [if_neg ho]
    | succ k =>
      have h1 := h y (by simp)
      unfold offsTo
      rw [if_pos h1]
      exact ih (fun x hx' => h x (by rw [List.take_succ_cons]; exact List.mem_cons_of_mem _ hx')) (by simpa using hx)
/-- Of one prefix, source and peer. -/
def SameK (a b : OffV) : Prop := a.p = b.p ∧ a.src = b.src ∧ a.peer = b.peer
instance (a b : OffV) : Decidable (SameK a b) := by unfold SameK; exact inferInstance
/-- The offer is live: none behind it is of the same one, and it takes nothing away. -/
def Live (l : List OffV) (o : OffV) : Prop := ∃ i : Nat, l[i]? = some o ∧ o.met < 999 ∧ ∀ (j : Nat) (q : OffV), i < j → l[j]? = some q → ¬ SameK q o
theorem live_nil (o : OffV) : ¬ Live [] o := fun ⟨_, h, _⟩ => by simp at h
theorem live_snoc {l : List OffV} {x o : OffV} : Live (l ++ [x]) o ↔ (o = x ∧ x.met < 999) ∨ (Live l o ∧ ¬ SameK x o) := by
  constructor
  · rintro ⟨i, hi, hm, hl⟩
    have hil := (List.getElem?_eq_some_iff.1 hi).1
    rw [List.length_append] at hil
    simp at hil
    by_cases h : i = l.length
    · subst h
      rw [List.getElem?_append_right (Nat.le_refl _), Nat.sub_self] at hi
      simp at hi
      subst hi
      exact .inl ⟨rfl, hm⟩
    · rw [List.getElem?_append_left (by omega)] at hi
      refine .inr ⟨⟨i, hi, hm, fun j q hj hq => hl j q hj ?_⟩, hl l.length x (by omega) (by simp)⟩
      rw [List.getElem?_append_left (List.getElem?_eq_some_iff.1 hq).1]
      exact hq
  · rintro (⟨rfl, hm⟩ | ⟨⟨i, hi, hm, hl⟩, hx⟩)
    · refine ⟨l.length, by simp, hm, fun j q hj hq => ?_⟩
      have := (List.getElem?_eq_some_iff.1 hq).1
      rw [List.length_append] at this
      simp at this
      omega
    · have hil := (List.getElem?_eq_some_iff.1 hi).1
      refine ⟨i, by rw [List.getElem?_append_left hil]; exact hi, hm, fun j q hj hq => ?_⟩
      by_cases h : j < l.length
      · exact hl j q hj (by rw [List.getElem?_append_left h] at hq; exact hq)
      · have h2 := (List.getElem?_eq_some_iff.1 hq).1
        rw [List.length_append] at h2
        simp at h2
        obtain rfl : j = l.length := by omega
        simp at hq
        subst hq
        exact hx
theorem Live.mem {l : List OffV} {o : OffV} (h : Live l o) : o ∈ l := let ⟨_, hi, _⟩ := h; List.mem_of_getElem? hi
theorem Live.met {l : List OffV} {o : OffV} (h : Live l o) : o.met < 999 := let ⟨_, _, hm, _⟩ := h; hm
/-- Two live ones of one prefix, source and peer are one. -/
theorem Live.one {l : List OffV} {a b : OffV} (ha : Live l a) (hb : Live l b) (h : SameK a b) : a = b := by
  obtain ⟨i, hi, _, h1⟩ := ha
  obtain ⟨j, hj, _, h2⟩ := hb
  rcases Nat.lt_trichotomy i j with hij | hij | hij
  · exact absurd ⟨h.1.symm, h.2.1.symm, h.2.2.symm⟩ (h1 j b hij hj)
  · subst hij
    rw [hi] at hj
    injection hj
  · exact absurd h (h2 i a hij hi)
def OffV.worth (o : OffV) : Int := (o.src * 1000 + o.met) * 1000 + o.peer
theorem worth_key {a b : OffV} (ha : a.Good) (hb : b.Good) (hp : a.p = b.p) (h : a.worth = b.worth) : SameK a b := by
  unfold OffV.worth at h
  have h1 := ha.peer
  have h2 := ha.met
  have h3 := hb.peer
  have h4 := hb.met
  exact ⟨hp, by omega, by omega⟩
/-- One of the best ones of a set. -/
def IsB (S : OffV → Prop) (o : OffV) : Prop := S o ∧ ∀ q, S q → q.p = o.p → o.worth ≤ q.worth
/-- The best offers, in order. -/
def Bests (l m : List OffV) : Prop := (m.Pairwise fun x y => ltP x.p y.p) ∧ ∀ o, o ∈ m ↔ IsB (Live l) o
theorem bests_unique {l m m' : List OffV} (hg : ∀ o ∈ l, o.Good) (h : Bests l m) (h' : Bests l m') : m = m' := by
  have ok : ∀ o ∈ m, o.p.Ok := fun o ho => (hg o ((h.2 o).1 ho).1.mem).ok
  have he : ∀ o, o ∈ m ↔ o ∈ m' := fun o => (h.2 o).trans (h'.2 o).symm
  obtain ⟨hl, -⟩ := h
  obtain ⟨hm, -⟩ := h'
  clear hg
  induction m generalizing m' with
  | nil =>
    cases m' with
    | nil => rfl
    | cons y m => exact absurd ((he y).2 (by simp)) (by simp)
  | cons x l ih =>
    cases m' with
    | nil => exact absurd ((he x).1 (by simp)) (by simp)
    | cons y m =>
      rw [List.pairwise_cons] at hl hm
      have hx := ok x (by simp)
      have hy := ok y ((he y).2 (by simp))
      have hxy : x = y := by
        rcases List.mem_cons.1 ((he x).1 (by simp)) with h | h
        · exact h
        · rcases List.mem_cons.1 ((he y).2 (by simp)) with h' | h'
          · exact h'.symm
          · exact absurd (hl.1 y h') (ltP_asymm hy hx (hm.1 x h))
      subst hxy
      congr 1
      refine ih (fun r hr => ok r (by simp [hr])) (fun r => ?_) hl.2 hm.2
      constructor
      · intro hr
        rcases List.mem_cons.1 ((he r).1 (by simp [hr])) with h | h
        · subst h; exact absurd (hl.1 r hr) (ltP_irrefl hx)
        · exact h
      · intro hr
        rcases List.mem_cons.1 ((he r).2 (by simp [hr])) with h | h
        · subst h; exact absurd (hm.1 r hr) (ltP_irrefl hx)
        · exact h
/-- One more is looked at: it is better than what was there, or it is the first of its prefix. -/
theorem isB_put {vs : List OffV} {o : OffV} (h : ∀ q ∈ vs, q.p = o.p → o.worth < q.worth) (x : OffV) : IsB (· ∈ vs ++ [o]) x ↔ x = o ∨ (¬ x.p = o.p ∧ IsB (· ∈ vs) x) := by
  constructor
  · rintro ⟨h1, h2⟩
    rcases List.mem_append.1 h1 with h1 | h1
    · refine .inr ⟨fun hp => ?_, h1, fun q hq => h2 q (List.mem_append_left _ hq)⟩
      have a := h x h1 hp
      have b := h2 o (by simp) hp.symm
      omega
    · exact .inl (by simpa using h1)
  · rintro (rfl | ⟨hp, h1, h2⟩)
    · refine ⟨by simp, fun q hq hpq => ?_⟩
      rcases List.mem_append.1 hq with hq | hq
      · have := h q hq hpq; omega
      · simp at hq; subst hq; exact Int.le_refl _
    · refine ⟨List.mem_append_left _ h1, fun q hq hpq => ?_⟩
      rcases List.mem_append.1 hq with hq | hq
      · exact h2 q hq hpq
      · simp at hq; subst hq; exact absurd hpq.symm hp
/-- One more is looked at: another one of its prefix is better. -/
theorem isB_keep {vs : List OffV} {o b : OffV} (hb : IsB (· ∈ vs) b) (hp : b.p = o.p) (hw : b.worth < o.worth) (x : OffV) : IsB (· ∈ vs ++ [o]) x ↔ IsB (· ∈ vs) x := by
  constructor
  · rintro ⟨h1, h2⟩
    rcases List.mem_append.1 h1 with h1 | h1
    · exact ⟨h1, fun q hq => h2 q (List.mem_append_left _ hq)⟩
    · simp at h1
      subst h1
      have := h2 b (List.mem_append_left _ hb.1) hp
      omega
  · rintro ⟨h1, h2⟩
    refine ⟨List.mem_append_left _ h1, fun q hq hpq => ?_⟩
    rcases List.mem_append.1 hq with hq | hq
    · exact h2 q hq hpq
    · simp at hq
      subst hq
      have := h2 b hb.1 (hp.trans hpq)
      omega
theorem isB_min (P : PV) : ∀ l : List OffV, (∃ r ∈ l, r.p = P) → ∃ b, IsB (· ∈ l) b ∧ b.p = P
  | [], h => by obtain ⟨r, hr, _⟩ := h; cases hr
  | x :: l, h => by
    by_cases hx : ∃ r ∈ l, r.p = P
    · obtain ⟨b, hb, hbp⟩ := isB_min P l hx
      by_cases hyp : x.p = P ∧ x.worth < b.worth
      · refine ⟨x, ⟨by simp, fun z hz hzp => ?_⟩, hyp.1⟩
        rcases List.mem_cons.1 hz with rfl | hz
        · exact Int.le_refl _
        · have := hb.2 z hz (hzp.trans (hyp.1.trans hbp.symm)); omega
      · refine ⟨b, ⟨List.mem_cons_of_mem _ hb.1, fun z hz hzp => ?_⟩, hbp⟩
        rcases List.mem_cons.1 hz with rfl | hz
        · have h1 := hzp.trans hbp
          by_cases hw : z.worth < b.worth
          · exact absurd ⟨h1, hw⟩ hyp
          · omega
        · exact hb.2 z hz hzp
    · obtain ⟨r, hr, hrp⟩ := h
      have hxr : x.p = P := by
        rcases List.mem_cons.1 hr with h | h
        · rw [← h]; exact hrp
        · exact absurd ⟨r, h, hrp⟩ hx
      refine ⟨x, ⟨by simp, fun z hz hzp => ?_⟩, hxr⟩
      rcases List.mem_cons.1 hz with rfl | hz
      · exact Int.le_refl _
      · exact absurd ⟨z, hz, hzp.trans hxr⟩ hx
/-- Two of the best ones of one prefix are one. -/
theorem isB_one {l : List OffV} {S : OffV → Prop} (hS : ∀ o, S o → Live l o) (hg : ∀ o ∈ l, o.Good) {a b : OffV} (ha : IsB S a) (hb : IsB S b) (hp : a.p = b.p) : a = b := by
  have h1 := ha.2 b hb.1 hp.symm
  have h2 := hb.2 a ha.1 hp
  have la := hS a ha.1
  have lb := hS b hb.1
  exact la.one lb (worth_key (hg a la.mem) (hg b lb.mem) hp (by omega))
/-- What offers.better says. -/
def cmpI (a b : Int) : Int := if a < b then -1 else if b < a then 1 else 0
def betterI (a b : OffV) : Int := if ¬ cmpI a.src b.src = 0 then cmpI a.src b.src else if ¬ cmpI a.met b.met = 0 then cmpI a.met b.met else cmpI a.peer b.peer
theorem better_worth {a b : OffV} (ha : a.Good) (hb : b.Good) : betterI a b < 0 ↔ a.worth < b.worth := by
  have h1 := ha.peer
  have h2 := ha.met
  have h3 := hb.peer
  have h4 := hb.met
  unfold betterI cmpI OffV.worth
  repeat' split
  all_goals omega

end Go.Proofs.Ytmljdjakbbedlaa

namespace Go.Proofs.Ytmljdjakbbedlaa
open Go.ChangeShapes Go.WideShapes Go.ChangeAt Go.RowKit
open Go.Maps (Keyed)

theorem offLaid : laidOutB Try.prog = true := by kernel_rfl
theorem keyP : Keyed Try.prog 42 := Keyed.of_law (deep_law_laid offLaid (m := 4) (by omega) (of_decide_eq_true (by kernel_rfl)) (by kernel_rfl) (by rw [Try.underlying42]))
theorem keyK : Keyed Try.prog 152 := Keyed.of_law (deep_law_laid offLaid (m := 5) (by omega) (of_decide_eq_true (by kernel_rfl)) (by kernel_rfl) (by rw [Try.underlying152]))
theorem lits_bool (d : Nat) (b : Bool) : Try.prog.keyLits (d + 1) 4 [.bool b] = some [.bool b] := by simp [Program.keyLits, Try.underlying4]
theorem lits_u64 (d : Nat) (n : Int) (h : 0 ≤ n ∧ n < 18446744073709551616) : Try.prog.keyLits (d + 1) 33 [.int .u64 n] = some [.int .u64 n] := by
  have := WalkArith.wf_u64 (n := n) (by omega)
  simp [Program.keyLits, Try.underlying33, this]
theorem lits_int (d : Nat) (n : Int) (h : -9223372036854775808 ≤ n ∧ n ≤ 9223372036854775807) : Try.prog.keyLits (d + 1) 3 [.int .i64 n] = some [.int .i64 n] := by
  have := WalkArith.wf_i64 h
  simp [Program.keyLits, Try.underlying3, this]
theorem cellsA : Try.prog.cellsOf 35 = 3 := by kernel_rfl
theorem cellsP : Try.prog.cellsOf 42 = 4 := by kernel_rfl
theorem cellsKy : Try.prog.cellsOf 152 = 6 := by kernel_rfl
theorem cellsB : Try.prog.cellsOf 4 = 1 := by kernel_rfl
theorem cellsU : Try.prog.cellsOf 33 = 1 := by kernel_rfl
theorem cellsI : Try.prog.cellsOf 3 = 1 := by kernel_rfl
theorem lits_addr (d : Nat) (six : Bool) (hi lo : Int) (h1 : 0 ≤ hi ∧ hi < 18446744073709551616) (h2 : 0 ≤ lo ∧ lo < 18446744073709551616) :
    Try.prog.keyLits (d + 2) 35 [.bool six, .int .u64 hi, .int .u64 lo] = some [.bool six, .int .u64 hi, .int .u64 lo] := by
  unfold Program.keyLits
  simp [Try.underlying35, cellsA, cellsB, cellsU, lits_bool, lits_u64 d _ h1, lits_u64 d _ h2]
theorem lits_pre (d : Nat) (six : Bool) (hi lo n : Int) (h1 : 0 ≤ hi ∧ hi < 18446744073709551616) (h2 : 0 ≤ lo ∧ lo < 18446744073709551616) (h3 : -9223372036854775808 ≤ n ∧ n ≤ 9223372036854775807) :
    Try.prog.keyLits (d + 3) 42 [.bool six, .int .u64 hi, .int .u64 lo, .int .i64 n] = some [.bool six, .int .u64 hi, .int .u64 lo, .int .i64 n] := by
  unfold Program.keyLits
  simp [Try.underlying42, cellsA, cellsP, cellsI, lits_addr d six hi lo h1 h2, lits_int (d + 1) n h3]
theorem lits_key (d : Nat) (six : Bool) (hi lo n src peer : Int) (h1 : 0 ≤ hi ∧ hi < 18446744073709551616) (h2 : 0 ≤ lo ∧ lo < 18446744073709551616) (h3 : -9223372036854775808 ≤ n ∧ n ≤ 9223372036854775807)
    (h4 : -9223372036854775808 ≤ src ∧ src ≤ 9223372036854775807) (h5 : -9223372036854775808 ≤ peer ∧ peer ≤ 9223372036854775807) :
    Try.prog.keyLits (d + 4) 152 [.bool six, .int .u64 hi, .int .u64 lo, .int .i64 n, .int .i64 src, .int .i64 peer] = some [.bool six, .int .u64 hi, .int .u64 lo, .int .i64 n, .int .i64 src, .int .i64 peer] := by
  unfold Program.keyLits
  simp [Try.underlying152, cellsP, cellsKy, cellsI, lits_pre d six hi lo n h1 h2 h3, lits_int (d + 2) src h4, lits_int (d + 2) peer h5]
theorem types_more : ∃ m, Try.prog.types.size + 1 = m + 4 := ⟨Try.prog.types.size - 3, by
  have : 10 < Try.prog.types.size := of_decide_eq_true (by kernel_rfl)
  omega⟩

def OffV.val (o : OffV) : Value := .agg #[.bool o.p.six, .int .u64 o.p.hi, .int .u64 o.p.lo, .int .i64 o.p.n, .int .i64 o.src, .int .i64 o.peer, .int .i64 o.met, .int .i64 o.hop]
def OffV.cells (o : OffV) : List Value := [.bool o.p.six, .int .u64 o.p.hi, .int .u64 o.p.lo, .int .i64 o.p.n, .int .i64 o.src, .int .i64 o.peer, .int .i64 o.met, .int .i64 o.hop]
theorem OffV.cells_length (o : OffV) : o.cells.length = 8 := rfl
def OffV.key (o : OffV) : Value := .agg #[.bool o.p.six, .int .u64 o.p.hi, .int .u64 o.p.lo, .int .i64 o.p.n, .int .i64 o.src, .int .i64 o.peer]
def OffV.pre (o : OffV) : Value := .agg #[.bool o.p.six, .int .u64 o.p.hi, .int .u64 o.p.lo, .int .i64 o.p.n]
/-- What such keys read as. -/
noncomputable def OffV.kl (o : OffV) : Lit := (keyOf Try.prog 152 o.key).getD .nil
noncomputable def OffV.pl (o : OffV) : Lit := (keyOf Try.prog 42 o.pre).getD .nil
theorem OffV.Good.ranges {o : OffV} (g : o.Good) : (0 ≤ o.p.hi ∧ o.p.hi < 18446744073709551616) ∧ (0 ≤ o.p.lo ∧ o.p.lo < 18446744073709551616) ∧ (0 ≤ o.p.n ∧ o.p.n ≤ 128) := by
  have h := g.ok
  have h2 := wideI_le o.p.six
  have h3 := Pfx.len h
  exact ⟨Pfx.rhi h, Pfx.rlo h, h3.1, by omega⟩
theorem OffV.kl_is {o : OffV} (g : o.Good) : keyOf Try.prog 152 o.key = some o.kl := by
  obtain ⟨h1, h2, h3⟩ := g.ranges
  have s := g.src
  have p := g.peer
  obtain ⟨m, hm⟩ := types_more
  have : ∃ l, keyOf Try.prog 152 o.key = some l := by
    refine ⟨.string (keyBytes [.bool o.p.six, .int .u64 o.p.hi, .int .u64 o.p.lo, .int .i64 o.p.n, .int .i64 o.src, .int .i64 o.peer]), ?_⟩
    unfold keyOf OffV.key
    rw [hm, show Value.cells (.agg #[.bool o.p.six, .int .u64 o.p.hi, .int .u64 o.p.lo, .int .i64 o.p.n, .int .i64 o.src, .int .i64 o.peer]) = #[.bool o.p.six, .int .u64 o.p.hi, .int .u64 o.p.lo, .int .i64 o.p.n, .int .i64 o.src, .int .i64 o.peer] from rfl]
    simp [Try.underlying152, Value.formed, cellsKy, lits_key m _ _ _ o.p.n o.src o.peer h1 h2 (by omega) (by omega) (by omega), show Try.prog.keyType 152 = true by kernel_rfl]
  obtain ⟨l, hl⟩ := this
  unfold OffV.kl
  rw [hl]
  rfl
theorem OffV.pl_is {o : OffV} (g : o.Good) : keyOf Try.prog 42 o.pre = some o.pl := by
  obtain ⟨h1, h2, h3⟩ := g.ranges
  obtain ⟨m, hm⟩ := types_more
  have : ∃ l, keyOf Try.prog 42 o.pre = some l := by
    refine ⟨.string (keyBytes [.bool o.p.six, .int .u64 o.p.hi, .int .u64 o.p.lo, .int .i64 o.p.n]), ?_⟩
    unfold keyOf OffV.pre
    rw [hm, show Value.cells (.agg #[.bool o.p.six, .int .u64 o.p.hi, .int .u64 o.p.lo, .int .i64 o.p.n]) = #[.bool o.p.six, .int .u64 o.p.hi, .int .u64 o.p.lo, .int .i64 o.p.n] from rfl]
    simp [Try.underlying42, Value.formed, cellsP, lits_pre (m + 1) _ _ _ o.p.n h1 h2 (by omega), show Try.prog.keyType 42 = true by kernel_rfl]
  obtain ⟨l, hl⟩ := this
  unfold OffV.pl
  rw [hl]
  rfl
set_option maxRecDepth 100000 in
theorem OffV.kl_key {o : OffV} (g : o.Good) : WideAt.IsKeyLit o.kl := keyK.key (OffV.kl_is g)
set_option maxRecDepth 100000 in
theorem OffV.pl_key {o : OffV} (g : o.Good) : WideAt.IsKeyLit o.pl := keyP.key (OffV.pl_is g)
theorem pv_ext {p q : PV} (h1 : p.six = q.six) (h2 : p.hi = q.hi) (h3 : p.lo = q.lo) (h4 : p.n = q.n) : p = q := by cases p; cases q; simp_all
theorem OffV.kl_same {a b : OffV} (ga : a.Good) (gb : b.Good) : a.kl = b.kl ↔ SameK a b := by
  constructor
  · intro h
    have h1 := OffV.kl_is ga
    have h2 := OffV.kl_is gb
    rw [h] at h1
    have := keyK.inj h1 h2
    unfold OffV.key at this
    simp at this
    exact ⟨pv_ext this.1 this.2.1 this.2.2.1 this.2.2.2.1, this.2.2.2.2.1, this.2.2.2.2.2⟩
  · rintro ⟨h1, h2, h3⟩
    unfold OffV.kl OffV.key
    rw [h1, h2, h3]
theorem OffV.pl_same {a b : OffV} (ga : a.Good) (gb : b.Good) : a.pl = b.pl ↔ a.p = b.p := by
  constructor
  · intro h
    have h1 := OffV.pl_is ga
    have h2 := OffV.pl_is gb
    rw [h] at h1
    have := keyP.inj h1 h2
    unfold OffV.pre at this
    simp at this
    exact pv_ext this.1 this.2.1 this.2.2.1 this.2.2.2
  · intro h
    unfold OffV.pl OffV.pre
    rw [h]

end Go.Proofs.Ytmljdjakbbedlaa

namespace Go.Proofs.Ytmljdjakbbedlaa
open Go.ChangeShapes Go.WideShapes Go.ChangeAt Go.RowKit
open Go.Maps (Keyed)

/-- What is known of a slice of offers. -/
def IsOffs (w : World) (A : Option Addr) (n c : Nat) (l : List OffV) : Prop :=
  l.length = n ∧ (n ≤ c ∧ c ≤ maxLen) ∧ (∀ r ∈ l, r.Raw) ∧ Reads w w.heap.size 8 A n (l.flatMap OffV.cells)
theorem IsOffs.below {w w' : World} {A : Option Addr} {n c : Nat} {l : List OffV} (h : IsOffs w A n c l) (hb : Below w.heap.size w w') : IsOffs w' A n c l :=
  ⟨h.1, h.2.1, h.2.2.1, (h.2.2.2.below hb).more hb.size⟩

set_option maxRecDepth 100000 in
theorem open_offs {H : Type} {enc : TypeId × Value → H} {W : World} {base : Nat} {sp : Nat → Bool} {held : Bool} {a0 : Option Addr} {len0 cap0 : Nat} {d : DataW H} {p : List MemPlace}
    (h : DataW.Trod enc Try.prog W base sp held 24 (.slice a0 len0 cap0) d p) : ∃ l : List OffV, IsOffs W a0 len0 cap0 l := by
  have hk : flat Try.prog 9 44 = some [none, some .u64, some .u64, some .i64, some .i64, some .i64, some .i64, some .i64] := by kernel_rfl
  obtain ⟨css, hcl, hfit, hr, hl, hm⟩ := open_flats Try.underlying24 hk (by kernel_rfl) (by simp) h
  obtain ⟨l, rfl, hz⟩ := choose_list (f := OffV.cells) (Q := OffV.Raw) css (fun cs hc => by
    have hf := hfit cs hc
    clear hr hcl hfit
    obtain ⟨six, _, rfl, hf1⟩ := hf.bool_inv
    obtain ⟨hi, _, rfl, wy, hf2⟩ := hf1.int_inv
    obtain ⟨lo, _, rfl, wz, hf3⟩ := hf2.int_inv
    obtain ⟨n, _, rfl, _, hf4⟩ := hf3.int_inv
    obtain ⟨src, _, rfl, _, hf5⟩ := hf4.int_inv
    obtain ⟨peer, _, rfl, _, hf6⟩ := hf5.int_inv
    obtain ⟨met, _, rfl, _, hf7⟩ := hf6.int_inv
    obtain ⟨hop, _, rfl, _, hf8⟩ := hf7.int_inv
    obtain rfl := hf8.nil_inv
    exact ⟨⟨⟨six, hi, lo, n⟩, src, peer, met, hop⟩, ⟨range_u64 wy, range_u64 wz⟩, rfl⟩)
  exact ⟨l, by simpa using hcl, ⟨hl, hm⟩, hz, by rw [List.flatMap_def]; exact hr⟩

/-- A function that shows a set of offers by a key. -/
def ShowsO (F : Lit → Option Value) (kf : OffV → Lit) (S : OffV → Prop) : Prop := ∀ kl v, F kl = some v ↔ ∃ q, S q ∧ kl = kf q ∧ v = q.val
theorem val_inj {a b : OffV} (h : a.val = b.val) : a = b := by
  obtain ⟨⟨six, hi, lo, n⟩, src, peer, met, hop⟩ := a
  obtain ⟨⟨six', hi', lo', n'⟩, src', peer', met', hop'⟩ := b
  unfold OffV.val at h
  simp at h
  obtain ⟨rfl, rfl, rfl, rfl, rfl, rfl, rfl, rfl⟩ := h
  rfl
theorem ShowsO.get {F : Lit → Option Value} {kf : OffV → Lit} {S : OffV → Prop} (h : ShowsO F kf S) {q : OffV} (hq : S q) : F (kf q) = some q.val := (h _ _).2 ⟨q, hq, rfl, rfl⟩
theorem ShowsO.none {F : Lit → Option Value} {kf : OffV → Lit} {S : OffV → Prop} (h : ShowsO F kf S) {kl : Lit} (hq : ∀ q, S q → ¬ kl = kf q) : F kl = Option.none := by
  cases hF : F kl with
  | none => rfl
  | some v =>
    obtain ⟨q, h1, h2, -⟩ := (h kl v).1 hF
    exact absurd h2 (hq q h1)
theorem ShowsO.inj {F : Lit → Option Value} {kf : OffV → Lit} {S : OffV → Prop} (h : ShowsO F kf S) {a b : OffV} (ha : S a) (hb : S b) (he : kf a = kf b) : a = b := by
  have h1 := h.get ha
  have h2 := h.get hb
  rw [he, h2] at h1
  injection h1 with h1
  exact (val_inj h1).symm

/-- The map of the live offers. -/
noncomputable def offStep (F : Lit → Option Value) (o : OffV) : Lit → Option Value := if o.met = 999 then delF (putF F o.kl o.val) o.kl else putF F o.kl o.val
noncomputable def offMap (l : List OffV) : Lit → Option Value := l.foldl offStep (fun _ => none)
theorem offMap_snoc (l : List OffV) (v : OffV) : offMap (l ++ [v]) = offStep (offMap l) v := by simp [offMap, List.foldl_append]
theorem offMap_shows (l : List OffV) (hg : ∀ o ∈ l, o.Good) : ShowsO (offMap l) OffV.kl (Live l) := by
  induction hn : l.length generalizing l with
  | zero =>
    have : l = [] := List.eq_nil_of_length_eq_zero hn
    subst this
    intro kl v
    constructor
    · intro h; cases h
    · rintro ⟨q, hq, -⟩; exact absurd hq (live_nil q)
  | succ n ih =>
    rcases List.eq_nil_or_concat l with rfl | ⟨l', x, rfl⟩
    · simp at hn
    · rw [List.concat_eq_append] at *
      have h' := ih l' (fun o ho => hg o (List.mem_append_left _ ho)) (by simpa using hn)
      have gx : x.Good := hg x (by simp)
      rw [offMap_snoc]
      intro kl v
      unfold offStep
      have hmet := gx.met
      have hsame : ∀ q, Live l' q → (SameK x q ↔ x.kl = q.kl) := fun q hq => (OffV.kl_same gx (hg q (List.mem_append_left _ hq.mem))).symm
      by_cases hm : x.met = 999
      · rw [if_pos hm]
        unfold delF putF
        by_cases hk : kl = x.kl
        · rw [if_pos hk]
          constructor
          · intro h; cases h
          · rintro ⟨q, hq, hkq, -⟩
            rcases live_snoc.1 hq with ⟨rfl, h1⟩ | ⟨h1, h2⟩
            · omega
            · exact absurd ((hsame q h1).2 (by rw [← hk, hkq])) h2
        · rw [if_neg hk, if_neg hk, h' kl v]
          constructor
          · rintro ⟨q, hq, hkq, hv⟩
            exact ⟨q, live_snoc.2 (.inr ⟨hq, fun hs => hk (by rw [hkq, (hsame q hq).1 hs])⟩), hkq, hv⟩
          · rintro ⟨q, hq, hkq, hv⟩
            rcases live_snoc.1 hq with ⟨rfl, h1⟩ | ⟨h1, h2⟩
            · omega
            · exact ⟨q, h1, hkq, hv⟩
      · rw [if_neg hm]
        unfold putF
        by_cases hk : kl = x.kl
        · rw [if_pos hk]
          constructor
          · intro h
            injection h with h
            exact ⟨x, live_snoc.2 (.inl ⟨rfl, by omega⟩), hk, h.symm⟩
          · rintro ⟨q, hq, hkq, rfl⟩
            rcases live_snoc.1 hq with ⟨rfl, h1⟩ | ⟨h1, h2⟩
            · rfl
            · exact absurd ((hsame q h1).2 (by rw [← hk, hkq])) h2
        · rw [if_neg hk, h' kl v]
          constructor
          · rintro ⟨q, hq, hkq, hv⟩
            exact ⟨q, live_snoc.2 (.inr ⟨hq, fun hs => hk (by rw [hkq, (hsame q hq).1 hs])⟩), hkq, hv⟩
          · rintro ⟨q, hq, hkq, hv⟩
            rcases live_snoc.1 hq with ⟨rfl, h1⟩ | ⟨h1, h2⟩
            · exact absurd hkq hk
            · exact ⟨q, h1, hkq, hv⟩

/-- What was visited of a map that shows offers. -/
structure VisO (S : OffV → Prop) (kf : OffV → Lit) (left : Lit → Bool) (vs : List OffV) : Prop where
  nd : vs.Nodup
  sub : ∀ q ∈ vs, S q
  mem : ∀ q, S q → (left (kf q) = true ↔ q ∉ vs)
section
variable {F : Lit → Option Value} {kf : OffV → Lit} {S : OffV → Prop} {left : Lit → Bool} {vs : List OffV}
theorem VisO.start (hF : ShowsO F kf S) (hk : ∀ q, S q → WideAt.IsKeyLit (kf q)) (h : ∀ kl, WideAt.IsKeyLit kl → left kl = (F kl).isSome) : VisO S kf left [] :=
  ⟨List.nodup_nil, by simp, fun q hq => by rw [h _ (hk q hq), hF.get hq]; simp⟩
theorem VisO.step (h : VisO S kf left vs) (hF : ShowsO F kf S) (hk : ∀ q, S q → WideAt.IsKeyLit (kf q)) {q : OffV} (hq : S q) (hl : left (kf q) = true) : VisO S kf (fun z => left z && !z.sameKey (kf q)) (vs ++ [q]) := by
  have hn := (h.mem q hq).1 hl
  refine ⟨?_, ?_, fun x hx => ?_⟩
  · rw [List.nodup_append]
    refine ⟨h.nd, by simp, ?_⟩
    intro a ha b hb e
    simp at hb
    subst hb
    subst e
    exact hn ha
  · intro x hx
    rcases List.mem_append.1 hx with hx | hx
    · exact h.sub x hx
    · simp at hx; subst hx; exact hq
  · rw [Bool.and_eq_true, h.mem x hx]
    simp only [Bool.not_eq_true', List.mem_append, List.mem_singleton, not_or]
    constructor
    · rintro ⟨a, b⟩
      refine ⟨a, fun e => ?_⟩
      subst e
      rw [WideAt.sameKey_self (hk x hx)] at b
      cases b
    · rintro ⟨a, b⟩
      refine ⟨a, ?_⟩
      rw [Bool.eq_false_iff]
      intro hs
      exact b (hF.inj hx hq (WideAt.sameKey_eq hs))
theorem VisO.done (h : VisO S kf left vs) (h0 : ∀ kl, left kl = false) (x : OffV) : x ∈ vs ↔ S x := by
  refine ⟨h.sub x, fun hx => ?_⟩
  by_cases hm : x ∈ vs
  · exact hm
  · have := (h.mem x hx).2 hm
    rw [h0] at this
    cases this
end

/-- The map of the best ones of those looked at so far. -/
def BestM (vs : List OffV) (G : Lit → Option Value) : Prop := ShowsO G OffV.pl (IsB (· ∈ vs))
theorem BestM.start : BestM [] (fun _ => none) := by
  intro kl v
  constructor
  · intro h; cases h
  · rintro ⟨q, ⟨hq, -⟩, -⟩; cases hq
section
variable {l vs : List OffV} {G : Lit → Option Value}
theorem bestM_put (hl : ∀ q ∈ vs, Live l q) (hg : ∀ o ∈ l, o.Good) (h : BestM vs G) {o : OffV} (ho : Live l o) (hw : ∀ q ∈ vs, q.p = o.p → o.worth < q.worth) : BestM (vs ++ [o]) (putF G o.pl o.val) := by
  intro kl v
  have go := hg o ho.mem
  unfold putF
  by_cases hk : kl = o.pl
  · rw [if_pos hk]
    constructor
    · intro h
      injection h with h
      exact ⟨o, (isB_put hw o).2 (.inl rfl), hk, h.symm⟩
    · rintro ⟨q, hq, hkq, rfl⟩
      rcases (isB_put hw q).1 hq with rfl | ⟨h1, h2⟩
      · rfl
      · exact absurd ((OffV.pl_same (hg q (hl q h2.1).mem) go).1 (by rw [← hkq, hk])) h1
  · rw [if_neg hk, h kl v]
    constructor
    · rintro ⟨q, hq, hkq, hv⟩
      refine ⟨q, (isB_put hw q).2 (.inr ⟨fun hp => hk ?_, hq⟩), hkq, hv⟩
      rw [hkq]
      exact (OffV.pl_same (hg q (hl q hq.1).mem) go).2 hp
    · rintro ⟨q, hq, hkq, hv⟩
      rcases (isB_put hw q).1 hq with rfl | ⟨h1, h2⟩
      · exact absurd hkq hk
      · exact ⟨q, h2, hkq, hv⟩
theorem bestM_new (hl : ∀ q ∈ vs, Live l q) (hg : ∀ o ∈ l, o.Good) (h : BestM vs G) {o : OffV} (ho : Live l o) (hn : G o.pl = none) : BestM (vs ++ [o]) (putF G o.pl o.val) := by
  refine bestM_put hl hg h ho (fun q hq hp => ?_)
  obtain ⟨b, hb, hbp⟩ := isB_min o.p vs ⟨q, hq, hp⟩
  have h1 := h.get hb
  rw [(OffV.pl_same (hg b (hl b hb.1).mem) (hg o ho.mem)).2 hbp, hn] at h1
  cases h1
theorem bestM_old (hl : ∀ q ∈ vs, Live l q) (hg : ∀ o ∈ l, o.Good) (h : BestM vs G) {o : OffV} (ho : Live l o) {v : Value} (hn : G o.pl = some v) :
    ∃ b, b.Good ∧ v = b.val ∧ (betterI o b < 0 → BestM (vs ++ [o]) (putF G o.pl o.val)) ∧ (¬ betterI o b < 0 → o ∉ vs → BestM (vs ++ [o]) G) := by
  obtain ⟨b, hb, hkb, rfl⟩ := (h _ _).1 hn
  have lb := hl b hb.1
  have gb := hg b lb.mem
  have go := hg o ho.mem
  have hp := (OffV.pl_same go gb).1 hkb
  refine ⟨b, gb, rfl, fun hw => ?_, fun hw hno => ?_⟩
  · refine bestM_put hl hg h ho (fun q hq hpq => ?_)
    have h1 := hb.2 q hq (hpq.trans hp)
    have h2 := (better_worth go gb).1 hw
    omega
  · have h1 : ¬ o.worth < b.worth := fun hx => hw ((better_worth go gb).2 hx)
    have h2 : ¬ o.worth = b.worth := fun he => by
      have := ho.one lb (worth_key go gb hp he)
      subst this
      exact hno hb.1
    intro kl v
    rw [h kl v]
    constructor
    · rintro ⟨q, hq, r⟩
      exact ⟨q, (isB_keep hb hp.symm (by omega) q).2 hq, r⟩
    · rintro ⟨q, hq, r⟩
      exact ⟨q, (isB_keep hb hp.symm (by omega) q).1 hq, r⟩
end
/-- The best ones, gathered in whatever order and sorted. -/
theorem bests_of {l vs ws m : List OffV} (hg : ∀ o ∈ l, o.Good) (hv : ∀ q, q ∈ vs ↔ Live l q) (hws : ∀ q, q ∈ ws ↔ IsB (· ∈ vs) q) (hnd : ws.Nodup) (hp : m.Perm ws) (hs : m.Pairwise fun x y => ¬ ltP y.p x.p) : Bests l m := by
  have hB : ∀ q, IsB (· ∈ vs) q ↔ IsB (Live l) q := fun q => by
    unfold IsB
    constructor
    · rintro ⟨h1, h2⟩; exact ⟨(hv q).1 h1, fun r hr => h2 r ((hv r).2 hr)⟩
    · rintro ⟨h1, h2⟩; exact ⟨(hv q).2 h1, fun r hr => h2 r ((hv r).1 hr)⟩
  have hm : ∀ q, q ∈ m ↔ IsB (Live l) q := fun q => by rw [hp.mem_iff, hws, hB]
  refine ⟨?_, hm⟩
  have hnm : m.Nodup := hp.nodup_iff.2 hnd
  have hall : ∀ q ∈ m, IsB (Live l) q := fun q hq => (hm q).1 hq
  refine List.Pairwise.imp_of_mem ?_ (hs.and (List.nodup_iff_pairwise_ne.1 hnm))
  intro a b ha hb h
  have h1 := hall a ha
  have h2 := hall b hb
  have ga := hg a h1.1.mem
  have gb := hg b h2.1.mem
  have hne : ¬ a.p = b.p := fun he => h.2 (isB_one (fun _ h => h) hg h1 h2 he)
  by_cases h3 : ltP a.p b.p
  · exact h3
  · exact absurd (ltP_total ga.ok gb.ok h3 h.1) hne

end Go.Proofs.Ytmljdjakbbedlaa

namespace Go.Proofs.Ytmljdjakbbedlaa
open Go.ChangeShapes Go.WideShapes Go.ChangeAt Go.RowKit
open Go.Maps (Keyed)

theorem grown_cells {w w' : World} {m : Nat} (hg : w.grownBy w' (some m)) : ∀ b o, b < w.heap.size → ¬ b = m → w'.cell? ⟨b, o, none⟩ = w.cell? ⟨b, o, none⟩ :=
  fun b _ h hne => World.cell?_of_block (hg.block b h (fun e => hne (by injection e)))
theorem alloc_cellO {w : World} {o : Obj} {b off : Nat} {u : Value} (h : w.cell? ⟨b, off, none⟩ = some u) (hb : b < w.heap.size) : (w.alloc o).cell? ⟨b, off, none⟩ = some u := by
  rw [World.cell?_alloc_past _ _ _ hb]
  exact h
theorem alloc_cellN {w : World} {cs : Array Value} {t : TypeId} {fr : Nat × Nat} {j : Nat} {u : Value} (h : cs[j]? = some u) : (w.alloc (.cells cs t fr)).cell? ⟨w.heap.size, j, none⟩ = some u := by
  have e := heap_alloc_new w (.cells cs t fr)
  unfold World.cell?
  simp only [e]
  simpa using h
section
variable {P : Program} {k : TypeId} {b n : Nat} {F : Lit → Option Value} {w w' : World}
/-- 'delete(m, k)', at the operation. -/
theorem wpList_delete_F {ops : Array Oper} {rest : List Oper} {o : Oper} {a : Act} {Q : Exit → Act → World → Prop}
    (hg : o.guard = none) (m x : Operand) (t : TypeId) (hop : o.op = Op.call { callee := Callee.builtin Builtin.delete, args := #[m, x], argTypes := #[t, k] })
    (e : TypeId) (K : Keyed P k) (ht : P.underlying t = some (.map k e))
    (hm : a.eval m = .map (some b)) (hown : MapF w P k b n F) (key : Value) (kl : Lit) (hx : a.eval x = key) (hkey : keyOf P k key = some kl)
    (hK : ∀ w', MapF w' P k b n (delF F kl) → w.grownBy w' (some b) → wpList P ops Q rest (a.put o.dst (.tuple #[])) w') :
    wpList P ops Q (o :: rest) a w := by
  obtain ⟨D, h1, h2⟩ := hown
  exact wpList_delete_own w hg m x t k hop e K ht heldR b n D hm h1 key kl hx hkey (fun w' h3 h4 => hK w' ⟨_, h3, h2.del⟩ h4.grown)
end

theorem makeOffs (w : World) : (Instr.makeMap 147 none).run Try.prog w = .ok (.map (some w.heap.size)) (w.alloc (.map #[] 0)) := by kernel_rfl
theorem zeroOffer (w : World) : (zeroValue 44).run Try.prog w = .ok (.agg #[.bool false, .int .u64 0, .int .u64 0, .int .i64 0, .int .i64 0, .int .i64 0, .int .i64 0, .int .i64 0]) w := by kernel_rfl

/-- What offers.live returns, and what it leaves. -/
def LiveIs (l : List OffV) (w : World) (e : Ending) (w' : World) : Prop :=
  Below w.heap.size w w' ∧ ((¬ offsF l = 0 ∧ e = .returned (.tuple #[.map none, .int .i64 (offsF l)])) ∨ (offsF l = 0 ∧ e = .returned (.tuple #[.map (some w.heap.size), .int .i64 0]) ∧ MapF w' Try.prog 152 w.heap.size l.length (offMap l)))

theorem ret_mi2 {m : Value} {a b : Int} (h : a = b) : Ending.returned (.tuple #[m, .int .i64 a]) = Ending.returned (.tuple #[m, .int .i64 b]) := by rw [h]

set_option maxRecDepth 100000 in
set_option maxHeartbeats 1600000 in
theorem live_any (A : Option Addr) (n c : Nat) (l : List OffV) (w : World) (hn2 : n ≤ 100) (hnc : n ≤ c) (_hcm : c ≤ maxLen) (hz : l.length = n) (ho : ∀ r ∈ l, r.Raw) (hr : Reads w w.heap.size 8 A n (l.flatMap OffV.cells)) :
    Calls Try.prog 72 #[.slice A n c] w (LiveIs l w) := by
  have HZ := Lib.hid hz
  have HR := Lib.hid hr
  have HOK := Lib.hid ho
  unfold maxLen at _hcm
  have H0 : Hid (offsF l = offsTo l) := by show _ = _; unfold offsF; rw [if_neg (by omega)]
  have hmk := makeOffs
  clear hz hr ho
  go_enter Try.func72, Try.ntmps72
  go_wp2
  go_loopw [15, 6, 7, 8] (fun i _ _ _ wr => ∃ k : Nat, k ≤ n ∧ i = .int .i64 k ∧ Hid (∀ x ∈ l.take k, x.E = 0) ∧ Hid (MapF wr Try.prog 152 w.heap.size k (offMap (l.take k))) ∧ Below w.heap.size w wr ∧ w.heap.size < wr.heap.size) (fun i _ _ _ _ => n - (intOf i).toNat)
  case atStart => exact ⟨0, by omega, rfl, (by show ∀ x ∈ l.take 0, x.E = 0; simp), MapF.made _ _ _, (Below.refl _ _).alloc (Nat.le_refl _) _, by simp⟩
  case round =>
    obtain ⟨k, hk, rfl, HT, HM, hb, hsz⟩ := hrel
    have hszb := hb.size
    by_cases hlt : k < n
    · obtain ⟨ad, ⟨⟨six, hi, lo, pn⟩, src, peer, met, hop⟩, rfl, hlk, htk, hmem, hbk, hc0, hcj⟩ := HR.out.atS OffV.cells_length HZ.out hlt
      have q0 := (hb.cell (p := ad.add (k * 8)) (by rw [block_of_add]; exact hbk)).trans (hc0 _ rfl)
      have q1 := (hb.cell (p := ⟨(ad.add (k * 8)).block, (ad.add (k * 8)).off + 1, none⟩) (by rw [block_of_add]; exact hbk)).trans (hcj 1 _ rfl)
      have q2 := (hb.cell (p := ⟨(ad.add (k * 8)).block, (ad.add (k * 8)).off + 2, none⟩) (by rw [block_of_add]; exact hbk)).trans (hcj 2 _ rfl)
      have q3 := (hb.cell (p := ⟨(ad.add (k * 8)).block, (ad.add (k * 8)).off + 3, none⟩) (by rw [block_of_add]; exact hbk)).trans (hcj 3 _ rfl)
      have q4 := (hb.cell (p := ⟨(ad.add (k * 8)).block, (ad.add (k * 8)).off + 4, none⟩) (by rw [block_of_add]; exact hbk)).trans (hcj 4 _ rfl)
      have q5 := (hb.cell (p := ⟨(ad.add (k * 8)).block, (ad.add (k * 8)).off + 5, none⟩) (by rw [block_of_add]; exact hbk)).trans (hcj 5 _ rfl)
      have q6 := (hb.cell (p := ⟨(ad.add (k * 8)).block, (ad.add (k * 8)).off + 6, none⟩) (by rw [block_of_add]; exact hbk)).trans (hcj 6 _ rfl)
      have q7 := (hb.cell (p := ⟨(ad.add (k * 8)).block, (ad.add (k * 8)).off + 7, none⟩) (by rw [block_of_add]; exact hbk)).trans (hcj 7 _ rfl)
      have hraw := HOK.out _ hmem
      have h1 := hraw.1
      have h2 := hraw.2
      simp only at h1 h2
      have HC := Lib.hid (fun w => offerCheck_any six hi lo pn src peer met hop w h1 h2)
      obtain ⟨f, hf⟩ : ∃ f, OffV.E ⟨⟨six, hi, lo, pn⟩, src, peer, met, hop⟩ = f := ⟨_, rfl⟩
      have hf' : offE (chk six hi lo pn) src peer met hop = f := hf
      rw [hf'] at HC
      have HF := Lib.hid hf
      have HLK := Lib.hid hlk
      have HTK := Lib.hid htk
      have HBO := Lib.hid hb
      have hkc : (k : Int) ≤ (c : Int) := by omega
      have hkc2 : (k : Int) ≤ 100 := by omega
      clear hlk htk hmem hbk hc0 hcj hf hf' hb
      by_cases hz : f = 0
      · subst hz
        have HG : Hid (OffV.Good ⟨⟨six, hi, lo, pn⟩, src, peer, met, hop⟩) := OffV.good hraw HF.out
        have HN2 : Hid (∀ x ∈ l.take (k + 1), x.E = 0) := by
          show ∀ x ∈ l.take (k + 1), x.E = 0
          rw [HTK.out]
          intro x hx
          rcases List.mem_append.1 hx with hx | hx
          · exact HT.out x hx
          · simp at hx; subst hx; exact HF.out
        have HKY := Lib.hid (OffV.kl_is HG.out)
        have HKL := Lib.hid (OffV.kl_key HG.out)
        have HST : Hid (offMap (l.take (k + 1)) = offStep (offMap (l.take k)) ⟨⟨six, hi, lo, pn⟩, src, peer, met, hop⟩) := by
          show _ = _
          rw [HTK.out, offMap_snoc]
        clear hraw h1 h2
        go_wp2_with fail
        refine (HC.out _).mono ?_
        rintro e w1 ⟨rfl, hb1⟩
        have hs1 := hb1.size
        simp at hs1
        obtain ⟨-, hsr, FF⟩ := box1 (cs := [.bool six, .int .u64 hi, .int .u64 lo, .int .i64 pn, .int .i64 src, .int .i64 peer, .int .i64 met, .int .i64 hop]) hb1
        have r0 := FF 0 _ rfl
        have r1 := FF 1 _ rfl
        have r2 := FF 2 _ rfl
        have r3 := FF 3 _ rfl
        have r4 := FF 4 _ rfl
        have r5 := FF 5 _ rfl
        have r6 := FF 6 _ rfl
        have r7 := FF 7 _ rfl
        clear FF
        have HM1 : Hid (MapF w1 Try.prog 152 w.heap.size k (offMap (l.take k))) := (HM.out.alloc _).below hb1 (by simp; omega)
        have HB1 := Lib.hid (below_step (HBO.out.alloc hszb _) hb1)
        have hsw1 : w.heap.size < w1.heap.size := by omega
        have hneb : ¬ wr.heap.size = w.heap.size := by omega
        have hneb1 : ¬ w1.heap.size = w.heap.size := by omega
        clear hb1
        by_cases hm : met = 999
        · subst hm
          go_wp2_with (at_mapUpdate; go_loud (refine wpList_mapUpdate_F rfl _ _ _ 147 rfl 44 keyK Try.underlying147 rfl (HM1.out.alloc _) (by unfold maxLen; omega) (.agg #[.bool six, .int .u64 hi, .int .u64 lo, .int .i64 pn, .int .i64 src, .int .i64 peer]) (.agg #[.bool six, .int .u64 hi, .int .u64 lo, .int .i64 pn, .int .i64 src, .int .i64 peer, .int .i64 999, .int .i64 hop]) _ rfl rfl HKY.out HKL.out ?_))
          intro w2 hm2 hg2
          have gc := grown_cells hg2
          have g6 := (gc wr.heap.size 6 (by simp; omega) hneb).trans (alloc_cellO r6 hsr)
          have k0 := (gc w1.heap.size 0 (by simp) hneb1).trans (alloc_cellN (j := 0) rfl)
          have k1 := (gc w1.heap.size 1 (by simp) hneb1).trans (alloc_cellN (j := 1) rfl)
          have k2 := (gc w1.heap.size 2 (by simp) hneb1).trans (alloc_cellN (j := 2) rfl)
          have k3 := (gc w1.heap.size 3 (by simp) hneb1).trans (alloc_cellN (j := 3) rfl)
          have k4 := (gc w1.heap.size 4 (by simp) hneb1).trans (alloc_cellN (j := 4) rfl)
          have k5 := (gc w1.heap.size 5 (by simp) hneb1).trans (alloc_cellN (j := 5) rfl)
          clear gc
          have HM2 := Lib.hid hm2
          have HB2 := Lib.hid ((HB1.out.alloc (by omega) _).grown hg2 (by simp; omega) (fun j hj => by injection hj with hj; omega))
          have hs2 := hg2.size
          simp at hs2
          clear hm2 hg2
          go_wp2_with (at_delete; go_loud (refine wpList_delete_F rfl _ _ 147 rfl 44 keyK Try.underlying147 rfl HM2.out (.agg #[.bool six, .int .u64 hi, .int .u64 lo, .int .i64 pn, .int .i64 src, .int .i64 peer]) _ rfl HKY.out ?_))
          intro w3 hm3 hg3
          have HM3 : Hid (MapF w3 Try.prog 152 w.heap.size (k + 1) (offMap (l.take (k + 1)))) := by
            show MapF _ _ _ _ _ _
            rw [HST.out]
            unfold offStep
            rw [if_pos rfl]
            exact hm3
          have HB3 := Lib.hid (HB2.out.grown hg3 (by omega) (fun j hj => by injection hj with hj; omega))
          have hs3 := hg3.size
          clear hm3 hg3
          go_wp2
          go_roundw
          case rel => exact ⟨k + 1, by omega, by go_num, HN2, HM3, HB3.out, by omega⟩
          case measure => simp [intOf]; omega
        · have hmd : (met == 999) = false := by simpa using hm
          go_wp2_with (at_mapUpdate; go_loud (refine wpList_mapUpdate_F rfl _ _ _ 147 rfl 44 keyK Try.underlying147 rfl (HM1.out.alloc _) (by unfold maxLen; omega) (.agg #[.bool six, .int .u64 hi, .int .u64 lo, .int .i64 pn, .int .i64 src, .int .i64 peer]) (.agg #[.bool six, .int .u64 hi, .int .u64 lo, .int .i64 pn, .int .i64 src, .int .i64 peer, .int .i64 met, .int .i64 hop]) _ rfl rfl HKY.out HKL.out ?_))
          intro w2 hm2 hg2
          have gc := grown_cells hg2
          have g6 := (gc wr.heap.size 6 (by simp; omega) hneb).trans (alloc_cellO r6 hsr)
          clear gc
          have HM2 : Hid (MapF w2 Try.prog 152 w.heap.size (k + 1) (offMap (l.take (k + 1)))) := by
            show MapF _ _ _ _ _ _
            rw [HST.out]
            unfold offStep
            rw [if_neg hm]
            exact hm2
          have HB2 := Lib.hid ((HB1.out.alloc (by omega) _).grown hg2 (by simp; omega) (fun j hj => by injection hj with hj; omega))
          have hs2 := hg2.size
          simp at hs2
          clear hm2 hg2
          go_wp2
          go_roundw
          case rel => exact ⟨k + 1, by omega, by go_num, HN2, HM2, HB2.out, by omega⟩
          case measure => simp [intOf]; omega
      · have hfd : (f != 0) = true := by simpa using hz
        have HBAD : Hid (offsF l = f) := by
          show _ = _
          rw [H0.out, offsTo_at HT.out HLK.out (by rw [HF.out]; exact hz), HF.out]
        clear hraw h1 h2
        go_wp2_with fail
        refine (HC.out _).mono ?_
        rintro e w1 ⟨rfl, hb1⟩
        have HB1 := Lib.hid (below_step (HBO.out.alloc hszb _) hb1)
        clear hb1
        go_wp2
        go_ret2
        exact ⟨HB1.out, .inl ⟨by rw [HBAD.out]; exact hz, ret_mi2 HBAD.out.symm⟩⟩
    · obtain rfl : k = n := by omega
      have HE : Hid (l.take k = l) := List.take_of_length_le (by rw [HZ.out]; omega)
      rw [HE.out] at HM HT
      go_wp2
      go_ret2
      exact ⟨hb, .inr ⟨by rw [H0.out]; exact offsTo_zero.2 HT.out, rfl, by rw [HZ.out]; exact HM.out⟩⟩

set_option maxHeartbeats 400000 in
theorem live_big (A : Option Addr) (n c : Nat) (w : World) (hn : 100 < n) (hm : n ≤ maxLen) :
    Calls Try.prog 72 #[.slice A n c] w fun e w' => e = .returned (.tuple #[.map none, .int .i64 1]) ∧ Below w.heap.size w w' := by
  unfold maxLen at hm
  go_enter Try.func72, Try.ntmps72
  go_wp2
  go_ret2
  exact ⟨rfl, Below.refl _ _⟩

theorem live_is {A : Option Addr} {n c : Nat} {l : List OffV} {w : World} (h : IsOffs w A n c l) : Calls Try.prog 72 #[.slice A n c] w (LiveIs l w) := by
  have h1 := h.1
  by_cases hn : 100 < l.length
  · have hf : offsF l = 1 := by unfold offsF; rw [if_pos hn]
    refine (live_big A n c w (by omega) (by have := h.2.1; omega)).mono ?_
    rintro e w' ⟨rfl, hb⟩
    exact ⟨hb, .inl ⟨by omega, by rw [hf]⟩⟩
  · exact live_any A n c l w (by omega) h.2.1.1 h.2.1.2 h1 h.2.2.1 h.2.2.2

end Go.Proofs.Ytmljdjakbbedlaa

namespace Go.Proofs.Ytmljdjakbbedlaa
open Go.ChangeShapes Go.WideShapes Go.ChangeAt Go.RowKit

/-- A test on an element, as a function value: its contract in every later world. -/
def OfferTest (w : World) (fid : FuncId) (caps : Array Value) (f : OffV → Bool) (l : List OffV) : Prop :=
  ∀ r ∈ l, ∀ w', Below w.heap.size w w' → Calls Try.prog fid (#[.agg r.cells.toArray] ++ caps) w' fun e w'' => e = .returned (.bool (f r)) ∧ Below w'.heap.size w' w''

set_option maxRecDepth 100000 in
set_option maxHeartbeats 1600000 in
theorem idxOffer_any (A : Option Addr) (n c : Nat) (l : List OffV) (f : OffV → Bool) (fid : FuncId) (caps : Array Value) (w : World) (hent : ∀ (args : Array Value) (w : World), (callFunc fid args).run Try.prog w = .ok (.enter fid args) w) (hz : l.length = n) (hm : n ≤ maxLen) (hr : Reads w w.heap.size 8 A n (l.flatMap OffV.cells))
    (ht : OfferTest w fid caps f l) :
    Calls Try.prog 99 #[.slice A n c, .func (.func fid) #[] caps] w fun e w' => e = .returned (.int .i64 (firstAt f l)) ∧ Below w.heap.size w w' := by
  have HZ := Lib.hid hz
  have HR := Lib.hid hr
  have HT := Lib.hid ht
  unfold maxLen at hm
  obtain ⟨r, hr0⟩ : ∃ r, r = firstAt f l := ⟨_, rfl⟩
  rw [← hr0]
  have H0 := Lib.hid hr0
  clear hz hr ht hr0
  go_enter Try.func99, Try.ntmps99
  go_wp2
  go_loopw [8, 5] (fun i _ wr => ∃ k : Nat, k ≤ n ∧ i = .int .i64 k ∧ NoneYet f l k ∧ Below w.heap.size w wr) (fun i _ _ => n - (intOf i).toNat)
  case atStart => exact ⟨0, by omega, rfl, noneYet_zero f l, Below.refl _ _⟩
  case round =>
    obtain ⟨k, hk, rfl, hto, hb⟩ := hrel
    have HN := Lib.hid hto
    clear hto
    by_cases hlt : k < n
    · obtain ⟨ad, ⟨⟨six, hi, lo, pn⟩, src, peer, met, hop⟩, rfl, hlk, htk, hmem, hbk, hc0, hcj⟩ := HR.out.atS OffV.cells_length HZ.out hlt
      have q0 := (hb.cell (p := ad.add (k * 8)) (by rw [block_of_add]; exact hbk)).trans (hc0 _ rfl)
      have q1 := (hb.cell (p := ⟨(ad.add (k * 8)).block, (ad.add (k * 8)).off + 1, none⟩) (by rw [block_of_add]; exact hbk)).trans (hcj 1 _ rfl)
      have q2 := (hb.cell (p := ⟨(ad.add (k * 8)).block, (ad.add (k * 8)).off + 2, none⟩) (by rw [block_of_add]; exact hbk)).trans (hcj 2 _ rfl)
      have q3 := (hb.cell (p := ⟨(ad.add (k * 8)).block, (ad.add (k * 8)).off + 3, none⟩) (by rw [block_of_add]; exact hbk)).trans (hcj 3 _ rfl)
      have q4 := (hb.cell (p := ⟨(ad.add (k * 8)).block, (ad.add (k * 8)).off + 4, none⟩) (by rw [block_of_add]; exact hbk)).trans (hcj 4 _ rfl)
      have q5 := (hb.cell (p := ⟨(ad.add (k * 8)).block, (ad.add (k * 8)).off + 5, none⟩) (by rw [block_of_add]; exact hbk)).trans (hcj 5 _ rfl)
      have q6 := (hb.cell (p := ⟨(ad.add (k * 8)).block, (ad.add (k * 8)).off + 6, none⟩) (by rw [block_of_add]; exact hbk)).trans (hcj 6 _ rfl)
      have q7 := (hb.cell (p := ⟨(ad.add (k * 8)).block, (ad.add (k * 8)).off + 7, none⟩) (by rw [block_of_add]; exact hbk)).trans (hcj 7 _ rfl)
      have HC : Hid (Calls Try.prog fid (#[.agg #[.bool six, .int .u64 hi, .int .u64 lo, .int .i64 pn, .int .i64 src, .int .i64 peer, .int .i64 met, .int .i64 hop]] ++ caps) wr fun e w'' => e = .returned (.bool (f ⟨⟨six, hi, lo, pn⟩, src, peer, met, hop⟩)) ∧ Below wr.heap.size wr w'') := HT.out _ hmem wr hb
      have HL := Lib.hid hlk
      have HK := Lib.hid htk
      clear hlk htk hmem hbk hc0 hcj
      generalize hfv : f ⟨⟨six, hi, lo, pn⟩, src, peer, met, hop⟩ = fv at *
      have HV := Lib.hid hfv
      clear hfv
      cases fv
      · have HN2 := Lib.hid (noneYet_succ HN.out HK.out HV.out)
        go_wp2_with fail
        refine HC.out.mono ?_
        rintro e w1 ⟨rfl, hb1⟩
        have HB := Lib.hid (below_step hb hb1)
        clear hb1
        go_wp2
        go_roundw
        case rel => exact ⟨k + 1, by omega, by go_num, HN2.out, HB.out⟩
        case measure => simp [intOf]; omega
      · have HN2 := Lib.hid (firstAt_at HN.out HL.out HV.out)
        go_wp2_with fail
        refine HC.out.mono ?_
        rintro e w1 ⟨rfl, hb1⟩
        have HB := Lib.hid (below_step hb hb1)
        clear hb1
        go_wp2
        go_ret
        exact ⟨ret_int (HN2.out.symm.trans H0.out.symm), HB.out⟩
    · obtain rfl : k = n := by omega
      have HN2 := Lib.hid (firstAt_end HN.out HZ.out)
      go_wp2
      go_ret
      exact ⟨ret_int (HN2.out.symm.trans H0.out.symm), hb⟩

set_option maxRecDepth 100000 in
set_option maxHeartbeats 400000 in
theorem hasOffer_any (A : Option Addr) (n c : Nat) (l : List OffV) (f : OffV → Bool) (fid : FuncId) (caps : Array Value) (w : World) (hent : ∀ (args : Array Value) (w : World), (callFunc fid args).run Try.prog w = .ok (.enter fid args) w) (hz : l.length = n) (hm : n ≤ maxLen) (hr : Reads w w.heap.size 8 A n (l.flatMap OffV.cells))
    (ht : OfferTest w fid caps f l) :
    Calls Try.prog 44 #[.slice A n c, .func (.func fid) #[] caps] w fun e w' => e = .returned (.bool (l.any f)) ∧ Below w.heap.size w w' := by
  have HI := idxOffer_any A n c l f fid caps w hent hz hm hr ht
  clear hz hm hr ht hent
  rcases firstAt_cases f l with ⟨h1, h2⟩ | ⟨k, x, h1, h2, h3⟩
  · rw [show l.any f = false from by rw [List.any_eq_false]; exact fun x hx => by rw [h2 x hx]; simp]
    rw [h1] at HI
    have HI' := Lib.hid HI
    clear HI h1 h2
    go_enter Try.func44, Try.ntmps44
    go_wp2_with fail
    refine HI'.out.mono ?_
    rintro e w1 ⟨rfl, hb⟩
    go_wp2
    go_ret
    exact ⟨rfl, hb⟩
  · rw [show l.any f = true from by rw [List.any_eq_true]; exact ⟨x, List.mem_of_getElem? h2, h3⟩]
    rw [h1] at HI
    have HI' := Lib.hid HI
    clear HI h1 h2 h3
    go_enter Try.func44, Try.ntmps44
    go_wp2_with fail
    refine HI'.out.mono ?_
    rintro e w1 ⟨rfl, hb⟩
    go_wp2
    go_ret
    exact ⟨rfl, hb⟩

end Go.Proofs.Ytmljdjakbbedlaa

namespace Go.Proofs.Ytmljdjakbbedlaa
open Go.ChangeShapes Go.WideShapes Go.ChangeAt Go.RowKit

/-- None behind place i is of the same one. -/
def lastB (l : List OffV) (i : Nat) (o : OffV) : Bool := decide (o.met < 999) && (l.drop (i + 1)).all fun q => !decide (SameK q o)
def aliveTo (l : List OffV) (k : Nat) : List OffV := (List.range k).filterMap fun i => (l[i]?).bind fun o => if lastB l i o then some o else none
theorem aliveTo_succ {l : List OffV} {k : Nat} {o : OffV} (h : l[k]? = some o) : aliveTo l (k + 1) = aliveTo l k ++ (if lastB l k o then [o] else []) := by
  unfold aliveTo
  rw [List.range_succ, List.filterMap_append]
  congr 1
  simp only [List.filterMap_cons, List.filterMap_nil, h, Option.bind_some]
  cases lastB l k o <;> rfl
theorem aliveTo_length (l : List OffV) (k : Nat) : (aliveTo l k).length ≤ k := by
  have := List.length_filterMap_le (fun i => (l[i]?).bind fun o => if lastB l i o then some o else none) (List.range k)
  rwa [List.length_range] at this
theorem lastB_iff {l : List OffV} {i : Nat} {o : OffV} : lastB l i o = true ↔ o.met < 999 ∧ ∀ (j : Nat) (q : OffV), i < j → l[j]? = some q → ¬ SameK q o := by
  unfold lastB
  rw [Bool.and_eq_true, decide_eq_true_iff, List.all_eq_true]
  constructor
  · rintro ⟨h1, h2⟩
    refine ⟨h1, fun j q hj hq => ?_⟩
    have := h2 q (List.mem_of_getElem? (i := j - (i + 1)) (by rw [List.getElem?_drop, show i + 1 + (j - (i + 1)) = j by omega]; exact hq))
    simpa using this
  · rintro ⟨h1, h2⟩
    refine ⟨h1, fun q hq => ?_⟩
    obtain ⟨j, hj⟩ := List.getElem?_of_mem hq
    rw [List.getElem?_drop] at hj
    simpa using h2 (i + 1 + j) q (by omega) hj
theorem mem_alive {l : List OffV} {o : OffV} : o ∈ aliveTo l l.length ↔ Live l o := by
  unfold aliveTo
  rw [List.mem_filterMap]
  constructor
  · rintro ⟨i, _, hi⟩
    cases hl : l[i]? with
    | none => rw [hl] at hi; cases hi
    | some q =>
      rw [hl, Option.bind_some] at hi
      split at hi
      · rename_i hb
        injection hi with hi
        subst hi
        exact ⟨i, hl, lastB_iff.1 hb⟩
      · cases hi
  · rintro ⟨i, hi, hr⟩
    refine ⟨i, List.mem_range.2 (List.getElem?_eq_some_iff.1 hi).1, ?_⟩
    rw [hi, Option.bind_some, if_pos (lastB_iff.2 hr)]
theorem alive_nodup (l : List OffV) (k : Nat) : (aliveTo l k).Nodup := by
  refine List.nodup_iff_pairwise_ne.2 ?_
  unfold aliveTo
  rw [List.pairwise_filterMap]
  refine (List.pairwise_lt_range (n := k)).imp fun {a b} hab x hx y hy e => ?_
  subst e
  cases ha : l[a]? with
  | none => rw [ha] at hx; cases hx
  | some p =>
    cases hb : l[b]? with
    | none => rw [hb] at hy; cases hy
    | some q =>
      rw [ha, Option.bind_some] at hx
      rw [hb, Option.bind_some] at hy
      split at hx
      · rename_i h1
        split at hy
        · injection hx with hx
          injection hy with hy
          subst hx
          subst hy
          exact (lastB_iff.1 h1).2 b _ hab hb ⟨rfl, rfl, rfl⟩
        · cases hy
      · cases hx
/-- None is better. -/
def bestB (A : List OffV) (o : OffV) : Bool := A.all fun p => !(decide (p.p = o.p) && decide (p.worth < o.worth))
theorem bestB_iff {A : List OffV} {o : OffV} (ho : o ∈ A) : bestB A o = true ↔ IsB (· ∈ A) o := by
  unfold bestB IsB
  rw [List.all_eq_true]
  constructor
  · intro h
    refine ⟨ho, fun q hq hp => ?_⟩
    have := h q hq
    simp only [Bool.not_eq_true', Bool.and_eq_false_iff, decide_eq_false_iff_not] at this
    rcases this with h1 | h1
    · exact absurd hp h1
    · omega
  · rintro ⟨_, h⟩ q hq
    simp only [Bool.not_eq_true', Bool.and_eq_false_iff, decide_eq_false_iff_not]
    by_cases hp : q.p = o.p
    · right; have := h q hq hp; omega
    · exact .inl hp

/-- The best ones of the first k, in order. -/
structure OutAt (A : List OffV) (k : Nat) (m : List OffV) : Prop where
  sorted : m.Pairwise fun x y => ltP x.p y.p
  mem : ∀ q, q ∈ m ↔ q ∈ A.take k ∧ IsB (· ∈ A) q
theorem OutAt.start (A : List OffV) : OutAt A 0 [] := ⟨List.Pairwise.nil, by simp⟩
theorem take_succ_mem {A : List OffV} {k : Nat} {o q : OffV} (h : A[k]? = some o) : q ∈ A.take (k + 1) ↔ q ∈ A.take k ∨ q = o := by
  rw [List.take_add_one, h]
  simp
theorem OutAt.skip {A : List OffV} {k : Nat} {m : List OffV} {o : OffV} (h : OutAt A k m) (ho : A[k]? = some o) (hb : bestB A o = false) : OutAt A (k + 1) m := by
  refine ⟨h.sorted, fun q => ?_⟩
  rw [h.mem q, take_succ_mem ho]
  constructor
  · rintro ⟨a, b⟩; exact ⟨.inl a, b⟩
  · rintro ⟨a | a, b⟩
    · exact ⟨a, b⟩
    · subst a
      rw [← bestB_iff (List.mem_of_getElem? ho), hb] at b
      cases b
/-- It is before another one. -/
def ltB (p q : PV) : Bool := lessB p.a q.a || (decide (p.a = q.a) && decide (p.n < q.n))
theorem ltB_iff {p q : PV} : ltB p q = true ↔ ltP p q := by
  unfold ltB ltP
  simp
theorem OutAt.put {l A : List OffV} {k at_ : Nat} {m : List OffV} {o : OffV} (hA : ∀ q, q ∈ A ↔ Live l q) (hnd : A.Nodup) (hg : ∀ q ∈ l, q.Good) (h : OutAt A k m) (ho : A[k]? = some o) (hb : bestB A o = true)
    (h1 : ∀ x ∈ m.take at_, ltB x.p o.p = true) (h2 : ∀ y, m[at_]? = some y → ltB y.p o.p = false) : OutAt A (k + 1) (m.take at_ ++ o :: m.drop at_) := by
  have hoA := List.mem_of_getElem? ho
  have hB := (bestB_iff hoA).1 hb
  have gA : ∀ q ∈ A, q.Good := fun q hq => hg q ((hA q).1 hq).mem
  have hmA : ∀ q ∈ m, q ∈ A ∧ IsB (· ∈ A) q := fun q hq => ⟨List.mem_of_mem_take ((h.mem q).1 hq).1, ((h.mem q).1 hq).2⟩
  have hom : ∀ q ∈ m, ¬ q.p = o.p := fun q hq hp => by
    have he := isB_one (l := l) (fun x hx => (hA x).1 hx) hg (hmA q hq).2 hB hp
    subst he
    have hk := ((h.mem q).1 hq).1
    obtain ⟨j, hj⟩ := List.getElem?_of_mem hk
    have hjk : j < k := by
      have := (List.getElem?_eq_some_iff.1 hj).1
      rw [List.length_take] at this
      omega
    rw [List.getElem?_take_of_lt hjk] at hj
    have a1 := (List.getElem?_eq_some_iff.1 hj).1
    have a2 := (List.getElem?_eq_some_iff.1 ho).1
    have := (List.getElem_inj (xs := A) (i := j) (j := k) (h₀ := a1) (h₁ := a2) hnd).1 (by rw [(List.getElem?_eq_some_iff.1 hj).2, (List.getElem?_eq_some_iff.1 ho).2])
    omega
  have hsp : m = m.take at_ ++ m.drop at_ := (List.take_append_drop at_ m).symm
  have hs := h.sorted
  rw [hsp, List.pairwise_append] at hs
  obtain ⟨s1, s2, s3⟩ := hs
  have ok : ∀ q ∈ m, q.p.Ok := fun q hq => (gA q (hmA q hq).1).ok
  have hlow : ∀ x ∈ m.take at_, ltP x.p o.p := fun x hx => ltB_iff.1 (h1 x hx)
  have hup : ∀ x ∈ m.drop at_, ltP o.p x.p := by
    cases hd : m.drop at_ with
    | nil => intro x hx; cases hx
    | cons y t =>
      have hy : m[at_]? = some y := by
        have := List.getElem?_drop (xs := m) (i := at_) (j := 0)
        rw [hd] at this
        simpa using this.symm
      have hym := List.mem_of_getElem? hy
      have hny : ¬ ltP y.p o.p := fun hc => by rw [← ltB_iff, h2 y hy] at hc; cases hc
      have hoy : ltP o.p y.p := by
        apply Classical.byContradiction
        intro hc
        exact hom y hym (ltP_total (ok y hym) (gA o hoA).ok hny hc)
      intro x hx
      rcases List.mem_cons.1 hx with rfl | hx
      · exact hoy
      · rw [hd, List.pairwise_cons] at s2
        have hxm : x ∈ m := List.mem_of_mem_drop (i := at_) (by rw [hd]; exact List.mem_cons_of_mem _ hx)
        exact ltP_trans (gA o hoA).ok (ok y hym) (ok x hxm) hoy (s2.1 x hx)
  refine ⟨?_, fun q => ?_⟩
  · rw [List.pairwise_append]
    refine ⟨s1, List.pairwise_cons.2 ⟨hup, s2⟩, ?_⟩
    intro a ha b hb
    rcases List.mem_cons.1 hb with rfl | hb
    · exact hlow a ha
    · exact s3 a ha b hb
  · have : q ∈ m.take at_ ++ o :: m.drop at_ ↔ q ∈ m ∨ q = o := by
      rw [List.mem_append, List.mem_cons]
      have e : q ∈ m ↔ q ∈ m.take at_ ∨ q ∈ m.drop at_ := by
        conv => lhs; rw [hsp]
        exact List.mem_append
      rw [e]
      constructor
      · rintro (h | h | h)
        · exact .inl (.inl h)
        · exact .inr h
        · exact .inl (.inr h)
      · rintro ((h | h) | h)
        · exact .inl h
        · exact .inr (.inr h)
        · exact .inr (.inl h)
    rw [this, h.mem q, take_succ_mem ho]
    constructor
    · rintro (⟨a, b⟩ | rfl)
      · exact ⟨.inl a, b⟩
      · exact ⟨.inr rfl, hB⟩
    · rintro ⟨a | a, b⟩
      · exact .inl ⟨a, b⟩
      · exact .inr a
theorem OutAt.done {l A m : List OffV} (hA : ∀ q, q ∈ A ↔ Live l q) (h : OutAt A A.length m) : Bests l m := by
  refine ⟨h.sorted, fun q => ?_⟩
  rw [h.mem q, List.take_length]
  unfold IsB
  constructor
  · rintro ⟨_, a, b⟩; exact ⟨(hA q).1 a, fun r hr => b r ((hA r).2 hr)⟩
  · rintro ⟨a, b⟩; exact ⟨(hA q).2 a, (hA q).2 a, fun r hr => b r ((hA r).1 hr)⟩
theorem OutAt.len {A m : List OffV} {k : Nat} (h : OutAt A k m) (hn : m.length ≤ k) {o : OffV} {at_ : Nat} : (m.take at_ ++ o :: m.drop at_).length ≤ k + 1 := by
  have e := congrArg List.length (List.take_append_drop at_ m)
  rw [List.length_append] at e
  rw [List.length_append, List.length_cons]
  have := h.sorted
  omega

/-- A row that is moved up by one from place i on, and a cell group laid there. -/
theorem splice_ins {α β : Type} {f : α → List β} {s : Nat} (hf : ∀ x, (f x).length = s) (l : List α) (o : α) (i : Nat) (hi : i ≤ l.length) :
    splice (splice ((l ++ [o]).flatMap f) ((i + 1) * s) ((((l ++ [o]).flatMap f).drop (i * s)).take ((l.length - i) * s))) (i * s) (f o) = (l.take i ++ o :: l.drop i).flatMap f := by
  have hlen : ∀ l : List α, (l.flatMap f).length = l.length * s := by
    intro l
    induction l with
    | nil => simp
    | cons x l ih => rw [List.flatMap_cons, List.length_append, hf, ih, List.length_cons, Nat.succ_mul]; omega
  have hsp : l ++ [o] = l.take i ++ (l.drop i ++ [o]) := by rw [← List.append_assoc, List.take_append_drop]
  have hx : ((l.take i).flatMap f).length = i * s := by rw [hlen, List.length_take]; congr 1; omega
  have hy : ((l.drop i).flatMap f).length = (l.length - i) * s := by rw [hlen, List.length_drop]
  rw [hsp, List.flatMap_append, List.flatMap_append, List.flatMap_append, List.flatMap_cons, List.flatMap_cons, List.flatMap_nil, List.append_nil]
  generalize (l.take i).flatMap f = X at *
  generalize (l.drop i).flatMap f = Y at *
  have hF := hf o
  generalize f o = F at *
  have e1 : ((X ++ (Y ++ F)).drop (i * s)).take ((l.length - i) * s) = Y := by
    rw [List.drop_left' hx, List.take_left' hy]
  rw [e1]
  have e2 : (i + 1) * s = i * s + s := Nat.succ_mul _ _
  unfold splice
  have e3 : (X ++ (Y ++ F)).drop ((i + 1) * s + Y.length) = [] := List.drop_eq_nil_of_le (by simp; omega)
  have e4 : (X ++ (Y ++ F)).take ((i + 1) * s) = X ++ (Y ++ F).take s := by
    rw [List.take_append, hx, List.take_of_length_le (by omega), e2]
    congr 2
    omega
  have e5 : ((Y ++ F).take s).length = s := by rw [List.length_take, List.length_append]; omega
  rw [e3, List.append_nil, e4, List.append_assoc, List.take_left' hx]
  congr 2
  rw [List.drop_append, hx, hF, List.drop_of_length_le (by omega), List.nil_append, show i * s + s - i * s = s by omega, List.drop_left' e5]

end Go.Proofs.Ytmljdjakbbedlaa

namespace Go.Proofs.Ytmljdjakbbedlaa
open Go.ChangeShapes Go.WideShapes Go.ChangeAt Go.RowKit

variable {P : Program}
theorem run_copy_rowK (w : World) (dT sT ty elem : TypeId) (k m : Nat) (g o dLen dCap : Nat) (a : Addr) (sLen sCap : Nat) (cur : Array Value) (t : TypeId) (cs : List Value)
    (hu : P.underlying dT = some (.slice elem)) (hs : (P.info? elem).map (·.size) = some k)
    (hg : w.heap[g]? = some (.cells cur t (0, 0))) (hm : m = Nat.min sLen dLen) (hn : cs.length = m * k)
    (hsrc : ∀ j v, cs[j]? = some v → w.cell? (a.add j) = some v) (hfit : o + cs.length ≤ cur.size) (h1 : ∀ v ∈ cs, v.oneCell' = true) :
    (Builtin.copy_ #[dT, sT] ty #[.slice (some ⟨g, o, none⟩) dLen dCap, .slice (some a) sLen sCap]).run P w =
      .ok (goInt m) (w.setRow g (cur.toList.take o ++ cs ++ cur.toList.drop (o + cs.length)).toArray) := by
  have hl := run_loadCells_list (P := P) w a cs hsrc
  have hst := run_storeCells_at P g o t cs 0 cur w hg (by simpa using hfit) h1
  cases hq : P.info? elem with
  | none => simp [hq] at hs
  | some i =>
    have hi : i.size = k := by simpa [hq] using hs
    simp [Builtin.copy_, run_underlying hu, Builtin.lenOf, Builtin.firstCells, sizeOf, typeInfo, hq, hi, ← hm, ← hn, hl, hst]
theorem run_copy_noneK (w : World) (dT sT ty elem : TypeId) (k : Nat) (d a : Option Addr) (dLen dCap sLen sCap : Nat) (hu : P.underlying dT = some (.slice elem)) (hs : (P.info? elem).map (·.size) = some k) (hn : Nat.min sLen dLen = 0) :
    (Builtin.copy_ #[dT, sT] ty #[.slice d dLen dCap, .slice a sLen sCap]).run P w = .ok (goInt 0) w := by
  cases hq : P.info? elem with
  | none => simp [hq] at hs
  | some i =>
    have hl : ∀ (x : Addr), (loadCells x 0).run P w = .ok #[] w := fun x => by simpa using run_loadCells_list (P := P) w x [] (by simp)
    cases d <;> cases a <;> simp [Builtin.copy_, run_underlying hu, Builtin.lenOf, Builtin.firstCells, sizeOf, typeInfo, hq, hn, storeCells, hl]

theorem splice_take {α : Type} (L : List α) (o N : Nat) (cs : List α) (h : o + cs.length ≤ N) (hN : N ≤ L.length) : (splice L o cs).take N = splice (L.take N) o cs := by
  have e : (L.take N).take o = L.take o := by rw [List.take_take, show min o N = o by omega]
  unfold splice
  rw [e, List.take_append, List.take_append, List.length_take, List.take_take, List.take_of_length_le (l := cs) (by omega), List.drop_take, show min N o = o by omega, show min o L.length = o by omega]
  congr 3
  omega
theorem setRow_own {w : World} {base g : Nat} {e : TypeId} {size n cap : Nat} {xs cs : List Value} {cur : Array Value} {o : Nat} (hg : base ≤ g) (hh : w.heap[g]? = some (.cells cur e (0, 0))) (hn : n ≤ cap) (hc : cap ≤ maxLen) (hs : cur.size = cap * size) (ht : cur.toList.take (n * size) = xs)
    (hx : xs.length = n * size) (hfit : o + cs.length ≤ n * size) :
    (w.setRow g (cur.toList.take o ++ cs ++ cur.toList.drop (o + cs.length)).toArray).ownsRow base e size (.slice (some ⟨g, 0, none⟩) n cap) n (splice xs o cs) := by
  have hle : n * size ≤ cap * size := Nat.mul_le_mul_right _ hn
  have hcl : cur.toList.length = cap * size := by rw [Array.length_toList, hs]
  have hL : cur.toList.take o ++ cs ++ cur.toList.drop (o + cs.length) = splice cur.toList o cs := by unfold splice; rw [List.append_assoc]
  rw [hL]
  refine ⟨by rw [length_splice _ _ _ (by omega)]; exact hx, .inr ⟨g, cap, (splice cur.toList o cs).toArray, rfl, hg, setRow_heap w g cur _ e (0, 0) hh, hn, hc, ?_, ?_⟩⟩
  · simp only [List.size_toArray]
    rw [length_splice _ _ _ (by omega), hcl]
  · simp only []
    rw [splice_take _ _ _ _ hfit (by omega), ht]

/-- copy within a row of the call's own, as one step of a region that draws. -/
theorem step_copy_K {ops : Array Oper} {o : Oper} {a : Act} {w : World} {K : Act → World → Prop} {Q : Exit → Act → World → Prop} {E : Prop} (hgd : o.guard = none) (d s : Operand) (dT sT : TypeId)
    (ho : o.op = .call { callee := .builtin .copy, args := #[d, s], argTypes := #[dT, sT] }) (elem : TypeId) (size : Nat) (hu : P.underlying dT = some (.slice elem)) (hsz : (P.info? elem).map (·.size) = some size)
    (dp sp : Option Addr) (dLen dCap sLen sCap : Nat) (hd : a.eval d = .slice dp dLen dCap) (hs : a.eval s = .slice sp sLen sCap)
    (base g cap n : Nat) (xs : List Value) (hown : w.ownsRow base elem size (.slice (some ⟨g, 0, none⟩) n cap) n xs) (o1 o2 m : Nat) (hm : m = Nat.min sLen dLen)
    (hpos : 0 < m → dp = some ⟨g, o1, none⟩ ∧ ∃ ad : Addr, sp = some ad ∧ ∀ j, ad.add j = ⟨g, o2 + j, none⟩) (h1 : o1 + m * size ≤ n * size) (h2 : o2 + m * size ≤ n * size) (hone : ∀ v ∈ xs, v.oneCell' = true)
    (h : ∀ w', Hid (w'.ownsRow base elem size (.slice (some ⟨g, 0, none⟩) n cap) n (splice xs o1 ((xs.drop o2).take (m * size)))) → w.grownBy w' (some g) → w'.heap.size = w.heap.size → K (a.put o.dst (goInt m)) w') :
    if Region.wanted o (yielded ops a.tmps) = true then Oper.wp P o a w K Q else E := by
  have hw : Region.wanted o (yielded ops a.tmps) = true := by simp [Region.wanted, hgd]
  rw [if_pos hw]
  have hxl := hown.1
  by_cases h0 : m = 0
  · subst h0
    have hrun := run_copy_noneK (P := P) w dT sT o.type elem size dp sp dLen dCap sLen sCap hu hsz (by omega)
    unfold Oper.wp
    simp [execOp, ho, resolve, invoke, builtin, hd, hs, hrun, Result.andThen]
    refine h w ?_ (World.grownBy.refl _ _) rfl
    show World.ownsRow _ _ _ _ _ _ _
    have e : splice xs o1 ((xs.drop o2).take (0 * size)) = xs := by simp [splice]
    rw [e]
    exact hown
  · obtain ⟨rfl, ad, rfl, had⟩ := hpos (by omega)
    rcases hown.2 with ⟨hv, _⟩ | ⟨g', cap', cur, hv, hg, hh, hn, hc, hs', ht⟩
    · cases hv
    injection hv with e1 e2 e3
    injection e1 with e1
    injection e1 with e1
    subst e1 e3
    have hcl : cur.toList.length = cap * size := by rw [Array.length_toList, hs']
    have hle : n * size ≤ cap * size := Nat.mul_le_mul_right _ hn
    have hlen : ((xs.drop o2).take (m * size)).length = m * size := by rw [List.length_take, List.length_drop]; omega
    have hrun := run_copy_rowK (P := P) w dT sT o.type elem size m g o1 dLen dCap ad sLen sCap cur elem ((xs.drop o2).take (m * size)) hu hsz hh hm hlen (fun j v hj => by
      have hjl := (List.getElem?_eq_some_iff.1 hj).1
      rw [hlen] at hjl
      rw [List.getElem?_take_of_lt hjl, List.getElem?_drop, ← ht, List.getElem?_take_of_lt (by omega)] at hj
      rw [had j]
      unfold World.cell?
      simp only [hh]
      simpa using hj) (by rw [hlen]; omega) (fun v hv => hone v (List.mem_of_mem_drop (List.mem_of_mem_take hv)))
    unfold Oper.wp
    simp [execOp, ho, resolve, invoke, builtin, hd, hs, hrun, Result.andThen]
    refine h _ ?_ ?_ ?_
    · show World.ownsRow _ _ _ _ _ _ _
      have := setRow_own (o := o1) (cs := (xs.drop o2).take (m * size)) hg hh hn hc hs' ht hxl (by rw [hlen]; exact h1)
      simpa using this
    · exact ⟨rfl, rfl, rfl, by simp [World.setRow], fun k _ hk => setRow_other w g k _ (fun e => hk (by rw [e]))⟩
    · simp [World.setRow]

/-- A store of one element into a row of the call's own. -/
theorem wpList_store_K {ops : Array Oper} {rest : List Oper} {o : Oper} {a : Act} {w : World} {Q : Exit → Act → World → Prop} (hgd : o.guard = none) (ty : TypeId) (x y : Operand) (ho : o.op = .store ty x y)
    (base g cap n size off : Nat) (xs cs : List Value) (hown : w.ownsRow base ty size (.slice (some ⟨g, 0, none⟩) n cap) n xs) (ad : Addr) (hx : a.eval x = .pointer (some ad)) (had : ad = ⟨g, off, none⟩) (hy : a.eval y = .agg cs.toArray) (hcs : cs.length = size)
    (hi : (P.info? ty).map (·.size) = some size) (hfit : off + size ≤ n * size) (h1 : ∀ v ∈ cs, v.oneCell' = true)
    (h : ∀ w', Hid (w'.ownsRow base ty size (.slice (some ⟨g, 0, none⟩) n cap) n (splice xs off cs)) → w.grownBy w' (some g) → w'.heap.size = w.heap.size → wpList P ops Q rest (a.put o.dst undef) w') : wpList P ops Q (o :: rest) a w := by
  subst had
  have hxl := hown.1
  rcases hown.2 with ⟨hv, _⟩ | ⟨g', cap', cur, hv, hg, hh, hn, hc, hs', ht⟩
  · cases hv
  injection hv with e1 e2 e3
  injection e1 with e1
  injection e1 with e1
  subst e1 e3
  have hle : n * size ≤ cap * size := Nat.mul_le_mul_right _ hn
  have hst := run_storeCells_at P g off ty cs 0 cur w hh (by omega) h1
  refine wpList_plain hgd fun K hK => ?_
  unfold Oper.wp execOp
  cases hq : P.info? ty with
  | none => simp [hq] at hi
  | some i =>
    have hs : i.size = size := by simpa [hq] using hi
    have hrun : (storeVar ty ⟨g, off, none⟩ (.agg cs.toArray)).run P w = .ok () (w.setRow g (cur.toList.take off ++ cs ++ cur.toList.drop (off + cs.length)).toArray) := by
      simp only [Nat.add_zero] at hst
      simp [storeVar, sizeOf, typeInfo, hq, Value.cells, hs, hcs, hst]
    simp only [ho, hx, hy, Instr.storeAt, Instr.sureAddr, Sem.run_bind, Sem.run_pure, Result.andThen_ok, hrun]
    refine hK _ _ (h _ ?_ ?_ ?_)
    · show World.ownsRow _ _ _ _ _ _ _
      exact setRow_own hg hh hn hc hs' ht hxl (by omega)
    · exact ⟨rfl, rfl, rfl, by simp [World.setRow], fun k _ hk => setRow_other w g k _ (fun e => hk (by rw [e]))⟩
    · simp [World.setRow]

end Go.Proofs.Ytmljdjakbbedlaa
