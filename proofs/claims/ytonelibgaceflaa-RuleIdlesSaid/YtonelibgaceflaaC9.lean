/-
  
  
  
  
  
  
  
  
  
  
  
  
-/
import Derived.Test.YtonelibgaceflaaC4
import Derived.Test.YtonelibgaceflaaC6
import Derived.Test.YtonelibgaceflaaC2
import Derived.Test.YtonelibgaceflaaC3
import Derived.Test.YtonelibgaceflaaC7
import Derived.Test.YtonelibgaceflaaC5
import Derived.Test.YtonelibgaceflaaC8
import Derived.Lib.AppendZeros
import Derived.Test.YtonelibgaceflaaChecked
import Derived.Test.YtonelibgaceflaaC1
import Derived.Laws.EntriesVeiled
namespace Go.Proofs.Ytonelibgaceflaa

theorem greatest {E : List Nat} {x lo : Nat} (h : lo ∈ E) (hx : lo ≤ x) : ∃ e ∈ E, e ≤ x ∧ ∀ e' ∈ E, e' ≤ x → e' ≤ e := by
  induction E generalizing lo with
  | nil => cases h
  | cons y E ih =>
    by_cases hany : ∃ z ∈ E, z ≤ x
    · obtain ⟨z, hz, hzx⟩ := hany
      obtain ⟨e, he, h1, h2⟩ := ih hz hzx
      by_cases hy : y ≤ x ∧ e ≤ y
      · refine ⟨y, by simp, hy.1, fun e' he' hx' => ?_⟩
        rcases List.mem_cons.1 he' with rfl | he'
        · exact Nat.le_refl _
        · have := h2 e' he' hx'; omega
      · refine ⟨e, by simp [he], h1, fun e' he' hx' => ?_⟩
        rcases List.mem_cons.1 he' with rfl | he'
        · omega
        · exact h2 e' he' hx'
    · rcases List.mem_cons.1 h with rfl | h
      · refine ⟨lo, by simp, hx, fun e' he' hx' => ?_⟩
        rcases List.mem_cons.1 he' with rfl | he'
        · exact Nat.le_refl _
        · exact absurd ⟨e', he', hx'⟩ hany
      · exact absurd ⟨lo, h, hx⟩ hany

theorem edge_point {α : Type} (L : List α) (f : α → Nat × Nat) (E : List Nat) {lo x : Nat} (hlo : lo ∈ E) (hx : lo ≤ x)
    (hE : ∀ s ∈ L, (lo ≤ (f s).1 → (f s).1 ≤ x → (f s).1 ∈ E) ∧ (lo ≤ (f s).2 → (f s).2 ≤ x → (f s).2 ∈ E)) :
    ∃ e ∈ E, lo ≤ e ∧ e ≤ x ∧ ∀ s ∈ L, ((f s).1 ≤ e ∧ e < (f s).2 ↔ (f s).1 ≤ x ∧ x < (f s).2) := by
  obtain ⟨e, he, h1, h2⟩ := greatest hlo hx
  have hle := h2 lo hlo hx
  refine ⟨e, he, hle, h1, fun s hs => ?_⟩
  obtain ⟨a, b⟩ := hE s hs
  constructor
  · rintro ⟨c, d⟩
    refine ⟨by omega, ?_⟩
    apply Classical.byContradiction
    intro hc
    have := h2 _ (b (by omega) (by omega)) (by omega)
    omega
  · rintro ⟨c, d⟩
    refine ⟨?_, by omega⟩
    by_cases hl : lo ≤ (f s).1
    · exact h2 _ (a hl c) c
    · omega

end Go.Proofs.Ytonelibgaceflaa

namespace Go.Proofs.Ytonelibgaceflaa
open Classical
set_option linter.unusedVariables false

def PV.has (p : PV) (six : Bool) (x : Nat) : Prop := p.six = six ∧ p.v ≤ x ∧ x < p.v + 2 ^ p.k
theorem has_self (p : PV) : p.has p.six p.v := ⟨rfl, Nat.le_refl _, by have := Nat.two_pow_pos p.k; omega⟩
theorem has_in {p : PV} {a : AV} (hp : p.Ok) (ha : a.Ok) : inB p.six p.hi p.lo p.n a.six a.hi a.lo = true ↔ p.has a.six a.v := in_num hp ha
theorem over_has {p q : PV} (hp : p.Ok) (hq : q.Ok) (h : p.over q = true) {six : Bool} {x : Nat} (hx : q.has six x) : p.has six x := by
  obtain ⟨a, b, c⟩ := (over_num hp hq).1 h
  obtain ⟨d, e, f⟩ := hx
  exact ⟨a.trans d, by omega, by omega⟩
theorem has_two {p q : PV} (hp : p.Ok) (hq : q.Ok) {six : Bool} {x : Nat} (h1 : p.has six x) (h2 : q.has six x) : p.over q = true ∨ q.over p = true := by
  obtain ⟨a1, b1, c1⟩ := h1
  obtain ⟨a2, b2, c2⟩ := h2
  have d1 := PV.dvd hp
  have d2 := PV.dvd hq
  rcases Nat.le_total q.k p.k with hk | hk
  · left
    rw [over_num hp hq]
    have hend : 2 ^ q.k ∣ p.v + 2 ^ p.k := Nat.dvd_add (pow_dvd_le d1 hk) (Nat.pow_dvd_pow 2 hk)
    refine ⟨a1.trans a2.symm, ?_, aligned_below d2 (Nat.dvd_add d1 (Nat.dvd_refl _)) hk (by omega)⟩
    apply Classical.byContradiction
    intro hc
    have := aligned_below d2 d1 hk (by omega)
    omega
  · right
    rw [over_num hq hp]
    refine ⟨a2.trans a1.symm, ?_, aligned_below d1 (Nat.dvd_add d2 (Nat.dvd_refl _)) hk (by omega)⟩
    apply Classical.byContradiction
    intro hc
    have := aligned_below d1 d2 hk (by omega)
    omega
theorem has_half {p : PV} (hp : p.Ok) (hn : p.n < wideI p.six) {six : Bool} {x : Nat} : p.has six x ↔ p.low.has six x ∨ p.high.has six x := by
  obtain ⟨_, l2, l3⟩ := low_num hp hn
  obtain ⟨_, h2, h3⟩ := high_num hp hn
  have e : p.low.k = p.high.k := by omega
  have hpow : 2 ^ p.k = 2 ^ p.high.k + 2 ^ p.high.k := by rw [h3, Nat.pow_succ]; omega
  unfold PV.has
  rw [l2, h2, e, hpow]
  have e1 : p.low.six = p.six := rfl
  have e2 : p.high.six = p.six := rfl
  rw [e1, e2]
  constructor
  · rintro ⟨a, b, c⟩
    by_cases hx : x < p.v + 2 ^ p.high.k
    · exact .inl ⟨a, b, hx⟩
    · exact .inr ⟨a, by omega, by omega⟩
  · rintro (⟨a, b, c⟩ | ⟨a, b, c⟩)
    · exact ⟨a, b, by omega⟩
    · exact ⟨a, by omega, by omega⟩
theorem over_longer {p q : PV} (hp : p.Ok) (hq : q.Ok) (h : p.over q = true) (hne : ¬ q.over p = true) : p.n < q.n := by
  have h1 := over_n hp hq h
  rcases Int.lt_or_le p.n q.n with hx | hx
  · exact hx
  · exact absurd (by rw [over_eq hp hq h hx]; exact over_refl hq) hne
theorem longer_room {p q : PV} (hp : p.Ok) (hq : q.Ok) (h : p.over q = true) (hlt : p.n < q.n) : p.n < wideI p.six := by
  have := (ok_n hq).2
  rw [← over_six hp hq h] at this
  omega
/-- A number of a family is an address. -/
theorem has_lt {p : PV} (hp : p.Ok) {six : Bool} {x : Nat} (h : p.has six x) : x < 2 ^ widN p.six := by have := PV.end_le hp; have := h.2.2; omega

/-! What lies below a prefix: an element is at hand, or cuts, or does not matter. -/

/-- Is there a number of p that none of the prefixes has? -/
noncomputable def freeB (qs : List PV) (p : PV) : Bool := decide (∃ x, p.has p.six x ∧ ∀ q ∈ qs, ¬ q.has p.six x)
theorem freeB_over {qs : List PV} {p q : PV} (hp : p.Ok) (hq : q.Ok) (hm : q ∈ qs) (ho : q.over p = true) : freeB qs p = false := by
  unfold freeB
  rw [decide_eq_false_iff_not]
  rintro ⟨x, hx, hn⟩
  exact hn q hm (over_has hq hp ho hx)
theorem freeB_none {qs : List PV} {p : PV} (hp : p.Ok) (hqs : ∀ q ∈ qs, q.Ok) (h1 : ∀ q ∈ qs, q.over p = false) (h2 : ∀ q ∈ qs, p.over q = false) : freeB qs p = true := by
  unfold freeB
  rw [decide_eq_true_iff]
  refine ⟨p.v, has_self p, fun q hq hx => ?_⟩
  rcases has_two hp (hqs q hq) (has_self p) hx with h | h
  · rw [h2 q hq] at h; cases h
  · rw [h1 q hq] at h; cases h
theorem freeB_split {qs some : List PV} {p : PV} (hp : p.Ok) (hn : p.n < wideI p.six) (hqs : ∀ q ∈ qs, q.Ok) (h1 : ∀ q ∈ qs, q.over p = false) (hsome : ∀ q, q ∈ some ↔ q ∈ qs ∧ p.over q = true) :
    freeB qs p = (freeB some p.low || freeB some p.high) := by
  rw [Bool.eq_iff_iff, Bool.or_eq_true]
  unfold freeB
  simp only [decide_eq_true_iff]
  have e1 : p.low.six = p.six := rfl
  have e2 : p.high.six = p.six := rfl
  rw [e1, e2]
  have key : ∀ x, p.has p.six x → ((∀ q ∈ qs, ¬ q.has p.six x) ↔ ∀ q ∈ some, ¬ q.has p.six x) := by
    intro x hx
    constructor
    · intro h q hq; exact h q ((hsome q).1 hq).1
    · intro h q hq hqx
      rcases has_two hp (hqs q hq) hx hqx with ho | ho
      · exact h q ((hsome q).2 ⟨hq, ho⟩) hqx
      · rw [h1 q hq] at ho; cases ho
  constructor
  · rintro ⟨x, hx, hno⟩
    have hno' := (key x hx).1 hno
    rcases (has_half hp hn).1 hx with h | h
    · exact .inl ⟨x, h, hno'⟩
    · exact .inr ⟨x, h, hno'⟩
  · rintro (⟨x, hx, hno⟩ | ⟨x, hx, hno⟩)
    · have hx' := (has_half hp hn).2 (.inl hx)
      exact ⟨x, hx', (key x hx').2 hno⟩
    · have hx' := (has_half hp hn).2 (.inr hx)
      exact ⟨x, hx', (key x hx').2 hno⟩

/-- Do pairs of prefixes fit all flows between two prefixes? -/
noncomputable def wholeB (ms : List (PV × PV)) (p q : PV) : Bool := decide (∀ x y, p.has p.six x → q.has q.six y → ∃ m ∈ ms, m.1.has p.six x ∧ m.2.has q.six y)
theorem wholeB_over {ms : List (PV × PV)} {p q : PV} {m : PV × PV} (hp : p.Ok) (hq : q.Ok) (h1 : m.1.Ok) (h2 : m.2.Ok) (hm : m ∈ ms) (o1 : m.1.over p = true) (o2 : m.2.over q = true) : wholeB ms p q = true := by
  unfold wholeB
  rw [decide_eq_true_iff]
  intro x y hx hy
  exact ⟨m, hm, over_has h1 hp o1 hx, over_has h2 hq o2 hy⟩
/-- Does a pair meet the flows at all? -/
def meets (p q : PV) (m : PV × PV) : Bool := (m.1.over p || p.over m.1) && (m.2.over q || q.over m.2)
theorem meets_of {p q : PV} {m : PV × PV} {x y : Nat} {s t : Bool} (hp : p.Ok) (hq : q.Ok) (h1 : m.1.Ok) (h2 : m.2.Ok) (hx : p.has s x) (hy : q.has t y) (hx' : m.1.has s x) (hy' : m.2.has t y) : meets p q m = true := by
  unfold meets
  rw [Bool.and_eq_true, Bool.or_eq_true, Bool.or_eq_true]
  exact ⟨has_two h1 hp hx' hx, has_two h2 hq hy' hy⟩
theorem wholeB_none {ms : List (PV × PV)} {p q : PV} (hp : p.Ok) (hq : q.Ok) (hms : ∀ m ∈ ms, m.1.Ok ∧ m.2.Ok) (h : ∀ m ∈ ms, meets p q m = false) : wholeB ms p q = false := by
  unfold wholeB
  rw [decide_eq_false_iff_not]
  intro hall
  obtain ⟨m, hm, a, b⟩ := hall p.v q.v (has_self p) (has_self q)
  have := meets_of hp hq (hms m hm).1 (hms m hm).2 (has_self p) (has_self q) a b
  rw [h m hm] at this
  cases this
theorem wholeB_some {ms some : List (PV × PV)} {p q : PV} (hp : p.Ok) (hq : q.Ok) (hms : ∀ m ∈ ms, m.1.Ok ∧ m.2.Ok) (hsome : ∀ m, m ∈ some ↔ m ∈ ms ∧ meets p q m = true) : wholeB ms p q = wholeB some p q := by
  rw [Bool.eq_iff_iff]
  unfold wholeB
  simp only [decide_eq_true_iff]
  constructor
  · intro h x y hx hy
    obtain ⟨m, hm, a, b⟩ := h x y hx hy
    exact ⟨m, (hsome m).2 ⟨hm, meets_of hp hq (hms m hm).1 (hms m hm).2 hx hy a b⟩, a, b⟩
  · intro h x y hx hy
    obtain ⟨m, hm, a, b⟩ := h x y hx hy
    exact ⟨m, ((hsome m).1 hm).1, a, b⟩
theorem wholeB_from {ms : List (PV × PV)} {p q : PV} (hp : p.Ok) (hn : p.n < wideI p.six) : wholeB ms p q = (wholeB ms p.low q && wholeB ms p.high q) := by
  rw [Bool.eq_iff_iff, Bool.and_eq_true]
  unfold wholeB
  simp only [decide_eq_true_iff]
  have e1 : p.low.six = p.six := rfl
  have e2 : p.high.six = p.six := rfl
  rw [e1, e2]
  constructor
  · intro h
    exact ⟨fun x y hx hy => h x y ((has_half hp hn).2 (.inl hx)) hy, fun x y hx hy => h x y ((has_half hp hn).2 (.inr hx)) hy⟩
  · rintro ⟨a, b⟩ x y hx hy
    rcases (has_half hp hn).1 hx with h | h
    · exact a x y h hy
    · exact b x y h hy
theorem wholeB_to {ms : List (PV × PV)} {p q : PV} (hq : q.Ok) (hn : q.n < wideI q.six) : wholeB ms p q = (wholeB ms p q.low && wholeB ms p q.high) := by
  rw [Bool.eq_iff_iff, Bool.and_eq_true]
  unfold wholeB
  simp only [decide_eq_true_iff]
  have e1 : q.low.six = q.six := rfl
  have e2 : q.high.six = q.six := rfl
  rw [e1, e2]
  constructor
  · intro h
    exact ⟨fun x y hx hy => h x y hx ((has_half hq hn).2 (.inl hy)), fun x y hx hy => h x y hx ((has_half hq hn).2 (.inr hy))⟩
  · rintro ⟨a, b⟩ x y hx hy
    rcases (has_half hq hn).1 hy with h | h
    · exact a x y hx h
    · exact b x y hx h

/-! No block, no number. -/
theorem canon_nil {S : Nat → Prop} : ∀ {k v : Nat}, canon S k v = [] → ∀ x, v ≤ x → x < v + 2 ^ k → ¬ S x
  | 0, v, h, x, h1, h2 => by
    obtain rfl : x = v := by simp at h2; omega
    unfold canon at h
    intro hx
    rw [if_pos hx] at h
    cases h
  | k + 1, v, h, x, h1, h2 => by
    have he : 2 ^ (k + 1) = 2 ^ k + 2 ^ k := by rw [Nat.pow_succ]; omega
    unfold canon at h
    split at h
    · cases h
    · obtain ⟨ha, hb⟩ := List.append_eq_nil_iff.1 h
      by_cases hx : x < v + 2 ^ k
      · exact canon_nil ha x h1 hx
      · exact canon_nil hb x (by omega) (by omega)
theorem canonP_nil {S : Nat → Prop} {p : PV} (h : canonP S p = []) : ∀ x, p.v ≤ x → x < p.v + 2 ^ p.k → ¬ S x := by
  unfold canonP at h
  exact canon_nil (List.map_eq_nil_iff.1 h)

end Go.Proofs.Ytonelibgaceflaa

namespace Go.Proofs.Ytonelibgaceflaa
open Classical
set_option linter.unusedVariables false

/-- The best of the routes of which P speaks: hop and length. -/
def bestU (P : RouteV → Prop) [DecidablePred P] (init : Int × Int) (l : List RouteV) : Int × Int := l.foldl (fun b r => if P r ∧ b.2 < r.p.n then (r.hop, r.p.n) else b) init
theorem bestU_snoc (P : RouteV → Prop) [DecidablePred P] (init : Int × Int) (l : List RouteV) (r : RouteV) : bestU P init (l ++ [r]) = if P r ∧ (bestU P init l).2 < r.p.n then (r.hop, r.p.n) else bestU P init l := by
  unfold bestU; rw [List.foldl_append]; rfl
theorem bestU_cases (P : RouteV → Prop) [DecidablePred P] (a : Int) : ∀ (l : List RouteV), (∀ r ∈ l, 0 ≤ r.p.n) →
    (bestU P (a, -1) l = (a, -1) ∧ ∀ r ∈ l, ¬ P r) ∨ ∃ r ∈ l, P r ∧ bestU P (a, -1) l = (r.hop, r.p.n) ∧ ∀ r' ∈ l, P r' → r'.p.n ≤ r.p.n := by
  intro l
  induction hn : l.length generalizing l with
  | zero =>
    intro _
    have : l = [] := List.eq_nil_of_length_eq_zero hn
    subst this
    exact .inl ⟨rfl, by simp⟩
  | succ n ih =>
    intro hpos
    rcases List.eq_nil_or_concat l with rfl | ⟨l', r, rfl⟩
    · simp at hn
    rw [List.concat_eq_append] at *
    have hl' : l'.length = n := by simpa using hn
    have hrn := hpos r (by simp)
    rw [bestU_snoc]
    rcases ih l' hl' (fun r hr => hpos r (by simp [hr])) with ⟨h1, h2⟩ | ⟨x, hx, h1, h2, h3⟩
    · rw [h1]
      by_cases hb : P r
      · rw [if_pos ⟨hb, by simp only; omega⟩]
        refine .inr ⟨r, by simp, hb, rfl, fun r' hr' hb' => ?_⟩
        rcases List.mem_append.1 hr' with h | h
        · exact absurd hb' (h2 r' h)
        · simp at h; subst h; exact Int.le_refl _
      · rw [if_neg (fun h => hb h.1)]
        refine .inl ⟨rfl, fun r' hr' => ?_⟩
        rcases List.mem_append.1 hr' with h | h
        · exact h2 r' h
        · simp at h; subst h; exact hb
    · rw [h2]
      by_cases hb : P r ∧ x.p.n < r.p.n
      · rw [if_pos hb]
        refine .inr ⟨r, by simp, hb.1, rfl, fun r' hr' hb' => ?_⟩
        rcases List.mem_append.1 hr' with h | h
        · have := h3 r' h hb'; omega
        · simp at h; subst h; exact Int.le_refl _
      · rw [if_neg hb]
        refine .inr ⟨x, by simp [hx], h1, rfl, fun r' hr' hb' => ?_⟩
        rcases List.mem_append.1 hr' with h | h
        · exact h3 r' h hb'
        · simp at h
          subst h
          apply Classical.byContradiction
          intro hc
          exact hb ⟨hb', by omega⟩

/-- Where a number goes by the routes that lie at or below p; a: where there is none. -/
noncomputable def hopU (l : List RouteV) (p : PV) (a : Int) (x : Nat) : Int := (bestU (fun r => p.over r.p = true ∧ r.p.has p.six x) (a, -1) l).1
/-- What stands at p itself. -/
def hopHere (l : List RouteV) (p : PV) (a : Int) : Int := if hasR l p = true then getR l p else a
theorem hasR_mem {l : List RouteV} {p : PV} : hasR l p = true ↔ ∃ r ∈ l, r.p = p := by unfold hasR; rw [List.any_eq_true]; simp
theorem hop_of {l : List RouteV} (hv : Valid l) {r : RouteV} (hr : r ∈ l) : hopHere l r.p 0 = r.hop := by
  unfold hopHere
  rw [if_pos (hasR_mem.2 ⟨r, hr, rfl⟩), getR_mem hv r hr]
theorem same_len {p q : PV} (hp : p.Ok) (hq : q.Ok) {six : Bool} {x : Nat} (h1 : p.has six x) (h2 : q.has six x) (hn : p.n = q.n) : p = q := by
  rcases has_two hp hq h1 h2 with h | h
  · exact over_eq hp hq h (by omega)
  · exact (over_eq hq hp h (by omega)).symm
theorem same_hop {l : List RouteV} (hv : Valid l) {r r' : RouteV} (hr : r ∈ l) (hr' : r' ∈ l) (h : r.p = r'.p) : r.hop = r'.hop := by rw [← getR_mem hv r hr, ← getR_mem hv r' hr', h]

theorem hopU_child {l : List RouteV} {p c : PV} (hv : Valid l) (hp : p.Ok) (hc : c.Ok) (hpc : p.over c = true) (hcn : c.n = p.n + 1) (a : Int) {x : Nat} (hx : c.has p.six x) : hopU l p a x = hopU l c (hopHere l p a) x := by
  have hn0 : ∀ r ∈ l, 0 ≤ r.p.n := fun r hr => (ok_n (hv.1 r hr).1).1
  have h6 : p.six = c.six := over_six hp hc hpc
  have hpx : p.has p.six x := over_has hp hc hpc hx
  -- one at or below p, with x, is p or lies at or below c
  have key : ∀ r ∈ l, p.over r.p = true → r.p.has p.six x → r.p = p ∨ c.over r.p = true := by
    intro r hr ho hrx
    have hro := (hv.1 r hr).1
    by_cases hn : r.p.n ≤ p.n
    · exact .inl (over_eq hp hro ho hn).symm
    · right
      rcases has_two hc hro hx hrx with h | h
      · exact h
      · have := over_eq hro hc h (by omega)
        rw [this]; exact over_refl hc
  unfold hopU
  rcases bestU_cases (fun r => p.over r.p = true ∧ r.p.has p.six x) a l hn0 with ⟨h1, h2⟩ | ⟨r, hr, h1, h2, h3⟩
  · rcases bestU_cases (fun r => c.over r.p = true ∧ r.p.has c.six x) (hopHere l p a) l hn0 with ⟨g1, g2⟩ | ⟨r', hr', g1, g2, g3⟩
    · rw [h1, g1]
      unfold hopHere
      rw [if_neg]
      intro hh
      obtain ⟨r, hr, he⟩ := hasR_mem.1 hh
      exact h2 r hr ⟨by rw [he]; exact over_refl hp, by rw [he]; exact hpx⟩
    · exact absurd ⟨over_trans hp hc (hv.1 r' hr').1 hpc g1.1, by rw [h6]; exact g1.2⟩ (h2 r' hr')
  · have hro := (hv.1 r hr).1
    rcases bestU_cases (fun r => c.over r.p = true ∧ r.p.has c.six x) (hopHere l p a) l hn0 with ⟨g1, g2⟩ | ⟨r', hr', g1, g2, g3⟩
    · rw [h2, g1]
      rcases key r hr h1.1 h1.2 with he | he
      · unfold hopHere
        rw [if_pos (hasR_mem.2 ⟨r, hr, he⟩), ← he, getR_mem hv r hr]
      · exact absurd ⟨he, by rw [← h6]; exact h1.2⟩ (g2 r hr)
    · rw [h2, g2]
      have hro' := (hv.1 r' hr').1
      have hx' : r'.p.has p.six x := by rw [h6]; exact g1.2
      have a1 := h3 r' hr' ⟨over_trans hp hc hro' hpc g1.1, hx'⟩
      have hcr : c.over r.p = true := by
        rcases key r hr h1.1 h1.2 with he | he
        · exfalso
          have := over_n hc hro' g1.1
          rw [he] at a1
          omega
        · exact he
      have a2 := g3 r hr ⟨hcr, by rw [← h6]; exact h1.2⟩
      exact same_hop hv hr hr' (same_len hro hro' h1.2 hx' (by omega))
theorem hopU_leaf {l : List RouteV} {p : PV} (hv : Valid l) (hp : p.Ok) (hd : ∀ r ∈ l, ¬ r.p = p → p.over r.p = false) (a : Int) {x : Nat} (hx : p.has p.six x) : hopU l p a x = hopHere l p a := by
  have hn0 : ∀ r ∈ l, 0 ≤ r.p.n := fun r hr => (ok_n (hv.1 r hr).1).1
  unfold hopU hopHere
  rcases bestU_cases (fun r => p.over r.p = true ∧ r.p.has p.six x) a l hn0 with ⟨h1, h2⟩ | ⟨r, hr, h1, h2, h3⟩
  · rw [h1, if_neg]
    intro hh
    obtain ⟨r, hr, he⟩ := hasR_mem.1 hh
    exact h2 r hr ⟨by rw [he]; exact over_refl hp, by rw [he]; exact hx⟩
  · rw [h2]
    have he : r.p = p := by
      apply Classical.byContradiction
      intro hne
      rw [hd r hr hne] at h1
      cases h1.1
    rw [if_pos (hasR_mem.2 ⟨r, hr, he⟩), ← he, getR_mem hv r hr]

/-- Do two tables tell the same of all of p, below what stands above? -/
noncomputable def sameB (l m : List RouteV) (p : PV) (a b : Int) : Bool := decide (∀ x, p.has p.six x → hopU l p a x = hopU m p b x)
theorem sameB_leaf {l m : List RouteV} {p : PV} (hl : Valid l) (hm : Valid m) (hp : p.Ok) (h1 : ∀ r ∈ l, ¬ r.p = p → p.over r.p = false) (h2 : ∀ r ∈ m, ¬ r.p = p → p.over r.p = false) (a b : Int) :
    sameB l m p a b = decide (hopHere l p a = hopHere m p b) := by
  unfold sameB
  rw [Bool.eq_iff_iff, decide_eq_true_iff, decide_eq_true_iff]
  constructor
  · intro h
    have := h p.v (has_self p)
    rwa [hopU_leaf hl hp h1 a (has_self p), hopU_leaf hm hp h2 b (has_self p)] at this
  · intro h x hx
    rw [hopU_leaf hl hp h1 a hx, hopU_leaf hm hp h2 b hx, h]
theorem over_low {p : PV} (hp : p.Ok) (hn : p.n < wideI p.six) : p.over p.low = true := by
  obtain ⟨l1, l2, l3⟩ := low_num hp hn
  refine (over_num hp l1).2 ⟨rfl, by omega, ?_⟩
  have : 2 ^ p.k = 2 ^ p.low.k + 2 ^ p.low.k := by rw [l3, Nat.pow_succ]; omega
  have := Nat.two_pow_pos p.low.k
  rw [l2]
  omega
theorem over_high {p : PV} (hp : p.Ok) (hn : p.n < wideI p.six) : p.over p.high = true := by
  obtain ⟨l1, l2, l3⟩ := high_num hp hn
  have hpp := Nat.two_pow_pos p.high.k
  refine (over_num hp l1).2 ⟨rfl, by omega, ?_⟩
  have : 2 ^ p.k = 2 ^ p.high.k + 2 ^ p.high.k := by rw [l3, Nat.pow_succ]; omega
  have := Nat.two_pow_pos p.high.k
  rw [l2]
  omega
theorem sameB_split {l m : List RouteV} {p : PV} (hl : Valid l) (hm : Valid m) (hp : p.Ok) (hn : p.n < wideI p.six) (a b : Int) :
    sameB l m p a b = (sameB l m p.low (hopHere l p a) (hopHere m p b) && sameB l m p.high (hopHere l p a) (hopHere m p b)) := by
  obtain ⟨l1, _, _⟩ := low_num hp hn
  obtain ⟨h1, _, _⟩ := high_num hp hn
  unfold sameB
  rw [Bool.eq_iff_iff, Bool.and_eq_true, decide_eq_true_iff, decide_eq_true_iff, decide_eq_true_iff]
  have e1 : p.low.six = p.six := rfl
  have e2 : p.high.six = p.six := rfl
  rw [e1, e2]
  constructor
  · intro h
    constructor
    · intro x hx
      have := h x ((has_half hp hn).2 (.inl hx))
      rwa [hopU_child hl hp l1 (over_low hp hn) rfl a hx, hopU_child hm hp l1 (over_low hp hn) rfl b hx] at this
    · intro x hx
      have := h x ((has_half hp hn).2 (.inr hx))
      rwa [hopU_child hl hp h1 (over_high hp hn) rfl a hx, hopU_child hm hp h1 (over_high hp hn) rfl b hx] at this
  · rintro ⟨ha, hb⟩ x hx
    rcases (has_half hp hn).1 hx with h | h
    · rw [hopU_child hl hp l1 (over_low hp hn) rfl a h, hopU_child hm hp l1 (over_low hp hn) rfl b h]; exact ha x h
    · rw [hopU_child hl hp h1 (over_high hp hn) rfl a h, hopU_child hm hp h1 (over_high hp hn) rfl b h]; exact hb x h

/-- Where a number of a family goes. -/
noncomputable def hopX (l : List RouteV) (six : Bool) (x : Nat) : Int := (bestU (fun r => r.p.has six x) (0, -1) l).1
theorem bestU_congr {P Q : RouteV → Prop} [DecidablePred P] [DecidablePred Q] (init : Int × Int) : ∀ (l : List RouteV), (∀ r ∈ l, (P r ↔ Q r)) → bestU P init l = bestU Q init l := by
  intro l
  induction l generalizing init with
  | nil => intro _; rfl
  | cons r l ih =>
    intro h
    have h0 := h r (by simp)
    have hi : ∀ init, bestU P init l = bestU Q init l := fun init => ih init (fun r hr => h r (by simp [hr]))
    show bestU P (if P r ∧ init.2 < r.p.n then (r.hop, r.p.n) else init) l = bestU Q (if Q r ∧ init.2 < r.p.n then (r.hop, r.p.n) else init) l
    rw [hi]
    by_cases hp : P r
    · have hq := h0.1 hp
      simp [hp, hq]
    · have hq : ¬ Q r := fun h => hp (h0.2 h)
      simp [hp, hq]
theorem hopX_addr {l : List RouteV} (hv : Valid l) {a : AV} (ha : a.Ok) : hopX l a.six a.v = (goesR l a.six a.hi a.lo).1 := by
  have hb : bestTo l a.six a.hi a.lo = bestU (fun r => hasB r a.six a.hi a.lo = true) (0, -1) l := rfl
  have hg : (goesR l a.six a.hi a.lo).1 = (bestTo l a.six a.hi a.lo).1 := by unfold goesR; split <;> rfl
  rw [hg, hb]
  unfold hopX
  rw [bestU_congr (P := fun r => r.p.has a.six a.v) (Q := fun r => hasB r a.six a.hi a.lo = true) (0, -1) l (fun r hr => (has_in (hv.1 r hr).1 ha).symm)]
theorem hopX_same {l : List RouteV} {six : Bool} {x y : Nat} (h : ∀ r ∈ l, (r.p.has six x ↔ r.p.has six y)) : hopX l six x = hopX l six y := by
  unfold hopX
  rw [bestU_congr (P := fun r => r.p.has six x) (Q := fun r => r.p.has six y) (0, -1) l h]
theorem hopX_top {l : List RouteV} (hv : Valid l) (six : Bool) (x : Nat) : hopU l ⟨six, 0, 0, 0⟩ 0 x = hopX l six x := by
  unfold hopU hopX
  rw [bestU_congr (P := fun r => PV.over ⟨six, 0, 0, 0⟩ r.p = true ∧ r.p.has six x) (Q := fun r => r.p.has six x) (0, -1) l]
  intro r hr
  constructor
  · rintro ⟨_, h⟩; exact h
  · intro h
    refine ⟨?_, h⟩
    have hro := (hv.1 r hr).1
    refine (over_num (top_ok six) hro).2 ⟨h.1.symm, by rw [(top_num six).1]; omega, ?_⟩
    rw [(top_num six).1, (top_num six).2]
    have := PV.end_le hro
    rw [h.1] at this
    omega

/-- The edges of routes: the first address of each, and the one behind. -/
def EdgesOf (l : List RouteV) (E : List AV) : Prop := (∀ a ∈ E, a.Ok) ∧ (∀ six, ⟨six, 0, 0⟩ ∈ E) ∧ ∀ r ∈ l, (∃ a ∈ E, a.six = r.p.six ∧ a.v = r.p.v) ∧ (r.p.v + 2 ^ r.p.k < 2 ^ widN r.p.six → ∃ a ∈ E, a.six = r.p.six ∧ a.v = r.p.v + 2 ^ r.p.k)
theorem same_edges {l m : List RouteV} {E : List AV} (hl : Valid l) (hm : Valid m) (hE : EdgesOf (l ++ m) E) :
    (E.any fun a => decide (¬ (goesR l a.six a.hi a.lo).1 = (goesR m a.six a.hi a.lo).1)) = !(sameB l m ⟨false, 0, 0, 0⟩ 0 0 && sameB l m ⟨true, 0, 0, 0⟩ 0 0) := by
  have hall : (∀ a ∈ E, (goesR l a.six a.hi a.lo).1 = (goesR m a.six a.hi a.lo).1) ↔ ∀ six x, x < 2 ^ widN six → hopX l six x = hopX m six x := by
    constructor
    · intro h six x hx
      have hz : (0 : Nat) ∈ ((E.filter fun a => a.six == six).map AV.v) := by
        refine List.mem_map.2 ⟨⟨six, 0, 0⟩, List.mem_filter.2 ⟨hE.2.1 six, by simp⟩, ?_⟩
        cases six <;> rfl
      obtain ⟨e, he, _, _, hs⟩ := edge_point ((l ++ m).filter fun r => r.p.six == six) (fun r => (r.p.v, r.p.v + 2 ^ r.p.k)) ((E.filter fun a => a.six == six).map AV.v) (lo := 0) (x := x) hz (Nat.zero_le _) (by
        intro r hr
        obtain ⟨hr1, hr2⟩ := List.mem_filter.1 hr
        have hr2 : r.p.six = six := by simpa using hr2
        obtain ⟨⟨a, ha, ha6, hav⟩, hb⟩ := hE.2.2 r hr1
        refine ⟨fun _ _ => List.mem_map.2 ⟨a, List.mem_filter.2 ⟨ha, by simpa using ha6.trans hr2⟩, hav⟩, fun _ hle => ?_⟩
        obtain ⟨b, hb1, hb6, hbv⟩ := hb (by rw [hr2]; simp only at hle; omega)
        exact List.mem_map.2 ⟨b, List.mem_filter.2 ⟨hb1, by simpa using hb6.trans hr2⟩, hbv⟩)
      obtain ⟨a, ha, hav⟩ := List.mem_map.1 he
      obtain ⟨ha1, ha2⟩ := List.mem_filter.1 ha
      have ha2 : a.six = six := by simpa using ha2
      subst ha2
      subst hav
      have hiff : ∀ r ∈ l ++ m, (r.p.has a.six x ↔ r.p.has a.six a.v) := by
        intro r hr
        by_cases h6 : r.p.six = a.six
        · have := hs r (List.mem_filter.2 ⟨hr, by simpa using h6⟩)
          unfold PV.has
          simp only at this
          rw [this]
        · exact ⟨fun h => absurd h.1 h6, fun h => absurd h.1 h6⟩
      rw [hopX_same (fun r hr => hiff r (by simp [hr])), hopX_same (l := m) (fun r hr => hiff r (by simp [hr])), hopX_addr hl (hE.1 a ha1), hopX_addr hm (hE.1 a ha1)]
      exact h a ha1
    · intro h a ha
      rw [← hopX_addr hl (hE.1 a ha), ← hopX_addr hm (hE.1 a ha)]
      exact h a.six a.v (AV.v_lt (hE.1 a ha))
  have htop : ∀ six, sameB l m ⟨six, 0, 0, 0⟩ 0 0 = true ↔ ∀ x, x < 2 ^ widN six → hopX l six x = hopX m six x := by
    intro six
    unfold sameB
    rw [decide_eq_true_iff]
    constructor
    · intro h x hx
      have := h x ⟨rfl, by rw [(top_num six).1]; omega, by rw [(top_num six).1, (top_num six).2]; omega⟩
      rwa [hopX_top hl, hopX_top hm] at this
    · intro h x hx
      rw [hopX_top hl, hopX_top hm]
      exact h x (has_lt (top_ok six) hx)
  have hE2 : (E.any fun a => decide (¬ (goesR l a.six a.hi a.lo).1 = (goesR m a.six a.hi a.lo).1)) = false ↔ ∀ a ∈ E, (goesR l a.six a.hi a.lo).1 = (goesR m a.six a.hi a.lo).1 := by
    rw [List.any_eq_false]
    simp
  have key : (E.any fun a => decide (¬ (goesR l a.six a.hi a.lo).1 = (goesR m a.six a.hi a.lo).1)) = false ↔ (sameB l m ⟨false, 0, 0, 0⟩ 0 0 && sameB l m ⟨true, 0, 0, 0⟩ 0 0) = true := by
    rw [hE2, hall, Bool.and_eq_true, htop false, htop true]
    exact ⟨fun h => ⟨h false, h true⟩, fun h six => by cases six; exact h.1; exact h.2⟩
  revert key
  generalize (E.any fun a => decide (¬ (goesR l a.six a.hi a.lo).1 = (goesR m a.six a.hi a.lo).1)) = b1
  generalize (sameB l m ⟨false, 0, 0, 0⟩ 0 0 && sameB l m ⟨true, 0, 0, 0⟩ 0 0) = b2
  cases b1 <;> cases b2 <;> simp

end Go.Proofs.Ytonelibgaceflaa

namespace Go.Proofs.Ytonelibgaceflaa
set_option linter.unusedVariables false

/-- The addresses of one route: its first one, and the one behind it. -/
def edgeOf (r : RouteV) : List AV := r.p.a :: (if plusOk r.p.six r.p.last.hi r.p.last.lo 1 = true then [r.p.last.plus 1] else [])
def edgesL (rs : List RouteV) : List AV := ⟨false, 0, 0⟩ :: ⟨true, 0, 0⟩ :: rs.flatMap edgeOf
theorem zero_ok (six : Bool) : AV.Ok ⟨six, 0, 0⟩ := by
  cases six <;> exact ⟨⟨Int.le_refl _, by decide⟩, ⟨Int.le_refl _, by decide⟩, by decide⟩
theorem edgesL_ok {rs : List RouteV} (hv : ∀ r ∈ rs, r.p.Ok) : EdgesOf rs (edgesL rs) := by
  refine ⟨fun a ha => ?_, fun six => ?_, fun r hr => ⟨⟨r.p.a, ?_, rfl, rfl⟩, fun hlt => ?_⟩⟩
  · unfold edgesL at ha
    rcases List.mem_cons.1 ha with rfl | ha
    · exact zero_ok _
    rcases List.mem_cons.1 ha with rfl | ha
    · exact zero_ok _
    obtain ⟨r, hr, ha⟩ := List.mem_flatMap.1 ha
    unfold edgeOf at ha
    rcases List.mem_cons.1 ha with rfl | ha
    · exact PV.Ok.addr (hv r hr)
    · split at ha
      · rename_i h
        obtain rfl : a = r.p.last.plus 1 := by simpa using ha
        exact ((up_num (PV.last_ok r.p)).2 h).1
      · cases ha
  · unfold edgesL
    cases six <;> simp
  · unfold edgesL edgeOf
    exact List.mem_cons_of_mem _ (List.mem_cons_of_mem _ (List.mem_flatMap.2 ⟨r, hr, by simp⟩))
  · have hp := hv r hr
    have hln := last_num hp
    have hpp := Nat.two_pow_pos r.p.k
    have hup := up_num (PV.last_ok r.p)
    have h6 : r.p.last.six = r.p.six := rfl
    have hok : plusOk r.p.last.six r.p.last.hi r.p.last.lo 1 = true := hup.1.2 (by rw [h6, hln]; omega)
    refine ⟨r.p.last.plus 1, ?_, rfl, ?_⟩
    · unfold edgesL edgeOf
      refine List.mem_cons_of_mem _ (List.mem_cons_of_mem _ (List.mem_flatMap.2 ⟨r, hr, ?_⟩))
      rw [if_pos (by rw [← h6]; exact hok)]
      simp
    · rw [(hup.2 hok).2, hln]
      omega
theorem edgeOf_len (r : RouteV) : (edgeOf r).length ≤ 2 := by unfold edgeOf; split <;> simp
theorem edges_len : ∀ (rs : List RouteV), (rs.flatMap edgeOf).length ≤ 2 * rs.length
  | [] => by simp
  | r :: rs => by
    have h1 := edgeOf_len r
    have h2 := edges_len rs
    rw [List.flatMap_cons, List.length_append, List.length_cons]
    omega

theorem take_nodup {l : List RouteV} (hv : Valid l) {k : Nat} {r : RouteV} (hk : l.take (k + 1) = l.take k ++ [r]) : hasR (l.take k) r.p = false := by
  have hn : ((l.take (k + 1)).map RouteV.p).Nodup := by
    rw [List.map_take]
    exact hv.2.sublist (List.take_sublist _ _)
  rw [hk, List.map_append, List.nodup_append] at hn
  unfold hasR
  rw [List.any_eq_false]
  intro r' hr' he
  exact hn.2.2 r'.p (List.mem_map_of_mem hr') r.p (by simp) (by simpa using he)
theorem hopHere_succ {l : List RouteV} (hv : Valid l) {k : Nat} {r : RouteV} (hk : l.take (k + 1) = l.take k ++ [r]) (p : PV) (a : Int) : hopHere (l.take (k + 1)) p a = if r.p = p then r.hop else hopHere (l.take k) p a := by
  have hno := take_nodup hv hk
  rw [hk]
  obtain ⟨rp, rh⟩ := r
  unfold hopHere
  rw [getR_snoc hno]
  have hh : hasR (l.take k ++ [⟨rp, rh⟩]) p = (hasR (l.take k) p || decide (rp = p)) := by unfold hasR; rw [List.any_append]; simp
  rw [hh]
  by_cases he : rp = p
  · subst he
    simp
  · have he2 : ¬ p = rp := fun h => he h.symm
    simp only [he, he2, decide_false, Bool.or_false, if_false]
/-- Does a table say something below p? -/
def deepR (l : List RouteV) (p : PV) : Bool := l.any fun r => !decide (r.p = p) && p.over r.p
theorem deepR_succ {l : List RouteV} {k : Nat} {r : RouteV} (hk : l.take (k + 1) = l.take k ++ [r]) (p : PV) : deepR (l.take (k + 1)) p = (deepR (l.take k) p || (!decide (r.p = p) && p.over r.p)) := by
  rw [hk]; unfold deepR; rw [List.any_append]; simp
theorem deepR_none {l : List RouteV} {p : PV} (h : deepR l p = false) : ∀ r ∈ l, ¬ r.p = p → p.over r.p = false := by
  intro r hr hne
  unfold deepR at h
  rw [List.any_eq_false] at h
  have := h r hr
  simp [hne] at this
  exact this
theorem deepR_room {l : List RouteV} {p : PV} (hv : ∀ r ∈ l, r.p.Ok) (hp : p.Ok) (h : deepR l p = true) : p.n < wideI p.six := by
  obtain ⟨r, hr, hh⟩ := List.any_eq_true.1 h
  obtain ⟨h1, h2⟩ := Bool.and_eq_true_iff.1 hh
  have h1 : ¬ r.p = p := by simpa using h1
  refine longer_room hp (hv r hr) h2 ?_
  have h3 := over_n hp (hv r hr) h2
  rcases Int.lt_or_le p.n r.p.n with hx | hx
  · exact hx
  · exact absurd (over_eq hp (hv r hr) h2 hx).symm h1

end Go.Proofs.Ytonelibgaceflaa

namespace Go.Proofs.Ytonelibgaceflaa
open Classical
set_option linter.unusedVariables false

/-- What a list has of a prefix: 1 all, 0 none, -1 some. -/
def withinI (l : List PV) (p : PV) : Int := if l.any (fun q => q.over p) then 1 else if l.any (fun q => p.over q) then -1 else 0
def hasL (l : List PV) (six : Bool) (x : Nat) : Prop := ∃ q ∈ l, q.has six x
theorem within_all {l : List PV} {p : PV} (hl : ∀ q ∈ l, q.Ok) (hp : p.Ok) (h : withinI l p = 1) {x : Nat} (hx : p.has p.six x) : hasL l p.six x := by
  unfold withinI at h
  by_cases h1 : l.any (fun q => q.over p) = true
  · obtain ⟨q, hq, ho⟩ := List.any_eq_true.1 h1
    exact ⟨q, hq, over_has (hl q hq) hp ho hx⟩
  · rw [if_neg h1] at h
    split at h <;> omega
theorem within_no {l : List PV} {p : PV} (hl : ∀ q ∈ l, q.Ok) (hp : p.Ok) (h : withinI l p = 0) {x : Nat} (hx : p.has p.six x) : ¬ hasL l p.six x := by
  unfold withinI at h
  by_cases h1 : l.any (fun q => q.over p) = true
  · rw [if_pos h1] at h; omega
  · rw [if_neg h1] at h
    by_cases h2 : l.any (fun q => p.over q) = true
    · rw [if_pos h2] at h; omega
    · rintro ⟨q, hq, hqx⟩
      rcases has_two hp (hl q hq) hx hqx with ho | ho
      · exact h2 (List.any_eq_true.2 ⟨q, hq, ho⟩)
      · exact h1 (List.any_eq_true.2 ⟨q, hq, ho⟩)
theorem within_some {l : List PV} {p : PV} (hl : ∀ q ∈ l, q.Ok) (hp : p.Ok) (h : withinI l p = -1) : p.n < wideI p.six := by
  unfold withinI at h
  by_cases h1 : l.any (fun q => q.over p) = true
  · rw [if_pos h1] at h; omega
  · rw [if_neg h1] at h
    by_cases h2 : l.any (fun q => p.over q) = true
    · obtain ⟨q, hq, ho⟩ := List.any_eq_true.1 h2
      refine longer_room hp (hl q hq) ho (over_longer hp (hl q hq) ho fun h => h1 (List.any_eq_true.2 ⟨q, hq, h⟩))
    · rw [if_neg h2] at h; omega
theorem within_three (l : List PV) (p : PV) : withinI l p = 1 ∨ withinI l p = 0 ∨ withinI l p = -1 := by
  unfold withinI; split
  · exact .inl rfl
  · split
    · exact .inr (.inr rfl)
    · exact .inr (.inl rfl)

/-- The set that a rule makes of two lists. -/
def setOf (f : Bool → Bool → Bool) (l m : List PV) (six : Bool) : Nat → Prop := fun x => f (decide (hasL l six x)) (decide (hasL m six x)) = true
noncomputable def walkL (f : Bool → Bool → Bool) (l m : List PV) (p : PV) : List PV := canonP (setOf f l m p.six) p
theorem walkL_end {f : Bool → Bool → Bool} {l m : List PV} {p : PV} (hl : ∀ q ∈ l, q.Ok) (hm : ∀ q ∈ m, q.Ok) (hp : p.Ok) (ha : 0 ≤ withinI l p) (hb : 0 ≤ withinI m p) :
    walkL f l m p = if f (decide (withinI l p = 1)) (decide (withinI m p = 1)) = true then [p] else [] := by
  have key : ∀ (l : List PV), (∀ q ∈ l, q.Ok) → 0 ≤ withinI l p → ∀ x, p.has p.six x → decide (hasL l p.six x) = decide (withinI l p = 1) := by
    intro l hl ha x hx
    rcases within_three l p with h | h | h
    · rw [decide_eq_true (within_all hl hp h hx), decide_eq_true h]
    · rw [decide_eq_false (within_no hl hp h hx), decide_eq_false (by omega)]
    · omega
  unfold walkL
  split
  · rename_i hf
    refine canonP_full hp fun x h1 h2 => ?_
    unfold setOf
    rw [key l hl ha x ⟨rfl, h1, h2⟩, key m hm hb x ⟨rfl, h1, h2⟩]
    exact hf
  · rename_i hf
    refine canonP_none fun x h1 h2 => ?_
    unfold setOf
    rw [key l hl ha x ⟨rfl, h1, h2⟩, key m hm hb x ⟨rfl, h1, h2⟩]
    exact hf
theorem canonP_self {S : Nat → Prop} {p : PV} (hp : p.Ok) (h : canonP S p = [p]) : ∀ x, p.v ≤ x → x < p.v + 2 ^ p.k → S x := by
  by_cases hall : ∀ x, p.v ≤ x → x < p.v + 2 ^ p.k → S x
  · exact hall
  · unfold canonP at h
    have h1 : (canon S p.k p.v).length = 1 := by have := congrArg List.length h; rwa [List.length_map] at this
    obtain ⟨b, hb⟩ := List.length_eq_one_iff.1 h1
    have h2 := canon_memS (PV.dvd hp) b (by rw [hb]; simp)
    rw [hb] at h
    have h3 : ofBlk p.six b = p := by simpa using h
    have hk : b.2 = p.k := by
      have := congrArg PV.n h3
      have := (PV.k_le hp).2
      unfold ofBlk at *
      simp only at *
      omega
    obtain ⟨v, k⟩ := b
    simp only at h2 hk
    subst hk
    have hv : v = p.v := by have := h2.1; have := h2.2.1; have := Nat.two_pow_pos p.k; omega
    subst hv
    exact canon_single hb
where
  canon_memS {S : Nat → Prop} : ∀ {k v : Nat}, 2 ^ k ∣ v → ∀ b ∈ canon S k v, v ≤ b.1 ∧ b.1 + 2 ^ b.2 ≤ v + 2 ^ k ∧ b.2 ≤ k
    | 0, v, hd, b, hb => by
      unfold canon at hb
      split at hb
      · obtain rfl : b = (v, 0) := by simpa using hb
        exact ⟨Nat.le_refl _, Nat.le_refl _, Nat.le_refl _⟩
      · cases hb
    | k + 1, v, hd, b, hb => by
      have he : 2 ^ (k + 1) = 2 ^ k + 2 ^ k := by rw [Nat.pow_succ]; omega
      have hd' : 2 ^ k ∣ v := pow_dvd_le hd (by omega)
      unfold canon at hb
      split at hb
      · obtain rfl : b = (v, k + 1) := by simpa using hb
        exact ⟨Nat.le_refl _, Nat.le_refl _, Nat.le_refl _⟩
      · rcases List.mem_append.1 hb with h | h
        · have := canon_memS hd' b h; omega
        · have := canon_memS (Nat.dvd_add hd' (Nat.dvd_refl _)) b h; omega
theorem walkL_split {f : Bool → Bool → Bool} {l m : List PV} {p : PV} (hp : p.Ok) (hn : p.n < wideI p.six) :
    walkL f l m p = if walkL f l m p.low = [p.low] ∧ walkL f l m p.high = [p.high] then [p] else walkL f l m p.low ++ walkL f l m p.high := by
  obtain ⟨l1, l2, l3⟩ := low_num hp hn
  obtain ⟨h1, h2, h3⟩ := high_num hp hn
  have hpow : 2 ^ p.k = 2 ^ p.high.k + 2 ^ p.high.k := by rw [h3, Nat.pow_succ]; omega
  have ek : p.low.k = p.high.k := by omega
  have e1 : p.low.six = p.six := rfl
  have e2 : p.high.six = p.six := rfl
  unfold walkL
  rw [e1, e2]
  by_cases hall : ∀ x, p.v ≤ x → x < p.v + 2 ^ p.k → setOf f l m p.six x
  · rw [canonP_full hp hall, canonP_full l1 (fun x a b => hall x (by omega) (by rw [ek] at b; omega)), canonP_full h1 (fun x a b => hall x (by omega) (by omega)), if_pos ⟨rfl, rfl⟩]
  · rw [canonP_split hp hn hall, if_neg]
    rintro ⟨a, b⟩
    refine hall fun x c d => ?_
    by_cases hx : x < p.v + 2 ^ p.high.k
    · exact canonP_self l1 a x (by omega) (by rw [l2, ek]; exact hx)
    · exact canonP_self h1 b x (by omega) (by omega)

/-- No prefix is left just if no address is. -/
theorem walkL_nil {f : Bool → Bool → Bool} {l m : List PV} {p : PV} : walkL f l m p = [] ↔ ∀ x, p.has p.six x → ¬ setOf f l m p.six x := by
  constructor
  · intro h x hx
    exact canonP_nil h x hx.2.1 hx.2.2
  · intro h
    exact canonP_none fun x a b => h x ⟨rfl, a, b⟩

/-! How many prefixes there can be. -/
theorem over_not_both {p q : PV} (hp : p.Ok) (hn : p.n < wideI p.six) (hq : q.Ok) (h1 : p.low.over q = true) : p.high.over q = false := by
  obtain ⟨l1, l2, l3⟩ := low_num hp hn
  obtain ⟨h1', h2, h3⟩ := high_num hp hn
  cases hh : p.high.over q with
  | false => rfl
  | true =>
    have a := ((over_num l1 hq).1 h1).2
    have b := ((over_num h1' hq).1 hh).2
    have := Nat.two_pow_pos q.k
    have ek : p.low.k = p.high.k := by omega
    rw [l2, ek] at a
    rw [h2] at b
    omega
theorem over_lowS {p : PV} (hp : p.Ok) (hn : p.n < wideI p.six) : p.over p.low = true := by
  obtain ⟨l1, l2, l3⟩ := low_num hp hn
  refine (over_num hp l1).2 ⟨rfl, by omega, ?_⟩
  have : 2 ^ p.k = 2 ^ p.low.k + 2 ^ p.low.k := by rw [l3, Nat.pow_succ]; omega
  have := Nat.two_pow_pos p.low.k
  rw [l2]
  omega
theorem over_highS {p : PV} (hp : p.Ok) (hn : p.n < wideI p.six) : p.over p.high = true := by
  obtain ⟨l1, l2, l3⟩ := high_num hp hn
  have hpp := Nat.two_pow_pos p.high.k
  refine (over_num hp l1).2 ⟨rfl, by omega, ?_⟩
  have : 2 ^ p.k = 2 ^ p.high.k + 2 ^ p.high.k := by rw [l3, Nat.pow_succ]; omega
  rw [l2]
  omega
theorem count_halves {p : PV} (hp : p.Ok) (hn : p.n < wideI p.six) : ∀ (l : List PV), (∀ q ∈ l, q.Ok) → l.countP (fun q => p.low.over q) + l.countP (fun q => p.high.over q) ≤ l.countP (fun q => p.over q)
  | [], _ => by simp
  | q :: l, h => by
    have ih := count_halves hp hn l (fun x hx => h x (by simp [hx]))
    have hq := h q (by simp)
    rw [List.countP_cons, List.countP_cons, List.countP_cons]
    obtain ⟨l1, _, _⟩ := low_num hp hn
    obtain ⟨h1, _, _⟩ := high_num hp hn
    by_cases a : p.low.over q = true
    · have b := over_not_both hp hn hq a
      have c := over_trans hp l1 hq (over_lowS hp hn) a
      rw [if_pos a, if_neg (by rw [b]; simp), if_pos c]
      omega
    · by_cases b : p.high.over q = true
      · have c := over_trans hp h1 hq (over_highS hp hn) b
        rw [if_neg a, if_pos b, if_pos c]
        omega
      · rw [if_neg a, if_neg b]
        omega
theorem walkL_len {f : Bool → Bool → Bool} {l m : List PV} (hl : ∀ q ∈ l, q.Ok) (hm : ∀ q ∈ m, q.Ok) : ∀ (K : Nat) {p : PV}, p.Ok → p.k = K → (walkL f l m p).length ≤ (l.countP (fun q => p.over q) + m.countP (fun q => p.over q)) * K + 1
  | K, p, hp, hk => by
    by_cases hend : 0 ≤ withinI l p ∧ 0 ≤ withinI m p
    · rw [walkL_end hl hm hp hend.1 hend.2]
      split <;> simp
    · have hsome : withinI l p = -1 ∨ withinI m p = -1 := by
        rcases within_three l p with h | h | h <;> rcases within_three m p with h' | h' | h' <;> first | (left; assumption) | (right; assumption) | (exfalso; omega)
      have hn : p.n < wideI p.six := by
        rcases hsome with h | h
        · exact within_some hl hp h
        · exact within_some hm hp h
      have hpos : 0 < l.countP (fun q => p.over q) + m.countP (fun q => p.over q) := by
        have key : ∀ (l : List PV), withinI l p = -1 → 0 < l.countP (fun q => p.over q) := by
          intro l h
          unfold withinI at h
          split at h
          · omega
          · split at h
            · rename_i h2
              rw [List.countP_pos_iff]
              exact List.any_eq_true.1 h2
            · omega
        rcases hsome with h | h
        · have := key l h; omega
        · have := key m h; omega
      obtain ⟨l1, l2, l3⟩ := low_num hp hn
      obtain ⟨h1, h2, h3⟩ := high_num hp hn
      obtain ⟨K', rfl⟩ : ∃ K', K = K' + 1 := ⟨K - 1, by omega⟩
      have i1 := walkL_len (f := f) hl hm K' l1 (by omega)
      have i2 := walkL_len (f := f) hl hm K' h1 (by omega)
      have c1 := count_halves hp hn l hl
      have c2 := count_halves hp hn m hm
      rw [walkL_split hp hn]
      split
      · simp
      · rw [List.length_append]
        generalize l.countP (fun q => p.low.over q) = x1 at *
        generalize l.countP (fun q => p.high.over q) = x2 at *
        generalize m.countP (fun q => p.low.over q) = y1 at *
        generalize m.countP (fun q => p.high.over q) = y2 at *
        generalize l.countP (fun q => p.over q) = x at *
        generalize m.countP (fun q => p.over q) = y at *
        have e1 : (x1 + y1) * K' + (x2 + y2) * K' ≤ (x + y) * K' := by
          rw [← Nat.add_mul]
          exact Nat.mul_le_mul_right _ (by omega)
        rw [Nat.mul_succ]
        omega
theorem walkL_few {f : Bool → Bool → Bool} {l m : List PV} (hl : ∀ q ∈ l, q.Ok) (hm : ∀ q ∈ m, q.Ok) (h1 : l.length ≤ 200) (h2 : m.length ≤ 200) {p : PV} (hp : p.Ok) : (walkL f l m p).length ≤ 60000 := by
  have h := walkL_len (f := f) hl hm p.k hp rfl
  have k1 : l.countP (fun q => p.over q) ≤ l.length := List.countP_le_length
  have k2 : m.countP (fun q => p.over q) ≤ m.length := List.countP_le_length
  have k3 : p.k ≤ 128 := by
    have := (PV.k_le hp).1
    have : widN p.six ≤ 128 := by cases p.six <;> decide
    omega
  have k4 : (l.countP (fun q => p.over q) + m.countP (fun q => p.over q)) * p.k ≤ 400 * 128 := Nat.mul_le_mul (by omega) k3
  omega

end Go.Proofs.Ytonelibgaceflaa

namespace Go.Proofs.Ytonelibgaceflaa
open Go.ChangeShapes Go.WideShapes Go.ChangeAt Go.RowKit

/-- What is known of a slice of prefixes. -/
def IsPres (w : World) (A : Option Addr) (n c : Nat) (l : List PV) : Prop :=
  l.length = n ∧ (n ≤ c ∧ c ≤ maxLen) ∧ Reads w w.heap.size 4 A n (l.flatMap PV.cells)
theorem IsPres.below {w w' : World} {A : Option Addr} {n c : Nat} {l : List PV} (h : IsPres w A n c l) (hb : Below w.heap.size w w') : IsPres w' A n c l :=
  ⟨h.1, h.2.1, (h.2.2.below hb).more hb.size⟩
theorem refOver_pv (p q : PV) (w : World) (hp : p.Ok) (hq : q.Ok) : Calls Try.prog 138 #[p.val, q.val] w fun e w' => e = .returned (.bool (p.over q)) ∧ Below w.heap.size w w' := by
  obtain ⟨six, hi, lo, n⟩ := p
  obtain ⟨six', hi', lo', n'⟩ := q
  have hn : 0 ≤ n := (ok_n hp).1
  obtain ⟨m, rfl⟩ : ∃ m : Nat, n = m := ⟨n.toNat, by omega⟩
  exact refOver_any six hi lo m six' hi' lo' n' w hp (Pfx.rhi hq) (Pfx.rlo hq) (Pfx.may hq)

set_option maxRecDepth 100000 in
set_option maxHeartbeats 1600000 in
theorem within_any (A : Option Addr) (n c : Nat) (l : List PV) (p : PV) (w : World) (h : IsPres w A n c l) (hl : ∀ q ∈ l, q.Ok) (hp : p.Ok) :
    Calls Try.prog 239 #[p.val, .slice A n c] w fun e w' => e = .returned (.int .i64 (withinI l p)) ∧ Below w.heap.size w w' := by
  have hmax := h.2.1
  unfold maxLen at hmax
  have HR := Lib.hid h.2.2
  have HZ := Lib.hid h.1
  have HO1 := Lib.hid (fun (q : PV) (w : World) (hq : q ∈ l) => refOver_pv q p w (hl q hq) hp)
  have HO2 := Lib.hid (fun (q : PV) (w : World) (hq : q ∈ l) => refOver_pv p q w hp (hl q hq))
  have HL := Lib.hid hl
  have HP := Lib.hid hp
  obtain ⟨res, hres⟩ : ∃ res, withinI l p = res := ⟨_, rfl⟩
  rw [hres]
  have HRES := Lib.hid hres
  clear h hl hp hres
  obtain ⟨six, hi, lo, pn⟩ := p
  unfold PV.val at HO1 HO2
  unfold PV.val
  simp only at HO1 HO2 ⊢
  go_enter Try.func239, Try.ntmps239
  go_wp2
  go_loopw [10, 5, 7, 4] (fun i sm _ _ wr => ∃ k : Nat, k ≤ n ∧ i = .int .i64 k ∧ NoneYet (fun q : PV => q.over ⟨six, hi, lo, pn⟩) l k ∧ sm = .bool ((l.take k).any fun q => PV.over ⟨six, hi, lo, pn⟩ q) ∧ Below (w.heap.size + 1) (w.alloc (.cells #[.bool six, .int .u64 hi, .int .u64 lo, .int .i64 pn] 35)) wr) (fun i _ _ _ _ => n - (intOf i).toNat)
  case atStart => exact ⟨0, by omega, rfl, noneYet_zero _ _, rfl, by have := Below.refl (w.alloc (.cells #[.bool six, .int .u64 hi, .int .u64 lo, .int .i64 pn] 35)).heap.size (w.alloc (.cells #[.bool six, .int .u64 hi, .int .u64 lo, .int .i64 pn] 35)); simpa using this⟩
  case round =>
    obtain ⟨k, hk, rfl, hto, rfl, hbx⟩ := hrel
    have HN := Lib.hid hto
    have hb := below_box hbx
    have p0 := box_cell hbx 0
    have p1 := box_cell hbx 1
    have p2 := box_cell hbx 2
    have p3 := box_cell hbx 3
    simp at p0 p1 p2 p3
    have hs1 := hbx.size
    simp at hs1
    have l1 : w.heap.size < wr.heap.size := by omega
    have HBX := Lib.hid hbx
    clear hto hbx
    obtain ⟨sm, hsm⟩ : ∃ sm, ((l.take k).any fun q => PV.over ⟨six, hi, lo, pn⟩ q) = sm := ⟨_, rfl⟩
    rw [hsm]
    have HSM := Lib.hid hsm
    clear hsm
    by_cases hlt : k < n
    · obtain ⟨ad, ⟨qs, qh, ql, qn⟩, rfl, hlk, htk, hmem, hbk, hc0, hcj⟩ := HR.out.atS PV.cells_length HZ.out hlt
      have q0 := (hb.cell (p := ad.add (k * 4)) (by rw [block_of_add]; exact hbk)).trans (hc0 _ rfl)
      have q1 := (hb.cell (p := ⟨(ad.add (k * 4)).block, (ad.add (k * 4)).off + 1, none⟩) (by rw [block_of_add]; exact hbk)).trans (hcj 1 _ rfl)
      have q2 := (hb.cell (p := ⟨(ad.add (k * 4)).block, (ad.add (k * 4)).off + 2, none⟩) (by rw [block_of_add]; exact hbk)).trans (hcj 2 _ rfl)
      have q3 := (hb.cell (p := ⟨(ad.add (k * 4)).block, (ad.add (k * 4)).off + 3, none⟩) (by rw [block_of_add]; exact hbk)).trans (hcj 3 _ rfl)
      have C1 := Lib.hid (fun w => HO1.out _ w hmem)
      have C2 := Lib.hid (fun w => HO2.out _ w hmem)
      have HQ := Lib.hid (HL.out _ hmem)
      have HLK := Lib.hid hlk
      have HTK := Lib.hid htk
      simp only at C1 C2
      have HB := Lib.hid hb
      obtain ⟨o1, ho1⟩ : ∃ o1, PV.over ⟨qs, qh, ql, qn⟩ ⟨six, hi, lo, pn⟩ = o1 := ⟨_, rfl⟩
      obtain ⟨o2, ho2⟩ : ∃ o2, PV.over ⟨six, hi, lo, pn⟩ ⟨qs, qh, ql, qn⟩ = o2 := ⟨_, rfl⟩
      rw [ho1] at C1
      rw [ho2] at C2
      have hsix : ¬ qs = six → o1 = false ∧ o2 = false := by
        intro hne
        constructor
        · cases o1 with
          | false => rfl
          | true => exact absurd (over_six HQ.out HP.out ho1) hne
        · cases o2 with
          | false => rfl
          | true => exact absurd (over_six HP.out HQ.out ho2).symm hne
      have HNN : Hid (o1 = false → NoneYet (fun q : PV => q.over ⟨six, hi, lo, pn⟩) l (k + 1)) := fun h => noneYet_succ HN.out HTK.out (ho1.trans h)
      have HSS : Hid (((l.take (k + 1)).any fun q => PV.over ⟨six, hi, lo, pn⟩ q) = (sm || o2)) := by show _ = _; rw [HTK.out, List.any_append, HSM.out]; simp [ho2]
      have HONE : Hid (o1 = true → res = 1) := fun h => by
        rw [← HRES.out]; unfold withinI; rw [if_pos (List.any_eq_true.2 ⟨_, hmem, ho1.trans h⟩)]
      clear hlk htk hmem hbk hc0 hcj hb ho1 ho2
      by_cases h6 : qs = six
      · subst h6
        clear hsix
        have hne1 : (qs != qs) = false := by simp
        cases o1 with
        | true =>
          go_wp2_with fail
          refine (C1.out _).mono ?_
          rintro e w2 ⟨rfl, hb2⟩
          have HB2 := Lib.hid (below_step HB.out (balloc1 hb2))
          clear hb2
          go_wp2
          go_ret
          exact ⟨ret_int (HONE.out (by first | rfl | trivial)).symm, HB2.out⟩
        | false =>
          cases sm with
          | true =>
            go_wp2_with fail
            refine (C1.out _).mono ?_
            rintro e w2 ⟨rfl, hb2⟩
            obtain ⟨fc2, ff2⟩ := bcell hb2
            have HB2 := Lib.hid (balloc1 hb2)
            have z2 := bsize1 hb2
            clear hb2
            go_wp2
            go_roundw
            case rel => exact ⟨k + 1, by omega, by go_num, HNN.out (by first | rfl | trivial), by rw [HSS.out]; rfl, HBX.out.trans (HB2.out.mono (by omega))⟩
            case measure => simp [intOf]; omega
          | false =>
            go_wp2_with fail
            refine (C1.out _).mono ?_
            rintro e w2 ⟨rfl, hb2⟩
            obtain ⟨fc2, ff2⟩ := bcell hb2
            have HB2 := Lib.hid (balloc1 hb2)
            have z2 := bsize1 hb2
            have l2 : w.heap.size < w2.heap.size := by omega
            clear hb2
            go_wp2_with fail
            refine (C2.out _).mono ?_
            rintro e w3 ⟨rfl, hb3⟩
            have HB3 := Lib.hid (HB2.out.trans (hb3.mono (by omega)))
            clear hb3
            go_wp2
            go_roundw
            case rel => exact ⟨k + 1, by omega, by go_num, HNN.out (by first | rfl | trivial), by rw [HSS.out]; rfl, HBX.out.trans (HB3.out.mono (by omega))⟩
            case measure => simp [intOf]; omega
      · obtain ⟨rfl, rfl⟩ := hsix h6
        have hne1 : (qs != six) = true := by simpa using h6
        have hne2 : (qs == six) = false := by simpa using h6
        clear h6 hsix
        go_wp2
        go_roundw
        case rel => exact ⟨k + 1, by omega, by go_num, HNN.out (by first | rfl | trivial), by rw [HSS.out]; simp, HBX.out.alloc (by omega) _⟩
        case measure => simp [intOf]; omega
    · obtain rfl : k = n := by omega
      have HE : Hid (res = if sm = true then -1 else 0) := by
        show _ = _
        rw [← HRES.out]
        unfold withinI
        have h1 := HN.out
        unfold NoneYet at h1
        have h2 := HSM.out
        rw [List.take_of_length_le (by rw [HZ.out]; omega)] at h1 h2
        rw [h2, if_neg]
        intro hc
        obtain ⟨q, hq, hh⟩ := List.any_eq_true.1 hc
        have h3 := h1 q hq
        simp only at h3 hh
        rw [h3] at hh
        cases hh
      cases sm with
      | true =>
        go_wp2
        go_ret
        exact ⟨ret_int (by rw [HE.out]; rfl), hb⟩
      | false =>
        go_wp2
        go_ret
        exact ⟨ret_int (by rw [HE.out]; rfl), hb⟩

end Go.Proofs.Ytonelibgaceflaa

namespace Go.Proofs.Ytonelibgaceflaa
open Go.ChangeShapes Go.WideShapes Go.ChangeAt Go.RowKit

/-- A rule on two truth values, as a function value. -/
def RuleFn (fid : FuncId) (caps : Array Value) (f : Bool → Bool → Bool) : Prop :=
  (∀ (args : Array Value) (w : World), (callFunc fid args).run Try.prog w = .ok (.enter fid args) w) ∧ ∀ (a b : Bool) (w : World), Calls Try.prog fid (#[.bool a, .bool b] ++ caps) w fun e w' => e = .returned (.bool (f a b)) ∧ Below w.heap.size w w'
def Walked (L : List PV) (w : World) (e : Ending) (w' : World) : Prop := ∃ v, e = .returned v ∧ w'.ownsRow w.heap.size 35 4 v L.length (L.flatMap PV.cells) ∧ Below w.heap.size w w'
theorem own_lit {w : World} (base : Nat) (six : Bool) (hi lo n : Int) (hb : base ≤ w.heap.size) :
    (w.alloc (.cells #[.bool six, .int .u64 hi, .int .u64 lo, .int .i64 n] 35)).ownsRow base 35 4 (.slice (some ⟨w.heap.size, 0, none⟩) 1 1) 1 [.bool six, .int .u64 hi, .int .u64 lo, .int .i64 n] :=
  ⟨rfl, .inr ⟨w.heap.size, 1, _, rfl, hb, heap_alloc_new w _, Nat.le_refl _, by unfold maxLen; omega, rfl, rfl⟩⟩
theorem refHalves_pv (p : PV) (w : World) (hp : p.Ok) (hn : p.n < wideI p.six) : Calls Try.prog 86 #[p.val] w fun e w' => e = .returned (.tuple #[p.low.val, p.high.val, .int .i64 0]) ∧ Below w.heap.size w w' := by
  have hc : Go.Proofs.Ytonelibgaceflaa.chk p.six p.hi p.lo p.n = 0 := (chk_num hp.addr (ok_n hp)).2 (PV.dvd hp)
  obtain ⟨six, hi, lo, n⟩ := p
  have hn0 : 0 ≤ n := (ok_n hp).1
  obtain ⟨m, rfl⟩ : ∃ m : Nat, n = m := ⟨n.toNat, by omega⟩
  have := refHalves_ok six hi lo m w (Pfx.rhi hp) (Pfx.rlo hp) hc hn
  simpa [PV.val, PV.low, PV.high] using this

/-- What the recursion hands down. -/
def WalkedAt (A A' : Option Addr) (n c n' c' : Nat) (l m : List PV) (f : Bool → Bool → Bool) (fid : FuncId) (caps : Array Value) (K : Nat) : Prop :=
  ∀ (p : PV) (w : World), p.Ok → p.k = K → IsPres w A n c l → IsPres w A' n' c' m →
    Calls Try.prog 200 #[p.val, .slice A n c, .slice A' n' c', .func (.func fid) #[] caps] w (Walked (walkL f l m p) w)

set_option maxRecDepth 100000 in
set_option maxHeartbeats 3200000 in
theorem walked_end {A A' : Option Addr} {n c n' c' : Nat} {l m : List PV} {f : Bool → Bool → Bool} {fid : FuncId} {caps : Array Value} (hf : RuleFn fid caps f) (hl : ∀ q ∈ l, q.Ok) (hm : ∀ q ∈ m, q.Ok)
    (p : PV) (w : World) (hp : p.Ok) (h1 : IsPres w A n c l) (h2 : IsPres w A' n' c' m) (ha : 0 ≤ withinI l p) (hb : 0 ≤ withinI m p) :
    Calls Try.prog 200 #[p.val, .slice A n c, .slice A' n' c', .func (.func fid) #[] caps] w (Walked (walkL f l m p) w) := by
  have hW := walkL_end (f := f) hl hm hp ha hb
  rw [hW]
  have CW1 := Lib.hid (fun (w' : World) (hb : Below w.heap.size w w') => within_any A n c l p w' (h1.below hb) hl hp)
  have CW2 := Lib.hid (fun (w' : World) (hb : Below w.heap.size w w') => within_any A' n' c' m p w' (h2.below hb) hm hp)
  generalize withinI l p = a0 at *
  generalize withinI m p = b0 at *
  obtain ⟨ba, hba⟩ : ∃ ba, decide (a0 = 1) = ba := ⟨_, rfl⟩
  obtain ⟨bb, hbb⟩ : ∃ bb, decide (b0 = 1) = bb := ⟨_, rfl⟩
  rw [hba, hbb]
  have hent := hf.1
  have CI := Lib.hid (fun w => hf.2 ba bb w)
  have hba2 : (a0 == 1) = ba := hba
  have hbb2 : (b0 == 1) = bb := hbb
  obtain ⟨six, hi, lo, pn⟩ := p
  unfold PV.val at CW1 CW2 ⊢
  simp only at CW1 CW2 ⊢
  unfold Walked
  clear hW hf hl hm hp h1 h2 hba hbb
  cases hfv : f ba bb with
  | true =>
    rw [hfv] at CI
    clear hfv
    rw [if_pos rfl]
    go_enter Try.func200, Try.ntmps200
    go_wp2_with fail
    refine (CW1.out _ ((Below.refl _ _).alloc (Nat.le_refl _) _)).mono ?_
    rintro e w1 ⟨rfl, hb1⟩
    obtain ⟨fc1, ff1⟩ := bcell hb1
    have s1 := bsize1 hb1
    have HB1 := Lib.hid (balloc1 hb1)
    clear hb1
    go_wp2_with fail
    refine (CW2.out _ HB1.out).mono ?_
    rintro e w2 ⟨rfl, hb2⟩
    obtain ⟨fc2, ff2⟩ := bcell hb2
    have z2 := hb2.size
    have s2 : w.heap.size < w2.heap.size := by omega
    have HB2 := Lib.hid (below_step HB1.out hb2)
    clear hb2
    go_wp2_with fail
    refine (CI.out _).mono ?_
    rintro e w3 ⟨rfl, hb3⟩
    obtain ⟨fc3, ff3⟩ := bcell hb3
    have z3 := hb3.size
    have s3 : w.heap.size < w3.heap.size := by omega
    have HB3 := Lib.hid (below_step HB2.out hb3)
    clear hb3
    go_wp2
    go_ret
    exact ⟨_, rfl, own_lit _ _ _ _ _ (by omega), HB3.out.alloc (by omega) _⟩
  | false =>
    rw [hfv] at CI
    clear hfv
    rw [if_neg (by simp)]
    go_enter Try.func200, Try.ntmps200
    go_wp2_with fail
    refine (CW1.out _ ((Below.refl _ _).alloc (Nat.le_refl _) _)).mono ?_
    rintro e w1 ⟨rfl, hb1⟩
    obtain ⟨fc1, ff1⟩ := bcell hb1
    have s1 := bsize1 hb1
    have HB1 := Lib.hid (balloc1 hb1)
    clear hb1
    go_wp2_with fail
    refine (CW2.out _ HB1.out).mono ?_
    rintro e w2 ⟨rfl, hb2⟩
    obtain ⟨fc2, ff2⟩ := bcell hb2
    have z2 := hb2.size
    have s2 : w.heap.size < w2.heap.size := by omega
    have HB2 := Lib.hid (below_step HB1.out hb2)
    clear hb2
    go_wp2_with fail
    refine (CI.out _).mono ?_
    rintro e w3 ⟨rfl, hb3⟩
    have HB3 := Lib.hid (below_step HB2.out hb3)
    clear hb3
    go_wp2
    go_ret
    exact ⟨_, rfl, World.ownsRow_nil _ _ _ _, HB3.out⟩

end Go.Proofs.Ytonelibgaceflaa

namespace Go.Proofs.Ytonelibgaceflaa
open Go.ChangeShapes Go.WideShapes Go.ChangeAt Go.RowKit

/-- What the recursion hands down. -/
def SameAt (A A' : Option Addr) (n c n' c' : Nat) (l m : List RouteV) (K : Nat) : Prop :=
  ∀ (p : PV) (a b : Int) (w : World), p.Ok → p.k = K → IsRoutes w A n c l → IsRoutes w A' n' c' m →
    Calls Try.prog 116 #[p.val, .slice A n c, .slice A' n' c', .int .i64 a, .int .i64 b] w fun e w' => e = .returned (.bool (sameB l m p a b)) ∧ Below w.heap.size w w'
theorem hopHere_zero (l : List RouteV) (p : PV) (a : Int) : hopHere (l.take 0) p a = a := rfl
theorem deepR_zero (l : List RouteV) (p : PV) : deepR (l.take 0) p = false := rfl

set_option maxRecDepth 100000 in
set_option maxHeartbeats 6400000 in
theorem sameWay_step {A A' : Option Addr} {n c n' c' : Nat} {l m : List RouteV} (hl : Valid l) (hm : Valid m) (hn60 : n ≤ 60) (hm60 : n' ≤ 60)
    (K : Nat) (ih : ∀ K', K = K' + 1 → SameAt A A' n c n' c' l m K') : SameAt A A' n c n' c' l m K := by
  intro p a b w hp hk h1 h2
  have HZ1 := Lib.hid h1.1
  have HZ2 := Lib.hid h2.1
  have HR1 := Lib.hid h1.2.2.2
  have HR2 := Lib.hid h2.2.2.2
  have HVL := Lib.hid hl
  have HVM := Lib.hid hm
  have HP := Lib.hid hp
  have HO1 := Lib.hid (fun (r : RouteV) (w : World) (hr : r ∈ l) => refOver_pv p r.p w hp (hl.1 r hr).1)
  have HO2 := Lib.hid (fun (r : RouteV) (w : World) (hr : r ∈ m) => refOver_pv p r.p w hp (hm.1 r hr).1)
  obtain ⟨dl, hdl⟩ : ∃ dl, deepR l p = dl := ⟨_, rfl⟩
  obtain ⟨dm, hdm⟩ : ∃ dm, deepR m p = dm := ⟨_, rfl⟩
  obtain ⟨ha, hha⟩ : ∃ ha, hopHere l p a = ha := ⟨_, rfl⟩
  obtain ⟨hb0, hhb⟩ : ∃ hb0, hopHere m p b = hb0 := ⟨_, rfl⟩
  have HDL := Lib.hid hdl
  have HDM := Lib.hid hdm
  have HHA := Lib.hid hha
  have HHB := Lib.hid hhb
  have HEND : Hid ((dl || dm) = false → sameB l m p a b = decide (ha = hb0)) := by
    intro hd
    obtain ⟨rfl, rfl⟩ := Bool.or_eq_false_iff.1 hd
    rw [sameB_leaf hl hm hp (deepR_none hdl) (deepR_none hdm), hha, hhb]
  have HSPLIT : Hid ((dl || dm) = true → ∃ K', K = K' + 1 ∧ p.n < wideI p.six ∧ p.low.Ok ∧ p.high.Ok ∧ p.low.k = K' ∧ p.high.k = K' ∧ sameB l m p a b = (sameB l m p.low ha hb0 && sameB l m p.high ha hb0)) := by
    intro hd
    have hroom : p.n < wideI p.six := by
      cases dl with
      | true => exact deepR_room (fun r hr => (hl.1 r hr).1) hp hdl
      | false => exact deepR_room (fun r hr => (hm.1 r hr).1) hp (hdm.trans (by simpa using hd))
    obtain ⟨l1, _, l3⟩ := low_num hp hroom
    obtain ⟨g1, _, g3⟩ := high_num hp hroom
    refine ⟨p.low.k, by omega, hroom, l1, g1, rfl, by omega, ?_⟩
    rw [sameB_split hl hm hp hroom, hha, hhb]
  have HIH := Lib.hid ih
  have HI1 := Lib.hid h1
  have HI2 := Lib.hid h2
  obtain ⟨res, hres⟩ : ∃ res, sameB l m p a b = res := ⟨_, rfl⟩
  rw [hres]
  have HRES := Lib.hid hres
  clear hl hm h1 h2 ih hdl hdm hha hhb hres hk hp
  obtain ⟨six, hi, lo, pn⟩ := p
  unfold PV.val at HO1 HO2 ⊢
  simp only at HO1 HO2 ⊢
  go_enter Try.func116, Try.ntmps116
  go_wp2
  obtain ⟨X, hX⟩ : ∃ X, ((w.alloc (.cells #[.bool six, .int .u64 hi, .int .u64 lo, .int .i64 pn] 35)).alloc (.cells #[.slice A n c, .slice A' n' c'] 33)) = X := ⟨_, rfl⟩
  have kP : Blk X w.heap.size 35 #[.bool six, .int .u64 hi, .int .u64 lo, .int .i64 pn] := by rw [← hX]; exact (Blk.new _ _ _).alloc _
  have kT : Blk X (w.heap.size + 1) 33 #[.slice A n c, .slice A' n' c'] := by
    rw [← hX]
    have := Blk.new (w.alloc (.cells #[.bool six, .int .u64 hi, .int .u64 lo, .int .i64 pn] 35)) 33 #[.slice A n c, .slice A' n' c']
    simpa using this
  have HX : Hid (Below w.heap.size w X) := by rw [← hX]; exact ((Below.refl _ _).alloc (Nat.le_refl _) _).alloc (by simp) _
  have KP := Lib.hid kP
  have KT := Lib.hid kT
  have HRX1 := Lib.hid (HR1.out.below HX.out)
  have HRX2 := Lib.hid (HR2.out.below HX.out)
  have lX := kT.lt
  rw [hX]
  clear hX kP kT
  go_loopw [23, 12, 13, 15, 3, 4, 11, 28, 29, 30] (fun i _ _ _ s3 s4 s11 _ _ _ wr => ((i = .int .i64 0 ∧ s3 = .int .i64 a ∧ s4 = .int .i64 b ∧ s11 = .bool false) ∨ (i = .int .i64 1 ∧ s3 = .int .i64 ha ∧ s4 = .int .i64 b ∧ s11 = .bool dl) ∨ (i = .int .i64 2 ∧ s3 = .int .i64 ha ∧ s4 = .int .i64 hb0 ∧ s11 = .bool (dl || dm))) ∧ Below X.heap.size X wr) (fun i _ _ _ _ _ _ _ _ _ _ => 2 - (intOf i).toNat)
  case atStart => exact ⟨.inl ⟨rfl, rfl, rfl, rfl⟩, Below.refl _ _⟩
  case round =>
    obtain ⟨hj, hb⟩ := hrel
    obtain ⟨wo, rfl⟩ : ∃ wo : World, wo = wr := ⟨_, rfl⟩
    have t0 := (KT.out.below hb lX).cell 0
    have t1 := (KT.out.below hb lX).cell 1
    simp at t0 t1
    have HB := Lib.hid hb
    have hsz := hb.size
    have l1x : w.heap.size < wo.heap.size := by omega
    have l1y : w.heap.size + 1 < wo.heap.size := by omega
    clear hb
    rcases hj with ⟨rfl, rfl, rfl, rfl⟩ | ⟨rfl, rfl, rfl, rfl⟩ | ⟨rfl, rfl, rfl, rfl⟩
    · go_wp2
      go_loopw [30, 15, 3, 4, 11] (fun i _ s3 s4 d wr => ∃ k : Nat, k ≤ n ∧ i = .int .i64 k ∧ s3 = .int .i64 (hopHere (l.take k) (⟨six, hi, lo, pn⟩ : PV) a) ∧ s4 = .int .i64 b ∧ d = .bool (deepR (l.take k) (⟨six, hi, lo, pn⟩ : PV)) ∧ Below X.heap.size X wr) (fun i _ _ _ _ _ => n - (intOf i).toNat)
      case atStart => exact ⟨0, by omega, rfl, by rw [hopHere_zero], rfl, by first | rfl | rw [deepR_zero, Bool.or_false], HB.out⟩
      case round =>
        obtain ⟨k, hk, rfl, rfl, rfl, rfl, hb⟩ := hrel
        have p0 := (KP.out.below hb (by omega)).cell 0
        have p1 := (KP.out.below hb (by omega)).cell 1
        have p2 := (KP.out.below hb (by omega)).cell 2
        have p3 := (KP.out.below hb (by omega)).cell 3
        simp at p0 p1 p2 p3
        have HBK := Lib.hid hb
        have hszr := hb.size
        have l2x : w.heap.size < wr.heap.size := by omega
        obtain ⟨hc, hhc⟩ : ∃ hc, hopHere (l.take k) (⟨six, hi, lo, pn⟩ : PV) a = hc := ⟨_, rfl⟩
        obtain ⟨dc, hdc⟩ : ∃ dc, (deepR (l.take k) (⟨six, hi, lo, pn⟩ : PV)) = dc := ⟨_, rfl⟩
        by_cases hlt : k < n
        · obtain ⟨ad, ⟨⟨qs, qh, ql, qn⟩, hop⟩, rfl, hlk, htk, hmem, hbk0, hc0, hcj⟩ := HRX1.out.atS RouteV.cells_length HZ1.out hlt
          have hbk : ad.block < X.heap.size := by have := HX.out.size; omega
          have q0 := (hb.cell (p := ad.add (k * 5)) (by rw [block_of_add]; exact hbk)).trans (hc0 _ rfl)
          have q1 := (hb.cell (p := ⟨(ad.add (k * 5)).block, (ad.add (k * 5)).off + 1, none⟩) (by rw [block_of_add]; exact hbk)).trans (hcj 1 _ rfl)
          have q2 := (hb.cell (p := ⟨(ad.add (k * 5)).block, (ad.add (k * 5)).off + 2, none⟩) (by rw [block_of_add]; exact hbk)).trans (hcj 2 _ rfl)
          have q3 := (hb.cell (p := ⟨(ad.add (k * 5)).block, (ad.add (k * 5)).off + 3, none⟩) (by rw [block_of_add]; exact hbk)).trans (hcj 3 _ rfl)
          have q4 := (hb.cell (p := ⟨(ad.add (k * 5)).block, (ad.add (k * 5)).off + 4, none⟩) (by rw [block_of_add]; exact hbk)).trans (hcj 4 _ rfl)
          have CO := Lib.hid (fun w => HO1.out _ w hmem)
          simp only at CO
          obtain ⟨ov, hov⟩ : ∃ ov, PV.over ⟨six, hi, lo, pn⟩ ⟨qs, qh, ql, qn⟩ = ov := ⟨_, rfl⟩
          rw [hov] at CO
          have HEQ := fun w => eqPV ⟨qs, qh, ql, qn⟩ ⟨six, hi, lo, pn⟩ w
          have hs := hopHere_succ HVL.out htk (⟨six, hi, lo, pn⟩ : PV) a
          have hd := deepR_succ htk (⟨six, hi, lo, pn⟩ : PV)
          simp only at hs hd
          rw [hhc] at hs
          by_cases he : (⟨qs, qh, ql, qn⟩ : PV) = ⟨six, hi, lo, pn⟩
          · rw [decide_eq_true he] at HEQ
            rw [if_pos he] at hs
            rw [decide_eq_true he] at hd
            have HS := Lib.hid hs
            have HDC : Hid ((deepR (l.take (k + 1)) (⟨six, hi, lo, pn⟩ : PV)) = dc) := by show _ = _; rw [hd, ← hdc]; simp
            rw [hhc, hdc]
            unfold PV.val at HEQ
            simp only at HEQ
            clear hlk htk hmem hbk hbk0 hc0 hcj hb he hov hs hd hhc hdc
            go_wp2
            go_roundw
            case rel => exact ⟨k + 1, by omega, by go_num, by rw [HS.out], rfl, by rw [HDC.out], (HBK.out.alloc (by omega) _)⟩
            case measure => simp [intOf]; omega
          · rw [decide_eq_false he] at HEQ
            rw [if_neg he] at hs
            rw [decide_eq_false he] at hd
            have HS := Lib.hid hs
            have HDC : Hid ((deepR (l.take (k + 1)) (⟨six, hi, lo, pn⟩ : PV)) = (dc || ov)) := by show _ = _; rw [hd, ← hdc, hov]; simp
            rw [hhc, hdc]
            unfold PV.val at HEQ
            simp only at HEQ
            clear hlk htk hmem hbk hbk0 hc0 hcj hb he hov hs hd hhc hdc
            cases ov with
            | true =>
              go_wp2_with fail
              refine (CO.out _).mono ?_
              rintro e w2 ⟨rfl, hb2⟩
              have HB2 := Lib.hid (below_step HBK.out (balloc1 hb2))
              clear hb2
              go_wp2
              go_roundw
              case rel =>
                exact ⟨k + 1, by omega, by go_num, by rw [HS.out], rfl, by rw [HDC.out]; simp, HB2.out⟩
              case measure => simp [intOf]; omega
            | false =>
              go_wp2_with fail
              refine (CO.out _).mono ?_
              rintro e w2 ⟨rfl, hb2⟩
              have HB2 := Lib.hid (below_step HBK.out (balloc1 hb2))
              clear hb2
              go_wp2
              go_roundw
              case rel =>
                exact ⟨k + 1, by omega, by go_num, by rw [HS.out], rfl, by rw [HDC.out]; simp, HB2.out⟩
              case measure => simp [intOf]; omega
        · obtain rfl : k = n := by omega
          rw [List.take_of_length_le (by rw [HZ1.out]; omega)] at hhc hdc ⊢
          rw [HHA.out] at hhc ⊢
          rw [HDL.out] at hdc ⊢
          clear hhc hdc
          go_wp2
          go_roundw
          case rel => exact ⟨.inr (.inl ⟨by go_num, rfl, rfl, rfl⟩), HBK.out⟩
          case measure => simp [intOf]
    · go_wp2
      go_loopw [30, 15, 3, 4, 11] (fun i _ s3 s4 d wr => ∃ k : Nat, k ≤ n' ∧ i = .int .i64 k ∧ s3 = .int .i64 ha ∧ s4 = .int .i64 (hopHere (m.take k) (⟨six, hi, lo, pn⟩ : PV) b) ∧ d = .bool (dl || deepR (m.take k) (⟨six, hi, lo, pn⟩ : PV)) ∧ Below X.heap.size X wr) (fun i _ _ _ _ _ => n' - (intOf i).toNat)
      case atStart => exact ⟨0, by omega, rfl, rfl, by rw [hopHere_zero], by first | rfl | rw [deepR_zero, Bool.or_false], HB.out⟩
      case round =>
        obtain ⟨k, hk, rfl, rfl, rfl, rfl, hb⟩ := hrel
        have p0 := (KP.out.below hb (by omega)).cell 0
        have p1 := (KP.out.below hb (by omega)).cell 1
        have p2 := (KP.out.below hb (by omega)).cell 2
        have p3 := (KP.out.below hb (by omega)).cell 3
        simp at p0 p1 p2 p3
        have HBK := Lib.hid hb
        have hszr := hb.size
        have l2x : w.heap.size < wr.heap.size := by omega
        obtain ⟨hc, hhc⟩ : ∃ hc, hopHere (m.take k) (⟨six, hi, lo, pn⟩ : PV) b = hc := ⟨_, rfl⟩
        obtain ⟨dc, hdc⟩ : ∃ dc, (dl || deepR (m.take k) (⟨six, hi, lo, pn⟩ : PV)) = dc := ⟨_, rfl⟩
        by_cases hlt : k < n'
        · obtain ⟨ad, ⟨⟨qs, qh, ql, qn⟩, hop⟩, rfl, hlk, htk, hmem, hbk0, hc0, hcj⟩ := HRX2.out.atS RouteV.cells_length HZ2.out hlt
          have hbk : ad.block < X.heap.size := by have := HX.out.size; omega
          have q0 := (hb.cell (p := ad.add (k * 5)) (by rw [block_of_add]; exact hbk)).trans (hc0 _ rfl)
          have q1 := (hb.cell (p := ⟨(ad.add (k * 5)).block, (ad.add (k * 5)).off + 1, none⟩) (by rw [block_of_add]; exact hbk)).trans (hcj 1 _ rfl)
          have q2 := (hb.cell (p := ⟨(ad.add (k * 5)).block, (ad.add (k * 5)).off + 2, none⟩) (by rw [block_of_add]; exact hbk)).trans (hcj 2 _ rfl)
          have q3 := (hb.cell (p := ⟨(ad.add (k * 5)).block, (ad.add (k * 5)).off + 3, none⟩) (by rw [block_of_add]; exact hbk)).trans (hcj 3 _ rfl)
          have q4 := (hb.cell (p := ⟨(ad.add (k * 5)).block, (ad.add (k * 5)).off + 4, none⟩) (by rw [block_of_add]; exact hbk)).trans (hcj 4 _ rfl)
          have CO := Lib.hid (fun w => HO2.out _ w hmem)
          simp only at CO
          obtain ⟨ov, hov⟩ : ∃ ov, PV.over ⟨six, hi, lo, pn⟩ ⟨qs, qh, ql, qn⟩ = ov := ⟨_, rfl⟩
          rw [hov] at CO
          have HEQ := fun w => eqPV ⟨qs, qh, ql, qn⟩ ⟨six, hi, lo, pn⟩ w
          have hs := hopHere_succ HVM.out htk (⟨six, hi, lo, pn⟩ : PV) b
          have hd := deepR_succ htk (⟨six, hi, lo, pn⟩ : PV)
          simp only at hs hd
          rw [hhc] at hs
          by_cases he : (⟨qs, qh, ql, qn⟩ : PV) = ⟨six, hi, lo, pn⟩
          · rw [decide_eq_true he] at HEQ
            rw [if_pos he] at hs
            rw [decide_eq_true he] at hd
            have HS := Lib.hid hs
            have HDC : Hid ((dl || deepR (m.take (k + 1)) (⟨six, hi, lo, pn⟩ : PV)) = dc) := by show _ = _; rw [hd, ← hdc]; simp
            rw [hhc, hdc]
            unfold PV.val at HEQ
            simp only at HEQ
            clear hlk htk hmem hbk hbk0 hc0 hcj hb he hov hs hd hhc hdc
            go_wp2
            go_roundw
            case rel => exact ⟨k + 1, by omega, by go_num, rfl, by rw [HS.out], by rw [HDC.out], (HBK.out.alloc (by omega) _)⟩
            case measure => simp [intOf]; omega
          · rw [decide_eq_false he] at HEQ
            rw [if_neg he] at hs
            rw [decide_eq_false he] at hd
            have HS := Lib.hid hs
            have HDC : Hid ((dl || deepR (m.take (k + 1)) (⟨six, hi, lo, pn⟩ : PV)) = (dc || ov)) := by show _ = _; rw [hd, ← hdc, hov]; simp [Bool.or_assoc]
            rw [hhc, hdc]
            unfold PV.val at HEQ
            simp only at HEQ
            clear hlk htk hmem hbk hbk0 hc0 hcj hb he hov hs hd hhc hdc
            cases ov with
            | true =>
              go_wp2_with fail
              refine (CO.out _).mono ?_
              rintro e w2 ⟨rfl, hb2⟩
              have HB2 := Lib.hid (below_step HBK.out (balloc1 hb2))
              clear hb2
              go_wp2
              go_roundw
              case rel =>
                exact ⟨k + 1, by omega, by go_num, rfl, by rw [HS.out], by rw [HDC.out]; simp, HB2.out⟩
              case measure => simp [intOf]; omega
            | false =>
              go_wp2_with fail
              refine (CO.out _).mono ?_
              rintro e w2 ⟨rfl, hb2⟩
              have HB2 := Lib.hid (below_step HBK.out (balloc1 hb2))
              clear hb2
              go_wp2
              go_roundw
              case rel =>
                exact ⟨k + 1, by omega, by go_num, rfl, by rw [HS.out], by rw [HDC.out]; simp, HB2.out⟩
              case measure => simp [intOf]; omega
        · obtain rfl : k = n' := by omega
          rw [List.take_of_length_le (by rw [HZ2.out]; omega)] at hhc hdc ⊢
          rw [HHB.out] at hhc ⊢
          rw [HDM.out] at hdc ⊢
          clear hhc hdc
          go_wp2
          go_roundw
          case rel => exact ⟨.inr (.inr ⟨by go_num, rfl, rfl, rfl⟩), HBK.out⟩
          case measure => simp [intOf]
    · have kp := KP.out.below HB.out (by omega)
      obtain ⟨dd, hdd⟩ : ∃ dd, (dl || dm) = dd := ⟨_, rfl⟩
      rw [hdd]
      rw [hdd] at HEND HSPLIT
      have HKP := Lib.hid kp
      have p0 := kp.cell 0
      have p1 := kp.cell 1
      have p2 := kp.cell 2
      have p3 := kp.cell 3
      simp at p0 p1 p2 p3
      have HBO := Lib.hid (HX.out.trans (HB.out.mono HX.out.size))
      clear hdd kp t0 t1
      cases dd with
      | false =>
        have hr := HEND.out rfl
        rw [HRES.out] at hr
        subst hr
        go_wp2
        go_ret
        exact ⟨ret_bool (by first | rfl | (rw [Bool.eq_iff_iff]; simp)), HBO.out⟩
      | true =>
        obtain ⟨K', hK, hroom, l1, g1, e1, e2, hres⟩ := HSPLIT.out rfl
        rw [HRES.out] at hres
        have CH := Lib.hid (fun w => refHalves_pv ⟨six, hi, lo, pn⟩ w HP.out hroom)
        have C1 := Lib.hid (fun (w' : World) (hb : Below w.heap.size w w') => HIH.out K' hK _ ha hb0 w' l1 e1 (HI1.out.below hb) (HI2.out.below hb))
        have C2 := Lib.hid (fun (w' : World) (hb : Below w.heap.size w w') => HIH.out K' hK _ ha hb0 w' g1 e2 (HI1.out.below hb) (HI2.out.below hb))
        generalize sameB l m (PV.low ⟨six, hi, lo, pn⟩) ha hb0 = x at *
        generalize sameB l m (PV.high ⟨six, hi, lo, pn⟩) ha hb0 = y at *
        subst hres
        unfold PV.low PV.high PV.val at CH
        unfold PV.low PV.val at C1
        unfold PV.high PV.val at C2
        simp only at CH C1 C2
        generalize setHi six hi pn.toNat = sh at *
        generalize setLo six lo pn.toNat = sl at *
        clear hroom l1 g1 e1 e2 hK HEND HSPLIT
        go_wp2_with fail
        refine (CH.out _).mono ?_
        rintro e w2 ⟨rfl, hb2⟩
        have HB2 := Lib.hid (below_step HBO.out hb2)
        clear hb2
        go_wp2_with fail
        have HBX := Lib.hid ((HB2.out.alloc HB2.out.size (.cells #[.bool six, .int .u64 hi, .int .u64 lo, .int .i64 (pn + 1)] 35)).alloc (by have := HB2.out.size; simp; omega) (.cells #[.bool six, .int .u64 sh, .int .u64 sl, .int .i64 (pn + 1)] 35))
        refine (C1.out _ HBX.out).mono ?_
        rintro e w3 ⟨rfl, hb3⟩
        obtain ⟨fc3, ff3⟩ := bcell hb3
        obtain ⟨s3, s4⟩ := bsize2 hb3
        have HB3 := Lib.hid (below_step HB2.out (balloc2 hb3))
        clear hb3
        cases x with
        | false =>
          go_wp2
          go_ret
          exact ⟨rfl, HB3.out⟩
        | true =>
          go_wp2_with fail
          refine (C2.out _ HB3.out).mono ?_
          rintro e w4 ⟨rfl, hb4⟩
          have HB4 := Lib.hid (below_step HB3.out hb4)
          clear hb4
          go_wp2
          go_ret
          exact ⟨rfl, HB4.out⟩

theorem sameWay_any {A A' : Option Addr} {n c n' c' : Nat} {l m : List RouteV} (hl : Valid l) (hm : Valid m) (hn60 : n ≤ 60) (hm60 : n' ≤ 60) : ∀ K, SameAt A A' n c n' c' l m K
  | 0 => sameWay_step hl hm hn60 hm60 0 (fun K' h => by omega)
  | K + 1 => sameWay_step hl hm hn60 hm60 (K + 1) (fun K' h => by obtain rfl : K = K' := by omega
                                                                  exact sameWay_any hl hm hn60 hm60 K)

end Go.Proofs.Ytonelibgaceflaa

namespace Go.Proofs.Ytonelibgaceflaa
open Go.ChangeShapes Go.WideShapes Go.ChangeAt Go.RowKit

/-- What fewest.Same says: the answer, and the error. -/
noncomputable def sameR (l m : List RouteV) : Bool × Int := if ¬ routesF l = 0 then (false, routesF l) else if ¬ routesF m = 0 then (false, routesF m) else (sameB l m ⟨false, 0, 0, 0⟩ 0 0 && sameB l m ⟨true, 0, 0, 0⟩ 0 0, 0)
def Samed (r : Bool × Int) (w : World) (e : Ending) (w' : World) : Prop := e = .returned (.tuple #[.bool r.1, .int .i64 r.2]) ∧ Below w.heap.size w w'

set_option maxRecDepth 100000 in
set_option maxHeartbeats 1600000 in
theorem refSame_is {A A' : Option Addr} {n c n' c' : Nat} {l m : List RouteV} {w : World} (h : IsRoutes w A n c l) (h' : IsRoutes w A' n' c' m) :
    Calls Try.prog 55 #[.slice A n c, .slice A' n' c'] w (Samed (sameR l m) w) := by
  have CF := Lib.hid (fun (w' : World) (hb : Below w.heap.size w w') => tableFault_is (h.below hb))
  have CG := Lib.hid (fun (w' : World) (hb : Below w.heap.size w w') => tableFault_is (h'.below hb))
  unfold Samed
  by_cases hz : routesF l = 0
  · rw [hz] at CF
    by_cases hz2 : routesF m = 0
    · rw [hz2] at CG
      have hv := valid_of h.2.2.1 hz
      have hv2 := valid_of h'.2.2.1 hz2
      have hr : sameR l m = (sameB l m ⟨false, 0, 0, 0⟩ 0 0 && sameB l m ⟨true, 0, 0, 0⟩ 0 0, 0) := by unfold sameR; rw [if_neg (by simp [hz]), if_neg (by simp [hz2])]
      rw [hr]
      have hn60 : n ≤ 60 := by rw [← h.1]; exact hv.2
      have hm60 : n' ≤ 60 := by rw [← h'.1]; exact hv2.2
      have CS := fun six (w' : World) (hb : Below w.heap.size w w') => sameWay_any hv.1 hv2.1 hn60 hm60 _ ⟨six, 0, 0, 0⟩ 0 0 w' (top_ok six) rfl (h.below hb) (h'.below hb)
      have CT := Lib.hid (fun six w => top_any six w)
      unfold PV.val at CS
      have CS1 := Lib.hid (CS false)
      have CS2 := Lib.hid (CS true)
      simp only at CS1 CS2
      generalize sameB l m ⟨false, 0, 0, 0⟩ 0 0 = x at *
      generalize sameB l m ⟨true, 0, 0, 0⟩ 0 0 = y at *
      clear CS hr hz hz2 h h' hv hv2 hn60 hm60
      go_enter Try.func55, Try.ntmps55
      go_wp2_with fail
      refine (CF.out _ (Below.refl _ _)).mono ?_
      rintro e w1 ⟨rfl, hb1⟩
      have HB1 := Lib.hid hb1
      clear hb1
      go_wp2_with fail
      refine (CG.out _ HB1.out).mono ?_
      rintro e w2 ⟨rfl, hb2⟩
      have HB2 := Lib.hid (below_step HB1.out hb2)
      clear hb2
      go_wp2_with fail
      refine (CT.out false _).mono ?_
      rintro e w3 ⟨rfl, hb3⟩
      have HB3 := Lib.hid (below_step HB2.out hb3)
      clear hb3
      go_wp2_with fail
      refine (CS1.out _ HB3.out).mono ?_
      rintro e w4 ⟨rfl, hb4⟩
      have HB4 := Lib.hid (below_step HB3.out hb4)
      clear hb4
      cases x with
      | false =>
        go_wp2
        go_ret2
        exact ⟨rfl, HB4.out⟩
      | true =>
        go_wp2_with fail
        refine (CT.out true _).mono ?_
        rintro e w5 ⟨rfl, hb5⟩
        have HB5 := Lib.hid (below_step HB4.out hb5)
        clear hb5
        go_wp2_with fail
        refine (CS2.out _ HB5.out).mono ?_
        rintro e w6 ⟨rfl, hb6⟩
        have HB6 := Lib.hid (below_step HB5.out hb6)
        clear hb6
        go_wp2
        go_ret2
        exact ⟨rfl, HB6.out⟩
    · have hr : sameR l m = (false, routesF m) := by unfold sameR; rw [if_neg (by simp [hz]), if_pos hz2]
      rw [hr]
      obtain ⟨E, hE⟩ : ∃ E, routesF m = E := ⟨_, rfl⟩
      rw [hE] at hz2 CG ⊢
      have hzb : (E != 0) = true := by simpa using hz2
      clear hr hE h h' hz hz2
      go_enter Try.func55, Try.ntmps55
      go_wp2_with fail
      refine (CF.out _ (Below.refl _ _)).mono ?_
      rintro e w1 ⟨rfl, hb1⟩
      have HB1 := Lib.hid hb1
      clear hb1
      go_wp2_with fail
      refine (CG.out _ HB1.out).mono ?_
      rintro e w2 ⟨rfl, hb2⟩
      have HB2 := Lib.hid (below_step HB1.out hb2)
      clear hb2
      go_wp2
      go_ret2
      exact ⟨rfl, HB2.out⟩
  · have hr : sameR l m = (false, routesF l) := by unfold sameR; rw [if_pos hz]
    rw [hr]
    obtain ⟨E, hE⟩ : ∃ E, routesF l = E := ⟨_, rfl⟩
    rw [hE] at hz CF ⊢
    have hzb : (E != 0) = true := by simpa using hz
    clear hr hE h h' hz CG
    go_enter Try.func55, Try.ntmps55
    go_wp2_with fail
    refine (CF.out _ (Below.refl _ _)).mono ?_
    rintro e w1 ⟨rfl, hb1⟩
    have HB1 := Lib.hid hb1
    clear hb1
    go_wp2
    go_ret2
    exact ⟨rfl, HB1.out⟩

end Go.Proofs.Ytonelibgaceflaa

namespace Go.Proofs.Ytonelibgaceflaa
open Go.ChangeShapes Go.WideShapes Go.ChangeAt Go.RowKit

theorem infoRouteC : (Try.prog.info? 37).map (fun i => (i.zero, i.size, i.bytes)) = some (some (.agg #[.bool false, .int .u64 0, .int .u64 0, .int .i64 0, .int .i64 0]), 5, 40) := by kernel_rfl

set_option maxRecDepth 100000 in
set_option maxHeartbeats 1600000 in
theorem growR_any (n : Nat) (w : World) (hn : n ≤ 100000) :
    Calls Try.prog 181 #[.slice none 0 0, .int .i64 n] w fun e w' => ∃ v, e = .returned v ∧ w'.ownsRow w.heap.size 37 5 v 0 [] ∧ Below w.heap.size w w' := by
  by_cases h0 : n = 0
  · subst h0
    go_enter Try.func181, Try.ntmps181
    go_wp2
    go_ret
    exact ⟨_, rfl, World.ownsRow_nil _ _ _ _, Below.refl _ _⟩
  · obtain ⟨i0, hi, hz0, hz1, hz2⟩ := info_parts infoRouteC
    have hr : ∀ ty, (Builtin.append_ #[33, 3] ty #[.slice none 0 0, .int .i64 n]).run Try.prog w = .ok _ _ := fun ty => Lib.run_append_nil_zeros w 33 3 ty 37 i0 _ .i64 .i64 Try.underlying33 Try.underlying3 hi hz0 n (by omega) (by omega) (by omega) (by rw [hz2]; omega)
    have hG := grownCap_le_maxLen w n 0 37 (by unfold maxLen; omega)
    have hG0 := grownCap_ge w n 0 37
    have hsz : (Builtin.zeroCells (Value.cells (.agg #[.bool false, .int .u64 0, .int .u64 0, .int .i64 0, .int .i64 0])) n ++ Builtin.zeroCells (Value.cells (.agg #[.bool false, .int .u64 0, .int .u64 0, .int .i64 0, .int .i64 0])) (grownCap w n 0 37 - n)).size = grownCap w n 0 37 * 5 := by
      rw [Array.size_append, size_zeroCells, size_zeroCells, show (Value.cells (.agg #[.bool false, .int .u64 0, .int .u64 0, .int .i64 0, .int .i64 0])).size = 5 from rfl]
      omega
    generalize grownCap w n 0 37 = G at *
    generalize Builtin.zeroCells (Value.cells (.agg #[.bool false, .int .u64 0, .int .u64 0, .int .i64 0, .int .i64 0])) n ++ Builtin.zeroCells (Value.cells (.agg #[.bool false, .int .u64 0, .int .u64 0, .int .i64 0, .int .i64 0])) (G - n) = cs at *
    have HR := Lib.hid hr
    have hpos : decide ((n : Int) > 0) = true := decide_eq_true (by omega)
    unfold maxLen at hG
    clear hr hi hz0 hz1 hz2
    go_enter Try.func181, Try.ntmps181
    go_wp2_with (at_builtin; refine Lib.wpList_append_run _ rfl _ _ _ _ rfl _ _ rfl rfl _ _ (HR.out _) ?_)
    go_wp2
    go_ret
    exact ⟨_, rfl, World.ownsRow_made w.drew cs G (Nat.le_refl _) (by unfold maxLen; omega) hsz, ((Below.refl _ _).drew).alloc (Nat.le_refl _) _⟩

set_option maxRecDepth 100000 in
set_option maxHeartbeats 1600000 in
theorem concatR_any {A A' : Option Addr} {n c n' c' : Nat} {l m : List RouteV} {w : World} {b : Nat} (h : IsRoutes w A n c l) (h' : IsRoutes w A' n' c' m) (hn : n ≤ 60) (hn' : n' ≤ 60) (hk : Blk w b 33 #[.slice A n c, .slice A' n' c']) :
    Calls Try.prog 112 #[.slice (some ⟨b, 0, none⟩) 2 2] w fun e w' => ∃ v, e = .returned v ∧ w'.ownsRow w.heap.size 37 5 v (n + n') ((l ++ m).flatMap RouteV.cells) ∧ Below w.heap.size w w' := by
  have HR1 := Lib.hid h.2.2.2
  have HR2 := Lib.hid h'.2.2.2
  have HZ1 := h.1
  have HZ2 := h'.1
  have HK := Lib.hid hk
  have lb := hk.lt
  have hc1 := h.2.1
  have hc2 := h'.2.1
  unfold maxLen at hc1 hc2
  have HO1 : Hid (∀ u ∈ l.flatMap RouteV.cells, u.oneCell' = true) := by
    show ∀ u ∈ l.flatMap RouteV.cells, u.oneCell' = true
    intro u hu
    obtain ⟨r, _, hr⟩ := List.mem_flatMap.1 hu
    simp [RouteV.cells] at hr
    rcases hr with rfl | rfl | rfl | rfl | rfl <;> rfl
  have HO2 : Hid (∀ u ∈ m.flatMap RouteV.cells, u.oneCell' = true) := by
    show ∀ u ∈ m.flatMap RouteV.cells, u.oneCell' = true
    intro u hu
    obtain ⟨r, _, hr⟩ := List.mem_flatMap.1 hu
    simp [RouteV.cells] at hr
    rcases hr with rfl | rfl | rfl | rfl | rfl <;> rfl
  have HE : Hid ((l ++ m).flatMap RouteV.cells = l.flatMap RouteV.cells ++ m.flatMap RouteV.cells) := by show _ = _; rw [List.flatMap_append]
  rw [HE.out]
  generalize l.flatMap RouteV.cells = xs at *
  generalize m.flatMap RouteV.cells = ys at *
  have CG0 := fun w => growR_any (n + n') w (by omega)
  simp only [Int.natCast_add] at CG0
  have CG := Lib.hid CG0
  have hsum : IntKind.i64.wrap ((n : Int) + n') = ((n + n' : Nat) : Int) := by rw [IntKind.wrap_i64]; omega
  have hsum1 : IntKind.i64.wrap (0 + (n : Int)) = (n : Int) := by rw [IntKind.wrap_i64]; omega
  have hq0 := hk.cell 0
  have hq1 := hk.cell 1
  simp at hq0 hq1
  clear h h' hk HE CG0
  go_enter Try.func112, Try.ntmps112
  go_wp2
  go_loopw [11, 3, 5] (fun i s _ wr => ((i = .int .i64 0 ∧ s = .int .i64 0) ∨ (i = .int .i64 1 ∧ s = .int .i64 n) ∨ (i = .int .i64 2 ∧ s = .int .i64 ((n : Int) + n'))) ∧ wr = w) (fun i _ _ _ => 2 - (intOf i).toNat)
  case atStart => exact ⟨.inl ⟨rfl, rfl⟩, rfl⟩
  case round =>
    obtain ⟨hj, hw⟩ := hrel
    subst hw
    rcases hj with ⟨rfl, rfl⟩ | ⟨rfl, rfl⟩ | ⟨rfl, rfl⟩
    · go_wp2
      go_roundw
      case rel => exact ⟨.inr (.inl ⟨by go_num, rfl⟩), trivial⟩
      case measure => simp [intOf]
    · go_wp2
      go_roundw
      case rel => exact ⟨.inr (.inr ⟨by go_num, rfl⟩), trivial⟩
      case measure => simp [intOf]
    · obtain ⟨W0, rfl⟩ : ∃ W0 : World, W0 = wr := ⟨_, rfl⟩
      go_wp2_with fail
      refine (CG.out _).mono ?_
      rintro e w1 ⟨v, rfl, hown, hb1⟩
      have HOW := Lib.hid hown
      have HB1 := Lib.hid hb1
      clear hown hb1
      go_wp2
      go_loopw [27, 6, 8] (fun i v _ w2 => ((i = .int .i64 0 ∧ w2.ownsRow W0.heap.size 37 5 v 0 []) ∨ (i = .int .i64 1 ∧ w2.ownsRow W0.heap.size 37 5 v n xs) ∨ (i = .int .i64 2 ∧ w2.ownsRow W0.heap.size 37 5 v (n + n') (xs ++ ys))) ∧ Below W0.heap.size W0 w2) (fun i _ _ _ => 2 - (intOf i).toNat)
      case atStart => exact ⟨.inl ⟨rfl, HOW.out⟩, HB1.out⟩
      case round =>
        obtain ⟨hj, hb⟩ := hrel
        obtain ⟨wo, rfl⟩ : ∃ wo : World, wo = wr := ⟨_, rfl⟩
        have g0 := (HK.out.below hb lb).cell 0
        have g1 := (HK.out.below hb lb).cell 1
        simp at g0 g1
        have hsz := hb.size
        have hbw : b < wo.heap.size := by omega
        have HB := Lib.hid hb
        have HX1 := Lib.hid (HR1.out.below hb)
        have HX2 := Lib.hid (HR2.out.below hb)
        clear hb
        rcases hj with ⟨rfl, hown⟩ | ⟨rfl, hown⟩ | ⟨rfl, hown⟩
        · have HOW2 := Lib.hid hown
          clear hown
          go_wp2_with (at_builtin; go_loud (refine wpList_append_reads rfl _ _ 33 rfl W0.heap.size 37 (.agg #[.bool false, .int .u64 0, .int .u64 0, .int .i64 0, .int .i64 0]) 5 40 Try.underlying33 infoRouteC rfl (by decide) _ _ _ rfl _ _ _ rfl HOW2.out _ xs HX1.out HO1.out ?c3 ?c4 ?c5 ?_))
          case c3 => unfold maxLen; omega
          case c4 => omega
          case c5 => exact hsz
          intro v' w' hown' hb'
          have HOW3 : Hid (w'.ownsRow W0.heap.size 37 5 v' n xs) := by
            show World.ownsRow _ _ _ _ _ _ _
            first | exact hown' | (rw [List.nil_append, Nat.zero_add] at hown'; exact hown') | (rw [Nat.zero_add] at hown'; exact hown')
          have HB2 := Lib.hid (HB.out.trans hb')
          clear hown' hb'
          go_wp2
          go_roundw
          case rel => exact ⟨.inr (.inl ⟨by go_num, HOW3.out⟩), HB2.out⟩
          case measure => simp [intOf]
        · have HOW2 := Lib.hid hown
          clear hown
          go_wp2_with (at_builtin; go_loud (refine wpList_append_reads rfl _ _ 33 rfl W0.heap.size 37 (.agg #[.bool false, .int .u64 0, .int .u64 0, .int .i64 0, .int .i64 0]) 5 40 Try.underlying33 infoRouteC rfl (by decide) _ _ _ rfl _ _ _ rfl HOW2.out _ ys HX2.out HO2.out ?c3 ?c4 ?c5 ?_))
          case c3 => unfold maxLen; omega
          case c4 => omega
          case c5 => exact hsz
          intro v' w' hown' hb'
          have HOW3 := Lib.hid hown'
          have HB2 := Lib.hid (HB.out.trans hb')
          clear hown' hb'
          go_wp2
          go_roundw
          case rel => exact ⟨.inr (.inr ⟨by go_num, HOW3.out⟩), HB2.out⟩
          case measure => simp [intOf]
        · have HOW2 := Lib.hid hown
          clear hown
          go_wp2
          go_ret
          exact ⟨_, rfl, HOW2.out, HB.out⟩

end Go.Proofs.Ytonelibgaceflaa

namespace Go.Proofs.Ytonelibgaceflaa
open Go.ChangeShapes Go.WideShapes Go.ChangeAt Go.RowKit

def AV.cells (a : AV) : List Value := [.bool a.six, .int .u64 a.hi, .int .u64 a.lo]
theorem AV.cells_length (a : AV) : a.cells.length = 3 := rfl

/-- A test on an element, as a function value: its contract in every later world. -/
def AddrTest (w : World) (fid : FuncId) (caps : Array Value) (f : AV → Bool) (l : List AV) : Prop :=
  ∀ r ∈ l, ∀ w', Below w.heap.size w w' → Calls Try.prog fid (#[.agg r.cells.toArray] ++ caps) w' fun e w'' => e = .returned (.bool (f r)) ∧ Below w'.heap.size w' w''

set_option maxRecDepth 100000 in
set_option maxHeartbeats 1600000 in
theorem idxAddr_any (A : Option Addr) (n c : Nat) (l : List AV) (f : AV → Bool) (fid : FuncId) (caps : Array Value) (w : World) (hent : ∀ (args : Array Value) (w : World), (callFunc fid args).run Try.prog w = .ok (.enter fid args) w) (hz : l.length = n) (hm : n ≤ maxLen) (hr : Reads w w.heap.size 3 A n (l.flatMap AV.cells))
    (ht : AddrTest w fid caps f l) :
    Calls Try.prog 183 #[.slice A n c, .func (.func fid) #[] caps] w fun e w' => e = .returned (.int .i64 (firstAt f l)) ∧ Below w.heap.size w w' := by
  have HZ := Lib.hid hz
  have HR := Lib.hid hr
  have HT := Lib.hid ht
  unfold maxLen at hm
  obtain ⟨r, hr0⟩ : ∃ r, r = firstAt f l := ⟨_, rfl⟩
  rw [← hr0]
  have H0 := Lib.hid hr0
  clear hz hr ht hr0
  go_enter Try.func183, Try.ntmps183
  go_wp2
  go_loopw [8, 5] (fun i _ wr => ∃ k : Nat, k ≤ n ∧ i = .int .i64 k ∧ NoneYet f l k ∧ Below w.heap.size w wr) (fun i _ _ => n - (intOf i).toNat)
  case atStart => exact ⟨0, by omega, rfl, noneYet_zero f l, Below.refl _ _⟩
  case round =>
    obtain ⟨k, hk, rfl, hto, hb⟩ := hrel
    have HN := Lib.hid hto
    clear hto
    by_cases hlt : k < n
    · obtain ⟨ad, ⟨six, hi, lo⟩, rfl, hlk, htk, hmem, hbk, hc0, hcj⟩ := HR.out.atS AV.cells_length HZ.out hlt
      have q0 := (hb.cell (p := ad.add (k * 3)) (by rw [block_of_add]; exact hbk)).trans (hc0 _ rfl)
      have q1 := (hb.cell (p := ⟨(ad.add (k * 3)).block, (ad.add (k * 3)).off + 1, none⟩) (by rw [block_of_add]; exact hbk)).trans (hcj 1 _ rfl)
      have q2 := (hb.cell (p := ⟨(ad.add (k * 3)).block, (ad.add (k * 3)).off + 2, none⟩) (by rw [block_of_add]; exact hbk)).trans (hcj 2 _ rfl)
      have HC : Hid (Calls Try.prog fid (#[.agg #[.bool six, .int .u64 hi, .int .u64 lo]] ++ caps) wr fun e w'' => e = .returned (.bool (f ⟨six, hi, lo⟩)) ∧ Below wr.heap.size wr w'') := HT.out _ hmem wr hb
      have HL := Lib.hid hlk
      have HK := Lib.hid htk
      clear hlk htk hmem hbk hc0 hcj
      generalize hfv : f ⟨six, hi, lo⟩ = fv at *
      have HV := Lib.hid hfv
      clear hfv
      cases fv
      · have HN2 := Lib.hid (noneYet_succ HN.out HK.out HV.out)
        go_wp2_with fail
        refine HC.out.mono ?_
        rintro e w1 ⟨rfl, hb1⟩
        have HB := Lib.hid (below_step hb hb1)
        clear hb1
        go_wp2
        go_roundw
        case rel => exact ⟨k + 1, by omega, by go_num, HN2.out, HB.out⟩
        case measure => simp [intOf]; omega
      · have HN2 := Lib.hid (firstAt_at HN.out HL.out HV.out)
        go_wp2_with fail
        refine HC.out.mono ?_
        rintro e w1 ⟨rfl, hb1⟩
        have HB := Lib.hid (below_step hb hb1)
        clear hb1
        go_wp2
        go_ret
        exact ⟨ret_int (HN2.out.symm.trans H0.out.symm), HB.out⟩
    · obtain rfl : k = n := by omega
      have HN2 := Lib.hid (firstAt_end HN.out HZ.out)
      go_wp2
      go_ret
      exact ⟨ret_int (HN2.out.symm.trans H0.out.symm), hb⟩

set_option maxRecDepth 100000 in
set_option maxHeartbeats 400000 in
theorem hasAddr_any (A : Option Addr) (n c : Nat) (l : List AV) (f : AV → Bool) (fid : FuncId) (caps : Array Value) (w : World) (hent : ∀ (args : Array Value) (w : World), (callFunc fid args).run Try.prog w = .ok (.enter fid args) w) (hz : l.length = n) (hm : n ≤ maxLen) (hr : Reads w w.heap.size 3 A n (l.flatMap AV.cells))
    (ht : AddrTest w fid caps f l) :
    Calls Try.prog 114 #[.slice A n c, .func (.func fid) #[] caps] w fun e w' => e = .returned (.bool (l.any f)) ∧ Below w.heap.size w w' := by
  have HI := idxAddr_any A n c l f fid caps w hent hz hm hr ht
  clear hz hm hr ht hent
  rcases firstAt_cases f l with ⟨h1, h2⟩ | ⟨k, x, h1, h2, h3⟩
  · rw [show l.any f = false from by rw [List.any_eq_false]; exact fun x hx => by rw [h2 x hx]; simp]
    rw [h1] at HI
    have HI' := Lib.hid HI
    clear HI h1 h2
    go_enter Try.func114, Try.ntmps114
    go_wp2_with fail
    refine HI'.out.mono ?_
    rintro e w1 ⟨rfl, hb⟩
    go_wp2
    go_ret
    exact ⟨rfl, hb⟩
  · rw [show l.any f = true from by rw [List.any_eq_true]; exact ⟨x, List.mem_of_getElem? h2, h3⟩]
    rw [h1] at HI
    have HI' := Lib.hid HI
    clear HI h1 h2 h3
    go_enter Try.func114, Try.ntmps114
    go_wp2_with fail
    refine HI'.out.mono ?_
    rintro e w1 ⟨rfl, hb⟩
    go_wp2
    go_ret
    exact ⟨rfl, hb⟩

end Go.Proofs.Ytonelibgaceflaa

namespace Go.Proofs.Ytonelibgaceflaa
open Go.ChangeShapes Go.WideShapes Go.ChangeAt Go.RowKit

theorem infoAddr : (Try.prog.info? 24).map (fun i => (i.zero, i.size, i.bytes)) = some (some (.agg #[.bool false, .int .u64 0, .int .u64 0]), 3, 24) := by kernel_rfl
theorem ansHop (a c : Value) (b : Int) (w' : World) : Sem.run Try.prog (Instr.field 39 (.agg #[a, .int .i64 b, c]) 1) w' = .ok (.int .i64 b) w' := by
  simp [Instr.field, go_sem, asAgg]
/-- What is seen of a table. -/
structure Seen (w : World) (tb : Nat) (l : List RouteV) : Prop where
  holds : Holds w tb tb l
  valid : Valid l
theorem Seen.look {w : World} {tb : Nat} {l : List RouteV} (h : Seen w tb l) {a : AV} (ha : a.Ok) :
    Calls Try.prog 76 #[.pointer (some ⟨tb, 0, none⟩), .agg #[.bool a.six, .int .u64 a.hi, .int .u64 a.lo]] w fun e w' =>
      e = .returned (.agg #[.int .i64 0, .int .i64 (goesR l a.six a.hi a.lo).1, .int .i64 (goesR l a.six a.hi a.lo).2]) ∧ Below w.heap.size w w' := by
  obtain ⟨R, cc, hT, hI, hM, _⟩ := h.holds
  have := tlook_any hT hI a.six a.hi a.lo ha
  rwa [look_goes h.valid (addr_pfx ha) (hI a.six) (fun p hp h6 => by have := hM p hp; rw [h6] at this; exact this)] at this
theorem Seen.below {w w' : World} {tb : Nat} {l : List RouteV} (h : Seen w tb l) (hb : Below w.heap.size w w') : Seen w' tb l := ⟨h.holds.below hb, h.valid⟩

set_option maxRecDepth 100000 in
set_option maxHeartbeats 1600000 in
theorem differ_any {b1 b2 t1 t2 : Nat} {l m : List RouteV} {w : World} (h1 : Seen w t1 l) (h2 : Seen w t2 m) (k1 : Blk w b1 119 #[.pointer (some ⟨t1, 0, none⟩)]) (k2 : Blk w b2 119 #[.pointer (some ⟨t2, 0, none⟩)]) {a : AV} (ha : a.Ok) :
    Calls Try.prog 115 #[.agg #[.bool a.six, .int .u64 a.hi, .int .u64 a.lo], .pointer (some ⟨b1, 0, none⟩), .pointer (some ⟨b2, 0, none⟩)] w fun e w' => e = .returned (.bool (decide (¬ (goesR l a.six a.hi a.lo).1 = (goesR m a.six a.hi a.lo).1))) ∧ Below w.heap.size w w' := by
  have C1 := Lib.hid (fun (w' : World) (hb : Below w.heap.size w w') => (h1.below hb).look ha)
  have C2 := Lib.hid (fun (w' : World) (hb : Below w.heap.size w w') => (h2.below hb).look ha)
  obtain ⟨six, hi, lo⟩ := a
  simp only at C1 C2 ⊢
  have q1 := k1.cell 0
  have q2 := k2.cell 0
  simp at q1 q2
  have l1 := k1.lt
  have l2 := k2.lt
  generalize goesR l six hi lo = x at *
  obtain ⟨x1, x2⟩ := x
  generalize goesR m six hi lo = y at *
  obtain ⟨y1, y2⟩ := y
  simp only at C1 C2 ⊢
  have hf1 : ∀ w', Sem.run Try.prog (Instr.field 39 (.agg #[.int .i64 0, .int .i64 x1, .int .i64 x2]) 1) w' = .ok (.int .i64 x1) w' := fun w' => ansHop _ _ _ _
  have hf2 : ∀ w', Sem.run Try.prog (Instr.field 39 (.agg #[.int .i64 0, .int .i64 y1, .int .i64 y2]) 1) w' = .ok (.int .i64 y1) w' := fun w' => ansHop _ _ _ _
  clear h1 h2 k1 k2 ha
  go_enter Try.func115, Try.ntmps115
  go_wp2
  obtain ⟨X, hX⟩ : ∃ X, (w.alloc (.cells #[.bool six, .int .u64 hi, .int .u64 lo] 24)) = X := ⟨_, rfl⟩
  have kX : Blk X w.heap.size 24 #[.bool six, .int .u64 hi, .int .u64 lo] := by rw [← hX]; exact Blk.new _ _ _
  have HX : Hid (Below w.heap.size w X) := by rw [← hX]; exact (Below.refl _ _).alloc (Nat.le_refl _) _
  have c0 := kX.cell 0
  have c1 := kX.cell 1
  have c2 := kX.cell 2
  simp at c0 c1 c2
  have lX := kX.lt
  have e1 := (HX.out.cell (p := ⟨b1, 0, none⟩) l1).trans q1
  have e2 := (HX.out.cell (p := ⟨b2, 0, none⟩) l2).trans q2
  have m1 : b1 < X.heap.size := by have := HX.out.size; omega
  have m2 : b2 < X.heap.size := by have := HX.out.size; omega
  have D1 := Lib.hid (fun (w' : World) (hb : Below X.heap.size X w') => C1.out w' (HX.out.trans (Below.mono hb HX.out.size)))
  have D2 := Lib.hid (fun (w' : World) (hb : Below X.heap.size X w') => C2.out w' (HX.out.trans (Below.mono hb HX.out.size)))
  rw [hX]
  clear hX kX C1 C2
  go_region_held3 (fun w' => (∀ b o, b < X.heap.size → w'.cell? ⟨b, o, none⟩ = X.cell? ⟨b, o, none⟩) ∧ X.heap.size ≤ w'.heap.size ∧ Hid (Below X.heap.size X w'))
    ((first | assumption | exact keep0 _ | exact keep1 (by assumption) (by assumption) | exact keepD (by assumption) | exact keepB (by assumption) (by assumption) | exact keepA (by assumption) _ | exact ⟨fun _ _ _ => rfl, Nat.le_refl _, Below.refl _ _⟩))
    (first | (go_at_call 76; (with_reducible refine (D1.out _ ?hb1).mono ?_); (case hb1 => exact keepBelow (by assumption)); rintro e w2 ⟨rfl, hb2⟩; obtain ⟨fc2, ff2⟩ := bcell hb2; have hz2 := hb2.size) | (go_at_call 76; (with_reducible refine (D2.out _ ?hb1).mono ?_); (case hb1 => exact keepBelow (by assumption)); rintro e w3 ⟨rfl, hb3⟩; obtain ⟨fc3, ff3⟩ := bcell hb3; have hz3 := hb3.size))
  obtain ⟨fc9, z9, HH⟩ : (∀ b o, b < X.heap.size → w3.cell? ⟨b, o, none⟩ = X.cell? ⟨b, o, none⟩) ∧ X.heap.size ≤ w3.heap.size ∧ Hid (Below X.heap.size X w3) := by assumption
  go_wp2
  all_goals first
    | (go_ret; exact ⟨ret_bool (by first | rfl | (rw [Bool.eq_iff_iff]; simp)), HX.out.trans (Below.mono HH.out HX.out.size)⟩)

set_option maxRecDepth 100000 in
set_option maxHeartbeats 3200000 in
theorem fewSame_ok {A A' : Option Addr} {n c n' c' : Nat} {l m : List RouteV} {w : World} (h : IsRoutes w A n c l) (h' : IsRoutes w A' n' c' m) (hz : routesF l = 0) (hz2 : routesF m = 0) :
    Calls Try.prog 54 #[.slice A n c, .slice A' n' c'] w (Samed (sameB l m ⟨false, 0, 0, 0⟩ 0 0 && sameB l m ⟨true, 0, 0, 0⟩ 0 0, 0) w) := by
  have CN := Lib.hid (fun (w' : World) (hb : Below w.heap.size w w') => new_is (h.below hb))
  have CM := Lib.hid (fun (w' : World) (hb : Below w.heap.size w w') => new_is (h'.below hb))
  rw [hz] at CN
  rw [hz2] at CM
  have hv := valid_of h.2.2.1 hz
  have hv2 := valid_of h'.2.2.1 hz2
  have hn60 : n ≤ 60 := by rw [← h.1]; exact hv.2
  have hm60 : n' ≤ 60 := by rw [← h'.1]; exact hv2.2
  have CC := Lib.hid (fun (b : Nat) (w' : World) (hb : Below w.heap.size w w') (hk : Blk w' b 33 #[.slice A n c, .slice A' n' c']) => concatR_any (h.below hb) (h'.below hb) hn60 hm60 hk)
  have HV := Lib.hid hv.1
  have HV2 := Lib.hid hv2.1
  have HL : Hid ((l ++ m).length = n + n') := by show _ = _; rw [List.length_append, h.1, h'.1]
  have hres := same_edges hv.1 hv2.1 (edgesL_ok (rs := l ++ m) (fun r hr => by rcases List.mem_append.1 hr with hr | hr; exact (hv.1.1 r hr).1; exact (hv2.1.1 r hr).1))
  have hp : ∀ r ∈ l ++ m, r.p.Ok := (fun r hr => by rcases List.mem_append.1 hr with hr | hr; exact (hv.1.1 r hr).1; exact (hv2.1.1 r hr).1)
  have HP := Lib.hid hp
  have HRES := Lib.hid hres
  clear hres hp hv hv2 h h' hz hz2
  unfold Samed
  obtain ⟨res, hres⟩ : ∃ res, (sameB l m ⟨false, 0, 0, 0⟩ 0 0 && sameB l m ⟨true, 0, 0, 0⟩ 0 0) = res := ⟨_, rfl⟩
  rw [hres] at HRES ⊢
  clear hres
  go_enter Try.func54, Try.ntmps54
  go_wp2_with fail
  refine (CN.out _ (Below.refl _ _)).mono ?_
  rintro e w1 ⟨hb1, ⟨hx, _⟩ | ⟨_, rfl, hhold, hval⟩⟩
  · exact absurd rfl hx
  have SL := Lib.hid (Seen.mk hhold hval)
  have HB1 := Lib.hid hb1
  have ls1 := hb1.size
  clear hb1 hhold hval
  go_wp2_with fail
  refine (CM.out _ (HB1.out.alloc HB1.out.size _)).mono ?_
  rintro e w2 ⟨hb2, ⟨hx, _⟩ | ⟨_, rfl, hhold, hval⟩⟩
  · exact absurd rfl hx
  have hhold2 : Holds w2 (w1.heap.size + 1) (w1.heap.size + 1) m := by simpa using hhold
  have SM := Lib.hid (Seen.mk hhold2 hval)
  obtain ⟨fc2, ff2⟩ := bcell hb2
  have K6 := Lib.hid ((Blk.new w1 119 #[.pointer (some ⟨w.heap.size, 0, none⟩)]).below hb2 (by simp))
  have s2 := bsize1 hb2
  have HB2 := Lib.hid (below_step HB1.out (balloc1 hb2))
  have SL2 := Lib.hid (SL.out.below (balloc1 hb2))
  clear hb2 hhold hval hhold2 SL
  go_wp2_with fail
  obtain ⟨X, hX⟩ : ∃ X, (((w2.alloc (Obj.cells #[Value.pointer (some { block := w1.heap.size + 1, off := 0 })] 119)).alloc (Obj.cells #[Value.bool false, Value.int IntKind.u64 0, Value.int IntKind.u64 0, Value.bool true, Value.int IntKind.u64 0, Value.int IntKind.u64 0] 24)).alloc (Obj.cells #[Value.slice A n c, Value.slice A' n' c'] 33)) = X := ⟨_, rfl⟩
  have xs0 : X.heap.size = w2.heap.size + 3 := by rw [← hX]; simp
  have hbx : Below w2.heap.size w2 X := by rw [← hX]; exact (((Below.refl _ _).alloc (Nat.le_refl _) _).alloc (by simp) _).alloc (by simp; omega) _
  have K8 : Hid (Blk X w2.heap.size 119 #[.pointer (some ⟨w1.heap.size + 1, 0, none⟩)]) := by rw [← hX]; exact ((Blk.new _ _ _).alloc _).alloc _
  have KC : Blk X (w2.heap.size + 1 + 1) 33 #[.slice A n c, .slice A' n' c'] := by
    rw [← hX]
    have := Blk.new ((w2.alloc (Obj.cells #[Value.pointer (some { block := w1.heap.size + 1, off := 0 })] 119)).alloc (Obj.cells #[Value.bool false, Value.int IntKind.u64 0, Value.int IntKind.u64 0, Value.bool true, Value.int IntKind.u64 0, Value.int IntKind.u64 0] 24)) 33 #[.slice A n c, .slice A' n' c']
    simpa using this
  have HOWL : Hid (X.ownsRow w2.heap.size 24 3 (.slice (some ⟨w2.heap.size + 1, 0, none⟩) 2 2) 2 ((edgesL []).flatMap AV.cells)) := by
    show World.ownsRow _ _ _ _ _ _ _
    rw [← hX]
    have := World.ownsRow_lit (base := w2.heap.size) (e := 24) (size := 3) (w2.alloc (Obj.cells #[Value.pointer (some { block := w1.heap.size + 1, off := 0 })] 119)) #[Value.bool false, Value.int IntKind.u64 0, Value.int IntKind.u64 0, Value.bool true, Value.int IntKind.u64 0, Value.int IntKind.u64 0] 2 (by simp) (by unfold maxLen; omega) rfl
    simp only [World.size_alloc] at this
    exact this.alloc _
  have HX := Lib.hid (HB2.out.trans (hbx.mono HB2.out.size))
  have HBX := Lib.hid hbx
  have K62 := Lib.hid K6.out
  have lx1 : w1.heap.size < X.heap.size := by omega
  have lx2 : w2.heap.size < X.heap.size := by omega
  rw [hX]
  clear hX hbx K6
  refine (CC.out _ _ HX.out KC).mono ?_
  rintro e w3 ⟨v3, rfl, hown3, hb3⟩
  obtain ⟨A3, c3, rfl, hcap3, hr3, hA3b⟩ := own_reads_at hown3
  have HR3 := Lib.hid hr3
  have HB3 := Lib.hid hb3
  have hs3 := hb3.size
  have HOW0 := Lib.hid (own_below HOWL.out hb3)
  have K83 := Lib.hid (K8.out.below hb3 lx2)
  have HX3 := Lib.hid (HX.out.trans (hb3.mono HX.out.size))
  have hb23 : Below w2.heap.size w2 w3 := HBX.out.trans (hb3.mono (by omega))
  have HROW : Hid (RowAt w3 (w2.heap.size + 1) w2.heap.size 24 3 w3 (.slice (some ⟨w2.heap.size + 1, 0, none⟩) 2 2) 2 ((edgesL []).flatMap AV.cells)) := by
    refine ⟨HOW0.out, fun k hk => ?_, Below.refl _ _, fun _ _ _ => rfl, by omega⟩
    simp [Value.ownBlock] at hk
    exact .inl hk.symm
  have HB23 := Lib.hid hb23
  clear hb3 hown3 hr3 KC HOWL K8 hb23 HOW0
  have hel := edges_len
  have HEL := Lib.hid hel
  clear hel
  go_wp2_with fail
  go_loopw [38, 9, 11, 12, 13] (fun i v _ _ _ wr => ∃ k : Nat, k ≤ n + n' ∧ i = .int .i64 k ∧ RowAt w3 (w2.heap.size + 1) w2.heap.size 24 3 wr v (edgesL ((l ++ m).take k)).length ((edgesL ((l ++ m).take k)).flatMap AV.cells)) (fun i _ _ _ _ _ => n + n' - (intOf i).toNat)
  case atStart => exact ⟨0, by omega, rfl, HROW.out⟩
  case round =>
    obtain ⟨k, hk, rfl, hrow⟩ := hrel
    have HRW := Lib.hid hrow
    clear hrow
    by_cases hlt : k < n + n'
    · obtain ⟨ad, ⟨⟨psix, phi, plo, pn⟩, hop⟩, hA3, hlk, htk, hmem, hbk, hc0, hcj⟩ := HR3.out.atS RouteV.cells_length HL.out hlt
      have hGne : ad.block ≠ w2.heap.size + 1 := by have := hA3b ad hA3; omega
      have hblk := HRW.out.kept ad.block hbk hGne
      subst hA3
      have q0 := (World.cell?_of_block (w := w3) (w' := wr) (a := ad.add (k * 5)) (by rw [block_of_add]; exact hblk)).trans (hc0 _ rfl)
      have q1 := (World.cell?_of_block (w := w3) (w' := wr) (a := ⟨(ad.add (k * 5)).block, (ad.add (k * 5)).off + 1, none⟩) (by rw [block_of_add]; exact hblk)).trans (hcj 1 _ rfl)
      have q2 := (World.cell?_of_block (w := w3) (w' := wr) (a := ⟨(ad.add (k * 5)).block, (ad.add (k * 5)).off + 2, none⟩) (by rw [block_of_add]; exact hblk)).trans (hcj 2 _ rfl)
      have q3 := (World.cell?_of_block (w := w3) (w' := wr) (a := ⟨(ad.add (k * 5)).block, (ad.add (k * 5)).off + 3, none⟩) (by rw [block_of_add]; exact hblk)).trans (hcj 3 _ rfl)
      have q4 := (World.cell?_of_block (w := w3) (w' := wr) (a := ⟨(ad.add (k * 5)).block, (ad.add (k * 5)).off + 4, none⟩) (by rw [block_of_add]; exact hblk)).trans (hcj 4 _ rfl)
      have hpok := HP.out _ hmem
      have hn := ok_n hpok
      have hw128 : wideI psix ≤ 128 := by unfold wideI; split <;> omega
      have r1 := Pfx.rhi hpok
      have r2 := Pfx.rlo hpok
      have CLA := Lib.hid (fun w => last_any psix phi plo pn w r1 r2 hn.1 (by have := hn.2; simp only at this; omega))
      have hlok := PV.last_ok (⟨psix, phi, plo, pn⟩ : PV)
      have CPL := Lib.hid (fun w => plus_any psix (lastHi psix phi plo pn) (lastLo psix phi plo pn) 1 w hlok.rhi hlok.rlo (by omega))
      have HT : Hid ((edgesL ((l ++ m).take (k + 1))) = edgesL ((l ++ m).take k) ++ [⟨psix, phi, plo⟩] ++ (if plusOk psix (lastHi psix phi plo pn) (lastLo psix phi plo pn) 1 = true then [⟨psix, plusHi (lastHi psix phi plo pn) (lastLo psix phi plo pn) 1, plusLo (lastHi psix phi plo pn) (lastLo psix phi plo pn) 1⟩] else [])) := by
        show _ = _
        rw [htk]
        unfold edgesL
        rw [List.flatMap_append]
        simp [edgeOf, PV.last, AV.plus, PV.a]
        try rfl
      have hlen : (edgesL ((l ++ m).take k)).length ≤ 2 * k + 2 := by
        have h1 := HEL.out ((l ++ m).take k)
        have h2 : ((l ++ m).take k).length ≤ k := List.length_take_le _ _
        unfold edgesL
        simp only [List.length_cons]
        omega
      generalize edgesL ((l ++ m).take k) = done at *
      generalize plusOk psix (lastHi psix phi plo pn) (lastLo psix phi plo pn) 1 = ok at *
      generalize plusHi (lastHi psix phi plo pn) (lastLo psix phi plo pn) 1 = eh at *
      generalize plusLo (lastHi psix phi plo pn) (lastLo psix phi plo pn) 1 = el at *
      generalize lastHi psix phi plo pn = lh at *
      generalize lastLo psix phi plo pn = ll at *
      have HRWA := Lib.hid (HRW.out.alloc (.cells #[.bool psix, .int .u64 phi, .int .u64 plo, .int .i64 pn, .int .i64 hop] 37))
      have hne := own_block_lt HRW.out.own (k := wr.heap.size) (Nat.le_refl _)
      have hwb := HRW.out.below.size
      clear hlk htk hmem hbk hblk hc0 hcj hpok hn r1 r2 hlok hw128 hGne
      go_wp2_with (at_builtin; go_loud (refine wpList_append_row rfl _ _ 147 rfl w3 (w2.heap.size + 1) w2.heap.size (.agg #[.bool false, .int .u64 0, .int .u64 0]) 3 24 Try.underlying147 infoAddr rfl (by decide) _ _ _ rfl rfl ?d0 HRWA.out rfl ?d2 ?d3 ?d4 ?_))
      case d2 => first | (intro u hu; simp at hu; (rcases hu with rfl | rfl | rfl <;> rfl); done) | exact ⟨rfl, rfl, rfl⟩
      case d3 => unfold maxLen; omega
      case d4 => omega
      intro v4 w4 hrow4 hs4 hk4
      have kR : Blk w4 wr.heap.size 37 #[.bool psix, .int .u64 phi, .int .u64 plo, .int .i64 pn, .int .i64 hop] := (hk4 wr.heap.size (by simp) hne).trans (Blk.new wr _ _)
      have g0 := kR.cell 0
      have g1 := kR.cell 1
      have g2 := kR.cell 2
      have g3 := kR.cell 3
      have g4 := kR.cell 4
      simp at g0 g1 g2 g3 g4
      have HROW4 := Lib.hid hrow4
      have HNE := Lib.hid hne
      clear hrow4 hs4 hk4 kR hne q0 q1 q2 q3 q4
      go_wp2_with fail
      refine (CLA.out _).mono ?_
      rintro e w5 ⟨rfl, hb5⟩
      have HROW5 := Lib.hid (HROW4.out.step hb5)
      clear hb5
      go_wp2_with fail
      refine (CPL.out _).mono ?_
      rintro e w6 ⟨rfl, hb6⟩
      have HROW6 := Lib.hid (HROW5.out.step hb6)
      clear hb6
      cases ok with
      | true =>
        have HT2 : Hid ((edgesL ((l ++ m).take (k + 1))) = done ++ [⟨psix, phi, plo⟩] ++ [⟨psix, eh, el⟩]) := by show _ = _; rw [HT.out, if_pos rfl]
        have HROW7 := Lib.hid (HROW6.out.alloc (.cells #[.bool psix, .int .u64 eh, .int .u64 el] 24))
        clear HT
        go_wp2_with (at_builtin; go_loud (refine wpList_append_row rfl _ _ 147 rfl w3 (w2.heap.size + 1) w2.heap.size (.agg #[.bool false, .int .u64 0, .int .u64 0]) 3 24 Try.underlying147 infoAddr rfl (by decide) _ _ _ rfl rfl ?e0 HROW7.out rfl ?e2 ?e3 ?e4 ?_))
        case e0 => (try simp); done
        case e2 => first | (intro u hu; simp at hu; (rcases hu with rfl | rfl | rfl <;> rfl); done) | exact ⟨rfl, rfl, rfl⟩
        case e3 => unfold maxLen; omega
        case e4 => omega
        intro v8 w8 hrow8 hs8 hk8
        have HROW8 : Hid (RowAt w3 (w2.heap.size + 1) w2.heap.size 24 3 w8 v8 (edgesL ((l ++ m).take (k + 1))).length ((edgesL ((l ++ m).take (k + 1))).flatMap AV.cells)) := by
          show RowAt _ _ _ _ _ _ _ _ _
          rw [HT2.out, List.length_append, List.length_append, List.flatMap_append, List.flatMap_append]
          simpa [AV.cells] using hrow8
        clear hrow8 hs8 hk8
        go_wp2
        go_roundw
        case rel => exact ⟨k + 1, by omega, by go_num, HROW8.out⟩
        case measure => simp [intOf]; omega
      | false =>
        have HT2 : Hid ((edgesL ((l ++ m).take (k + 1))) = done ++ [⟨psix, phi, plo⟩]) := by show _ = _; rw [HT.out, if_neg (by simp), List.append_nil]
        clear HT
        have HROW8 : Hid (RowAt w3 (w2.heap.size + 1) w2.heap.size 24 3 w6 v4 (edgesL ((l ++ m).take (k + 1))).length ((edgesL ((l ++ m).take (k + 1))).flatMap AV.cells)) := by
          show RowAt _ _ _ _ _ _ _ _ _
          rw [HT2.out, List.length_append, List.flatMap_append]
          exact HROW6.out
        go_wp2
        go_roundw
        case rel => exact ⟨k + 1, by omega, by go_num, HROW8.out.alloc _⟩
        case measure => simp [intOf]; omega
    · obtain rfl : k = n + n' := by omega
      have hrow := HRW.out
      rw [List.take_of_length_le (by rw [HL.out]; omega)] at hrow
      obtain ⟨A5, cp5, rfl, hcap5, hr5⟩ := own_reads hrow.own
      have hbw : Below w2.heap.size w2 wr := HB23.out.trans hrow.below
      have S1 := SL2.out.below hbw
      have S2 := SM.out.below hbw
      have k6 := K62.out.below hbw (by omega)
      have k8 : Blk wr w2.heap.size 119 #[.pointer (some ⟨w1.heap.size + 1, 0, none⟩)] := (hrow.kept w2.heap.size (by omega) (by omega)).trans K83.out
      have hE := edgesL_ok HP.out
      have hT : AddrTest wr 115 #[.pointer (some ⟨w1.heap.size, 0, none⟩), .pointer (some ⟨w2.heap.size, 0, none⟩)] (fun a => decide (¬ (goesR l a.six a.hi a.lo).1 = (goesR m a.six a.hi a.lo).1)) (edgesL (l ++ m)) := by
        intro a ha w' hb'
        exact differ_any (S1.below hb') (S2.below hb') (k6.below hb' k6.lt) (k8.below hb' k8.lt) (hE.1 a ha)
      have CA := Lib.hid (hasAddr_any A5 (edgesL (l ++ m)).length cp5 (edgesL (l ++ m)) _ 115 _ wr (fun args w => by kernel_rfl) rfl (by omega) hr5 hT)
      rw [HRES.out] at CA
      have HBB := Lib.hid (HB2.out.trans (hbw.mono HB2.out.size))
      clear hrow hr5 hbw S1 S2 k6 k8 hE hT
      go_wp2_with fail
      refine CA.out.mono ?_
      rintro e w9 ⟨rfl, hb9⟩
      have HB9 := Lib.hid (below_step HBB.out hb9)
      clear hb9
      go_wp2
      go_ret2
      exact ⟨by simp, HB9.out⟩

theorem newPost_bad {l : List RouteV} {w w' : World} {e : Ending} {E : Int} (hE : ¬ E = 0) (h : NewPost l E w e w') : e = .returned (.tuple #[.pointer none, .int .i64 E]) ∧ Below w.heap.size w w' := by
  obtain ⟨hb, ⟨_, h⟩ | ⟨h, _⟩⟩ := h
  · exact ⟨h, hb⟩
  · exact absurd h hE

set_option maxRecDepth 100000 in
set_option maxHeartbeats 1600000 in
theorem fewSame_is {A A' : Option Addr} {n c n' c' : Nat} {l m : List RouteV} {w : World} (h : IsRoutes w A n c l) (h' : IsRoutes w A' n' c' m) :
    Calls Try.prog 54 #[.slice A n c, .slice A' n' c'] w (Samed (sameR l m) w) := by
  by_cases hz : routesF l = 0
  · by_cases hz2 : routesF m = 0
    · have hr : sameR l m = (sameB l m ⟨false, 0, 0, 0⟩ 0 0 && sameB l m ⟨true, 0, 0, 0⟩ 0 0, 0) := by unfold sameR; rw [if_neg (by simp [hz]), if_neg (by simp [hz2])]
      rw [hr]
      exact fewSame_ok h h' hz hz2
    · have hr : sameR l m = (false, routesF m) := by unfold sameR; rw [if_neg (by simp [hz]), if_pos hz2]
      rw [hr]
      have CN := Lib.hid (fun (w' : World) (hb : Below w.heap.size w w') => new_is (h.below hb))
      have CM := Lib.hid (fun (w' : World) (hb : Below w.heap.size w w') => (new_is (h'.below hb)).mono fun _ _ h => newPost_bad hz2 h)
      rw [hz] at CN
      obtain ⟨E, hE⟩ : ∃ E, routesF m = E := ⟨_, rfl⟩
      rw [hE] at hz2 CM ⊢
      have hzb : (E != 0) = true := by simpa using hz2
      unfold Samed
      clear hr hE h h' hz hz2
      go_enter Try.func54, Try.ntmps54
      go_wp2_with fail
      refine (CN.out _ (Below.refl _ _)).mono ?_
      rintro e w1 ⟨hb1, ⟨hx, _⟩ | ⟨_, rfl, _, _⟩⟩
      · exact absurd rfl hx
      have HB1 := Lib.hid hb1
      have ls1 := hb1.size
      clear hb1
      go_wp2_with fail
      refine (CM.out _ (HB1.out.alloc HB1.out.size _)).mono ?_
      rintro e w2 ⟨rfl, hb2⟩
      have HB2 := Lib.hid (below_step HB1.out (balloc1 hb2))
      clear hb2
      go_wp2
      go_ret2
      exact ⟨rfl, HB2.out.alloc HB2.out.size _⟩
  · have hr : sameR l m = (false, routesF l) := by unfold sameR; rw [if_pos hz]
    rw [hr]
    have CN := Lib.hid ((new_is h).mono fun _ _ h => newPost_bad hz h)
    obtain ⟨E, hE⟩ : ∃ E, routesF l = E := ⟨_, rfl⟩
    rw [hE] at hz CN ⊢
    have hzb : (E != 0) = true := by simpa using hz
    unfold Samed
    clear hr hE h h' hz
    go_enter Try.func54, Try.ntmps54
    go_wp2_with fail
    refine CN.out.mono ?_
    rintro e w1 ⟨rfl, hb1⟩
    have HB1 := Lib.hid hb1
    clear hb1
    go_wp2
    go_ret2
    exact ⟨rfl, HB1.out.alloc HB1.out.size _⟩

set_option maxRecDepth 100000 in
set_option maxHeartbeats 800000 in
theorem fewestSames_walk {H : Type} {enc : TypeId × Value → H} (W : World) (vs : Array Value) (ds : List (DataW H)) (ps : List MemPlace) (h : ArgsOk Try.prog [33, 33] H enc W vs.toList ds ps) :
    Calls Try.prog 15 vs W fun e W' => e = .returned (.bool true) ∧ Below W.heap.size W W' := by
  obtain ⟨hA, ⟨base, hval⟩, _, _⟩ := h
  obtain ⟨v0, v1, d0, d1, p0, p1, e0, _, _, h0, h1⟩ := trodAll_two hA
  obtain ⟨a0, n, c, rfl⟩ := okWide_slice Try.underlying33 (hval 0 _ v0 rfl (by rw [e0]; rfl))
  obtain ⟨l, hr⟩ := open_routes h0
  obtain ⟨a1, n1, c1, rfl⟩ := okWide_slice Try.underlying33 (hval 1 _ v1 rfl (by rw [e0]; rfl))
  obtain ⟨m, ht⟩ := open_routes h1
  obtain rfl : vs = #[.slice a0 n c, .slice a1 n1 c1] := by cases vs; simp_all
  have C1 := Lib.hid (fun (w : World) (hb : Below W.heap.size W w) => fewSame_is (hr.below hb) (ht.below hb))
  have C2 := Lib.hid (fun (w : World) (hb : Below W.heap.size W w) => refSame_is (hr.below hb) (ht.below hb))
  generalize sameR l m = r at *
  obtain ⟨x, E⟩ := r
  unfold Samed at C1 C2
  clear hr ht h0 h1 hA hval e0
  go_enter Try.func15, Try.ntmps15
  go_wp2_with fail
  refine (C1.out _ (Below.refl _ _)).mono ?_
  rintro e w1 ⟨rfl, hb1⟩
  have HB1 := Lib.hid hb1
  clear hb1
  go_wp2_with fail
  refine (C2.out _ HB1.out).mono ?_
  rintro e w2 ⟨rfl, hb2⟩
  have HB2 := Lib.hid (below_step HB1.out hb2)
  clear hb2
  go_wp2
  all_goals first | (go_ret; exact ⟨by simp, HB2.out⟩) | (go_quiet (fail); go_wp2; go_ret; exact ⟨by simp, HB2.out.drewN _⟩)

end Go.Proofs.Ytonelibgaceflaa
