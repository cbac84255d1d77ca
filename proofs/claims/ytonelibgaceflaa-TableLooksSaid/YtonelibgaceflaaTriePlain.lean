
/-
  Proved here: trees of prefixes as plain data: what a lookup finds behind a put; the best prefix of an address. No program.
-/
import Derived.Test.YtonelibgaceflaaComPlain
import Derived.Test.YtonelibgaceflaaCoverPlain
import Derived.Test.YtonelibgaceflaaAlikePlain
namespace Go.Proofs.Ytonelibgaceflaa
set_option linter.unusedVariables false

/-- A prefix as numbers. -/
structure PV where
  six : Bool
  hi : Int
  lo : Int
  n : Int

theorem PV.ext' {p q : PV} (h1 : p.six = q.six) (h2 : p.hi = q.hi) (h3 : p.lo = q.lo) (h4 : p.n = q.n) : p = q := by
  cases p; cases q; simp_all
instance : DecidableEq PV := fun a b => decidable_of_iff (a.six = b.six ∧ a.hi = b.hi ∧ a.lo = b.lo ∧ a.n = b.n)
  ⟨fun h => PV.ext' h.1 h.2.1 h.2.2.1 h.2.2.2, fun h => by subst h; exact ⟨rfl, rfl, rfl, rfl⟩⟩

def PV.Ok (p : PV) : Prop := Pfx p.six p.hi p.lo p.n
def PV.bit (p : PV) (i : Int) : Int := bitI p.six p.hi p.lo i
def PV.over (p q : PV) : Bool := overB p.six p.hi p.lo p.n q.six q.hi q.lo q.n
def PV.comN (p q : PV) : Int := min (min p.n q.n) (alikeI p.six p.hi p.lo q.hi q.lo)
def PV.com (p q : PV) : PV := ⟨p.six, cutHi p.six p.hi (p.comN q), cutLo p.six p.lo (p.comN q), p.comN q⟩

theorem PV.bit01 (p : PV) (i : Int) : p.bit i = 0 ∨ p.bit i = 1 := by have := bitI_01 p.six p.hi p.lo i; unfold PV.bit; omega

theorem over_iff' {p q : PV} (hp : p.Ok) (hq : q.Ok) : p.over q = true ↔ p.six = q.six ∧ p.n ≤ q.n ∧ ∀ i : Nat, (i : Int) < p.n → p.bit i = q.bit i := by
  obtain ⟨six, hi, lo, n⟩ := p
  obtain ⟨six', hi', lo', n'⟩ := q
  unfold PV.Ok at hp hq
  simp only at hp hq
  obtain ⟨k, rfl⟩ : ∃ k : Nat, n = k := ⟨n.toNat, by have := hp.len; omega⟩
  unfold PV.over PV.bit overB
  simp only [Bool.and_eq_true, decide_eq_true_eq]
  by_cases h6 : six = six'
  · subst h6
    have := inB_iff hp hq.rhi hq.rlo hq.may
    rw [this]
    constructor
    · rintro ⟨a, b⟩; exact ⟨rfl, a, fun i hi => b i (by omega)⟩
    · rintro ⟨_, a, b⟩; exact ⟨a, fun i hi => b i (by omega)⟩
  · constructor
    · rintro ⟨_, b⟩
      unfold inB at b
      simp at b
      exact absurd b.1.symm h6
    · rintro ⟨a, _⟩; exact absurd a h6

theorem ok_clean {p : PV} (hp : p.Ok) : ∀ i : Nat, p.n ≤ (i : Int) → (i : Int) < wideI p.six → p.bit i = 0 := by
  obtain ⟨six, hi, lo, n⟩ := p
  unfold PV.Ok at hp
  simp only at hp
  obtain ⟨k, rfl⟩ : ∃ k : Nat, n = k := ⟨n.toNat, by have := hp.len; omega⟩
  have hc := (clean_iff six hi lo k hp.rhi hp.rlo hp.may hp.len.2).1 hp.clean
  intro i h1 h2
  exact hc i (by simp only at h1; omega) h2

theorem over_eq {p q : PV} (hp : p.Ok) (hq : q.Ok) (h : p.over q = true) (hn : q.n ≤ p.n) : p = q := by
  obtain ⟨h6, h1, h2⟩ := (over_iff' hp hq).1 h
  have he : p.n = q.n := by omega
  have cp := ok_clean hp
  have cq := ok_clean hq
  obtain ⟨six, hi, lo, n⟩ := p
  obtain ⟨six', hi', lo', n'⟩ := q
  simp only at h6 he hn h1
  subst h6
  subst he
  unfold PV.Ok at hp hq
  simp only at hp hq
  have := addr_ext six hi lo hi' lo' hp.rhi hp.rlo hq.rhi hq.rlo hp.may hq.may fun i hi0 => by
    by_cases hlt : (i : Int) < n
    · exact h2 i hlt
    · have a := cp i (by simp only; omega) hi0
      have b := cq i (by simp only; omega) hi0
      exact a.trans b.symm
  rw [this.1, this.2]

theorem over_refl {p : PV} (hp : p.Ok) : p.over p = true := (over_iff' hp hp).2 ⟨rfl, Int.le_refl _, fun _ _ => rfl⟩
theorem over_trans {a b c : PV} (ha : a.Ok) (hb : b.Ok) (hc : c.Ok) (h1 : a.over b = true) (h2 : b.over c = true) : a.over c = true := by
  obtain ⟨x1, x2, x3⟩ := (over_iff' ha hb).1 h1
  obtain ⟨y1, y2, y3⟩ := (over_iff' hb hc).1 h2
  exact (over_iff' ha hc).2 ⟨x1.trans y1, by omega, fun i hi => (x3 i hi).trans (y3 i (by omega))⟩
/-- Of two that cover a third one the shorter covers the longer. -/
theorem over_two {a b c : PV} (ha : a.Ok) (hb : b.Ok) (hc : c.Ok) (h1 : a.over c = true) (h2 : b.over c = true) (hn : a.n ≤ b.n) : a.over b = true := by
  obtain ⟨x1, x2, x3⟩ := (over_iff' ha hc).1 h1
  obtain ⟨y1, y2, y3⟩ := (over_iff' hb hc).1 h2
  exact (over_iff' ha hb).2 ⟨x1.trans y1.symm, hn, fun i hi => (x3 i hi).trans (y3 i (by omega)).symm⟩
theorem over_n {p q : PV} (hp : p.Ok) (hq : q.Ok) (h : p.over q = true) : p.n ≤ q.n := ((over_iff' hp hq).1 h).2.1
theorem over_six {p q : PV} (hp : p.Ok) (hq : q.Ok) (h : p.over q = true) : p.six = q.six := ((over_iff' hp hq).1 h).1
theorem over_bit {p q : PV} (hp : p.Ok) (hq : q.Ok) (h : p.over q = true) {i : Int} (h0 : 0 ≤ i) (hi : i < p.n) : p.bit i = q.bit i := by
  obtain ⟨k, rfl⟩ : ∃ k : Nat, i = k := ⟨i.toNat, by omega⟩
  exact ((over_iff' hp hq).1 h).2.2 k hi

theorem ok_n {p : PV} (hp : p.Ok) : 0 ≤ p.n ∧ p.n ≤ wideI p.six := Pfx.len hp

theorem com_facts {p q : PV} (hp : p.Ok) (hq : q.Ok) (h6 : p.six = q.six) :
    (p.com q).Ok ∧ (p.com q).n ≤ p.n ∧ (p.com q).n ≤ q.n ∧ (p.com q).over p = true ∧ (p.com q).over q = true ∧
      (∀ k : Nat, (k : Int) ≤ p.n → (k : Int) ≤ q.n → (∀ i : Nat, i < k → p.bit i = q.bit i) → (k : Int) ≤ (p.com q).n) := by
  obtain ⟨six, hi, lo, n⟩ := p
  obtain ⟨six', hi', lo', n'⟩ := q
  simp only at h6
  subst h6
  have HP := hp
  have HQ := hq
  unfold PV.Ok at hp hq
  simp only at hp hq
  have ra := alike_range six hi lo hi' lo' hp.rhi hp.rlo hq.rhi hq.rlo hp.may hq.may
  have l1 := hp.len
  have l2 := hq.len
  have hm : ∃ m : Nat, min (min n n') (alikeI six hi lo hi' lo') = m := ⟨(min (min n n') (alikeI six hi lo hi' lo')).toNat, by omega⟩
  obtain ⟨m, hm⟩ := hm
  have hcom : PV.com ⟨six, hi, lo, n⟩ ⟨six, hi', lo', n'⟩ = ⟨six, cutHi six hi m, cutLo six lo m, m⟩ := by unfold PV.com PV.comN; rw [hm]
  have hmw : (m : Int) ≤ wideI six := by omega
  have hok : PV.Ok ⟨six, cutHi six hi m, cutLo six lo m, m⟩ := cut_pfx hp.rhi hp.rlo hp.may hmw
  have hbit : ∀ i : Nat, i < m → PV.bit ⟨six, cutHi six hi m, cutLo six lo m, m⟩ i = bitI six hi lo i := by
    intro i hi0
    unfold PV.bit
    simp only
    rw [bit_cut six hi lo m i hp.may (by omega), if_pos (by omega)]
  have hal := alike_iff six hi lo hi' lo' m hp.rhi hp.rlo hq.rhi hq.rlo hp.may hq.may hmw
  have heq := hal.1 (by omega)
  rw [hcom]
  refine ⟨hok, by simp only; omega, by simp only; omega, ?_, ?_, ?_⟩
  · exact (over_iff' hok HP).2 ⟨rfl, by simp only; omega, fun i hi0 => hbit i (by simp only at hi0; omega)⟩
  · exact (over_iff' hok HQ).2 ⟨rfl, by simp only; omega, fun i hi0 => (hbit i (by simp only at hi0; omega)).trans (heq i (by simp only at hi0; omega))⟩
  · intro k h1 h2 h3
    have := (alike_iff six hi lo hi' lo' k hp.rhi hp.rlo hq.rhi hq.rlo hp.may hq.may (by simp only at h1; omega)).2 h3
    simp only at *
    omega

theorem com_bit {p q : PV} (hp : p.Ok) (hq : q.Ok) (h6 : p.six = q.six) (h1 : (p.com q).n < p.n) (h2 : (p.com q).n < q.n) : ¬ p.bit (p.com q).n = q.bit (p.com q).n := by
  obtain ⟨ok, _, _, o1, o2, hk⟩ := com_facts hp hq h6
  intro he
  have h0 := ok_n ok
  obtain ⟨m, hm⟩ : ∃ m : Nat, (p.com q).n = m := ⟨(p.com q).n.toNat, by omega⟩
  have := hk (m + 1) (by omega) (by omega) fun i hi => by
    by_cases hlt : i < m
    · exact ((over_bit ok hp o1 (Int.natCast_nonneg i) (by omega)).symm).trans (over_bit ok hq o2 (Int.natCast_nonneg i) (by omega))
    · obtain rfl : i = m := by omega
      rw [hm] at he
      exact he
  omega
theorem com_lt {q p : PV} (hq : q.Ok) (hp : p.Ok) (h6 : q.six = p.six) (h : q.over p = false) : (q.com p).n < q.n := by
  obtain ⟨ok, l1, l2, o1, o2, hk⟩ := com_facts hq hp h6
  rcases Int.lt_or_le (q.com p).n q.n with hlt | hge
  · exact hlt
  · exfalso
    have := over_eq ok hq o1 (by omega)
    rw [this] at o2
    rw [o2] at h
    cases h

/-! TREES -/
inductive Tr where
  | nil : Tr
  | node (g : Nat) (p : PV) (h : Int) (l r : Tr) : Tr

/-- A node with a part on the side of a bit, and another part on the other side. -/
def node2 (g : Nat) (p : PV) (h : Int) (b : Int) (x y : Tr) : Tr := if b = 0 then .node g p h x y else .node g p h y x

/-- What stands below q, on the side of a bit. -/
def Under (q : PV) (b : Bool) (p : PV) : Prop := q.n < p.n ∧ q.over p = true ∧ (p.bit q.n = 0 ↔ b = true)

def Inv (six : Bool) : (PV → Prop) → Tr → Prop
  | _, .nil => True
  | U, .node _ q h l r => q.Ok ∧ q.six = six ∧ U q ∧ (0 ≤ h ∧ h ≤ 999) ∧ Inv six (Under q true) l ∧ Inv six (Under q false) r

def hopAt : Tr → PV → Int
  | .nil, _ => 0
  | .node _ q h l r, p => if q = p then h else if q.over p = false then 0 else if p.bit q.n = 0 then hopAt l p else hopAt r p

def forkT (q p : PV) (hop : Int) (G1 G2 : Nat) (t : Tr) : Tr :=
  if q.com p = p then node2 G1 p hop (q.bit (q.com p).n) t .nil else node2 G1 (q.com p) 0 (q.bit (q.com p).n) t (.node G2 p hop .nil .nil)

def putT (p : PV) (hop : Int) (G1 G2 : Nat) : Tr → Tr
  | .nil => .node G1 p hop .nil .nil
  | .node g q h l r => if q = p then .node g q hop l r
    else if q.over p = false then forkT q p hop G1 G2 (.node g q h l r)
    else if p.bit q.n = 0 then .node g q h (putT p hop G1 G2 l) r else .node g q h l (putT p hop G1 G2 r)

theorem Inv.weak {six : Bool} {U U' : PV → Prop} {t : Tr} (h : Inv six U t) (hU : ∀ p, p.Ok → U p → U' p) : Inv six U' t := by
  cases t with
  | nil => trivial
  | node g q hh l r => exact ⟨h.1, h.2.1, hU q h.1 h.2.2.1, h.2.2.2⟩

theorem hopAt_ne {g : Nat} {q p : PV} {h : Int} {l r : Tr} (hne : ¬ hopAt (.node g q h l r) p = 0) : q = p ∨ q.over p = true := by
  by_cases he : q = p
  · exact .inl he
  · right
    unfold hopAt at hne
    rw [if_neg he] at hne
    cases ho : q.over p with
    | true => rfl
    | false => rw [if_pos ho] at hne; exact absurd rfl hne

theorem hopAt_node2 (g : Nat) (q : PV) (h b : Int) (x y : Tr) (p : PV) :
    hopAt (node2 g q h b x y) p = if q = p then h else if q.over p = false then 0 else if (p.bit q.n = 0 ↔ b = 0) then hopAt x p else hopAt y p := by
  unfold node2
  by_cases hb : b = 0
  · rw [if_pos hb]
    show (if q = p then h else if q.over p = false then 0 else if p.bit q.n = 0 then hopAt x p else hopAt y p) = _
    simp only [hb, iff_true]
  · rw [if_neg hb]
    show (if q = p then h else if q.over p = false then 0 else if p.bit q.n = 0 then hopAt y p else hopAt x p) = _
    by_cases e1 : q = p
    · rw [if_pos e1, if_pos e1]
    · rw [if_neg e1, if_neg e1]
      by_cases e2 : q.over p = false
      · rw [if_pos e2, if_pos e2]
      · rw [if_neg e2, if_neg e2]
        by_cases e3 : p.bit q.n = 0
        · rw [if_pos e3, if_neg (by rw [iff_true_left e3]; exact hb)]
        · rw [if_neg e3, if_pos (iff_of_false e3 hb)]

theorem under_com {q a b : PV} {s : Bool} {six : Bool} (hq : q.Ok) (ha : a.Ok) (hb : b.Ok) (h6 : a.six = six) (h6' : b.six = six) (h1 : Under q s a) (h2 : Under q s b) : Under q s (a.com b) := by
  obtain ⟨ok, l1, l2, o1, o2, hk⟩ := com_facts ha hb (h6.trans h6'.symm)
  have h0 := ok_n hq
  obtain ⟨m, hm⟩ : ∃ m : Nat, q.n = m := ⟨q.n.toNat, by omega⟩
  have hx : a.bit q.n = b.bit q.n := by
    have x1 := h1.2.2
    have x2 := h2.2.2
    rcases a.bit01 q.n with e | e <;> rcases b.bit01 q.n with e' | e' <;> cases s <;> simp_all
  have hlt := hk (m + 1) (by have := h1.1; omega) (by have := h2.1; omega) fun i hi => by
    by_cases hlt : i < m
    · exact ((over_bit hq ha h1.2.1 (Int.natCast_nonneg i) (by omega)).symm).trans (over_bit hq hb h2.2.1 (Int.natCast_nonneg i) (by omega))
    · obtain rfl : i = m := by omega
      rw [hm] at hx
      exact hx
  refine ⟨by omega, over_two hq ok ha h1.2.1 o1 (by omega), ?_⟩
  rw [over_bit ok ha o1 (by omega) (by omega)]
  exact h1.2.2

theorem side_of {b : Int} {s : Bool} {t : Tr} {six : Bool} {q : PV} : (if b = 0 then Inv six (Under q true) t else Inv six (Under q false) t) → Inv six (Under q (decide (b = 0))) t := by
  intro h
  by_cases hb : b = 0
  · rw [if_pos hb] at h; simpa [hb] using h
  · rw [if_neg hb] at h; simpa [hb] using h

theorem inv_node2 {six : Bool} {U : PV → Prop} {g : Nat} {q : PV} {h b : Int} {x y : Tr} (h1 : q.Ok) (h2 : q.six = six) (h3 : U q) (h4 : 0 ≤ h ∧ h ≤ 999) (hx : Inv six (Under q (decide (b = 0))) x) (hy : Inv six (Under q (!decide (b = 0))) y) :
    Inv six U (node2 g q h b x y) := by
  unfold node2
  by_cases hb : b = 0
  · rw [if_pos hb]
    simp only [hb, decide_true, Bool.not_true] at hx hy
    exact ⟨h1, h2, h3, h4, hx, hy⟩
  · rw [if_neg hb]
    simp only [hb, decide_false, Bool.not_false] at hx hy
    exact ⟨h1, h2, h3, h4, hy, hx⟩

theorem inv_fork {six : Bool} {U : PV → Prop} {p : PV} {hop : Int} {G1 G2 g : Nat} {q : PV} {h : Int} {l r : Tr} (hp : p.Ok) (h6 : p.six = six) (hop2 : 0 ≤ hop ∧ hop ≤ 999) (hU : U p) (hcl : U (q.com p)) (hi : Inv six U (.node g q h l r))
    (hov : q.over p = false) : Inv six U (forkT q p hop G1 G2 (.node g q h l r)) := by
  obtain ⟨hq, hq6, hUq, hh, hl, hr⟩ := hi
  obtain ⟨ok, l1, l2, o1, o2, hk⟩ := com_facts hq hp (hq6.trans h6.symm)
  have hlt := com_lt hq hp (hq6.trans h6.symm) hov
  have hbq : Under (q.com p) (decide (q.bit (q.com p).n = 0)) q := ⟨hlt, o1, by simp⟩
  have ht : Inv six (Under (q.com p) (decide (q.bit (q.com p).n = 0))) (.node g q h l r) := ⟨hq, hq6, hbq, hh, hl, hr⟩
  unfold forkT
  by_cases hc : q.com p = p
  · rw [if_pos hc]
    rw [hc] at ht ⊢
    exact inv_node2 hp h6 hU hop2 ht trivial
  · rw [if_neg hc]
    have hltp : (q.com p).n < p.n := by
      rcases Int.lt_or_le (q.com p).n p.n with hx | hx
      · exact hx
      · exact absurd (over_eq ok hp o2 (by omega)) hc
    have hb := com_bit hq hp (hq6.trans h6.symm) hlt hltp
    refine inv_node2 ok hq6 hcl (by omega) ht ⟨hp, h6, ⟨hltp, o2, ?_⟩, hop2, trivial, trivial⟩
    rcases q.bit01 (q.com p).n with e | e <;> rcases p.bit01 (q.com p).n with e' | e' <;> simp_all

theorem inv_put {six : Bool} {p : PV} {hop : Int} {G1 G2 : Nat} (hp : p.Ok) (h6 : p.six = six) (hop2 : 0 ≤ hop ∧ hop ≤ 999) :
    ∀ (t : Tr) (U : PV → Prop), Inv six U t → U p → (∀ a b, a.Ok → b.Ok → a.six = six → b.six = six → U a → U b → U (a.com b)) → Inv six U (putT p hop G1 G2 t) := by
  intro t
  induction t with
  | nil => intro U _ hU _; exact ⟨hp, h6, hU, hop2, trivial, trivial⟩
  | node g q h l r ihl ihr =>
    intro U hi hU hcl
    unfold putT
    by_cases he : q = p
    · rw [if_pos he]; exact ⟨hi.1, hi.2.1, hi.2.2.1, hop2, hi.2.2.2.2⟩
    · rw [if_neg he]
      by_cases ho : q.over p = false
      · rw [if_pos ho]
        exact inv_fork hp h6 hop2 hU (hcl q p hi.1 hp hi.2.1 h6 hi.2.2.1 hU) hi ho
      · rw [if_neg ho]
        have ho' : q.over p = true := by simpa using ho
        have hn := over_n hi.1 hp ho'
        have hlt : q.n < p.n := by
          rcases Int.lt_or_le q.n p.n with hx | hx
          · exact hx
          · exact absurd (over_eq hi.1 hp ho' hx) he
        by_cases hb : p.bit q.n = 0
        · rw [if_pos hb]
          exact ⟨hi.1, hi.2.1, hi.2.2.1, hi.2.2.2.1, ihl _ hi.2.2.2.2.1 ⟨hlt, ho', by simpa using hb⟩ (fun a b ha hb' x y => under_com hi.1 ha hb' x y), hi.2.2.2.2.2⟩
        · rw [if_neg hb]
          exact ⟨hi.1, hi.2.1, hi.2.2.1, hi.2.2.2.1, hi.2.2.2.2.1, ihr _ hi.2.2.2.2.2 ⟨hlt, ho', by simpa using hb⟩ (fun a b ha hb' x y => under_com hi.1 ha hb' x y)⟩

theorem hopAt_fork {six : Bool} {U : PV → Prop} {p : PV} {hop : Int} {G1 G2 g : Nat} {q : PV} {h : Int} {l r : Tr} (hp : p.Ok) (h6 : p.six = six) (hi : Inv six U (.node g q h l r)) (hov : q.over p = false) (p' : PV) (hp' : p'.Ok) :
    hopAt (forkT q p hop G1 G2 (.node g q h l r)) p' = if p' = p then hop else hopAt (.node g q h l r) p' := by
  obtain ⟨hq, hq6, _, _, _, _⟩ := hi
  obtain ⟨ok, l1, l2, o1, o2, hk⟩ := com_facts hq hp (hq6.trans h6.symm)
  have hlt := com_lt hq hp (hq6.trans h6.symm) hov
  have hb := fun hx => com_bit hq hp (hq6.trans h6.symm) hlt hx
  have hpn : (q.com p).n < p.n ∨ q.com p = p := by
    rcases Int.lt_or_le (q.com p).n p.n with hx | hx
    · exact .inl hx
    · exact .inr (over_eq ok hp o2 (by omega))
  generalize hcc : q.com p = c at *
  -- what t has is under c, on q's side
  have hun : ¬ hopAt (.node g q h l r) p' = 0 → c.n < p'.n ∧ c.over p' = true ∧ p'.bit c.n = q.bit c.n := by
    intro hne
    have hqp : q.over p' = true := by
      rcases hopAt_ne hne with rfl | e
      · exact over_refl hp'
      · exact e
    have := over_n hq hp' hqp
    exact ⟨by omega, over_trans ok hq hp' o1 hqp, (over_bit hq hp' hqp (ok_n ok).1 hlt).symm⟩
  have hside : (p'.bit c.n = 0 ↔ q.bit c.n = 0) ↔ p'.bit c.n = q.bit c.n := by
    rcases q.bit01 c.n with e | e <;> rcases p'.bit01 c.n with e' | e' <;> simp [e, e']
  unfold forkT
  rw [hcc]
  by_cases hc : c = p
  · rw [if_pos hc, hopAt_node2]
    subst hc
    by_cases e : c = p'
    · rw [if_pos e, if_pos e.symm]
    · have e' : ¬ p' = c := fun h => e h.symm
      rw [if_neg e, if_neg e']
      by_cases h0 : hopAt (.node g q h l r) p' = 0
      · rw [h0]
        by_cases e2 : c.over p' = false
        · rw [if_pos e2]
        · rw [if_neg e2]; split <;> rfl
      · obtain ⟨_, a, b⟩ := hun h0
        rw [if_neg (by simp [a]), if_pos (hside.2 b)]
  · rw [if_neg hc, hopAt_node2]
    have hltp : c.n < p.n := by
      rcases hpn with h | h
      · exact h
      · exact absurd h hc
    have hb := hb hltp
    by_cases e : c = p'
    · subst e
      rw [if_pos rfl, if_neg hc]
      apply Classical.byContradiction
      intro hne
      have := (hun (fun h => hne h.symm)).1
      omega
    · rw [if_neg e]
      by_cases ep : p' = p
      · subst ep
        rw [if_pos rfl, if_neg (by simp [o2]), if_neg (fun h => hb ((hside.1 h).symm))]
        unfold hopAt
        rw [if_pos rfl]
      · rw [if_neg ep]
        by_cases h0 : hopAt (.node g q h l r) p' = 0
        · rw [h0]
          by_cases e2 : c.over p' = false
          · rw [if_pos e2]
          · rw [if_neg e2]
            split
            · rfl
            · show (if p = p' then hop else if p.over p' = false then 0 else if p'.bit p.n = 0 then hopAt .nil p' else hopAt .nil p') = 0
              rw [if_neg (fun h => ep h.symm)]
              unfold hopAt
              split <;> simp
        · obtain ⟨_, a, b⟩ := hun h0
          rw [if_neg (by simp [a]), if_pos (hside.2 b)]

theorem hopAt_put {six : Bool} {p : PV} {hop : Int} {G1 G2 : Nat} (hp : p.Ok) (h6 : p.six = six) (p' : PV) (hp' : p'.Ok) :
    ∀ (t : Tr) (U : PV → Prop), Inv six U t → hopAt (putT p hop G1 G2 t) p' = if p' = p then hop else hopAt t p' := by
  intro t
  induction t with
  | nil =>
    intro U _
    show (if p = p' then hop else if p.over p' = false then 0 else if p'.bit p.n = 0 then hopAt .nil p' else hopAt .nil p') = _
    by_cases e : p' = p
    · rw [if_pos e, if_pos e.symm]
    · rw [if_neg e, if_neg (fun h => e h.symm)]
      unfold hopAt
      split <;> simp
  | node g q h l r ihl ihr =>
    intro U hi
    unfold putT
    by_cases he : q = p
    · subst he
      rw [if_pos rfl]
      show (if q = p' then hop else if q.over p' = false then 0 else if p'.bit q.n = 0 then hopAt l p' else hopAt r p') = _
      by_cases e : p' = q
      · rw [if_pos e, if_pos e.symm]
      · have e' : ¬ q = p' := fun h => e h.symm
        rw [if_neg e, if_neg e']
        conv => rhs; unfold hopAt
        rw [if_neg e']
    · rw [if_neg he]
      by_cases ho : q.over p = false
      · rw [if_pos ho]
        exact hopAt_fork hp h6 hi ho p' hp'
      · rw [if_neg ho]
        have hl := ihl _ hi.2.2.2.2.1
        have hr := ihr _ hi.2.2.2.2.2
        by_cases hb : p.bit q.n = 0
        · rw [if_pos hb]
          show (if q = p' then h else if q.over p' = false then 0 else if p'.bit q.n = 0 then hopAt (putT p hop G1 G2 l) p' else hopAt r p') = _
          rw [hl]
          conv => rhs; unfold hopAt
          by_cases e : p' = p
          · subst e
            rw [if_neg he, if_neg ho, if_pos hb, if_pos rfl, if_pos rfl]
          · rw [if_neg e, if_neg e]
        · rw [if_neg hb]
          show (if q = p' then h else if q.over p' = false then 0 else if p'.bit q.n = 0 then hopAt l p' else hopAt (putT p hop G1 G2 r) p') = _
          rw [hr]
          conv => rhs; unfold hopAt
          by_cases e : p' = p
          · subst e
            rw [if_neg he, if_neg ho, if_neg hb, if_pos rfl, if_pos rfl]
          · rw [if_neg e, if_neg e]

/-- The hop and the length of the longest prefix that covers p; acc: where there is none. -/
def lookT (p : PV) : Tr → Int × Int → Int × Int
  | .nil, acc => acc
  | .node _ q h l r, acc => if q.over p = false then acc else
    if q = p then (if h = 0 then acc else (h, q.n)) else if p.bit q.n = 0 then lookT p l (if h = 0 then acc else (h, q.n)) else lookT p r (if h = 0 then acc else (h, q.n))

def Best (six : Bool) (t : PV → Int) (p : PV) (acc res : Int × Int) : Prop :=
  (res = acc ∧ ∀ q, q.Ok → q.over p = true → t q = 0) ∨
    ∃ q, q.Ok ∧ q.over p = true ∧ ¬ t q = 0 ∧ res = (t q, q.n) ∧ ∀ q', q'.Ok → q'.over p = true → ¬ t q' = 0 → q'.n ≤ q.n

theorem hopAt_under {six : Bool} {q p : PV} {b : Bool} {t : Tr} (hq : q.Ok) (hp : p.Ok) (hi : Inv six (Under q b) t) (hne : ¬ hopAt t p = 0) : Under q b p := by
  cases t with
  | nil => exact absurd rfl hne
  | node g x h l r =>
    obtain ⟨hx, _, hu, _⟩ := hi
    have hxp : x.over p = true := by
      rcases hopAt_ne hne with rfl | e
      · exact over_refl hp
      · exact e
    have := over_n hx hp hxp
    have := hu.1
    refine ⟨by omega, over_trans hq hx hp hu.2.1 hxp, ?_⟩
    rw [← over_bit hx hp hxp (ok_n hq).1 hu.1]
    exact hu.2.2

theorem look_best {six : Bool} {p : PV} (hp : p.Ok) (h6 : p.six = six) : ∀ (t : Tr) (U : PV → Prop) (acc : Int × Int), Inv six U t → Best six (hopAt t) p acc (lookT p t acc) := by
  intro t
  induction t with
  | nil => intro U acc _; exact .inl ⟨rfl, fun _ _ _ => rfl⟩
  | node g q h l r ihl ihr =>
    intro U acc hi
    have hq := hi.1
    unfold lookT
    by_cases ho : q.over p = false
    · rw [if_pos ho]
      refine .inl ⟨rfl, fun q' hq' hov => ?_⟩
      apply Classical.byContradiction
      intro hne
      have : q.over p = true := by
        rcases hopAt_ne hne with rfl | e
        · exact hov
        · exact over_trans hq hq' hp e hov
      rw [this] at ho
      cases ho
    · rw [if_neg ho]
      have ho' : q.over p = true := by simpa using ho
      have hself : hopAt (.node g q h l r) q = h := by unfold hopAt; rw [if_pos rfl]
      -- another one that is there, and covers p, lies on p's side
      have hside : ∀ q', q'.Ok → q'.over p = true → ¬ hopAt (.node g q h l r) q' = 0 → ¬ q' = q → q.n < q'.n ∧ hopAt (.node g q h l r) q' = if p.bit q.n = 0 then hopAt l q' else hopAt r q' := by
        intro q' hq' hov hne hnq
        have hqq : q.over q' = true := by
          rcases hopAt_ne hne with e | e
          · exact absurd e.symm hnq
          · exact e
        have hle := over_n hq hq' hqq
        have hlt : q.n < q'.n := by
          rcases Int.lt_or_le q.n q'.n with hx | hx
          · exact hx
          · exact absurd (over_eq hq hq' hqq hx).symm hnq
        refine ⟨hlt, ?_⟩
        have hbit := over_bit hq' hp hov (ok_n hq).1 hlt
        conv => lhs; unfold hopAt
        rw [if_neg (fun h => hnq h.symm), if_neg (by simp [hqq]), hbit]
      by_cases he : q = p
      · subst he
        rw [if_pos rfl]
        by_cases h0 : h = 0
        · rw [if_pos h0]
          refine .inl ⟨rfl, fun q' hq' hov => ?_⟩
          apply Classical.byContradiction
          intro hne
          by_cases e : q' = q
          · subst e; rw [hself] at hne; exact hne h0
          · have a := (hside q' hq' hov hne e).1
            have b := over_n hq' hp hov
            omega
        · rw [if_neg h0]
          exact .inr ⟨q, hq, ho', by rw [hself]; exact h0, by rw [hself], fun q' hq' hov _ => over_n hq' hp hov⟩
      · rw [if_neg he]
        have hnode : ∀ {b : Bool} {k : Tr}, Inv six (Under q b) k → (b = true ↔ p.bit q.n = 0) → (hopAt (.node g q h l r) = fun q' => if q = q' then h else if q.over q' = false then 0 else if q'.bit q.n = 0 then hopAt l q' else hopAt r q') →
            (k = if p.bit q.n = 0 then l else r) → Best six (hopAt k) p (if h = 0 then acc else (h, q.n)) (lookT p k (if h = 0 then acc else (h, q.n))) → Best six (hopAt (.node g q h l r)) p acc (lookT p k (if h = 0 then acc else (h, q.n))) := by
          intro b k hk hb _ hkk hbest
          have hkid : ∀ q', (if p.bit q.n = 0 then hopAt l q' else hopAt r q') = hopAt k q' := by intro q'; rw [hkk]; split <;> rfl
          rcases hbest with ⟨hres, hall⟩ | ⟨q', hq', hov, hne, hres, hmax⟩
          · rw [hres]
            by_cases h0 : h = 0
            · rw [if_pos h0]
              refine .inl ⟨rfl, fun q' hq' hov => ?_⟩
              apply Classical.byContradiction
              intro hne
              by_cases e : q' = q
              · subst e; rw [hself] at hne; exact hne h0
              · have a := (hside q' hq' hov hne e).2
                rw [hkid, hall q' hq' hov] at a
                exact hne a
            · rw [if_neg h0]
              refine .inr ⟨q, hq, ho', by rw [hself]; exact h0, by rw [hself], fun q' hq' hov hne => ?_⟩
              by_cases e : q' = q
              · subst e; exact Int.le_refl _
              · have a := (hside q' hq' hov hne e).2
                rw [hkid, hall q' hq' hov] at a
                exact absurd a hne
          · have hu := hopAt_under hq hq' hk hne
            have hnq : ¬ q = q' := by intro e; subst e; exact absurd hu.1 (by omega)
            have hat : hopAt (.node g q h l r) q' = hopAt k q' := by
              rw [← hkid]
              conv => lhs; unfold hopAt
              rw [if_neg hnq, if_neg (by simp [hu.2.1]), over_bit hq' hp hov (ok_n hq).1 hu.1]
            rw [hres]
            refine .inr ⟨q', hq', hov, by rw [hat]; exact hne, by rw [hat], fun q'' hq'' hov'' hne'' => ?_⟩
            by_cases e : q'' = q
            · subst e; have := hu.1; omega
            · have a := (hside q'' hq'' hov'' hne'' e).2
              rw [hkid] at a
              exact hmax q'' hq'' hov'' (by rw [← a]; exact hne'')
        by_cases hb : p.bit q.n = 0
        · rw [if_pos hb]
          exact hnode hi.2.2.2.2.1 (by simp [hb]) rfl (by rw [if_pos hb]) (ihl _ _ hi.2.2.2.2.1)
        · rw [if_neg hb]
          exact hnode hi.2.2.2.2.2 (by simp [hb]) rfl (by rw [if_neg hb]) (ihr _ _ hi.2.2.2.2.2)

end Go.Proofs.Ytonelibgaceflaa
