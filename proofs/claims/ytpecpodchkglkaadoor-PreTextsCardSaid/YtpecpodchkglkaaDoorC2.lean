/-
  
  
  
  
  
  
  
  
  
  
-/
import Derived.Test.YtpecpodchkglkaaDoorC1
import Derived.Below
import Derived.Laws.OwnMore
import Derived.Deep.AppendLies
import Derived.Deep.Draws
import Derived.Laws.Rows
import Derived.Maps.AppendAt
import Derived.RegionTactic
import Derived.OwnWalk
import Derived.Laws.BitsAllLaws
import Derived.Test.YtpecpodchkglkaaDoorChecked
namespace Go.Proofs.YtpecpodchkglkaaDoor
set_option linter.unusedVariables false

/-- An address. -/
structure AV where
  six : Bool
  hi : Int
  lo : Int
structure AV.Ok (a : AV) : Prop where
  rhi : 0 ≤ a.hi ∧ a.hi < 18446744073709551616
  rlo : 0 ≤ a.lo ∧ a.lo < 18446744073709551616
  may : mayB a.six a.hi a.lo = true
def AV.v (a : AV) : Nat := (valI a.six a.hi a.lo).toNat
def widN (six : Bool) : Nat := if six then 128 else 32
theorem widN_eq (six : Bool) : wideI six = (widN six : Int) := by cases six <;> rfl
theorem topI_eq (six : Bool) : topI six = ((2 ^ widN six : Nat) : Int) := by cases six <;> decide

def PV.a (p : PV) : AV := ⟨p.six, p.hi, p.lo⟩
def PV.v (p : PV) : Nat := p.a.v
def PV.k (p : PV) : Nat := (wideI p.six - p.n).toNat
theorem PV.Ok.addr {p : PV} (h : p.Ok) : p.a.Ok := ⟨Pfx.rhi h, Pfx.rlo h, Pfx.may h⟩
theorem PV.k_le {p : PV} (h : p.Ok) : p.k ≤ widN p.six ∧ p.n = (widN p.six : Int) - p.k := by
  have := ok_n h
  unfold PV.k
  rw [widN_eq] at *
  omega

theorem AV.v_val {a : AV} (h : a.Ok) : (a.v : Int) = valI a.six a.hi a.lo := by
  have := (valI_range a.six a.hi a.lo h.rhi h.rlo h.may).1
  unfold AV.v
  omega
theorem AV.v_lt {a : AV} (h : a.Ok) : a.v < 2 ^ widN a.six := by
  have := (valI_range a.six a.hi a.lo h.rhi h.rlo h.may).2
  rw [← AV.v_val h, topI_eq] at this
  omega
theorem AV.bitN {a : AV} (h : a.Ok) {i : Nat} (hi : i < widN a.six) : bitI a.six a.hi a.lo i = ((a.v / 2 ^ (widN a.six - 1 - i) % 2 : Nat) : Int) := by
  rw [valI_bit a.six a.hi a.lo i h.rhi h.rlo (widN_eq a.six) hi, ← AV.v_val h]
  simp
theorem AV.ext' {a b : AV} (h1 : a.six = b.six) (h2 : a.hi = b.hi) (h3 : a.lo = b.lo) : a = b := by cases a; cases b; simp_all
instance : DecidableEq AV := fun a b => decidable_of_iff (a.six = b.six ∧ a.hi = b.hi ∧ a.lo = b.lo)
  ⟨fun h => AV.ext' h.1 h.2.1 h.2.2, fun h => by subst h; exact ⟨rfl, rfl, rfl⟩⟩
theorem AV.v_inj {a b : AV} (ha : a.Ok) (hb : b.Ok) (h6 : a.six = b.six) (h : a.v = b.v) : a = b := by
  have h1 := AV.v_val ha
  have h2 := AV.v_val hb
  rw [h, h2] at h1
  obtain ⟨s, x, y⟩ := a
  obtain ⟨s', x', y'⟩ := b
  simp only at h6
  subst h6
  have r1 := ha.rhi
  have r2 := ha.rlo
  have r3 := hb.rhi
  have r4 := hb.rlo
  simp only at r1 r2 r3 r4 h1
  unfold valI at h1
  cases s
  · simp only [Bool.false_eq_true, ↓reduceIte] at h1
    have m1 := mayB_four ha.may
    have m2 := mayB_four hb.may
    simp only at m1 m2
    rw [h1, m1.1, m2.1]
  · simp only [↓reduceIte] at h1
    have : x = x' := by omega
    have : y = y' := by omega
    simp_all

theorem nat_div_ext {x y m k : Nat} (hx : x < 2 ^ m) (hy : y < 2 ^ m) (h : ∀ j, k ≤ j → j < m → x / 2 ^ j % 2 = y / 2 ^ j % 2) : x / 2 ^ k = y / 2 ^ k := by
  apply Nat.eq_of_testBit_eq
  intro i
  rw [Nat.testBit_div_two_pow, Nat.testBit_div_two_pow]
  by_cases hi : i + k < m
  · have := h (i + k) (by omega) hi
    rw [Nat.testBit_eq_decide_div_mod_eq, Nat.testBit_eq_decide_div_mod_eq]
    try rw [Nat.add_comm k i]
    rw [this]
  · have hm : 2 ^ m ≤ 2 ^ (k + i) := Nat.pow_le_pow_right (by omega) (by omega)
    have e1 : x.testBit (k + i) = false := Nat.testBit_lt_two_pow (by omega)
    have e2 : y.testBit (k + i) = false := Nat.testBit_lt_two_pow (by omega)
    simp only [Nat.add_comm k i] at e1 e2
    first | rw [e1, e2] | (rw [Nat.add_comm i k] at e1 e2; rw [e1, e2])
theorem div_block {x y k : Nat} (hx : 2 ^ k ∣ x) : x / 2 ^ k = y / 2 ^ k ↔ x ≤ y ∧ y < x + 2 ^ k := by
  obtain ⟨c, rfl⟩ := hx
  have hp := Nat.two_pow_pos k
  rw [Nat.mul_div_cancel_left c hp]
  have h1 := Nat.div_add_mod y (2 ^ k)
  have h2 := Nat.mod_lt y hp
  constructor
  · intro h
    rw [← h] at h1
    omega
  · rintro ⟨a, b⟩
    have h3 : 2 ^ k * c < 2 ^ k * (y / 2 ^ k + 1) := by rw [Nat.mul_succ]; omega
    have h4 : 2 ^ k * (y / 2 ^ k) < 2 ^ k * (c + 1) := by rw [Nat.mul_succ]; omega
    have := Nat.lt_of_mul_lt_mul_left h3
    have := Nat.lt_of_mul_lt_mul_left h4
    omega

/-- No bit behind n: the number is a multiple. -/
theorem clean_num {a : AV} (h : a.Ok) {n : Nat} (hn : n ≤ widN a.six) : cleanB a.six a.hi a.lo n = true ↔ 2 ^ (widN a.six - n) ∣ a.v := by
  rw [clean_iff a.six a.hi a.lo n h.rhi h.rlo h.may (by rw [widN_eq]; omega)]
  constructor
  · intro hc
    rw [Nat.dvd_iff_mod_eq_zero]
    have h0 : a.v % 2 ^ (widN a.six - n) = 0 := by
      apply Nat.eq_of_testBit_eq
      intro j
      rw [Nat.testBit_mod_two_pow, Nat.zero_testBit]
      by_cases hj : j < widN a.six - n
      · have := hc (widN a.six - 1 - j) (by omega) (by rw [widN_eq]; omega)
        rw [AV.bitN h (by omega), show widN a.six - 1 - (widN a.six - 1 - j) = j from by omega] at this
        rw [Nat.testBit_eq_decide_div_mod_eq]
        simp only [Bool.and_eq_false_iff, decide_eq_false_iff_not]
        right
        omega
      · simp [hj]
    exact h0
  · rintro ⟨c, hc⟩ i h1 h2
    rw [widN_eq] at h2
    have h2' : i < widN a.six := by omega
    rw [AV.bitN h h2', hc]
    have : widN a.six - n = (widN a.six - 1 - i) + (i - n + 1) := by omega
    rw [this, Nat.pow_add, Nat.mul_assoc, Nat.mul_div_cancel_left _ (Nat.two_pow_pos _), Nat.pow_succ, Nat.mul_comm (2 ^ (i - n)) 2, Nat.mul_assoc]
    omega
theorem chk_num {p : PV} (h : p.a.Ok) (hn : 0 ≤ p.n ∧ p.n ≤ wideI p.six) : Go.Proofs.YtpecpodchkglkaaDoor.chk p.six p.hi p.lo p.n = 0 ↔ 2 ^ p.k ∣ p.v := by
  obtain ⟨n, hn'⟩ : ∃ n : Nat, p.n = n := ⟨p.n.toNat, by omega⟩
  have hm := h.may
  have hw := widN_eq p.six
  have he : p.k = widN p.six - n := by unfold PV.k; omega
  have hc := clean_num h (n := n) (by show n ≤ widN p.six; omega)
  unfold chk
  simp only [PV.a] at hm
  rw [if_neg (by rw [hm]; simp), if_neg (by omega), he, hn']
  simp only [PV.a] at hc
  constructor
  · intro hx
    by_cases hcl : cleanB p.six p.hi p.lo n = true
    · exact hc.1 hcl
    · rw [if_neg hcl] at hx; omega
  · intro hx
    rw [if_pos (hc.2 hx)]
theorem PV.dvd {p : PV} (h : p.Ok) : 2 ^ p.k ∣ p.v := by
  have hk := PV.k_le h
  have hn := ok_n h
  obtain ⟨n, hn'⟩ : ∃ n : Nat, p.n = n := ⟨p.n.toNat, by omega⟩
  have hc := Pfx.clean h
  have he : p.k = widN p.six - n := by have := widN_eq p.six; unfold PV.k; omega
  rw [he]
  refine (clean_num h.addr (n := n) (by have := widN_eq p.six; show n ≤ widN p.six; omega)).1 ?_
  rw [← hn']
  exact hc
theorem PV.end_le {p : PV} (h : p.Ok) : p.v + 2 ^ p.k ≤ 2 ^ widN p.six :=
  aligned_below (PV.dvd h) (Nat.dvd_refl _) (PV.k_le h).1 (AV.v_lt h.addr)

/-- An address of a prefix is a number of its block. -/
theorem in_num {p : PV} {a : AV} (hp : p.Ok) (ha : a.Ok) : inB p.six p.hi p.lo p.n a.six a.hi a.lo = true ↔ p.six = a.six ∧ p.v ≤ a.v ∧ a.v < p.v + 2 ^ p.k := by
  have hn := ok_n hp
  have hd := PV.dvd hp
  have hk := PV.k_le hp
  have hpv := AV.v_lt hp.addr
  have hav := AV.v_lt ha
  obtain ⟨n, hn'⟩ : ∃ n : Nat, p.n = n := ⟨p.n.toNat, by omega⟩
  have hw := widN_eq p.six
  by_cases h6 : p.six = a.six
  · have hp' : Pfx p.six p.hi p.lo n := by rw [← hn']; exact hp
    have key := inB_iff (hi' := a.hi) (lo' := a.lo) hp' ha.rhi ha.rlo (by rw [h6]; exact ha.may)
    rw [hn', ← h6, key, ← div_block hd]
    simp only [true_and]
    have b1 := fun i (hi : i < widN p.six) => AV.bitN hp.addr (i := i) hi
    have b2 := fun i (hi : i < widN a.six) => AV.bitN ha (i := i) hi
    rw [← h6] at b2 hav
    simp only [PV.a] at b1 hpv
    have he : p.k = widN p.six - n := by unfold PV.k; omega
    constructor
    · intro h
      rw [he]
      refine nat_div_ext hpv hav fun j h1 h2 => ?_
      have := h (widN p.six - 1 - j) (by omega)
      rw [b1 _ (by omega), b2 _ (by omega), show widN p.six - 1 - (widN p.six - 1 - j) = j from by omega] at this
      have e : (AV.mk p.six p.hi p.lo).v = p.v := rfl
      rw [e] at this
      exact_mod_cast this
    · intro h i hi
      rw [b1 _ (by omega), b2 _ (by omega)]
      have e : (AV.mk p.six p.hi p.lo).v = p.v := rfl
      rw [e]
      have e2 : ∀ x : Nat, x / 2 ^ (widN p.six - 1 - i) = x / 2 ^ p.k / 2 ^ (n - 1 - i) := by
        intro x
        rw [Nat.div_div_eq_div_mul, ← Nat.pow_add]
        congr 2
        omega
      rw [e2, e2, h]
  · constructor
    · intro h
      unfold inB at h
      simp at h
      exact absurd h.1.symm h6
    · rintro ⟨h, _⟩
      exact absurd h h6

theorem over_num {p q : PV} (hp : p.Ok) (hq : q.Ok) : p.over q = true ↔ p.six = q.six ∧ p.v ≤ q.v ∧ q.v + 2 ^ q.k ≤ p.v + 2 ^ p.k := by
  unfold PV.over overB
  rw [Bool.and_eq_true, decide_eq_true_eq]
  have hi := in_num hp hq.addr
  have e : q.a.v = q.v := rfl
  simp only [PV.a] at hi
  rw [hi]
  show p.n ≤ q.n ∧ p.six = q.six ∧ p.v ≤ q.v ∧ q.v < p.v + 2 ^ p.k ↔ _
  have k1 := PV.k_le hp
  have k2 := PV.k_le hq
  have d1 := PV.dvd hp
  have d2 := PV.dvd hq
  have pk := Nat.two_pow_pos q.k
  constructor
  · rintro ⟨hn, h6, h1, h2⟩
    refine ⟨h6, h1, ?_⟩
    have hkk : q.k ≤ p.k := by rw [h6] at k1; omega
    exact aligned_below d2 (Nat.dvd_add d1 (Nat.dvd_refl _)) hkk h2
  · rintro ⟨h6, h1, h2⟩
    refine ⟨?_, h6, h1, by omega⟩
    rw [h6] at k1
    have : q.k ≤ p.k := by
      apply Classical.byContradiction
      intro hc
      have := Nat.pow_lt_pow_right (a := 2) (by omega) (show p.k < q.k by omega)
      omega
    omega

def PV.last (p : PV) : AV := ⟨p.six, lastHi p.six p.hi p.lo p.n, lastLo p.six p.hi p.lo p.n⟩
theorem PV.last_ok (p : PV) : p.last.Ok := ⟨(last_range p.six p.hi p.lo p.n).1, (last_range p.six p.hi p.lo p.n).2.1, (last_range p.six p.hi p.lo p.n).2.2⟩
theorem last_num {p : PV} (hp : p.Ok) : p.last.v = p.v + 2 ^ p.k - 1 := by
  have hl := PV.last_ok p
  have hn := ok_n hp
  have hk := PV.k_le hp
  have hw := widN_eq p.six
  have hd := PV.dvd hp
  obtain ⟨n, hn'⟩ : ∃ n : Nat, p.n = n := ⟨p.n.toNat, by omega⟩
  have he : p.k = widN p.six - n := by unfold PV.k; omega
  have hlv := AV.v_lt hl
  have hpv := AV.v_lt hp.addr
  have bl := fun i (hi : i < widN p.six) => AV.bitN hl (i := i) hi
  have bp := fun i (hi : i < widN p.six) => AV.bitN hp.addr (i := i) hi
  simp only [PV.last] at bl
  simp only [PV.a] at bp
  have e0 : (AV.mk p.six p.hi p.lo).v = p.v := rfl
  have e1 : (AV.mk p.six (lastHi p.six p.hi p.lo p.n) (lastLo p.six p.hi p.lo p.n)).v = p.last.v := rfl
  have hpp := Nat.two_pow_pos p.k
  -- the upper parts are alike
  have hup : p.v / 2 ^ p.k = p.last.v / 2 ^ p.k := by
    refine nat_div_ext hpv hlv fun j h1 h2 => ?_
    have h2 : j < widN p.six := h2
    have hb := last_bit p.six p.hi p.lo p.n (widN p.six - 1 - j) (by omega)
    rw [if_pos (by omega), bl _ (by omega), bp _ (by omega), show widN p.six - 1 - (widN p.six - 1 - j) = j from by omega, e0, e1] at hb
    omega
  -- the lower parts are all ones
  have hlo : p.last.v % 2 ^ p.k = 2 ^ p.k - 1 := by
    apply Nat.eq_of_testBit_eq
    intro j
    rw [Nat.testBit_mod_two_pow, Nat.testBit_two_pow_sub_one]
    by_cases hj : j < p.k
    · have hb := last_bit p.six p.hi p.lo p.n (widN p.six - 1 - j) (by omega)
      rw [if_neg (by omega), bl _ (by omega), show widN p.six - 1 - (widN p.six - 1 - j) = j from by omega, e1] at hb
      rw [Nat.testBit_eq_decide_div_mod_eq]
      simp [hj]
      omega
    · simp [hj]
  have h1 := Nat.div_add_mod p.last.v (2 ^ p.k)
  rw [← hup, hlo, Nat.mul_div_cancel' hd] at h1
  omega

def PV.low (p : PV) : PV := ⟨p.six, p.hi, p.lo, p.n + 1⟩
def PV.high (p : PV) : PV := ⟨p.six, setHi p.six p.hi p.n.toNat, setLo p.six p.lo p.n.toNat, p.n + 1⟩
theorem low_num {p : PV} (hp : p.Ok) (hn : p.n < wideI p.six) : p.low.Ok ∧ p.low.v = p.v ∧ p.k = p.low.k + 1 := by
  have h := ok_n hp
  have hk : p.k = p.low.k + 1 := by unfold PV.k PV.low; simp only; omega
  refine ⟨?_, rfl, hk⟩
  have : Go.Proofs.YtpecpodchkglkaaDoor.chk p.low.six p.low.hi p.low.lo p.low.n = 0 := (chk_num (p := p.low) hp.addr ⟨by show 0 ≤ p.n + 1; omega, by show p.n + 1 ≤ wideI p.six; omega⟩).2 (pow_dvd_le (j := p.k) (PV.dvd hp) (by omega))
  exact chk_zero (Pfx.rhi hp) (Pfx.rlo hp) this
theorem high_num {p : PV} (hp : p.Ok) (hn : p.n < wideI p.six) : p.high.Ok ∧ p.high.v = p.v + 2 ^ p.high.k ∧ p.k = p.high.k + 1 := by
  have h := ok_n hp
  have hk : p.k = p.high.k + 1 := by unfold PV.k PV.high; simp only; omega
  have hw := widN_eq p.six
  obtain ⟨n, hn'⟩ : ∃ n : Nat, p.n = n := ⟨p.n.toNat, by omega⟩
  have hr := set_range p.six p.hi p.lo n (Pfx.rhi hp) (Pfx.rlo hp) (Pfx.may hp) (by omega)
  have ha : p.high.a.Ok := by
    have e : p.n.toNat = n := by omega
    unfold PV.high PV.a
    simp only [e]
    exact ⟨hr.1, hr.2.1, hr.2.2⟩
  have hd := PV.dvd hp
  have hpv := AV.v_lt hp.addr
  have hhv := AV.v_lt ha
  have bp := fun i (hi : i < widN p.six) => AV.bitN hp.addr (i := i) hi
  have bh := fun i (hi : i < widN p.six) => AV.bitN ha (i := i) hi
  have hs : ∀ i : Nat, i < widN p.six → p.high.v / 2 ^ (widN p.six - 1 - i) % 2 = if i = n then 1 else p.v / 2 ^ (widN p.six - 1 - i) % 2 := by
    intro i hi
    have hb := set_bit p.six p.hi p.lo n i (Pfx.rhi hp) (Pfx.rlo hp) (by omega) (by omega)
    have h1 := bp i hi
    have h2 := bh i hi
    have e : p.n.toNat = n := by omega
    simp only [PV.high, PV.a, e] at h2
    simp only [PV.a] at h1
    rw [h1, h2] at hb
    have e1 : (AV.mk p.six (setHi p.six p.hi n) (setLo p.six p.lo n)).v = p.high.v := by unfold PV.high PV.v PV.a; simp only [e]
    have e0 : (AV.mk p.six p.hi p.lo).v = p.v := rfl
    rw [e0, e1] at hb
    by_cases hin : i = n
    · rw [if_pos hin] at hb ⊢; omega
    · rw [if_neg hin] at hb ⊢; omega
  have hk2 : p.high.k = widN p.six - 1 - n := by unfold PV.k PV.high; simp only; omega
  have hval : p.high.v = p.v + 2 ^ p.high.k := by
    have hlt : p.v + 2 ^ p.k ≤ 2 ^ widN p.six := PV.end_le hp
    have he : 2 ^ p.k = 2 ^ p.high.k + 2 ^ p.high.k := by rw [hk, Nat.pow_succ]; omega
    have hpp := Nat.two_pow_pos p.high.k
    have hsum : p.v + 2 ^ p.high.k = p.v ||| 2 ^ p.high.k := by
      obtain ⟨c, hc⟩ := hd
      rw [hk] at hc
      have : 2 ^ p.high.k < 2 ^ (p.high.k + 1) := by rw [Nat.pow_succ]; omega
      rw [hc, Nat.two_pow_add_eq_or_of_lt this c]
    rw [hsum]
    apply Nat.eq_of_testBit_eq
    intro j
    rw [Nat.testBit_or, Nat.testBit_two_pow]
    by_cases hj : j < widN p.six
    · have hb := hs (widN p.six - 1 - j) (by omega)
      rw [show widN p.six - 1 - (widN p.six - 1 - j) = j from by omega] at hb
      rw [Nat.testBit_eq_decide_div_mod_eq, Nat.testBit_eq_decide_div_mod_eq, hb]
      by_cases hjk : p.high.k = j
      · rw [if_pos (by omega)]; simp [hjk]
      · rw [if_neg (by omega)]; simp [hjk]
    · have hm : 2 ^ widN p.six ≤ 2 ^ j := Nat.pow_le_pow_right (by omega) (by omega)
      have e1 : p.high.v.testBit j = false := Nat.testBit_lt_two_pow (Nat.lt_of_lt_of_le hhv hm)
      have e2 : p.v.testBit j = false := Nat.testBit_lt_two_pow (Nat.lt_of_lt_of_le hpv hm)
      rw [e1, e2]
      have : ¬ p.high.k = j := by omega
      simp [this]
  refine ⟨?_, hval, hk⟩
  have : Go.Proofs.YtpecpodchkglkaaDoor.chk p.high.six p.high.hi p.high.lo p.high.n = 0 := by
    refine (chk_num (p := p.high) ha ⟨by show 0 ≤ p.n + 1; omega, by show p.n + 1 ≤ wideI p.six; omega⟩).2 ?_
    rw [hval]
    exact Nat.dvd_add (pow_dvd_le hd (by omega)) (Nat.dvd_refl _)
  exact chk_zero ha.rhi ha.rlo this

/-- The prefix of an aligned block. -/
def ofBlk (six : Bool) (b : Nat × Nat) : PV := ⟨six, if six then ((b.1 / 18446744073709551616 : Nat) : Int) else 0, if six then ((b.1 % 18446744073709551616 : Nat) : Int) else (b.1 : Int), (widN six : Int) - b.2⟩
theorem ofBlk_self {p : PV} (hp : p.Ok) : ofBlk p.six (p.v, p.k) = p := by
  have hk := PV.k_le hp
  have hv := AV.v_val hp.addr
  have r1 := Pfx.rhi hp
  have r2 := Pfx.rlo hp
  have hm := Pfx.may hp
  have e : (p.a.v : Int) = (p.v : Int) := rfl
  rw [e] at hv
  obtain ⟨six, hi, lo, n⟩ := p
  unfold ofBlk
  simp only [PV.a] at hv hk r1 r2 hm ⊢
  unfold valI at hv
  cases six
  · have := mayB_four hm
    simp only [Bool.false_eq_true, ↓reduceIte] at hv ⊢
    exact PV.ext' rfl this.1.symm hv (by simp only; omega)
  · simp only [↓reduceIte] at hv ⊢
    exact PV.ext' rfl (by simp only; omega) (by simp only; omega) (by simp only; omega)

/-- One stands ahead of another of its family by its number. -/
def lessB (a b : AV) : Bool := if a.six = b.six then decide (a.hi < b.hi) || (decide (a.hi = b.hi) && decide (a.lo < b.lo)) else b.six
theorem less_num {a b : AV} (ha : a.Ok) (hb : b.Ok) (h6 : a.six = b.six) : lessB a b = true ↔ a.v < b.v := by
  have h1 := AV.v_val ha
  have h2 := AV.v_val hb
  have r1 := ha.rhi
  have r2 := ha.rlo
  have r3 := hb.rhi
  have r4 := hb.rlo
  have m1 := ha.may
  have m2 := hb.may
  unfold lessB
  rw [if_pos h6]
  simp only [Bool.or_eq_true, Bool.and_eq_true, decide_eq_true_eq]
  obtain ⟨s, x, y⟩ := a
  obtain ⟨s', x', y'⟩ := b
  simp only at *
  subst h6
  unfold valI at h1 h2
  cases s
  · have := mayB_four m1
    have := mayB_four m2
    simp only [Bool.false_eq_true, ↓reduceIte] at h1 h2
    omega
  · simp only [↓reduceIte] at h1 h2
    omega

def AV.plus (a : AV) (by' : Int) : AV := ⟨a.six, plusHi a.hi a.lo by', plusLo a.hi a.lo by'⟩
theorem up_num {a : AV} (ha : a.Ok) : (plusOk a.six a.hi a.lo 1 = true ↔ a.v + 1 < 2 ^ widN a.six) ∧ (plusOk a.six a.hi a.lo 1 = true → (a.plus 1).Ok ∧ (a.plus 1).v = a.v + 1) := by
  have h := plusOk_iff a.six a.hi a.lo 1 ha.rhi ha.rlo ha.may (by omega)
  have hv := AV.v_val ha
  rw [topI_eq, ← hv] at h
  constructor
  · rw [h]; omega
  · intro hok
    have hp := plus_val a.six a.hi a.lo 1 ha.rhi ha.rlo ha.may hok
    have hr := plus_range a.hi a.lo 1
    have hok2 : (a.plus 1).Ok := ⟨hr.1, hr.2, hp.2⟩
    refine ⟨hok2, ?_⟩
    have := AV.v_val hok2
    simp only [AV.plus] at this ⊢
    rw [hp.1] at this
    omega
theorem down_num {a : AV} (ha : a.Ok) (hv0 : 0 < a.v) : (a.plus (-1)).Ok ∧ (a.plus (-1)).v = a.v - 1 := by
  have h := plusOk_iff a.six a.hi a.lo (-1) ha.rhi ha.rlo ha.may (by omega)
  have hv := AV.v_val ha
  have hlt := AV.v_lt ha
  rw [topI_eq, ← hv] at h
  have hok := h.2 (by omega)
  have hp := plus_val a.six a.hi a.lo (-1) ha.rhi ha.rlo ha.may hok
  have hr := plus_range a.hi a.lo (-1)
  have hok2 : (a.plus (-1)).Ok := ⟨hr.1, hr.2, hp.2⟩
  refine ⟨hok2, ?_⟩
  have := AV.v_val hok2
  simp only [AV.plus] at this ⊢
  rw [hp.1] at this
  omega

end Go.Proofs.YtpecpodchkglkaaDoor

namespace Go.Proofs.YtpecpodchkglkaaDoor

/-- The j-th group of wd bits, of the first k of wid bits. -/
def gv (v wid wd k j : Nat) : Nat := v / 2 ^ (wid - min (wd * (j + 1)) k) % 2 ^ (min (wd * (j + 1)) k - wd * j)
def groups (v wid wd k : Nat) : List Int := (List.range ((k + wd - 1) / wd)).map fun j => (gv v wid wd k j : Int)
theorem groups_length (v wid wd k : Nat) : (groups v wid wd k).length = (k + wd - 1) / wd := by simp [groups]
theorem groups_get (v wid wd k j : Nat) (hj : j < (k + wd - 1) / wd) : (groups v wid wd k)[j]? = some (gv v wid wd k j : Int) := by
  unfold groups
  rw [List.getElem?_map, List.getElem?_range hj]
  rfl
theorem gv_lt (v wid wd k j : Nat) : gv v wid wd k j < 2 ^ wd := by
  unfold gv
  refine Nat.lt_of_lt_of_le (Nat.mod_lt _ (Nat.two_pow_pos _)) (Nat.pow_le_pow_right (by omega) ?_)
  have : wd * (j + 1) = wd * j + wd := by rw [Nat.mul_succ]
  omega
theorem mod_two_pow (x r : Nat) : x % 2 ^ (r + 1) = 2 * (x / 2 % 2 ^ r) + x % 2 := by
  rw [Nat.pow_succ, Nat.mul_comm (2 ^ r) 2, Nat.mod_mul]
  omega
/-- One bit more. -/
theorem groups_step (v wid wd k : Nat) (hw : 0 < wd) (hk : k < wid) :
    groups v wid wd (k + 1) = (if k % wd = 0 then groups v wid wd k ++ [((v / 2 ^ (wid - 1 - k) % 2 : Nat) : Int)] else (groups v wid wd k).set (k / wd) (2 * ((groups v wid wd k)[k / wd]?.getD 0) + ((v / 2 ^ (wid - 1 - k) % 2 : Nat) : Int))) := by
  have hdm := Nat.div_add_mod k wd
  have hr := Nat.mod_lt k hw
  obtain ⟨q, hq⟩ : ∃ q, k / wd = q := ⟨_, rfl⟩
  obtain ⟨r, hrr⟩ : ∃ r, k % wd = r := ⟨_, rfl⟩
  rw [hq, hrr] at hdm
  rw [hrr] at hr
  rw [hq, hrr]
  have hn1 : (k + 1 + wd - 1) / wd = q + 1 := by
    rw [show k + 1 + wd - 1 = r + wd * (q + 1) by rw [Nat.mul_succ]; omega, Nat.add_mul_div_left _ _ hw, Nat.div_eq_of_lt hr]
    omega
  have hmono : ∀ j, j < q → wd * (j + 1) ≤ wd * q := fun j hj => Nat.mul_le_mul_left _ hj
  have hold : ∀ j, j < q → gv v wid wd (k + 1) j = gv v wid wd k j := by
    intro j hj
    have := hmono j hj
    unfold gv
    rw [Nat.min_eq_left (by omega), Nat.min_eq_left (by omega)]
  by_cases h0 : r = 0
  · rw [if_pos h0]
    subst h0
    have hn0 : (k + wd - 1) / wd = q := by
      rw [show k + wd - 1 = (wd - 1) + wd * q by omega, Nat.add_mul_div_left _ _ hw, Nat.div_eq_of_lt (by omega)]
      omega
    unfold groups
    rw [hn1, hn0, List.range_succ, List.map_append]
    congr 1
    · exact List.map_congr_left fun j hj => by rw [hold j (List.mem_range.1 hj)]
    · show [((gv v wid wd (k + 1) q : Nat) : Int)] = _
      have e : gv v wid wd (k + 1) q = v / 2 ^ (wid - 1 - k) % 2 := by
        unfold gv
        rw [Nat.min_eq_right (by rw [Nat.mul_succ]; omega), show k + 1 - wd * q = 1 by omega, show wid - (k + 1) = wid - 1 - k by omega]
      rw [e]
  · rw [if_neg h0]
    have hn0 : (k + wd - 1) / wd = q + 1 := by
      rw [show k + wd - 1 = (r - 1) + wd * (q + 1) by rw [Nat.mul_succ]; omega, Nat.add_mul_div_left _ _ hw, Nat.div_eq_of_lt (by omega)]
      omega
    have hlast : gv v wid wd (k + 1) q = 2 * gv v wid wd k q + v / 2 ^ (wid - 1 - k) % 2 := by
      unfold gv
      have hs : wd * (q + 1) = wd * q + wd := by rw [Nat.mul_succ]
      rw [Nat.min_eq_right (by omega), Nat.min_eq_right (by omega), show k + 1 - wd * q = r + 1 by omega, show k - wd * q = r by omega, show wid - (k + 1) = wid - 1 - k by omega, mod_two_pow]
      rw [Nat.div_div_eq_div_mul, ← Nat.pow_succ, show (wid - 1 - k).succ = wid - k by omega]
    rw [groups_get v wid wd k q (by omega)]
    apply List.ext_getElem?
    intro j
    by_cases hj : j < q + 1
    · rw [groups_get v wid wd (k + 1) j (by omega), List.getElem?_set]
      by_cases hjq : q = j
      · subst hjq
        rw [if_pos rfl, if_pos (by rw [groups_length]; omega), hlast]
        simp
      · rw [if_neg hjq, groups_get v wid wd k j (by omega), hold j (by omega)]
    · rw [List.getElem?_eq_none (by rw [groups_length]; omega), List.getElem?_eq_none (by rw [List.length_set, groups_length]; omega)]

/-- An octet of an address. -/
def octN (a : AV) (i : Nat) : Nat := a.v / 2 ^ (widN a.six - 8 - 8 * i) % 256
theorem gv_oct (a : AV) (i : Nat) (hi : 8 * i + 8 ≤ widN a.six) : gv a.v (widN a.six) 8 (widN a.six) i = octN a i := by
  unfold gv octN
  rw [Nat.min_eq_left (by omega), show 8 * (i + 1) - 8 * i = 8 by omega, show widN a.six - 8 * (i + 1) = widN a.six - 8 - 8 * i by omega]

theorem oct_four (hi lo : Int) (i : Nat) (h : 0 ≤ lo) : lo / 2 ^ (24 - 8 * i) % 256 = (octN ⟨false, hi, lo⟩ i : Int) := by
  obtain ⟨l, rfl⟩ : ∃ l : Nat, lo = l := ⟨lo.toNat, by omega⟩
  have e : octN ⟨false, hi, (l : Int)⟩ i = l / 2 ^ (24 - 8 * i) % 256 := by
    unfold octN AV.v valI widN
    simp
  rw [e, Int.natCast_emod, Int.natCast_ediv, Int.natCast_pow]
  rfl
theorem six_v (h l : Nat) : AV.v ⟨true, (h : Int), (l : Int)⟩ = h * 18446744073709551616 + l := by
  unfold AV.v valI
  simp
  omega
theorem oct_high (hi lo : Int) (i : Nat) (h : 0 ≤ hi) (h2 : 0 ≤ lo ∧ lo < 18446744073709551616) (hi8 : i < 8) : hi / 2 ^ (56 - 8 * i) % 256 = (octN ⟨true, hi, lo⟩ i : Int) := by
  obtain ⟨g, rfl⟩ : ∃ g : Nat, hi = g := ⟨hi.toNat, by omega⟩
  obtain ⟨l, rfl⟩ : ∃ l : Nat, lo = l := ⟨lo.toNat, by omega⟩
  have e : octN ⟨true, (g : Int), (l : Int)⟩ i = g / 2 ^ (56 - 8 * i) % 256 := by
    unfold octN
    rw [six_v, show widN (⟨true, (g : Int), (l : Int)⟩ : AV).six - 8 - 8 * i = 64 + (56 - 8 * i) by simp [widN]; omega, Nat.pow_add, ← Nat.div_div_eq_div_mul]
    congr 2
    rw [show (2 : Nat) ^ 64 = 18446744073709551616 by decide]
    omega
  rw [e, Int.natCast_emod, Int.natCast_ediv, Int.natCast_pow]
  rfl
theorem oct_low (hi lo : Int) (i : Nat) (h : 0 ≤ hi) (h2 : 0 ≤ lo) (hi8 : 8 ≤ i) (hi16 : i < 16) : lo / 2 ^ (120 - 8 * i) % 256 = (octN ⟨true, hi, lo⟩ i : Int) := by
  obtain ⟨g, rfl⟩ : ∃ g : Nat, hi = g := ⟨hi.toNat, by omega⟩
  obtain ⟨l, rfl⟩ : ∃ l : Nat, lo = l := ⟨lo.toNat, by omega⟩
  have e : octN ⟨true, (g : Int), (l : Int)⟩ i = l / 2 ^ (120 - 8 * i) % 256 := by
    unfold octN
    rw [six_v, show widN (⟨true, (g : Int), (l : Int)⟩ : AV).six - 8 - 8 * i = 120 - 8 * i by simp [widN]]
    obtain ⟨s, hs⟩ : ∃ s, 120 - 8 * i = s := ⟨_, rfl⟩
    obtain ⟨t, ht⟩ : ∃ t, 56 - s = t := ⟨_, rfl⟩
    rw [hs]
    have e2 : (18446744073709551616 : Nat) = 2 ^ s * (2 ^ t * 256) := by
      rw [show (256 : Nat) = 2 ^ 8 by decide, ← Nat.pow_add, ← Nat.pow_add, show s + (t + 8) = 64 by omega]
    rw [e2, show g * (2 ^ s * (2 ^ t * 256)) + l = l + 2 ^ s * (g * 2 ^ t * 256) by rw [Nat.add_comm]; congr 1; rw [Nat.mul_left_comm, Nat.mul_assoc], Nat.add_mul_div_left _ _ (Nat.two_pow_pos s), Nat.add_mul_mod_self_right]
  rw [e, Int.natCast_emod, Int.natCast_ediv, Int.natCast_pow]
  rfl

end Go.Proofs.YtpecpodchkglkaaDoor

namespace Go.Proofs.YtpecpodchkglkaaDoor

/-- A numeral to a base, without a needless 0. -/
def digB (d : Nat) : UInt8 := UInt8.ofNat (if d < 10 then 48 + d else 87 + d)
def numT (base n : Nat) : List UInt8 := if _h : n < base ∨ base < 2 then [digB n] else numT base (n / base) ++ [digB (n % base)]
termination_by n
decreasing_by exact Nat.div_lt_self (by omega) (by omega)
theorem numT_small {base n : Nat} (h : n < base) : numT base n = [digB n] := by rw [numT]; simp [h]
theorem numT_step {base n : Nat} (h : ¬ n < base) (h2 : 2 ≤ base) : numT base n = numT base (n / base) ++ [digB (n % base)] := by rw [numT]; rw [dif_neg (by omega)]
theorem numT_length (base : Nat) (hb : 2 ≤ base) : ∀ (k n : Nat), n < base ^ k → (numT base n).length ≤ max k 1
  | 0, n, h => by rw [numT_small (by rw [Nat.pow_zero] at h; omega)]; exact Nat.le_max_right _ _
  | k + 1, n, h => by
    by_cases hn : n < base
    · rw [numT_small hn]; exact Nat.le_max_right _ _
    · rw [numT_step hn hb, List.length_append]
      have := numT_length base hb k (n / base) (by rw [Nat.div_lt_iff_lt_mul (by omega), ← Nat.pow_succ]; exact h)
      simp only [List.length_cons, List.length_nil]
      have hk : 1 ≤ k := by
        rcases k with _ | k
        · exact absurd (by simpa using h) hn
        · omega
      omega
/-- How many zeros stand from a place on. -/
def zerosAt (g : List Int) (i : Nat) : Nat := ((g.drop i).takeWhile (· == 0)).length
theorem zerosAt_le (g : List Int) (i : Nat) : zerosAt g i ≤ g.length - i := by
  unfold zerosAt
  refine Nat.le_trans (List.takeWhile_sublist _).length_le ?_
  rw [List.length_drop]
  exact Nat.le_refl _
/-- The longest run so far, as the program keeps it: from where, and how many. -/
def runP (g : List Int) : Nat → Nat × Nat
  | 0 => (0, 0)
  | i + 1 => if (runP g i).2 < zerosAt g i then (i, zerosAt g i) else runP g i
/-- As the reference keeps it. -/
def runR (g : List Int) : Nat → Int × Nat
  | 0 => (-1, 1)
  | i + 1 => if (runR g i).2 < zerosAt g i then ((i : Int), zerosAt g i) else runR g i
theorem runs_same (g : List Int) : ∀ i, (runP g i).2 ≤ (runR g i).2 ∧ ((2 ≤ (runP g i).2 → (runR g i) = (((runP g i).1 : Int), (runP g i).2)) ∧ ((runP g i).2 < 2 → runR g i = (-1, 1)))
  | 0 => ⟨by simp [runP, runR], by simp [runP], fun _ => rfl⟩
  | i + 1 => by
    obtain ⟨h0, h1, h2⟩ := runs_same g i
    unfold runP runR
    by_cases c1 : (runP g i).2 < zerosAt g i
    · rw [if_pos c1]
      by_cases c2 : (runR g i).2 < zerosAt g i
      · rw [if_pos c2]
        refine ⟨Nat.le_refl _, fun _ => rfl, fun h => ?_⟩
        by_cases c3 : 2 ≤ (runP g i).2
        · simp only at h; omega
        · have := h2 (by omega)
          rw [this] at c2
          simp only at h c2; omega
      · rw [if_neg c2]
        refine ⟨by simp only; omega, fun h => ?_, fun h => ?_⟩
        · by_cases c3 : 2 ≤ (runP g i).2
          · have := h1 c3
            rw [this] at c2
            simp only at c2; omega
          · have := h2 (by omega)
            rw [this] at c2
            simp only at h c2; omega
        · exact h2 (by simp only at h; omega)
    · rw [if_neg c1]
      by_cases c2 : (runR g i).2 < zerosAt g i
      · omega
      · rw [if_neg c2]
        exact ⟨h0, h1, h2⟩
/-- Texts with a sign between. -/
def joinT (s : UInt8) : List (List UInt8) → List UInt8
  | [] => []
  | [x] => x
  | x :: y :: l => x ++ [s] ++ joinT s (y :: l)
theorem joinT_snoc (s : UInt8) : ∀ (l : List (List UInt8)) (x : List UInt8), l ≠ [] → joinT s (l ++ [x]) = joinT s l ++ [s] ++ x
  | [], _, h => absurd rfl h
  | [y], x, _ => rfl
  | y :: z :: l, x, _ => by
    show y ++ [s] ++ joinT s ((z :: l) ++ [x]) = _
    rw [joinT_snoc s (z :: l) x (by simp)]
    simp [joinT]
/-- The text of groups: a run of zeros is left out. -/
def hexT (g : List Int) : List UInt8 := joinT 58 (g.map fun x => numT 16 x.toNat)
def sixT (g : List Int) (from_ many : Nat) : List UInt8 := if many < 2 then hexT g else hexT (g.take from_) ++ [58, 58] ++ hexT (g.drop (from_ + many))
def fourT (g : List Int) : List UInt8 := joinT 46 (g.map fun x => numT 10 x.toNat)

end Go.Proofs.YtpecpodchkglkaaDoor

namespace Go.Proofs.YtpecpodchkglkaaDoor
open Go.RowKit

theorem block_of_add (a : Addr) (n : Nat) : (a.add n).block = a.block := by unfold Addr.add; split <;> rfl
theorem add_of_add (a : Addr) (i j : Nat) : (a.add i).add j = a.add (i + j) := by
  unfold Addr.add
  by_cases hi : i = 0 <;> by_cases hj : j = 0 <;> simp [hi, hj, Nat.add_assoc]

def Reads (w : World) (B size : Nat) (A : Option Addr) (n : Nat) (xs : List Value) : Prop :=
  xs.length = n * size ∧ (0 < n → ∃ ad, A = some ad ∧ ad.block < B ∧ ∀ j u, xs[j]? = some u → w.cell? (ad.add j) = some u)

section
variable {w w' : World} {B B' size n : Nat} {A : Option Addr} {xs : List Value}
theorem Reads.none_ : Reads w B size A 0 [] := ⟨by simp, fun h => absurd h (by omega)⟩
theorem Reads.at_ {k : Nat} (h : Reads w B 1 A n xs) (hk : k < n) : ∃ ad u, A = some ad ∧ ad.block < B ∧ xs[k]? = some u ∧ w.cell? (ad.add k) = some u := by
  obtain ⟨ad, e, hb, hc⟩ := h.2 (by omega)
  have hl : k < xs.length := by have := h.1; omega
  exact ⟨ad, xs[k], e, hb, List.getElem?_eq_getElem hl, hc k _ (List.getElem?_eq_getElem hl)⟩
theorem Reads.keep (h : Reads w B size A n xs) (hk : ∀ p : Addr, p.block < B → w'.cell? p = w.cell? p) : Reads w' B size A n xs :=
  ⟨h.1, fun hn => by
    obtain ⟨ad, e, hb, hc⟩ := h.2 hn
    exact ⟨ad, e, hb, fun j u hu => (hk _ (by rw [block_of_add]; exact hb)).trans (hc j u hu)⟩⟩
theorem Reads.more (h : Reads w B size A n xs) (hB : B ≤ B') : Reads w B' size A n xs :=
  ⟨h.1, fun hn => by
    obtain ⟨ad, e, hb, hc⟩ := h.2 hn
    exact ⟨ad, e, by omega, hc⟩⟩
theorem Reads.below (h : Reads w B size A n xs) (hb : Below B w w') : Reads w' B size A n xs := h.keep fun _ hp => hb.cell hp
theorem Reads.drew (h : Reads w B size A n xs) : Reads w.drew B size A n xs := h
theorem Reads.drewN (h : Reads w B size A n xs) (k : Nat) : Reads (w.drewN k) B size A n xs := h
theorem Reads.alloc (h : Reads w B size A n xs) (hB : B ≤ w.heap.size) (o : Obj) : Reads (w.alloc o) B size A n xs := h.keep fun p hp => World.cell?_alloc_lt w o p (by omega)
theorem Reads.setCell (h : Reads w B size A n xs) {p : Addr} (hB : B ≤ p.block) (u : Value) : Reads (w.setCell p u) B size A n xs :=
  h.keep fun q hq => World.cell?_setCell_other w p q u (fun e => by subst e; omega)
theorem Reads.grown (h : Reads w B size A n xs) {row : Option Nat} (hg : w.grownBy w' row) (hB : B ≤ w.heap.size) (hr : ∀ g, row = some g → B ≤ g) : Reads w' B size A n xs :=
  h.keep fun p hp => World.cell?_of_block (hg.block p.block (by omega) (fun e => by have := hr _ e.symm; omega))
theorem Reads.cut (h : Reads w B size A n xs) {k cap : Nat} (hk : k ≤ n) (hc : n ≤ cap) :
    Reads w B size (if cap = k then A else A.map (·.add (k * size))) (n - k) (xs.drop (k * size)) := by
  refine ⟨by rw [List.length_drop, h.1, Nat.sub_mul], fun hn => ?_⟩
  obtain ⟨ad, rfl, hb, hcell⟩ := h.2 (by omega)
  rw [if_neg (by omega)]
  refine ⟨ad.add (k * size), rfl, by rw [block_of_add]; exact hb, fun j u hu => ?_⟩
  rw [add_of_add]
  exact hcell _ u (by rw [← hu, List.getElem?_drop])
theorem Reads.of_own {base : Nat} {e : TypeId} {c : Nat} (h : w.ownsRow base e size (.slice A n c) n xs) : Reads w w.heap.size size A n xs := by
  refine ⟨h.1, fun hn => ?_⟩
  obtain ⟨g, cap, hv, _, hlt⟩ := h.form hn
  have hA : A = some ⟨g, 0, none⟩ := by injection hv
  subst hA
  exact ⟨_, rfl, hlt, h.cells (g := g) rfl⟩
end

def Blk (w : World) (g : Nat) (t : TypeId) (cs : Array Value) : Prop := w.heap[g]? = some (.cells cs t (0, 0))

section
variable {w w' : World} {g : Nat} {t : TypeId} {cs : Array Value}
theorem Blk.lt (h : Blk w g t cs) : g < w.heap.size := by
  rcases Nat.lt_or_ge g w.heap.size with hlt | hge
  · exact hlt
  · unfold Blk at h; rw [Array.getElem?_eq_none hge] at h; cases h
theorem Blk.cell (h : Blk w g t cs) (i : Nat) : w.cell? ⟨g, i, none⟩ = cs[i]? := cell_of_row w g i cs t (0, 0) h
theorem Blk.frozen (h : Blk w g t cs) (i : Nat) : w.frozen? ⟨g, i, none⟩ = false := by
  unfold Blk at h
  simp [World.frozen?, h]
theorem Blk.new (w : World) (t : TypeId) (cs : Array Value) : Blk (w.alloc (.cells cs t)) w.heap.size t cs := heap_alloc_new w _
theorem Blk.drew (h : Blk w g t cs) : Blk w.drew g t cs := h
theorem Blk.drewN (h : Blk w g t cs) (n : Nat) : Blk (w.drewN n) g t cs := h
theorem Blk.alloc (h : Blk w g t cs) (o : Obj) : Blk (w.alloc o) g t cs := (Below.heap_alloc w o g h.lt).trans h
theorem Blk.set_ (h : Blk w g t cs) (i : Nat) (u : Value) : Blk (w.setCell ⟨g, i, none⟩ u) g t (cs.setIfInBounds i u) := by
  unfold Blk at h ⊢
  simp [World.setCell, Array.getElem?_modify, h]
theorem Blk.far (h : Blk w g t cs) {p : Addr} (hp : g ≠ p.block) (u : Value) : Blk (w.setCell p u) g t cs := (Below.heap_setCell w p u g hp).trans h
theorem Blk.below {B : Nat} (h : Blk w g t cs) (hb : Below B w w') (hg : g < B) : Blk w' g t cs := (hb.block g hg).trans h
theorem Blk.grown {row : Option Nat} (h : Blk w g t cs) (hb : w.grownBy w' row) (hg : some g ≠ row) : Blk w' g t cs := (hb.block g h.lt hg).trans h
theorem Blk.ne_ {g' : Nat} {t' : TypeId} {cs' : Array Value} (h : Blk w g t cs) (h' : Blk w g' t' cs') (hne : t ≠ t') : g ≠ g' := by
  rintro rfl
  unfold Blk at h h'
  rw [h] at h'
  injection h' with h'
  injection h' with _ ht
  exact hne ht
theorem own_blk_ne {base : Nat} {e : TypeId} {size n : Nat} {v : Value} {xs : List Value} (h : w.ownsRow base e size v n xs) (hg : Blk w g t cs) (hne : e ≠ t) : v.ownBlock ≠ some g := by
  rcases h.2 with ⟨rfl, _⟩ | ⟨g', cap, cur, rfl, _, hh, _⟩
  · simp [Value.ownBlock]
  · intro he
    have : g' = g := by simpa [Value.ownBlock] using he
    subst this
    exact Blk.ne_ (t := e) hh hg hne rfl
end

section
variable {P : Program} (w : World)

theorem run_append_of_nil (base : Nat) (t ty e : TypeId) (i : TypeInfo) (size : Nat) (ht : P.underlying t = some (.slice e)) (hi : P.info? e = some i)
    (v : Value) (n : Nat) (xs : List Value) (hown : w.ownsRow base e size v n xs) (c : Nat) : (Builtin.append_ #[t, t] ty #[v, .slice none 0 c]).run P w = .ok v w := by
  rcases hown.2 with ⟨rfl, rfl⟩ | ⟨g, cap, cur, rfl, _, _, hnc, _⟩
  · simp [Builtin.append_, run_underlying ht, sizeOf, typeInfo, hi, Builtin.lenOf, Builtin.firstCells]
  · simp [Builtin.append_, run_underlying ht, sizeOf, typeInfo, hi, Builtin.lenOf, Builtin.firstCells, hnc, storeCells]

theorem run_append_any (base : Nat) (t ty e : TypeId) (i : TypeInfo) (z : Value) (size bytes : Nat) (ht : P.underlying t = some (.slice e)) (hi : P.info? e = some i) (hz : i.zero = some z)
    (hsize : i.size = size) (hby : i.bytes = bytes) (hzs : z.cells.size = size) (hsz : 0 < size)
    (v : Value) (n : Nat) (xs : List Value) (hown : w.ownsRow base e size v n xs)
    (B : Nat) (A : Option Addr) (m c : Nat) (news : List Value) (hr : Reads w B size A m news) (h1 : ∀ u ∈ news, u.oneCell' = true)
    (h63 : n + m ≤ maxLen) (hbytes : (n + m) * bytes ≤ 140737488355328) (hbase : base ≤ w.heap.size) :
    ∃ v' w', (Builtin.append_ #[t, t] ty #[v, .slice A m c]).run P w = .ok v' w' ∧ w'.ownsRow base e size v' (n + m) (xs ++ news) ∧ w.grownBy w' v.ownBlock ∧
      (v'.ownBlock = v.ownBlock ∨ v'.ownBlock = some w.heap.size) := by
  rcases A with _ | ad
  · have hm : m = 0 := by
      rcases Nat.eq_zero_or_pos m with h0 | h0
      · exact h0
      · obtain ⟨ad, h, _⟩ := hr.2 h0
        cases h
    subst hm
    have hn : news = [] := List.eq_nil_of_length_eq_zero (by simpa using hr.1)
    subst hn
    exact ⟨v, w, run_append_of_nil w base t ty e i size ht hi v n xs hown c, by simpa using hown, World.grownBy.refl w _, .inl rfl⟩
  · have hcells : ∀ j u, news[j]? = some u → w.cell? (ad.add j) = some u := by
      intro j u hu
      rcases Nat.eq_zero_or_pos m with h0 | h0
      · subst h0
        have hn : news = [] := List.eq_nil_of_length_eq_zero (by simpa using hr.1)
        subst hn
        simp at hu
      · obtain ⟨ad', h, _, hc⟩ := hr.2 h0
        injection h with h
        subst h
        exact hc j u hu
    obtain ⟨v', w', hrun, h2, h3, _, h5⟩ := run_append_own_at (P := P) w base t ty e i z size bytes ht hi hz hsize hby hzs hsz v n xs hown ad m c news hr.1 hcells h1 h63 hbytes hbase
    exact ⟨v', w', hrun, h2, h3, h5⟩

theorem wp_append_any {o : Oper} {a : Act} {K : Act → World → Prop} {Q : Exit → Act → World → Prop} (s x : Operand) (t : TypeId)
    (ho : o.op = .call { callee := .builtin .append, args := #[s, x], argTypes := #[t, t] })
    (base : Nat) (e : TypeId) (i : TypeInfo) (z : Value) (size bytes : Nat) (ht : P.underlying t = some (.slice e)) (hi : P.info? e = some i) (hz : i.zero = some z)
    (hsize : i.size = size) (hby : i.bytes = bytes) (hzs : z.cells.size = size) (hsz : 0 < size)
    (v : Value) (n : Nat) (xs : List Value) (hs : a.eval s = v) (hown : w.ownsRow base e size v n xs)
    (B : Nat) (A : Option Addr) (m c : Nat) (news : List Value) (hx : a.eval x = .slice A m c) (hr : Reads w B size A m news) (h1 : ∀ u ∈ news, u.oneCell' = true)
    (h63 : n + m ≤ maxLen) (hbytes : (n + m) * bytes ≤ 140737488355328) (hbase : base ≤ w.heap.size)
    (h : ∀ v' w', w'.ownsRow base e size v' (n + m) (xs ++ news) → w.grownBy w' v.ownBlock → (v'.ownBlock = v.ownBlock ∨ v'.ownBlock = some w.heap.size) → K (a.put o.dst v') w') : o.wp P a w K Q := by
  obtain ⟨v', w', hrun, h2, h3, h4⟩ := run_append_any (P := P) w base t o.type e i z size bytes ht hi hz hsize hby hzs hsz v n xs hown B A m c news hr h1 h63 hbytes hbase
  unfold Oper.wp execOp
  simp only [ho, resolve, invoke, builtin, Sem.run_bind, Sem.run_pure, Result.andThen_ok, List.map_toArray, List.map_cons, List.map_nil, hs, hx, hrun]
  exact h v' w' h2 h3 h4

theorem wpList_append_any {ops : Array Oper} {rest : List Oper} {o : Oper} {a : Act} {Q : Exit → Act → World → Prop} (hgd : o.guard = none) (s x : Operand) (t : TypeId)
    (ho : o.op = .call { callee := .builtin .append, args := #[s, x], argTypes := #[t, t] })
    (base : Nat) (e : TypeId) (i : TypeInfo) (z : Value) (size bytes : Nat) (ht : P.underlying t = some (.slice e)) (hi : P.info? e = some i) (hz : i.zero = some z)
    (hsize : i.size = size) (hby : i.bytes = bytes) (hzs : z.cells.size = size) (hsz : 0 < size)
    (v : Value) (n : Nat) (xs : List Value) (hs : a.eval s = v) (hown : w.ownsRow base e size v n xs)
    (B : Nat) (A : Option Addr) (m c : Nat) (news : List Value) (hx : a.eval x = .slice A m c) (hr : Reads w B size A m news) (h1 : ∀ u ∈ news, u.oneCell' = true)
    (h63 : n + m ≤ maxLen) (hbytes : (n + m) * bytes ≤ 140737488355328) (hbase : base ≤ w.heap.size)
    (h : ∀ v' w', w'.ownsRow base e size v' (n + m) (xs ++ news) → w.grownBy w' v.ownBlock → (v'.ownBlock = v.ownBlock ∨ v'.ownBlock = some w.heap.size) → wpList P ops Q rest (a.put o.dst v') w') : wpList P ops Q (o :: rest) a w :=
  wpList_plain hgd fun _ hK => wp_append_any w s x t ho base e i z size bytes ht hi hz hsize hby hzs hsz v n xs hs hown B A m c news hx hr h1 h63 hbytes hbase fun v' w' h2 h3 h4 => hK _ _ (h v' w' h2 h3 h4)

theorem step_append_any {ops : Array Oper} {o : Oper} {a : Act} {K : Act → World → Prop} {Q : Exit → Act → World → Prop} {E : Prop} (hgd : o.guard = none) (s x : Operand) (t : TypeId)
    (ho : o.op = .call { callee := .builtin .append, args := #[s, x], argTypes := #[t, t] })
    (base : Nat) (e : TypeId) (i : TypeInfo) (z : Value) (size bytes : Nat) (ht : P.underlying t = some (.slice e)) (hi : P.info? e = some i) (hz : i.zero = some z)
    (hsize : i.size = size) (hby : i.bytes = bytes) (hzs : z.cells.size = size) (hsz : 0 < size)
    (v : Value) (n : Nat) (xs : List Value) (hs : a.eval s = v) (hown : w.ownsRow base e size v n xs)
    (B : Nat) (A : Option Addr) (m c : Nat) (news : List Value) (hx : a.eval x = .slice A m c) (hr : Reads w B size A m news) (h1 : ∀ u ∈ news, u.oneCell' = true)
    (h63 : n + m ≤ maxLen) (hbytes : (n + m) * bytes ≤ 140737488355328) (hbase : base ≤ w.heap.size)
    (h : ∀ v' w', w'.ownsRow base e size v' (n + m) (xs ++ news) → w.grownBy w' v.ownBlock → (v'.ownBlock = v.ownBlock ∨ v'.ownBlock = some w.heap.size) → K (a.put o.dst v') w') :
    if Region.wanted o (yielded ops a.tmps) = true then Oper.wp P o a w K Q else E := by
  have hw : Region.wanted o (yielded ops a.tmps) = true := by simp [Region.wanted, hgd]
  rw [if_pos hw]
  exact wp_append_any w s x t ho base e i z size bytes ht hi hz hsize hby hzs hsz v n xs hs hown B A m c news hx hr h1 h63 hbytes hbase h
end

theorem Reads.at1 {w : World} {B n k : Nat} {A : Option Addr} {α : Type} {l : List α} {f : α → Value} (h : Reads w B 1 A n (l.map f)) (hk : k < n) :
    ∃ ad x, A = some ad ∧ w.cell? (ad.add k) = some (f x) ∧ l.take (k + 1) = l.take k ++ [x] ∧ l[k]? = some x ∧ x ∈ l := by
  obtain ⟨ad, u, rfl, _, hx, hc⟩ := h.at_ hk
  rw [List.getElem?_map] at hx
  cases hl : l[k]? with
  | none => rw [hl] at hx; cases hx
  | some x =>
    rw [hl] at hx
    simp only [Option.map_some, Option.some.injEq] at hx
    subst hx
    exact ⟨ad, x, rfl, hc, by rw [List.take_add_one, hl]; rfl, rfl, List.mem_of_getElem? hl⟩

/-- append of one element, laid just before in a block of its own, onto a row of the call's own. -/
theorem wpList_append_one {P : Program} {ops : Array Oper} {rest : List Oper} {o : Oper} {a : Act} {Q : Exit → Act → World → Prop} {w0 : World} {us : List Value} {fr : Nat × Nat} {e : TypeId} (hgd : o.guard = none) (s x : Operand) (t : TypeId)
    (ho : o.op = .call { callee := .builtin .append, args := #[s, x], argTypes := #[t, t] })
    (base : Nat) (z : Value) (size bytes : Nat) (ht : P.underlying t = some (.slice e)) (hi : (P.info? e).map (fun i => (i.zero, i.size, i.bytes)) = some (some z, size, bytes))
    (hzs : z.cells.size = size) (hsz : 0 < size) (v : Value) (n : Nat) (xs : List Value) (hs : a.eval s = v) (hown : w0.ownsRow base e size v n xs) (hbase : base ≤ w0.heap.size)
    (hl : us.length = size) (h1 : ∀ u ∈ us, u.oneCell' = true)
    (hx : a.eval x = .slice (some ⟨w0.heap.size, 0, none⟩) 1 1) (h63 : n + 1 ≤ maxLen) (hbytes : (n + 1) * bytes ≤ 140737488355328)
    (h : ∀ v' w', w'.ownsRow base e size v' (n + 1) (xs ++ us) → Below base w0 w' → w0.heap.size < w'.heap.size → wpList P ops Q rest (a.put o.dst v') w') :
    wpList P ops Q (o :: rest) a (w0.alloc (.cells us.toArray e fr)) := by
  obtain ⟨i0, hi, hz0, hz1, hz2⟩ := info_parts hi
  refine wpList_append_own _ hgd s x t ho base e i0 z size bytes ht hi hz0 hz1 hz2 hzs hsz v n xs hs (hown.alloc _) ⟨w0.heap.size, 0, none⟩ 1 1 us hx (by omega) ?_ h1 h63 hbytes (by simp; omega) ?_
  · intro j u hj
    have e1 : (⟨w0.heap.size, 0, none⟩ : Addr).add j = ⟨w0.heap.size, j, none⟩ := by unfold Addr.add; split <;> simp_all
    rw [e1]
    have : (w0.alloc (.cells us.toArray e fr)).heap[w0.heap.size]? = some (.cells us.toArray e fr) := heap_alloc_new w0 _
    unfold World.cell?
    simp only [this]
    simpa using hj
  · intro v' w' hown' hg _
    have hb : Below base w0 (w0.alloc (.cells us.toArray e fr)) := (Below.refl _ _).alloc hbase _
    refine h v' w' hown' (hb.grown hg (by simp; omega) ?_) ?_
    · intro k hk
      rcases hown.2 with ⟨rfl, _⟩ | ⟨g, cap, cur, rfl, hgb, _⟩
      · simp [Value.ownBlock] at hk
      · simp only [Value.ownBlock, Option.some.injEq] at hk
        omega
    · have := hg.size
      simp at this
      omega

theorem own_mono {w : World} {base base' : Nat} {e : TypeId} {size n : Nat} {v : Value} {xs : List Value} (h : w.ownsRow base e size v n xs) (hb : base' ≤ base) : w.ownsRow base' e size v n xs := by
  obtain ⟨h1, h2⟩ := h
  refine ⟨h1, ?_⟩
  rcases h2 with h2 | ⟨g, cap, cur, hv, hg, r⟩
  · exact .inl h2
  · exact .inr ⟨g, cap, cur, hv, by omega, r⟩

theorem own_below {w w' : World} {base : Nat} {e : TypeId} {size n : Nat} {v : Value} {xs : List Value} (h : w.ownsRow base e size v n xs) (hb : Below w.heap.size w w') : w'.ownsRow base e size v n xs := by
  obtain ⟨h1, h2⟩ := h
  refine ⟨h1, ?_⟩
  rcases h2 with h2 | ⟨g, cap, cur, hv, hg, hh, r⟩
  · exact .inl h2
  · refine .inr ⟨g, cap, cur, hv, hg, ?_, r⟩
    rw [hb.block g ?_]
    · exact hh
    · rcases Nat.lt_or_ge g w.heap.size with h3 | h3
      · exact h3
      · rw [Array.getElem?_eq_none h3] at hh; cases hh

/-- Behind the box of a parameter. -/
theorem below_box {w wr : World} {o : Obj} (h : Below (w.heap.size + 1) (w.alloc o) wr) : Below w.heap.size w wr :=
  ((Below.refl _ _).alloc (Nat.le_refl _) o).trans (h.mono (by omega))
theorem box_cell {w wr : World} {cs : List Value} {t : TypeId} {fr : Nat × Nat} (h : Below (w.heap.size + 1) (w.alloc (.cells cs.toArray t fr)) wr) (j : Nat) : wr.cell? ⟨w.heap.size, j, none⟩ = cs[j]? := by
  rw [h.cell (p := ⟨w.heap.size, j, none⟩) (by simp)]
  have e := heap_alloc_new w (.cells cs.toArray t fr)
  unfold World.cell?
  simp only [e]
  simp

theorem box1 {w w1 : World} {cs : List Value} {t : TypeId} {fr : Nat × Nat} (hb : Below (w.alloc (.cells cs.toArray t fr)).heap.size (w.alloc (.cells cs.toArray t fr)) w1) :
    Below w.heap.size w w1 ∧ w.heap.size < w1.heap.size ∧ ∀ j u, cs[j]? = some u → w1.cell? ⟨w.heap.size, j, none⟩ = some u := by
  have hb' : Below (w.heap.size + 1) (w.alloc (.cells cs.toArray t fr)) w1 := by simpa using hb
  have hs := hb.size
  simp at hs
  exact ⟨below_box hb', by omega, fun j u hj => (box_cell hb' j).trans hj⟩
theorem box3 {w w1 : World} {a b c : Value} {t : TypeId} {fr : Nat × Nat} (hb : Below (w.alloc (.cells #[a, b, c] t fr)).heap.size (w.alloc (.cells #[a, b, c] t fr)) w1) :
    Below w.heap.size w w1 ∧ w.heap.size < w1.heap.size ∧ w1.cell? ⟨w.heap.size, 0, none⟩ = some a ∧ w1.cell? ⟨w.heap.size, 1, none⟩ = some b ∧ w1.cell? ⟨w.heap.size, 2, none⟩ = some c := by
  obtain ⟨h1, h2, h3⟩ := box1 (cs := [a, b, c]) hb
  exact ⟨h1, h2, h3 0 a rfl, h3 1 b rfl, h3 2 c rfl⟩
theorem box4 {w w1 : World} {a b c d : Value} {t : TypeId} {fr : Nat × Nat} (hb : Below (w.alloc (.cells #[a, b, c, d] t fr)).heap.size (w.alloc (.cells #[a, b, c, d] t fr)) w1) :
    Below w.heap.size w w1 ∧ w.heap.size < w1.heap.size ∧ w1.cell? ⟨w.heap.size, 0, none⟩ = some a ∧ w1.cell? ⟨w.heap.size, 1, none⟩ = some b ∧ w1.cell? ⟨w.heap.size, 2, none⟩ = some c ∧ w1.cell? ⟨w.heap.size, 3, none⟩ = some d := by
  obtain ⟨h1, h2, h3⟩ := box1 (cs := [a, b, c, d]) hb
  exact ⟨h1, h2, h3 0 a rfl, h3 1 b rfl, h3 2 c rfl, h3 3 d rfl⟩

theorem choose_list {α β : Type} {f : α → β} {Q : α → Prop} : ∀ (css : List β), (∀ cs ∈ css, ∃ x, Q x ∧ cs = f x) → ∃ l : List α, css = l.map f ∧ ∀ x ∈ l, Q x
  | [], _ => ⟨[], rfl, by simp⟩
  | cs :: css, h => by
    obtain ⟨x, hq, rfl⟩ := h cs (by simp)
    obtain ⟨l, rfl, hl⟩ := choose_list css (fun c hc => h c (by simp [hc]))
    exact ⟨x :: l, rfl, fun y hy => by
      rcases List.mem_cons.1 hy with rfl | hy
      · exact hq
      · exact hl y hy⟩

theorem choose_nat {β : Type} {Q : Nat → β → Prop} : ∀ (n : Nat), (∀ i, i < n → ∃ x, Q i x) → ∃ l : List β, l.length = n ∧ ∀ i x, l[i]? = some x → Q i x
  | 0, _ => ⟨[], rfl, by simp⟩
  | n + 1, h => by
    obtain ⟨l, hl, hq⟩ := choose_nat n (fun i hi => h i (by omega))
    obtain ⟨x, hx⟩ := h n (by omega)
    refine ⟨l ++ [x], by simp [hl], fun i y hy => ?_⟩
    rcases Nat.lt_or_ge i l.length with hi | hi
    · rw [List.getElem?_append_left hi] at hy
      exact hq i y hy
    · rw [List.getElem?_append_right hi] at hy
      have : i - l.length = 0 := by
        rcases Nat.eq_zero_or_pos (i - l.length) with h0 | h0
        · exact h0
        · rw [List.getElem?_eq_none (by simp; omega)] at hy; cases hy
      rw [this] at hy
      simp at hy
      subst hy
      obtain rfl : i = n := by omega
      exact hx

theorem flatten_at {α : Type} {k : Nat} : ∀ (css : List (List α)), (∀ cs ∈ css, cs.length = k) → ∀ (j : Nat) (u : α), css.flatten[j]? = some u → ∃ cs, css[j / k]? = some cs ∧ cs[j % k]? = some u
  | [], _, j, u, h => by simp at h
  | cs :: css, hk, j, u, h => by
    have h0 := hk cs (by simp)
    rw [List.flatten_cons] at h
    rcases Nat.lt_or_ge j cs.length with hj | hj
    · rw [List.getElem?_append_left hj] at h
      refine ⟨cs, ?_, ?_⟩
      · rw [Nat.div_eq_of_lt (by omega)]; rfl
      · rw [Nat.mod_eq_of_lt (by omega)]; exact h
    · rw [List.getElem?_append_right hj] at h
      obtain ⟨c, h1, h2⟩ := flatten_at css (fun c hc => hk c (by simp [hc])) _ u h
      have hkp : 0 < k := by
        rcases Nat.eq_zero_or_pos k with hz | hz
        · subst hz
          have : c = [] := List.eq_nil_of_length_eq_zero (hk c (by simp [List.mem_of_getElem? h1]))
          subst this
          simp at h2
        · exact hz
      have e1 : j / k = (j - cs.length) / k + 1 := by
        rw [h0]
        rw [Nat.div_eq_sub_div hkp (by omega)]
      have e2 : j % k = (j - cs.length) % k := by
        rw [h0]
        exact Nat.mod_eq_sub_mod (by omega)
      exact ⟨c, by rw [e1]; exact h1, by rw [e2]; exact h2⟩

/-- A slice of a flat type that came in. -/
theorem open_flats {H : Type} {enc : TypeId × Value → H} {P : Program} {W : World} {base : Nat} {sp : Nat → Bool} {held : Bool} {t e : TypeId} {ks : List (Option IntKind)} {a0 : Option Addr} {len cap : Nat} {d : DataW H} {p : List MemPlace}
    (ht : P.underlying t = some (.slice e)) (hk : flat P 9 e = some ks) (hC : P.cellsOf e = ks.length) (hpos : 0 < ks.length) (h : DataW.Trod enc P W base sp held t (.slice a0 len cap) d p) :
    ∃ css : List (List Value), css.length = len ∧ (∀ cs ∈ css, FitsAll ks cs) ∧ Reads W W.heap.size ks.length a0 len css.flatten ∧ len ≤ cap ∧ cap ≤ maxLen := by
  obtain ⟨fuel, hf⟩ := h
  rcases Go.Deep.open_slice ht hf with ⟨hcs, _⟩ | ⟨a, len', cap', m, n, D, Pl, hcs, hb, hl, hm, hmm, hx, hi⟩
  · simp [Value.cells] at hcs
    obtain ⟨rfl, rfl, rfl⟩ := hcs
    exact ⟨[], rfl, by simp, by simpa using Reads.none_, Nat.le_refl _, by unfold maxLen; omega⟩
  · simp [Value.cells] at hcs
    obtain ⟨rfl, rfl, rfl⟩ := hcs
    have hml : len ≤ m := by rw [hmm]; split <;> omega
    have h1 : ∀ i, i < len → ∃ cs : List Value, FitsAll ks cs ∧ ∀ j u, cs[j]? = some u → W.cell? ((a.add (i * ks.length)).add j) = some u := by
      intro i hil
      obtain ⟨cs', hc, ht'⟩ := hi i (by omega)
      obtain ⟨_, hcl, hat⟩ := World.cells?_some hc
      refine ⟨cs', trod_flat 9 e ks _ cs' _ hk hcl hC ht', fun j u hj => ?_⟩
      rw [← hC, hat j (by have := (List.getElem?_eq_some_iff.1 hj).1; omega)]
      exact hj
    obtain ⟨css, hcl, hq⟩ := choose_nat len h1
    have hfit : ∀ cs ∈ css, FitsAll ks cs := by
      intro cs hc
      obtain ⟨i, hi⟩ := List.getElem?_of_mem hc
      exact (hq i cs hi).1
    refine ⟨css, hcl, hfit, ⟨?_, fun hn => ⟨a, rfl, ?_, ?_⟩⟩, hl, hm⟩
    · rw [List.length_flatten, ← hcl]
      clear hq hcl
      induction css with
      | nil => simp
      | cons c css ih =>
        rw [List.map_cons, List.sum_cons, ih (fun x hx => hfit x (by simp [hx])), (hfit c (by simp)).length, List.length_cons, Nat.succ_mul]
        omega
    · obtain ⟨cs, hc⟩ : ∃ cs, css[0]? = some cs := ⟨_, List.getElem?_eq_getElem (by omega)⟩
      have hlen := (hq 0 cs hc).1.length
      have hcell := (hq 0 cs hc).2 0 (cs[0]'(by omega)) (List.getElem?_eq_getElem (by omega))
      have := World.block_lt_of_cell? _ _ hcell
      rwa [block_of_add, block_of_add] at this
    · intro j u hj
      obtain ⟨cs, h1, h2⟩ := flatten_at css (fun c hc => (hfit c hc).length) j u hj
      have := (hq _ _ h1).2 _ _ h2
      rw [add_of_add] at this
      rwa [show j / ks.length * ks.length + j % ks.length = j from by rw [Nat.mul_comm]; exact Nat.div_add_mod _ _] at this

theorem ret_int {k : IntKind} {a b : Int} (h : a = b) : Ending.returned (.int k a) = .returned (.int k b) := by rw [h]

end Go.Proofs.YtpecpodchkglkaaDoor

namespace Go.Proofs.YtpecpodchkglkaaDoor
open Go.RowKit

theorem cell_add {w : World} {X : Addr} {j : Nat} {u : Value} (h : w.cell? (X.add j) = some u) : w.cell? ⟨X.block, X.off + j, none⟩ = some u := by
  have hs := World.cell?_spot h
  have e : X.add j = ⟨X.block, X.off + j, none⟩ := by
    obtain ⟨b, o, s⟩ := X
    unfold Addr.add at hs ⊢
    by_cases hj : j = 0
    · subst hj
      simp at hs ⊢
      exact hs
    · simp [hj] at hs ⊢
      try exact hs
  rwa [e] at h

theorem flat_at {α : Type} {size : Nat} {f : α → List Value} (hf : ∀ x, (f x).length = size) : ∀ (l : List α) (k : Nat) (x : α) (j : Nat) (u : Value), l[k]? = some x → (f x)[j]? = some u → (l.flatMap f)[k * size + j]? = some u
  | [], k, x, j, u, h, _ => by simp at h
  | y :: l, 0, x, j, u, h, hu => by
    simp at h
    subst h
    rw [List.flatMap_cons, List.getElem?_append_left (by have := (List.getElem?_eq_some_iff.1 hu).1; omega), Nat.zero_mul, Nat.zero_add]
    exact hu
  | y :: l, k + 1, x, j, u, h, hu => by
    rw [List.flatMap_cons, List.getElem?_append_right (by rw [hf, Nat.succ_mul]; omega), hf, show (k + 1) * size + j - size = k * size + j from by rw [Nat.succ_mul]; omega]
    exact flat_at hf l k x j u (by simpa using h) hu

/-- Element k of a slice of structs, cell by cell, in the walk's own spelling. -/
theorem Reads.atS {w : World} {B n k size : Nat} {A : Option Addr} {α : Type} {l : List α} {f : α → List Value} (hf : ∀ x, (f x).length = size) (hz : l.length = n) (h : Reads w B size A n (l.flatMap f)) (hk : k < n) :
    ∃ ad x, A = some ad ∧ l[k]? = some x ∧ l.take (k + 1) = l.take k ++ [x] ∧ x ∈ l ∧ ad.block < B ∧ (∀ u, (f x)[0]? = some u → w.cell? (ad.add (k * size)) = some u) ∧
      ∀ j u, (f x)[j]? = some u → w.cell? ⟨(ad.add (k * size)).block, (ad.add (k * size)).off + j, none⟩ = some u := by
  obtain ⟨ad, rfl, hb, hc⟩ := h.2 (by omega)
  have hx : l[k]? = some (l[k]'(by omega)) := List.getElem?_eq_getElem (by omega)
  refine ⟨ad, l[k]'(by omega), rfl, hx, by rw [List.take_add_one, hx]; rfl, List.getElem_mem _, hb, fun u hu => ?_, fun j u hu => ?_⟩
  · have := hc _ u (flat_at hf l k _ 0 u hx hu)
    exact this
  · have := hc _ u (flat_at hf l k _ j u hx hu)
    rw [← add_of_add] at this
    exact cell_add this

theorem box1b {w w1 : World} {cs : List Value} {t : TypeId} {fr : Nat × Nat} {o : Obj} (hb : Below ((w.alloc (.cells cs.toArray t fr)).alloc o).heap.size ((w.alloc (.cells cs.toArray t fr)).alloc o) w1) :
    Below w.heap.size w w1 ∧ w.heap.size + 1 < w1.heap.size ∧ ∀ j u, cs[j]? = some u → w1.cell? ⟨w.heap.size, j, none⟩ = some u := by
  have hs := hb.size
  simp at hs
  refine ⟨below_step (((Below.refl _ _).alloc (Nat.le_refl _) _).alloc (by simp) _) hb, by omega, fun j u hj => cell_step hb ?_⟩
  rw [World.cell?_alloc_past _ _ _ (by simp)]
  have e := heap_alloc_new w (.cells cs.toArray t fr)
  unfold World.cell?
  simp only [e]
  simpa using hj
theorem step1 {w1 w2 : World} {o : Obj} (hb : Below (w1.alloc o).heap.size (w1.alloc o) w2) : Below w1.heap.size w1 w2 := below_step ((Below.refl _ _).alloc (Nat.le_refl _) _) hb

end Go.Proofs.YtpecpodchkglkaaDoor

namespace Go.Proofs.YtpecpodchkglkaaDoor
open Go.RowKit

theorem and1_u64 (x : Int) (h1 : 0 ≤ x) (h2 : x < 18446744073709551616) : bits .and .u64 x 1 = x % 2 := by
  rw [u64_and x 1 h1 h2 (by omega) (by omega)]
  rw [show (1 : Int).toNat = 1 from rfl, nat_mask1]
  omega

theorem or_u32 (x y : Int) (h1 : 0 ≤ x) (h2 : x < 65536) (h3 : 0 ≤ y) (h4 : y < 65536) : bits .or .u32 (x * 65536) y = x * 65536 + y := by
  rw [u32_or (x * 65536) y (by omega) (by omega) h3 (by omega), nat_join 16 _ _ (by omega) (by omega)]
  omega

theorem shr_range (x : Int) (k : Nat) (h1 : 0 ≤ x) (h2 : x < 18446744073709551616) : 0 ≤ x / 2 ^ k ∧ x / 2 ^ k < 18446744073709551616 := by
  have hp : (0 : Int) < 2 ^ k := Int.pow_pos (by omega)
  exact ⟨Int.ediv_nonneg h1 (by omega), Int.lt_of_le_of_lt (Int.ediv_le_self _ h1) h2⟩

theorem bit_wrap (x : Int) (k : Nat) (h1 : 0 ≤ x) (h2 : x < 18446744073709551616) : wrap64 (bits .and .u64 (x / 2 ^ k) 1) = x / 2 ^ k % 2 := by
  have h := shr_range x k h1 h2
  rw [and1_u64 _ h.1 h.2]
  unfold wrap64
  omega

theorem bit_wrap0 (x : Int) (h1 : 0 ≤ x) (h2 : x < 18446744073709551616) : wrap64 (bits .and .u64 x 1) = x % 2 := by
  rw [and1_u64 _ h1 h2]
  unfold wrap64
  omega

end Go.Proofs.YtpecpodchkglkaaDoor

namespace Go.Proofs.YtpecpodchkglkaaDoor
open Go.ChangeShapes Go.WideShapes Go.ChangeAt Go.RowKit

theorem ret_bool {a b : Bool} (h : a = b) : Ending.returned (.bool a) = .returned (.bool b) := by rw [h]

set_option maxHeartbeats 400000 in
theorem may_any (six : Bool) (hi lo : Int) (w : World) (h1 : 0 ≤ lo) :
    Calls Tryd.prog 39 #[.agg #[.bool six, .int .u64 hi, .int .u64 lo]] w fun e w' => e = .returned (.bool (mayB six hi lo)) ∧ Below w.heap.size w w' := by
  cases six
  · by_cases hh : hi = 0
    · subst hh
      go_enter Tryd.func39, Tryd.ntmps39
      go_wp2
      go_ret
      exact ⟨ret_bool (by simp only [mayB]; rw [Bool.eq_iff_iff]; simp; omega), (Below.refl _ _).alloc (Nat.le_refl _) _⟩
    · have hb : (hi == 0) = false := by simpa using hh
      go_enter Tryd.func39, Tryd.ntmps39
      go_wp2
      go_ret
      exact ⟨ret_bool (by simp [mayB, hh]), (Below.refl _ _).alloc (Nat.le_refl _) _⟩
  · go_enter Tryd.func39, Tryd.ntmps39
    go_wp2
    go_ret
    exact ⟨ret_bool (by simp [mayB]), (Below.refl _ _).alloc (Nat.le_refl _) _⟩

set_option maxHeartbeats 400000 in
theorem refMay_any (six : Bool) (hi lo : Int) (w : World) (h1 : 0 ≤ lo) :
    Calls Tryd.prog 41 #[.agg #[.bool six, .int .u64 hi, .int .u64 lo]] w fun e w' => e = .returned (.bool (mayB six hi lo)) ∧ Below w.heap.size w w' := by
  cases six
  · by_cases hh : hi = 0
    · subst hh
      go_enter Tryd.func41, Tryd.ntmps41
      go_wp2
      all_goals go_ret
      all_goals exact ⟨ret_bool (by simp only [mayB]; rw [Bool.eq_iff_iff]; simp; omega), (Below.refl _ _).alloc (Nat.le_refl _) _⟩
    · have hb : (hi == 0) = false := by simpa using hh
      go_enter Tryd.func41, Tryd.ntmps41
      go_wp2
      go_ret
      exact ⟨ret_bool (by simp [mayB, hh]), (Below.refl _ _).alloc (Nat.le_refl _) _⟩
  · go_enter Tryd.func41, Tryd.ntmps41
    go_wp2
    go_ret
    exact ⟨ret_bool (by simp [mayB]), (Below.refl _ _).alloc (Nat.le_refl _) _⟩

set_option maxRecDepth 100000 in
/-- An address that came in. -/
theorem open_addr {H : Type} {enc : TypeId × Value → H} {W : World} {base : Nat} {sp : Nat → Bool} {held : Bool} {b0 : Nat} {v : Value} {d : DataW H} {p : List MemPlace}
    (hv : Value.okWide Tryd.prog W .any b0 36 v) (h : DataW.Trod enc Tryd.prog W base sp held 36 v d p) :
    ∃ six hi lo, v = .agg #[.bool six, .int .u64 hi, .int .u64 lo] ∧ (0 ≤ hi ∧ hi < 18446744073709551616) ∧ (0 ≤ lo ∧ lo < 18446744073709551616) := by
  have hc : Tryd.prog.cellsOf 36 = 3 := by kernel_rfl
  have hk : flat Tryd.prog 9 36 = some [none, some .u64, some .u64] := by kernel_rfl
  obtain ⟨cs, rfl, hf⟩ := open_flat (fun fuel cs x hl hx => trod_flat 9 _ _ fuel cs x hk hl (by rw [hc]; rfl) hx) Tryd.underlying36 hv h
  obtain ⟨six, _, rfl, hf1⟩ := hf.bool_inv
  obtain ⟨hi, _, rfl, wy, hf2⟩ := hf1.int_inv
  obtain ⟨lo, _, rfl, wz, hf3⟩ := hf2.int_inv
  obtain rfl := hf3.nil_inv
  exact ⟨six, hi, lo, rfl, range_u64 wy, range_u64 wz⟩

end Go.Proofs.YtpecpodchkglkaaDoor

namespace Go.Proofs.YtpecpodchkglkaaDoor
open Go.ChangeShapes Go.WideShapes Go.ChangeAt Go.RowKit

theorem wide_any (six : Bool) (w : World) : Calls Tryd.prog 77 #[.bool six] w fun e w' => e = .returned (.int .i64 (wideI six)) ∧ w = w' := by
  cases six <;>
  · go_enter Tryd.func77, Tryd.ntmps77
    go_wp2
    go_ret
    exact ⟨rfl, rfl⟩

set_option maxHeartbeats 800000 in
theorem at_any (six : Bool) (hi lo i : Int) (w : World) (h1 : 0 ≤ hi ∧ hi < 18446744073709551616) (h2 : 0 ≤ lo ∧ lo < 18446744073709551616) (h3 : 0 ≤ i) (h4 : i < wideI six) :
    Calls Tryd.prog 130 #[.agg #[.bool six, .int .u64 hi, .int .u64 lo], .int .i64 i] w fun e w' => e = .returned (.int .i64 (bitI six hi lo i)) ∧ Below w.heap.size w w' := by
  cases six
  · have h5 : i < 32 := h4
    clear h4
    go_enter Tryd.func130, Tryd.ntmps130
    go_wp2
    go_ret
    exact ⟨ret_int (by rw [bit_wrap _ _ h2.1 h2.2]; simp [bitI]), (Below.refl _ _).alloc (Nat.le_refl _) _⟩
  · have h5 : i < 128 := h4
    clear h4
    by_cases h6 : i < 64
    · go_enter Tryd.func130, Tryd.ntmps130
      go_wp2
      go_ret
      exact ⟨ret_int (by rw [bit_wrap _ _ h1.1 h1.2]; simp [bitI, h6]), (Below.refl _ _).alloc (Nat.le_refl _) _⟩
    · go_enter Tryd.func130, Tryd.ntmps130
      go_wp2
      go_ret
      exact ⟨ret_int (by rw [bit_wrap _ _ h2.1 h2.2]; unfold bitI; rw [if_pos rfl, if_neg (by omega)]), (Below.refl _ _).alloc (Nat.le_refl _) _⟩

theorem infoInt : (Tryd.prog.info? 3).map (fun i => (i.zero, i.size, i.bytes)) = some (some (.int .i64 0), 1, 8) := by kernel_rfl

def bitsTo (f : Nat → Int) (k : Nat) : List Value := (List.range k).map fun j => Value.int .i64 (f j)
theorem bitsTo_succ (f : Nat → Int) (k : Nat) : bitsTo f (k + 1) = bitsTo f k ++ [Value.int .i64 (f k)] := by simp [bitsTo, List.range_succ]

theorem bits_four_eq (hi lo : Int) : (bitsL false hi lo).map (Value.int .i64) = bitsTo (fun j => lo / 2 ^ (31 - j) % 2) 32 := by
  unfold bitsL bitsTo
  rw [List.map_map]
  apply List.map_congr_left
  intro j hj
  have : j < 32 := by simpa [wideI] using hj
  show Value.int .i64 (bitI false hi lo j) = _
  unfold bitI
  rw [if_neg (by simp), show (31 - (j : Int)).toNat = 31 - j from by omega]

theorem bits_six_eq (hi lo : Int) : (bitsL true hi lo).map (Value.int .i64) = bitsTo (fun j => hi / 2 ^ (63 - j) % 2) 64 ++ bitsTo (fun j => lo / 2 ^ (63 - j) % 2) 64 := by
  have e : ∀ f : Nat → Int, bitsTo f 128 = bitsTo f 64 ++ bitsTo (fun j => f (64 + j)) 64 := by
    intro f
    unfold bitsTo
    rw [show (128 : Nat) = 64 + 64 from rfl, List.range_add, List.map_append, List.map_map]
    rfl
  have h1 : (bitsL true hi lo).map (Value.int .i64) = bitsTo (fun j => bitI true hi lo j) 128 := by
    unfold bitsL bitsTo
    rw [List.map_map]
    rfl
  rw [h1, e]
  refine congr (congrArg _ ?_) ?_
  · unfold bitsTo
    apply List.map_congr_left
    intro j hj
    have : j < 64 := by simpa using hj
    show Value.int .i64 (bitI true hi lo j) = _
    unfold bitI
    rw [if_pos rfl, if_pos (by omega), show (63 - (j : Int)).toNat = 63 - j from by omega]
  · unfold bitsTo
    apply List.map_congr_left
    intro j hj
    have : j < 64 := by simpa using hj
    show Value.int .i64 (bitI true hi lo ((64 + j : Nat) : Int)) = _
    unfold bitI
    rw [if_pos rfl, if_neg (by omega), show (127 - ((64 + j : Nat) : Int)).toNat = 63 - j from by omega]

def OwnBits (six : Bool) (hi lo : Int) (w : World) (e : Ending) (w' : World) : Prop :=
  ∃ v, e = .returned v ∧ w'.ownsRow (w.heap.size + 1) 3 1 v (wideI six).toNat ((bitsL six hi lo).map (Value.int .i64)) ∧ Below w.heap.size w w' ∧ w.heap.size < w'.heap.size

set_option maxHeartbeats 1000000 in
theorem bitsOf_four (hi lo : Int) (w : World) (h2 : 0 ≤ lo ∧ lo < 18446744073709551616) :
    Calls Tryd.prog 75 #[.agg #[.bool false, .int .u64 hi, .int .u64 lo]] w (OwnBits false hi lo w) := by
  go_enter Tryd.func75, Tryd.ntmps75
  go_wp2
  go_loopw [3, 6] (fun v i wr => ∃ k : Nat, k ≤ 32 ∧ i = .int .i64 (31 - k) ∧ wr.ownsRow (w.heap.size + 1) 3 1 v k (bitsTo (fun j => lo / 2 ^ (31 - j) % 2) k) ∧ Below (w.heap.size + 1) (w.alloc (.cells #[.bool false, .int .u64 hi, .int .u64 lo] 36)) wr)
    (fun _ i _ => (intOf i + 1).toNat)
  case atStart => exact ⟨0, by omega, rfl, World.ownsRow_nil _ _ _ _, Below.refl _ _⟩
  case round =>
    obtain ⟨k, hk, rfl, hown, hb⟩ := hrel
    have hc : wr.cell? ⟨w.heap.size, 2, none⟩ = some (.int .u64 lo) := box_cell (cs := [.bool false, .int .u64 hi, .int .u64 lo]) hb 2
    have hs := hb.size
    simp at hs
    by_cases hlt : k < 32
    · have hk1 : (0 : Int) ≤ 31 - (k : Int) := by omega
      go_wp2_with (at_builtin; go_loud (refine wpList_append_one rfl _ _ 41 rfl (w.heap.size + 1) (.int .i64 0) 1 8 Tryd.underlying41 infoInt rfl (by decide) _ _ _ rfl hown ?c1 rfl ?c2 rfl ?c3 ?c4 ?_))
      case c1 => omega
      case c2 => intro u hu; simp at hu; subst hu; rfl
      case c3 => unfold maxLen; omega
      case c4 => omega
      intro v' w' hown' hb' _
      have R : w'.ownsRow (w.heap.size + 1) 3 1 v' (k + 1) (bitsTo (fun j => lo / 2 ^ (31 - j) % 2) (k + 1)) := by
        rw [bitsTo_succ, ← bit_wrap _ _ h2.1 h2.2]
        exact hown'
      have B := hb.trans hb'
      clear hown' hb' hown hb hc
      go_wp2
      go_roundw
      case rel => exact ⟨k + 1, by omega, by go_num, R, B⟩
      case measure => simp [intOf]; omega
    · obtain rfl : k = 32 := by omega
      go_wp2
      go_ret
      exact ⟨_, rfl, by rw [bits_four_eq]; exact hown, below_box hb, by omega⟩

set_option maxHeartbeats 1000000 in
theorem bitsOf_six (hi lo : Int) (w : World) (h1 : 0 ≤ hi ∧ hi < 18446744073709551616) (h2 : 0 ≤ lo ∧ lo < 18446744073709551616) :
    Calls Tryd.prog 75 #[.agg #[.bool true, .int .u64 hi, .int .u64 lo]] w (OwnBits true hi lo w) := by
  go_enter Tryd.func75, Tryd.ntmps75
  go_wp2
  go_loopw [3, 4] (fun v i wr => ∃ k : Nat, k ≤ 64 ∧ i = .int .i64 (63 - k) ∧ wr.ownsRow (w.heap.size + 1) 3 1 v k (bitsTo (fun j => hi / 2 ^ (63 - j) % 2) k) ∧ Below (w.heap.size + 1) (w.alloc (.cells #[.bool true, .int .u64 hi, .int .u64 lo] 36)) wr)
    (fun _ i _ => (intOf i + 1).toNat)
  case atStart => exact ⟨0, by omega, rfl, World.ownsRow_nil _ _ _ _, Below.refl _ _⟩
  case round =>
    obtain ⟨k, hk, rfl, hown, hb⟩ := hrel
    have hc : wr.cell? ⟨w.heap.size, 1, none⟩ = some (.int .u64 hi) := box_cell (cs := [.bool true, .int .u64 hi, .int .u64 lo]) hb 1
    have hs := hb.size
    simp at hs
    by_cases hlt : k < 64
    · have hk1 : (0 : Int) ≤ 63 - (k : Int) := by omega
      go_wp2_with (at_builtin; go_loud (refine wpList_append_one rfl _ _ 41 rfl (w.heap.size + 1) (.int .i64 0) 1 8 Tryd.underlying41 infoInt rfl (by decide) _ _ _ rfl hown ?c1 rfl ?c2 rfl ?c3 ?c4 ?_))
      case c1 => omega
      case c2 => intro u hu; simp at hu; subst hu; rfl
      case c3 => unfold maxLen; omega
      case c4 => omega
      intro v' w' hown' hb' _
      have R : w'.ownsRow (w.heap.size + 1) 3 1 v' (k + 1) (bitsTo (fun j => hi / 2 ^ (63 - j) % 2) (k + 1)) := by
        rw [bitsTo_succ, ← bit_wrap _ _ h1.1 h1.2]
        exact hown'
      have B := hb.trans hb'
      clear hown' hb' hown hb hc
      go_wp2
      go_roundw
      case rel => exact ⟨k + 1, by omega, by go_num, R, B⟩
      case measure => simp [intOf]; omega
    · obtain rfl : k = 64 := by omega
      clear hc hs
      go_wp2
      obtain ⟨wo, rfl⟩ : ∃ wo : World, wo = wr := ⟨_, rfl⟩
      go_loopw [3, 5] (fun v i wr => ∃ k : Nat, k ≤ 64 ∧ i = .int .i64 (63 - k) ∧ wr.ownsRow (w.heap.size + 1) 3 1 v (64 + k) (bitsTo (fun j => hi / 2 ^ (63 - j) % 2) 64 ++ bitsTo (fun j => lo / 2 ^ (63 - j) % 2) k) ∧ Below (w.heap.size + 1) (w.alloc (.cells #[.bool true, .int .u64 hi, .int .u64 lo] 36)) wr)
        (fun _ i _ => (intOf i + 1).toNat)
      case atStart => exact ⟨0, by omega, rfl, by simpa [bitsTo] using hown, hb⟩
      case round =>
        obtain ⟨k, hk, rfl, hown, hb⟩ := hrel
        have hc : wr.cell? ⟨w.heap.size, 2, none⟩ = some (.int .u64 lo) := box_cell (cs := [.bool true, .int .u64 hi, .int .u64 lo]) hb 2
        have hs := hb.size
        simp at hs
        by_cases hlt : k < 64
        · have hk1 : (0 : Int) ≤ 63 - (k : Int) := by omega
          go_wp2_with (at_builtin; go_loud (refine wpList_append_one rfl _ _ 41 rfl (w.heap.size + 1) (.int .i64 0) 1 8 Tryd.underlying41 infoInt rfl (by decide) _ _ _ rfl hown ?c1 rfl ?c2 rfl ?c3 ?c4 ?_))
          case c1 => omega
          case c2 => intro u hu; simp at hu; subst hu; rfl
          case c3 => unfold maxLen; omega
          case c4 => omega
          intro v' w' hown' hb' _
          have R : w'.ownsRow (w.heap.size + 1) 3 1 v' (64 + (k + 1)) (bitsTo (fun j => hi / 2 ^ (63 - j) % 2) 64 ++ bitsTo (fun j => lo / 2 ^ (63 - j) % 2) (k + 1)) := by
            rw [bitsTo_succ _ k, ← bit_wrap _ _ h2.1 h2.2]
            exact hown'
          have B := hb.trans hb'
          clear hown' hb' hown hb hc
          go_wp2
          go_roundw
          case rel => first | exact ⟨k + 1, by omega, by go_num, R, B⟩ | ((repeat apply Exists.intro); exact ⟨⟨k + 1, by omega, by go_num, R, B⟩, rfl⟩)
          case measure => simp [intOf]; omega
        · obtain rfl : k = 64 := by omega
          go_wp2
          go_ret
          exact ⟨_, rfl, by rw [bits_six_eq]; exact hown, below_box hb, by omega⟩

theorem bitsOf_any (six : Bool) (hi lo : Int) (w : World) (h1 : 0 ≤ hi ∧ hi < 18446744073709551616) (h2 : 0 ≤ lo ∧ lo < 18446744073709551616) :
    Calls Tryd.prog 75 #[.agg #[.bool six, .int .u64 hi, .int .u64 lo]] w (OwnBits six hi lo w) := by
  cases six
  · exact bitsOf_four hi lo w h2
  · exact bitsOf_six hi lo w h1 h2
end Go.Proofs.YtpecpodchkglkaaDoor

namespace Go.Proofs.YtpecpodchkglkaaDoor
open Go.ChangeShapes Go.WideShapes Go.ChangeAt Go.RowKit

set_option maxHeartbeats 400000 in
theorem ones_any (n : Int) (w : World) (h1 : -1000 ≤ n) (h2 : n ≤ 1000) :
    Calls Tryd.prog 142 #[.int .i64 n] w fun e w' => e = .returned (.int .u64 (onesI n)) ∧ w = w' := by
  rcases (by omega : n ≤ 0 ∨ (0 < n ∧ n < 64) ∨ 64 ≤ n) with h | h | h
  · have e : onesI n = 0 := by unfold onesI; rw [if_pos h]
    rw [e]
    have h4 : n < 64 := by omega
    go_enter Tryd.func142, Tryd.ntmps142
    go_wp2
    all_goals go_ret
    all_goals exact ⟨ret_int (by simp [IntKind.wrap, IntKind.bits, IntKind.signed]), rfl⟩
  · have e : onesI n = IntKind.u64.wrap (18446744073709551615 * 2 ^ (64 - n).toNat) := by
      have := ones_wrap (64 - n).toNat (by omega)
      unfold onesI
      rw [if_neg (by omega), if_neg (by omega), ← this]
      simp [IntKind.wrap, IntKind.bits, IntKind.signed]
    rw [e]
    clear e
    have h3 := h.1
    have h4 := h.2
    clear h
    go_enter Tryd.func142, Tryd.ntmps142
    go_wp2
    all_goals go_ret
    all_goals exact ⟨rfl, rfl⟩
  · have e : onesI n = 18446744073709551615 := by unfold onesI; rw [if_neg (by omega), if_pos h]
    rw [e]
    go_enter Tryd.func142, Tryd.ntmps142
    go_wp2
    all_goals go_ret
    all_goals exact ⟨ret_int (by simp), rfl⟩

def maskHi (six : Bool) (n : Int) : Int := if six then onesI n else 0
def maskLo (six : Bool) (n : Int) : Int := if six then onesI (n - 64) else onesI n / 4294967296
theorem maskHi_range (six : Bool) (n : Int) : 0 ≤ maskHi six n ∧ maskHi six n < 18446744073709551616 := by
  unfold maskHi
  split
  · exact onesI_range n
  · omega
theorem maskLo_range (six : Bool) (n : Int) : 0 ≤ maskLo six n ∧ maskLo six n < 18446744073709551616 := by
  unfold maskLo
  split
  · exact onesI_range _
  · have := onesI_range n
    omega

theorem and_32 (x : Int) (h1 : 0 ≤ x) (h2 : x < 4294967296) : bits .and .u64 x 4294967295 = x := by
  rw [u64_and x _ h1 (by omega) (by omega) (by omega)]
  rw [show (4294967295 : Int).toNat = 2 ^ 32 - 1 from rfl, Nat.and_two_pow_sub_one_eq_mod, Nat.mod_eq_of_lt (by omega)]
  omega

set_option maxHeartbeats 400000 in
theorem mask_any (six : Bool) (n : Int) (w : World) (h1 : -500 ≤ n) (h2 : n ≤ 500) :
    Calls Tryd.prog 112 #[.bool six, .int .i64 n] w fun e w' => e = .returned (.tuple #[.int .u64 (maskHi six n), .int .u64 (maskLo six n)]) ∧ w = w' := by
  cases six
  · have hr := onesI_range n
    go_enter Tryd.func112, Tryd.ntmps112
    go_wp2_with (go_at_call 142; refine (ones_any _ _ (by omega) (by omega)).mono ?_; rintro e w' ⟨rfl, rfl⟩)
    go_ret2
    exact ⟨by rw [and_32 _ (by omega) (by omega)]; rfl, rfl⟩
  · go_enter Tryd.func112, Tryd.ntmps112
    go_wp2_with (go_at_call 142; refine (ones_any _ _ (by omega) (by omega)).mono ?_; rintro e w' ⟨rfl, rfl⟩)
    go_ret2
    exact ⟨rfl, rfl⟩

theorem and_hi (six : Bool) (hi n : Int) (h1 : 0 ≤ hi ∧ hi < 18446744073709551616) : bits .and .u64 hi (maskHi six n) = cutHi six hi n := by
  have hm := maskHi_range six n
  rw [u64_and _ _ h1.1 h1.2 hm.1 hm.2]
  unfold maskHi cutHi
  cases six
  · simp
  · exact and_ones_int hi n h1.1 h1.2

theorem and_lo (six : Bool) (lo n : Int) (h1 : 0 ≤ lo ∧ lo < 18446744073709551616) (h2 : six = false → lo < 4294967296) : bits .and .u64 lo (maskLo six n) = cutLo six lo n := by
  have hm := maskLo_range six n
  rw [u64_and _ _ h1.1 h1.2 hm.1 hm.2]
  unfold maskLo cutLo
  cases six
  · have h3 := h2 rfl
    have e := and_ones_int (lo * 4294967296) n (by omega) (by omega)
    rw [if_neg (by simp), if_neg (by simp), ← e]
    have hr := onesI_range n
    have e1 : (onesI n / 4294967296).toNat = (onesI n).toNat / 2 ^ 32 := by omega
    have e2 : lo.toNat = (lo * 4294967296).toNat / 2 ^ 32 := by omega
    rw [e1, e2, ← Nat.and_div_two_pow]
    omega
  · exact and_ones_int lo (n - 64) h1.1 h1.2

set_option maxHeartbeats 800000 in
theorem cut_any (six : Bool) (hi lo n : Int) (w : World) (h1 : 0 ≤ hi ∧ hi < 18446744073709551616) (h2 : 0 ≤ lo ∧ lo < 18446744073709551616) (h3 : six = false → lo < 4294967296) (h4 : -500 ≤ n) (h5 : n ≤ 500) :
    Calls Tryd.prog 78 #[.agg #[.bool six, .int .u64 hi, .int .u64 lo], .int .i64 n] w fun e w' => e = .returned (.agg #[.bool six, .int .u64 (cutHi six hi n), .int .u64 (cutLo six lo n)]) ∧ Below w.heap.size w w' := by
  rw [← and_hi six hi n h1, ← and_lo six lo n h2 h3]
  clear h3
  go_enter Tryd.func78, Tryd.ntmps78
  go_wp2_with (go_at_call 112; refine (mask_any six n _ (by omega) (by omega)).mono ?_; rintro e w' ⟨rfl, rfl⟩)
  exact bodyPost_ret (v := .agg #[.bool six, .int .u64 (bits .and .u64 hi (maskHi six n)), .int .u64 (bits .and .u64 lo (maskLo six n))]) (by simp [results, Tryd.results78, go_sem]) rfl
    ⟨rfl, ((Below.refl _ _).alloc (Nat.le_refl _) _).alloc (by simp) _⟩

end Go.Proofs.YtpecpodchkglkaaDoor

namespace Go.Proofs.YtpecpodchkglkaaDoor
open Go.ChangeShapes Go.WideShapes Go.ChangeAt Go.RowKit

set_option maxHeartbeats 1600000 in
theorem check_any (six : Bool) (hi lo n : Int) (w : World) (h1 : 0 ≤ hi ∧ hi < 18446744073709551616) (h2 : 0 ≤ lo ∧ lo < 18446744073709551616) :
    Calls Tryd.prog 48 #[.agg #[.bool six, .int .u64 hi, .int .u64 lo, .int .i64 n]] w fun e w' => e = .returned (.int .i64 (chk six hi lo n)) ∧ Below w.heap.size w w' := by
  unfold chk
  by_cases hm : mayB six hi lo = false
  · rw [if_pos hm]
    go_enter Tryd.func48, Tryd.ntmps48
    go_wp2_with (go_at_call 39; refine (may_any six hi lo _ h2.1).mono ?_; rintro e w1 ⟨rfl, hb⟩; obtain ⟨B1, S1, q0, q1, q2, q3⟩ := box4 hb; clear hb)
    go_ret
    exact ⟨rfl, B1⟩
  · rw [if_neg hm]
    have hm' : mayB six hi lo = true := by simpa using hm
    clear hm
    by_cases hr : n < 0
    · rw [if_pos (.inl hr)]
      go_enter Tryd.func48, Tryd.ntmps48
      go_wp2_with (go_at_call 39; refine (may_any six hi lo _ h2.1).mono ?_; rintro e w1 ⟨rfl, hb⟩; obtain ⟨B1, S1, q0, q1, q2, q3⟩ := box4 hb; clear hb)
      go_quiet ((go_at_call 77; refine (wide_any six _).mono ?_; rintro e w2 ⟨rfl, rfl⟩))
      go_wp2
      go_ret
      exact ⟨rfl, below_drewN B1 _⟩
    · have hl := wideI_le six
      have hd : decide (n < 0) = false := by simpa using hr
      by_cases hr2 : wideI six < n
      · rw [if_pos (.inr hr2)]
        go_enter Tryd.func48, Tryd.ntmps48
        go_wp2_with (go_at_call 39; refine (may_any six hi lo _ h2.1).mono ?_; rintro e w1 ⟨rfl, hb⟩; obtain ⟨B1, S1, q0, q1, q2, q3⟩ := box4 hb; clear hb)
        go_quiet ((go_at_call 77; exact Calls.quiet_of_same ((wide_any six _).mono fun e w' h => ⟨h.1, h.2.symm⟩)))
        go_wp2
        go_ret
        exact ⟨rfl, below_drewN B1 _⟩
      · rw [if_neg (by omega)]
        have hq : six = false → lo < 4294967296 := by
          rintro rfl
          exact (mayB_four hm').2
        have HQ := Lib.hid hq
        clear hq
        by_cases hc : cleanB six hi lo n = true
        · rw [if_pos hc]
          have e1 : cutHi six hi n = hi := by simp only [cleanB, Bool.and_eq_true, beq_iff_eq] at hc; exact hc.1
          have e2 : cutLo six lo n = lo := by simp only [cleanB, Bool.and_eq_true, beq_iff_eq] at hc; exact hc.2
          clear hc
          go_enter Tryd.func48, Tryd.ntmps48
          go_wp2_with (go_at_call 39; refine (may_any six hi lo _ h2.1).mono ?_; rintro e w1 ⟨rfl, hb⟩; obtain ⟨B1, S1, q0, q1, q2, q3⟩ := box4 hb; clear hb)
          go_quiet ((go_at_call 77; exact Calls.quiet_of_same ((wide_any six _).mono fun e w' h => ⟨h.1, h.2.symm⟩)))
          go_wp2_with fail
          go_region_held3 (fun w' => Below w.heap.size w w' ∧ w.heap.size < w'.heap.size ∧ w'.cell? ⟨w.heap.size, 0, none⟩ = some (.bool six) ∧ w'.cell? ⟨w.heap.size, 1, none⟩ = some (.int .u64 hi) ∧ w'.cell? ⟨w.heap.size, 2, none⟩ = some (.int .u64 lo) ∧ w'.cell? ⟨w.heap.size, 3, none⟩ = some (.int .i64 n))
            (((try go_split_ands); (repeat' apply And.intro) <;> first | assumption | exact (below_drewN B1 _).drew | exact below_step (by assumption) (by assumption) | exact cell_step (by assumption) (by assumption) | exact size_step (by assumption) (by assumption) | go_keep))
            (first | (go_at_call 78; refine (cut_any six hi lo n _ h1 h2 HQ.out (by omega) (by omega)).mono ?_; rintro e w' ⟨rfl, hb⟩))
          all_goals go_wp2
          all_goals go_ret
          all_goals (go_split_ands; exact ⟨by simp, by assumption⟩)
        · rw [if_neg hc]
          by_cases e1 : cutHi six hi n = hi
          · have e2 : ¬ cutLo six lo n = lo := by
              intro e2
              exact hc (by simp [cleanB, e1, e2])
            have e3 : (cutLo six lo n == lo) = false := by simpa using e2
            clear hc
            go_enter Tryd.func48, Tryd.ntmps48
            go_wp2_with (go_at_call 39; refine (may_any six hi lo _ h2.1).mono ?_; rintro e w1 ⟨rfl, hb⟩; obtain ⟨B1, S1, q0, q1, q2, q3⟩ := box4 hb; clear hb)
            go_quiet ((go_at_call 77; exact Calls.quiet_of_same ((wide_any six _).mono fun e w' h => ⟨h.1, h.2.symm⟩)))
            go_wp2_with fail
            go_region_held3 (fun w' => Below w.heap.size w w' ∧ w.heap.size < w'.heap.size ∧ w'.cell? ⟨w.heap.size, 0, none⟩ = some (.bool six) ∧ w'.cell? ⟨w.heap.size, 1, none⟩ = some (.int .u64 hi) ∧ w'.cell? ⟨w.heap.size, 2, none⟩ = some (.int .u64 lo) ∧ w'.cell? ⟨w.heap.size, 3, none⟩ = some (.int .i64 n))
              (((try go_split_ands); (repeat' apply And.intro) <;> first | assumption | exact (below_drewN B1 _).drew | exact below_step (by assumption) (by assumption) | exact cell_step (by assumption) (by assumption) | exact size_step (by assumption) (by assumption) | go_keep))
              (first | (go_at_call 78; refine (cut_any six hi lo n _ h1 h2 HQ.out (by omega) (by omega)).mono ?_; rintro e w' ⟨rfl, hb⟩))
            all_goals go_wp2
            all_goals go_ret
            all_goals (go_split_ands; exact ⟨by simp, by assumption⟩)
          · have e3 : (cutHi six hi n == hi) = false := by simpa using e1
            clear hc
            go_enter Tryd.func48, Tryd.ntmps48
            go_wp2_with (go_at_call 39; refine (may_any six hi lo _ h2.1).mono ?_; rintro e w1 ⟨rfl, hb⟩; obtain ⟨B1, S1, q0, q1, q2, q3⟩ := box4 hb; clear hb)
            go_quiet ((go_at_call 77; exact Calls.quiet_of_same ((wide_any six _).mono fun e w' h => ⟨h.1, h.2.symm⟩)))
            go_wp2_with fail
            go_region_held3 (fun w' => Below w.heap.size w w' ∧ w.heap.size < w'.heap.size ∧ w'.cell? ⟨w.heap.size, 0, none⟩ = some (.bool six) ∧ w'.cell? ⟨w.heap.size, 1, none⟩ = some (.int .u64 hi) ∧ w'.cell? ⟨w.heap.size, 2, none⟩ = some (.int .u64 lo) ∧ w'.cell? ⟨w.heap.size, 3, none⟩ = some (.int .i64 n))
              (((try go_split_ands); (repeat' apply And.intro) <;> first | assumption | exact (below_drewN B1 _).drew | exact below_step (by assumption) (by assumption) | exact cell_step (by assumption) (by assumption) | exact size_step (by assumption) (by assumption) | go_keep))
              (first | (go_at_call 78; refine (cut_any six hi lo n _ h1 h2 HQ.out (by omega) (by omega)).mono ?_; rintro e w' ⟨rfl, hb⟩))
            all_goals go_wp2
            all_goals go_ret
            all_goals (go_split_ands; exact ⟨by simp, by assumption⟩)

set_option maxRecDepth 100000 in
/-- A prefix that came in. -/
theorem open_prefix {H : Type} {enc : TypeId × Value → H} {W : World} {base : Nat} {sp : Nat → Bool} {held : Bool} {b0 : Nat} {v : Value} {d : DataW H} {p : List MemPlace}
    (hv : Value.okWide Tryd.prog W .any b0 38 v) (h : DataW.Trod enc Tryd.prog W base sp held 38 v d p) :
    ∃ six hi lo n, v = .agg #[.bool six, .int .u64 hi, .int .u64 lo, .int .i64 n] ∧ (0 ≤ hi ∧ hi < 18446744073709551616) ∧ (0 ≤ lo ∧ lo < 18446744073709551616) ∧ (-9223372036854775808 ≤ n ∧ n ≤ 9223372036854775807) := by
  have hc : Tryd.prog.cellsOf 38 = 4 := by kernel_rfl
  have hk : flat Tryd.prog 9 38 = some [none, some .u64, some .u64, some .i64] := by kernel_rfl
  obtain ⟨cs, rfl, hf⟩ := open_flat (fun fuel cs x hl hx => trod_flat 9 _ _ fuel cs x hk hl (by rw [hc]; rfl) hx) Tryd.underlying38 hv h
  obtain ⟨six, _, rfl, hf1⟩ := hf.bool_inv
  obtain ⟨hi, _, rfl, wy, hf2⟩ := hf1.int_inv
  obtain ⟨lo, _, rfl, wz, hf3⟩ := hf2.int_inv
  obtain ⟨n, _, rfl, wu, hf4⟩ := hf3.int_inv
  obtain rfl := hf4.nil_inv
  exact ⟨six, hi, lo, n, rfl, range_u64 wy, range_u64 wz, bounds_i64 wu⟩

end Go.Proofs.YtpecpodchkglkaaDoor
