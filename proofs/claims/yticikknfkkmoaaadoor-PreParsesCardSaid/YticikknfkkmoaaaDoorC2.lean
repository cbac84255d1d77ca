/-
  
  
  
-/
import Derived.Test.YticikknfkkmoaaaDoorC1
namespace Go.Proofs.YticikknfkkmoaaaDoor
set_option linter.unusedVariables false

/-- An address. -/
structure AV where
  six : Bool
  hi : Int
  lo : Int
structure AV.Ok (a : AV) : Prop where
  rhi : 0 ≤ a.hi ∧ a.hi < 18446744073709551616
  rlo : 0 ≤ a.lo ∧ a.lo < 18446744073709551616
  may : mayB a.six a.hi a.lo = true
def AV.v (a : AV) : Nat := (valI a.six a.hi a.lo).toNat
def widN (six : Bool) : Nat := if six then 128 else 32
theorem widN_eq (six : Bool) : wideI six = (widN six : Int) := by cases six <;> rfl
theorem topI_eq (six : Bool) : topI six = ((2 ^ widN six : Nat) : Int) := by cases six <;> decide

def PV.a (p : PV) : AV := ⟨p.six, p.hi, p.lo⟩
def PV.v (p : PV) : Nat := p.a.v
def PV.k (p : PV) : Nat := (wideI p.six - p.n).toNat
theorem PV.Ok.addr {p : PV} (h : p.Ok) : p.a.Ok := ⟨Pfx.rhi h, Pfx.rlo h, Pfx.may h⟩
theorem PV.k_le {p : PV} (h : p.Ok) : p.k ≤ widN p.six ∧ p.n = (widN p.six : Int) - p.k := by
  have := ok_n h
  unfold PV.k
  rw [widN_eq] at *
  omega

theorem AV.v_val {a : AV} (h : a.Ok) : (a.v : Int) = valI a.six a.hi a.lo := by
  have := (valI_range a.six a.hi a.lo h.rhi h.rlo h.may).1
  unfold AV.v
  omega
theorem AV.v_lt {a : AV} (h : a.Ok) : a.v < 2 ^ widN a.six := by
  have := (valI_range a.six a.hi a.lo h.rhi h.rlo h.may).2
  rw [← AV.v_val h, topI_eq] at this
  omega
theorem AV.bitN {a : AV} (h : a.Ok) {i : Nat} (hi : i < widN a.six) : bitI a.six a.hi a.lo i = ((a.v / 2 ^ (widN a.six - 1 - i) % 2 : Nat) : Int) := by
  rw [valI_bit a.six a.hi a.lo i h.rhi h.rlo (widN_eq a.six) hi, ← AV.v_val h]
  simp
theorem AV.ext' {a b : AV} (h1 : a.six = b.six) (h2 : a.hi = b.hi) (h3 : a.lo = b.lo) : a = b := by cases a; cases b; simp_all
instance : DecidableEq AV := fun a b => decidable_of_iff (a.six = b.six ∧ a.hi = b.hi ∧ a.lo = b.lo)
  ⟨fun h => AV.ext' h.1 h.2.1 h.2.2, fun h => by subst h; exact ⟨rfl, rfl, rfl⟩⟩
theorem AV.v_inj {a b : AV} (ha : a.Ok) (hb : b.Ok) (h6 : a.six = b.six) (h : a.v = b.v) : a = b := by
  have h1 := AV.v_val ha
  have h2 := AV.v_val hb
  rw [h, h2] at h1
  obtain ⟨s, x, y⟩ := a
  obtain ⟨s', x', y'⟩ := b
  simp only at h6
  subst h6
  have r1 := ha.rhi
  have r2 := ha.rlo
  have r3 := hb.rhi
  have r4 := hb.rlo
  simp only at r1 r2 r3 r4 h1
  unfold valI at h1
  cases s
  · simp only [Bool.false_eq_true, ↓reduceIte] at h1
    have m1 := mayB_four ha.may
    have m2 := mayB_four hb.may
    simp only at m1 m2
    rw [h1, m1.1, m2.1]
  · simp only [↓reduceIte] at h1
    have : x = x' := by omega
    have : y = y' := by omega
    simp_all

theorem nat_div_ext {x y m k : Nat} (hx : x < 2 ^ m) (hy : y < 2 ^ m) (h : ∀ j, k ≤ j → j < m → x / 2 ^ j % 2 = y / 2 ^ j % 2) : x / 2 ^ k = y / 2 ^ k := by
  apply Nat.eq_of_testBit_eq
  intro i
  rw [Nat.testBit_div_two_pow, Nat.testBit_div_two_pow]
  by_cases hi : i + k < m
  · have := h (i + k) (by omega) hi
    rw [Nat.testBit_eq_decide_div_mod_eq, Nat.testBit_eq_decide_div_mod_eq]
    try rw [Nat.add_comm k i]
    rw [this]
  · have hm : 2 ^ m ≤ 2 ^ (k + i) := Nat.pow_le_pow_right (by omega) (by omega)
    have e1 : x.testBit (k + i) = false := Nat.testBit_lt_two_pow (by omega)
    have e2 : y.testBit (k + i) = false := Nat.testBit_lt_two_pow (by omega)
    simp only [Nat.add_comm k i] at e1 e2
    first | rw [e1, e2] | (rw [Nat.add_comm i k] at e1 e2; rw [e1, e2])
theorem div_block {x y k : Nat} (hx : 2 ^ k ∣ x) : x / 2 ^ k = y / 2 ^ k ↔ x ≤ y ∧ y < x + 2 ^ k := by
  obtain ⟨c, rfl⟩ := hx
  have hp := Nat.two_pow_pos k
  rw [Nat.mul_div_cancel_left c hp]
  have h1 := Nat.div_add_mod y (2 ^ k)
  have h2 := Nat.mod_lt y hp
  constructor
  · intro h
    rw [← h] at h1
    omega
  · rintro ⟨a, b⟩
    have h3 : 2 ^ k * c < 2 ^ k * (y / 2 ^ k + 1) := by rw [Nat.mul_succ]; omega
    have h4 : 2 ^ k * (y / 2 ^ k) < 2 ^ k * (c + 1) := by rw [Nat.mul_succ]; omega
    have := Nat.lt_of_mul_lt_mul_left h3
    have := Nat.lt_of_mul_lt_mul_left h4
    omega

/-- No bit behind n: the number is a multiple. -/
theorem clean_num {a : AV} (h : a.Ok) {n : Nat} (hn : n ≤ widN a.six) : cleanB a.six a.hi a.lo n = true ↔ 2 ^ (widN a.six - n) ∣ a.v := by
  rw [clean_iff a.six a.hi a.lo n h.rhi h.rlo h.may (by rw [widN_eq]; omega)]
  constructor
  · intro hc
    rw [Nat.dvd_iff_mod_eq_zero]
    have h0 : a.v % 2 ^ (widN a.six - n) = 0 := by
      apply Nat.eq_of_testBit_eq
      intro j
      rw [Nat.testBit_mod_two_pow, Nat.zero_testBit]
      by_cases hj : j < widN a.six - n
      · have := hc (widN a.six - 1 - j) (by omega) (by rw [widN_eq]; omega)
        rw [AV.bitN h (by omega), show widN a.six - 1 - (widN a.six - 1 - j) = j from by omega] at this
        rw [Nat.testBit_eq_decide_div_mod_eq]
        simp only [Bool.and_eq_false_iff, decide_eq_false_iff_not]
        right
        omega
      · simp [hj]
    exact h0
  · rintro ⟨c, hc⟩ i h1 h2
    rw [widN_eq] at h2
    have h2' : i < widN a.six := by omega
    rw [AV.bitN h h2', hc]
    have : widN a.six - n = (widN a.six - 1 - i) + (i - n + 1) := by omega
    rw [this, Nat.pow_add, Nat.mul_assoc, Nat.mul_div_cancel_left _ (Nat.two_pow_pos _), Nat.pow_succ, Nat.mul_comm (2 ^ (i - n)) 2, Nat.mul_assoc]
    omega
theorem chk_num {p : PV} (h : p.a.Ok) (hn : 0 ≤ p.n ∧ p.n ≤ wideI p.six) : Go.Proofs.YticikknfkkmoaaaDoor.chk p.six p.hi p.lo p.n = 0 ↔ 2 ^ p.k ∣ p.v := by
  obtain ⟨n, hn'⟩ : ∃ n : Nat, p.n = n := ⟨p.n.toNat, by omega⟩
  have hm := h.may
  have hw := widN_eq p.six
  have he : p.k = widN p.six - n := by unfold PV.k; omega
  have hc := clean_num h (n := n) (by show n ≤ widN p.six; omega)
  unfold chk
  simp only [PV.a] at hm
  rw [if_neg (by rw [hm]; simp), if_neg (by omega), he, hn']
  simp only [PV.a] at hc
  constructor
  · intro hx
    by_cases hcl : cleanB p.six p.hi p.lo n = true
    · exact hc.1 hcl
    · rw [if_neg hcl] at hx; omega
  · intro hx
    rw [if_pos (hc.2 hx)]
theorem PV.dvd {p : PV} (h : p.Ok) : 2 ^ p.k ∣ p.v := by
  have hk := PV.k_le h
  have hn := ok_n h
  obtain ⟨n, hn'⟩ : ∃ n : Nat, p.n = n := ⟨p.n.toNat, by omega⟩
  have hc := Pfx.clean h
  have he : p.k = widN p.six - n := by have := widN_eq p.six; unfold PV.k; omega
  rw [he]
  refine (clean_num h.addr (n := n) (by have := widN_eq p.six; show n ≤ widN p.six; omega)).1 ?_
  rw [← hn']
  exact hc
theorem PV.end_le {p : PV} (h : p.Ok) : p.v + 2 ^ p.k ≤ 2 ^ widN p.six :=
  aligned_below (PV.dvd h) (Nat.dvd_refl _) (PV.k_le h).1 (AV.v_lt h.addr)

/-- An address of a prefix is a number of its block. -/
theorem in_num {p : PV} {a : AV} (hp : p.Ok) (ha : a.Ok) : inB p.six p.hi p.lo p.n a.six a.hi a.lo = true ↔ p.six = a.six ∧ p.v ≤ a.v ∧ a.v < p.v + 2 ^ p.k := by
  have hn := ok_n hp
  have hd := PV.dvd hp
  have hk := PV.k_le hp
  have hpv := AV.v_lt hp.addr
  have hav := AV.v_lt ha
  obtain ⟨n, hn'⟩ : ∃ n : Nat, p.n = n := ⟨p.n.toNat, by omega⟩
  have hw := widN_eq p.six
  by_cases h6 : p.six = a.six
  · have hp' : Pfx p.six p.hi p.lo n := by rw [← hn']; exact hp
    have key := inB_iff (hi' := a.hi) (lo' := a.lo) hp' ha.rhi ha.rlo (by rw [h6]; exact ha.may)
    rw [hn', ← h6, key, ← div_block hd]
    simp only [true_and]
    have b1 := fun i (hi : i < widN p.six) => AV.bitN hp.addr (i := i) hi
    have b2 := fun i (hi : i < widN a.six) => AV.bitN ha (i := i) hi
    rw [← h6] at b2 hav
    simp only [PV.a] at b1 hpv
    have he : p.k = widN p.six - n := by unfold PV.k; omega
    constructor
    · intro h
      rw [he]
      refine nat_div_ext hpv hav fun j h1 h2 => ?_
      have := h (widN p.six - 1 - j) (by omega)
      rw [b1 _ (by omega), b2 _ (by omega), show widN p.six - 1 - (widN p.six - 1 - j) = j from by omega] at this
      have e : (AV.mk p.six p.hi p.lo).v = p.v := rfl
      rw [e] at this
      exact_mod_cast this
    · intro h i hi
      rw [b1 _ (by omega), b2 _ (by omega)]
      have e : (AV.mk p.six p.hi p.lo).v = p.v := rfl
      rw [e]
      have e2 : ∀ x : Nat, x / 2 ^ (widN p.six - 1 - i) = x / 2 ^ p.k / 2 ^ (n - 1 - i) := by
        intro x
        rw [Nat.div_div_eq_div_mul, ← Nat.pow_add]
        congr 2
        omega
      rw [e2, e2, h]
  · constructor
    · intro h
      unfold inB at h
      simp at h
      exact absurd h.1.symm h6
    · rintro ⟨h, _⟩
      exact absurd h h6

theorem over_num {p q : PV} (hp : p.Ok) (hq : q.Ok) : p.over q = true ↔ p.six = q.six ∧ p.v ≤ q.v ∧ q.v + 2 ^ q.k ≤ p.v + 2 ^ p.k := by
  unfold PV.over overB
  rw [Bool.and_eq_true, decide_eq_true_eq]
  have hi := in_num hp hq.addr
  have e : q.a.v = q.v := rfl
  simp only [PV.a] at hi
  rw [hi]
  show p.n ≤ q.n ∧ p.six = q.six ∧ p.v ≤ q.v ∧ q.v < p.v + 2 ^ p.k ↔ _
  have k1 := PV.k_le hp
  have k2 := PV.k_le hq
  have d1 := PV.dvd hp
  have d2 := PV.dvd hq
  have pk := Nat.two_pow_pos q.k
  constructor
  · rintro ⟨hn, h6, h1, h2⟩
    refine ⟨h6, h1, ?_⟩
    have hkk : q.k ≤ p.k := by rw [h6] at k1; omega
    exact aligned_below d2 (Nat.dvd_add d1 (Nat.dvd_refl _)) hkk h2
  · rintro ⟨h6, h1, h2⟩
    refine ⟨?_, h6, h1, by omega⟩
    rw [h6] at k1
    have : q.k ≤ p.k := by
      apply Classical.byContradiction
      intro hc
      have := Nat.pow_lt_pow_right (a := 2) (by omega) (show p.k < q.k by omega)
      omega
    omega

def PV.last (p : PV) : AV := ⟨p.six, lastHi p.six p.hi p.lo p.n, lastLo p.six p.hi p.lo p.n⟩
theorem PV.last_ok (p : PV) : p.last.Ok := ⟨(last_range p.six p.hi p.lo p.n).1, (last_range p.six p.hi p.lo p.n).2.1, (last_range p.six p.hi p.lo p.n).2.2⟩
theorem last_num {p : PV} (hp : p.Ok) : p.last.v = p.v + 2 ^ p.k - 1 := by
  have hl := PV.last_ok p
  have hn := ok_n hp
  have hk := PV.k_le hp
  have hw := widN_eq p.six
  have hd := PV.dvd hp
  obtain ⟨n, hn'⟩ : ∃ n : Nat, p.n = n := ⟨p.n.toNat, by omega⟩
  have he : p.k = widN p.six - n := by unfold PV.k; omega
  have hlv := AV.v_lt hl
  have hpv := AV.v_lt hp.addr
  have bl := fun i (hi : i < widN p.six) => AV.bitN hl (i := i) hi
  have bp := fun i (hi : i < widN p.six) => AV.bitN hp.addr (i := i) hi
  simp only [PV.last] at bl
  simp only [PV.a] at bp
  have e0 : (AV.mk p.six p.hi p.lo).v = p.v := rfl
  have e1 : (AV.mk p.six (lastHi p.six p.hi p.lo p.n) (lastLo p.six p.hi p.lo p.n)).v = p.last.v := rfl
  have hpp := Nat.two_pow_pos p.k
  -- the upper parts are alike
  have hup : p.v / 2 ^ p.k = p.last.v / 2 ^ p.k := by
    refine nat_div_ext hpv hlv fun j h1 h2 => ?_
    have h2 : j < widN p.six := h2
    have hb := last_bit p.six p.hi p.lo p.n (widN p.six - 1 - j) (by omega)
    rw [if_pos (by omega), bl _ (by omega), bp _ (by omega), show widN p.six - 1 - (widN p.six - 1 - j) = j from by omega, e0, e1] at hb
    omega
  -- the lower parts are all ones
  have hlo : p.last.v % 2 ^ p.k = 2 ^ p.k - 1 := by
    apply Nat.eq_of_testBit_eq
    intro j
    rw [Nat.testBit_mod_two_pow, Nat.testBit_two_pow_sub_one]
    by_cases hj : j < p.k
    · have hb := last_bit p.six p.hi p.lo p.n (widN p.six - 1 - j) (by omega)
      rw [if_neg (by omega), bl _ (by omega), show widN p.six - 1 - (widN p.six - 1 - j) = j from by omega, e1] at hb
      rw [Nat.testBit_eq_decide_div_mod_eq]
      simp [hj]
      omega
    · simp [hj]
  have h1 := Nat.div_add_mod p.last.v (2 ^ p.k)
  rw [← hup, hlo, Nat.mul_div_cancel' hd] at h1
  omega

def PV.low (p : PV) : PV := ⟨p.six, p.hi, p.lo, p.n + 1⟩
def PV.high (p : PV) : PV := ⟨p.six, setHi p.six p.hi p.n.toNat, setLo p.six p.lo p.n.toNat, p.n + 1⟩
theorem low_num {p : PV} (hp : p.Ok) (hn : p.n < wideI p.six) : p.low.Ok ∧ p.low.v = p.v ∧ p.k = p.low.k + 1 := by
  have h := ok_n hp
  have hk : p.k = p.low.k + 1 := by unfold PV.k PV.low; simp only; omega
  refine ⟨?_, rfl, hk⟩
  have : Go.Proofs.YticikknfkkmoaaaDoor.chk p.low.six p.low.hi p.low.lo p.low.n = 0 := (chk_num (p := p.low) hp.addr ⟨by show 0 ≤ p.n + 1; omega, by show p.n + 1 ≤ wideI p.six; omega⟩).2 (pow_dvd_le (j := p.k) (PV.dvd hp) (by omega))
  exact chk_zero (Pfx.rhi hp) (Pfx.rlo hp) this
theorem high_num {p : PV} (hp : p.Ok) (hn : p.n < wideI p.six) : p.high.Ok ∧ p.high.v = p.v + 2 ^ p.high.k ∧ p.k = p.high.k + 1 := by
  have h := ok_n hp
  have hk : p.k = p.high.k + 1 := by unfold PV.k PV.high; simp only; omega
  have hw := widN_eq p.six
  obtain ⟨n, hn'⟩ : ∃ n : Nat, p.n = n := ⟨p.n.toNat, by omega⟩
  have hr := set_range p.six p.hi p.lo n (Pfx.rhi hp) (Pfx.rlo hp) (Pfx.may hp) (by omega)
  have ha : p.high.a.Ok := by
    have e : p.n.toNat = n := by omega
    unfold PV.high PV.a
    simp only [e]
    exact ⟨hr.1, hr.2.1, hr.2.2⟩
  have hd := PV.dvd hp
  have hpv := AV.v_lt hp.addr
  have hhv := AV.v_lt ha
  have bp := fun i (hi : i < widN p.six) => AV.bitN hp.addr (i := i) hi
  have bh := fun i (hi : i < widN p.six) => AV.bitN ha (i := i) hi
  have hs : ∀ i : Nat, i < widN p.six → p.high.v / 2 ^ (widN p.six - 1 - i) % 2 = if i = n then 1 else p.v / 2 ^ (widN p.six - 1 - i) % 2 := by
    intro i hi
    have hb := set_bit p.six p.hi p.lo n i (Pfx.rhi hp) (Pfx.rlo hp) (by omega) (by omega)
    have h1 := bp i hi
    have h2 := bh i hi
    have e : p.n.toNat = n := by omega
    simp only [PV.high, PV.a, e] at h2
    simp only [PV.a] at h1
    rw [h1, h2] at hb
    have e1 : (AV.mk p.six (setHi p.six p.hi n) (setLo p.six p.lo n)).v = p.high.v := by unfold PV.high PV.v PV.a; simp only [e]
    have e0 : (AV.mk p.six p.hi p.lo).v = p.v := rfl
    rw [e0, e1] at hb
    by_cases hin : i = n
    · rw [if_pos hin] at hb ⊢; omega
    · rw [if_neg hin] at hb ⊢; omega
  have hk2 : p.high.k = widN p.six - 1 - n := by unfold PV.k PV.high; simp only; omega
  have hval : p.high.v = p.v + 2 ^ p.high.k := by
    have hlt : p.v + 2 ^ p.k ≤ 2 ^ widN p.six := PV.end_le hp
    have he : 2 ^ p.k = 2 ^ p.high.k + 2 ^ p.high.k := by rw [hk, Nat.pow_succ]; omega
    have hpp := Nat.two_pow_pos p.high.k
    have hsum : p.v + 2 ^ p.high.k = p.v ||| 2 ^ p.high.k := by
      obtain ⟨c, hc⟩ := hd
      rw [hk] at hc
      have : 2 ^ p.high.k < 2 ^ (p.high.k + 1) := by rw [Nat.pow_succ]; omega
      rw [hc, Nat.two_pow_add_eq_or_of_lt this c]
    rw [hsum]
    apply Nat.eq_of_testBit_eq
    intro j
    rw [Nat.testBit_or, Nat.testBit_two_pow]
    by_cases hj : j < widN p.six
    · have hb := hs (widN p.six - 1 - j) (by omega)
      rw [show widN p.six - 1 - (widN p.six - 1 - j) = j from by omega] at hb
      rw [Nat.testBit_eq_decide_div_mod_eq, Nat.testBit_eq_decide_div_mod_eq, hb]
      by_cases hjk : p.high.k = j
      · rw [if_pos (by omega)]; simp [hjk]
      · rw [if_neg (by omega)]; simp [hjk]
    · have hm : 2 ^ widN p.six ≤ 2 ^ j := Nat.pow_le_pow_right (by omega) (by omega)
      have e1 : p.high.v.testBit j = false := Nat.testBit_lt_two_pow (Nat.lt_of_lt_of_le hhv hm)
      have e2 : p.v.testBit j = false := Nat.testBit_lt_two_pow (Nat.lt_of_lt_of_le hpv hm)
      rw [e1, e2]
      have : ¬ p.high.k = j := by omega
      simp [this]
  refine ⟨?_, hval, hk⟩
  have : Go.Proofs.YticikknfkkmoaaaDoor.chk p.high.six p.high.hi p.high.lo p.high.n = 0 := by
    refine (chk_num (p := p.high) ha ⟨by show 0 ≤ p.n + 1; omega, by show p.n + 1 ≤ wideI p.six; omega⟩).2 ?_
    rw [hval]
    exact Nat.dvd_add (pow_dvd_le hd (by omega)) (Nat.dvd_refl _)
  exact chk_zero ha.rhi ha.rlo this

/-- The prefix of an aligned block. -/
def ofBlk (six : Bool) (b : Nat × Nat) : PV := ⟨six, if six then ((b.1 / 18446744073709551616 : Nat) : Int) else 0, if six then ((b.1 % 18446744073709551616 : Nat) : Int) else (b.1 : Int), (widN six : Int) - b.2⟩
theorem ofBlk_self {p : PV} (hp : p.Ok) : ofBlk p.six (p.v, p.k) = p := by
  have hk := PV.k_le hp
  have hv := AV.v_val hp.addr
  have r1 := Pfx.rhi hp
  have r2 := Pfx.rlo hp
  have hm := Pfx.may hp
  have e : (p.a.v : Int) = (p.v : Int) := rfl
  rw [e] at hv
  obtain ⟨six, hi, lo, n⟩ := p
  unfold ofBlk
  simp only [PV.a] at hv hk r1 r2 hm ⊢
  unfold valI at hv
  cases six
  · have := mayB_four hm
    simp only [Bool.false_eq_true, ↓reduceIte] at hv ⊢
    exact PV.ext' rfl this.1.symm hv (by simp only; omega)
  · simp only [↓reduceIte] at hv ⊢
    exact PV.ext' rfl (by simp only; omega) (by simp only; omega) (by simp only; omega)

/-- One stands ahead of another of its family by its number. -/
def lessB (a b : AV) : Bool := if a.six = b.six then decide (a.hi < b.hi) || (decide (a.hi = b.hi) && decide (a.lo < b.lo)) else b.six
theorem less_num {a b : AV} (ha : a.Ok) (hb : b.Ok) (h6 : a.six = b.six) : lessB a b = true ↔ a.v < b.v := by
  have h1 := AV.v_val ha
  have h2 := AV.v_val hb
  have r1 := ha.rhi
  have r2 := ha.rlo
  have r3 := hb.rhi
  have r4 := hb.rlo
  have m1 := ha.may
  have m2 := hb.may
  unfold lessB
  rw [if_pos h6]
  simp only [Bool.or_eq_true, Bool.and_eq_true, decide_eq_true_eq]
  obtain ⟨s, x, y⟩ := a
  obtain ⟨s', x', y'⟩ := b
  simp only at *
  subst h6
  unfold valI at h1 h2
  cases s
  · have := mayB_four m1
    have := mayB_four m2
    simp only [Bool.false_eq_true, ↓reduceIte] at h1 h2
    omega
  · simp only [↓reduceIte] at h1 h2
    omega

def AV.plus (a : AV) (by' : Int) : AV := ⟨a.six, plusHi a.hi a.lo by', plusLo a.hi a.lo by'⟩
theorem up_num {a : AV} (ha : a.Ok) : (plusOk a.six a.hi a.lo 1 = true ↔ a.v + 1 < 2 ^ widN a.six) ∧ (plusOk a.six a.hi a.lo 1 = true → (a.plus 1).Ok ∧ (a.plus 1).v = a.v + 1) := by
  have h := plusOk_iff a.six a.hi a.lo 1 ha.rhi ha.rlo ha.may (by omega)
  have hv := AV.v_val ha
  rw [topI_eq, ← hv] at h
  constructor
  · rw [h]; omega
  · intro hok
    have hp := plus_val a.six a.hi a.lo 1 ha.rhi ha.rlo ha.may hok
    have hr := plus_range a.hi a.lo 1
    have hok2 : (a.plus 1).Ok := ⟨hr.1, hr.2, hp.2⟩
    refine ⟨hok2, ?_⟩
    have := AV.v_val hok2
    simp only [AV.plus] at this ⊢
    rw [hp.1] at this
    omega
theorem down_num {a : AV} (ha : a.Ok) (hv0 : 0 < a.v) : (a.plus (-1)).Ok ∧ (a.plus (-1)).v = a.v - 1 := by
  have h := plusOk_iff a.six a.hi a.lo (-1) ha.rhi ha.rlo ha.may (by omega)
  have hv := AV.v_val ha
  have hlt := AV.v_lt ha
  rw [topI_eq, ← hv] at h
  have hok := h.2 (by omega)
  have hp := plus_val a.six a.hi a.lo (-1) ha.rhi ha.rlo ha.may hok
  have hr := plus_range a.hi a.lo (-1)
  have hok2 : (a.plus (-1)).Ok := ⟨hr.1, hr.2, hp.2⟩
  refine ⟨hok2, ?_⟩
  have := AV.v_val hok2
  simp only [AV.plus] at this ⊢
  rw [hp.1] at this
  omega

end Go.Proofs.YticikknfkkmoaaaDoor

namespace Go.Proofs.YticikknfkkmoaaaDoor

/-- The j-th group of wd bits, of the first k of wid bits. -/
def gv (v wid wd k j : Nat) : Nat := v / 2 ^ (wid - min (wd * (j + 1)) k) % 2 ^ (min (wd * (j + 1)) k - wd * j)
def groups (v wid wd k : Nat) : List Int := (List.range ((k + wd - 1) / wd)).map fun j => (gv v wid wd k j : Int)
theorem groups_length (v wid wd k : Nat) : (groups v wid wd k).length = (k + wd - 1) / wd := by simp [groups]
theorem groups_get (v wid wd k j : Nat) (hj : j < (k + wd - 1) / wd) : (groups v wid wd k)[j]? = some (gv v wid wd k j : Int) := by
  unfold groups
  rw [List.getElem?_map, List.getElem?_range hj]
  rfl
theorem gv_lt (v wid wd k j : Nat) : gv v wid wd k j < 2 ^ wd := by
  unfold gv
  refine Nat.lt_of_lt_of_le (Nat.mod_lt _ (Nat.two_pow_pos _)) (Nat.pow_le_pow_right (by omega) ?_)
  have : wd * (j + 1) = wd * j + wd := by rw [Nat.mul_succ]
  omega
theorem mod_two_pow (x r : Nat) : x % 2 ^ (r + 1) = 2 * (x / 2 % 2 ^ r) + x % 2 := by
  rw [Nat.pow_succ, Nat.mul_comm (2 ^ r) 2, Nat.mod_mul]
  omega
/-- One bit more. -/
theorem groups_step (v wid wd k : Nat) (hw : 0 < wd) (hk : k < wid) :
    groups v wid wd (k + 1) = (if k % wd = 0 then groups v wid wd k ++ [((v / 2 ^ (wid - 1 - k) % 2 : Nat) : Int)] else (groups v wid wd k).set (k / wd) (2 * ((groups v wid wd k)[k / wd]?.getD 0) + ((v / 2 ^ (wid - 1 - k) % 2 : Nat) : Int))) := by
  have hdm := Nat.div_add_mod k wd
  have hr := Nat.mod_lt k hw
  obtain ⟨q, hq⟩ : ∃ q, k / wd = q := ⟨_, rfl⟩
  obtain ⟨r, hrr⟩ : ∃ r, k % wd = r := ⟨_, rfl⟩
  rw [hq, hrr] at hdm
  rw [hrr] at hr
  rw [hq, hrr]
  have hn1 : (k + 1 + wd - 1) / wd = q + 1 := by
    rw [show k + 1 + wd - 1 = r + wd * (q + 1) by rw [Nat.mul_succ]; omega, Nat.add_mul_div_left _ _ hw, Nat.div_eq_of_lt hr]
    omega
  have hmono : ∀ j, j < q → wd * (j + 1) ≤ wd * q := fun j hj => Nat.mul_le_mul_left _ hj
  have hold : ∀ j, j < q → gv v wid wd (k + 1) j = gv v wid wd k j := by
    intro j hj
    have := hmono j hj
    unfold gv
    rw [Nat.min_eq_left (by omega), Nat.min_eq_left (by omega)]
  by_cases h0 : r = 0
  · rw [if_pos h0]
    subst h0
    have hn0 : (k + wd - 1) / wd = q := by
      rw [show k + wd - 1 = (wd - 1) + wd * q by omega, Nat.add_mul_div_left _ _ hw, Nat.div_eq_of_lt (by omega)]
      omega
    unfold groups
    rw [hn1, hn0, List.range_succ, List.map_append]
    congr 1
    · exact List.map_congr_left fun j hj => by rw [hold j (List.mem_range.1 hj)]
    · show [((gv v wid wd (k + 1) q : Nat) : Int)] = _
      have e : gv v wid wd (k + 1) q = v / 2 ^ (wid - 1 - k) % 2 := by
        unfold gv
        rw [Nat.min_eq_right (by rw [Nat.mul_succ]; omega), show k + 1 - wd * q = 1 by omega, show wid - (k + 1) = wid - 1 - k by omega]
      rw [e]
  · rw [if_neg h0]
    have hn0 : (k + wd - 1) / wd = q + 1 := by
      rw [show k + wd - 1 = (r - 1) + wd * (q + 1) by rw [Nat.mul_succ]; omega, Nat.add_mul_div_left _ _ hw, Nat.div_eq_of_lt (by omega)]
      omega
    have hlast : gv v wid wd (k + 1) q = 2 * gv v wid wd k q + v / 2 ^ (wid - 1 - k) % 2 := by
      unfold gv
      have hs : wd * (q + 1) = wd * q + wd := by rw [Nat.mul_succ]
      rw [Nat.min_eq_right (by omega), Nat.min_eq_right (by omega), show k + 1 - wd * q = r + 1 by omega, show k - wd * q = r by omega, show wid - (k + 1) = wid - 1 - k by omega, mod_two_pow]
      rw [Nat.div_div_eq_div_mul, ← Nat.pow_succ, show (wid - 1 - k).succ = wid - k by omega]
    rw [groups_get v wid wd k q (by omega)]
    apply List.ext_getElem?
    intro j
    by_cases hj : j < q + 1
    · rw [groups_get v wid wd (k + 1) j (by omega), List.getElem?_set]
      by_cases hjq : q = j
      · subst hjq
        rw [if_pos rfl, if_pos (by rw [groups_length]; omega), hlast]
        simp
      · rw [if_neg hjq, groups_get v wid wd k j (by omega), hold j (by omega)]
    · rw [List.getElem?_eq_none (by rw [groups_length]; omega), List.getElem?_eq_none (by rw [List.length_set, groups_length]; omega)]

/-- An octet of an address. -/
def octN (a : AV) (i : Nat) : Nat := a.v / 2 ^ (widN a.six - 8 - 8 * i) % 256
theorem gv_oct (a : AV) (i : Nat) (hi : 8 * i + 8 ≤ widN a.six) : gv a.v (widN a.six) 8 (widN a.six) i = octN a i := by
  unfold gv octN
  rw [Nat.min_eq_left (by omega), show 8 * (i + 1) - 8 * i = 8 by omega, show widN a.six - 8 * (i + 1) = widN a.six - 8 - 8 * i by omega]

theorem oct_four (hi lo : Int) (i : Nat) (h : 0 ≤ lo) : lo / 2 ^ (24 - 8 * i) % 256 = (octN ⟨false, hi, lo⟩ i : Int) := by
  obtain ⟨l, rfl⟩ : ∃ l : Nat, lo = l := ⟨lo.toNat, by omega⟩
  have e : octN ⟨false, hi, (l : Int)⟩ i = l / 2 ^ (24 - 8 * i) % 256 := by
    unfold octN AV.v valI widN
    simp
  rw [e, Int.natCast_emod, Int.natCast_ediv, Int.natCast_pow]
  rfl
theorem six_v (h l : Nat) : AV.v ⟨true, (h : Int), (l : Int)⟩ = h * 18446744073709551616 + l := by
  unfold AV.v valI
  simp
  omega
theorem oct_high (hi lo : Int) (i : Nat) (h : 0 ≤ hi) (h2 : 0 ≤ lo ∧ lo < 18446744073709551616) (hi8 : i < 8) : hi / 2 ^ (56 - 8 * i) % 256 = (octN ⟨true, hi, lo⟩ i : Int) := by
  obtain ⟨g, rfl⟩ : ∃ g : Nat, hi = g := ⟨hi.toNat, by omega⟩
  obtain ⟨l, rfl⟩ : ∃ l : Nat, lo = l := ⟨lo.toNat, by omega⟩
  have e : octN ⟨true, (g : Int), (l : Int)⟩ i = g / 2 ^ (56 - 8 * i) % 256 := by
    unfold octN
    rw [six_v, show widN (⟨true, (g : Int), (l : Int)⟩ : AV).six - 8 - 8 * i = 64 + (56 - 8 * i) by simp [widN]; omega, Nat.pow_add, ← Nat.div_div_eq_div_mul]
    congr 2
    rw [show (2 : Nat) ^ 64 = 18446744073709551616 by decide]
    omega
  rw [e, Int.natCast_emod, Int.natCast_ediv, Int.natCast_pow]
  rfl
theorem oct_low (hi lo : Int) (i : Nat) (h : 0 ≤ hi) (h2 : 0 ≤ lo) (hi8 : 8 ≤ i) (hi16 : i < 16) : lo / 2 ^ (120 - 8 * i) % 256 = (octN ⟨true, hi, lo⟩ i : Int) := by
  obtain ⟨g, rfl⟩ : ∃ g : Nat, hi = g := ⟨hi.toNat, by omega⟩
  obtain ⟨l, rfl⟩ : ∃ l : Nat, lo = l := ⟨lo.toNat, by omega⟩
  have e : octN ⟨true, (g : Int), (l : Int)⟩ i = l / 2 ^ (120 - 8 * i) % 256 := by
    unfold octN
    rw [six_v, show widN (⟨true, (g : Int), (l : Int)⟩ : AV).six - 8 - 8 * i = 120 - 8 * i by simp [widN]]
    obtain ⟨s, hs⟩ : ∃ s, 120 - 8 * i = s := ⟨_, rfl⟩
    obtain ⟨t, ht⟩ : ∃ t, 56 - s = t := ⟨_, rfl⟩
    rw [hs]
    have e2 : (18446744073709551616 : Nat) = 2 ^ s * (2 ^ t * 256) := by
      rw [show (256 : Nat) = 2 ^ 8 by decide, ← Nat.pow_add, ← Nat.pow_add, show s + (t + 8) = 64 by omega]
    rw [e2, show g * (2 ^ s * (2 ^ t * 256)) + l = l + 2 ^ s * (g * 2 ^ t * 256) by rw [Nat.add_comm]; congr 1; rw [Nat.mul_left_comm, Nat.mul_assoc], Nat.add_mul_div_left _ _ (Nat.two_pow_pos s), Nat.add_mul_mod_self_right]
  rw [e, Int.natCast_emod, Int.natCast_ediv, Int.natCast_pow]
  rfl

end Go.Proofs.YticikknfkkmoaaaDoor

namespace Go.Proofs.YticikknfkkmoaaaDoor

/-- A numeral to a base, without a needless 0. -/
def digB (d : Nat) : UInt8 := UInt8.ofNat (if d < 10 then 48 + d else 87 + d)
def numT (base n : Nat) : List UInt8 := if _h : n < base ∨ base < 2 then [digB n] else numT base (n / base) ++ [digB (n % base)]
termination_by n
decreasing_by exact Nat.div_lt_self (by omega) (by omega)
theorem numT_small {base n : Nat} (h : n < base) : numT base n = [digB n] := by rw [numT]; simp [h]
theorem numT_step {base n : Nat} (h : ¬ n < base) (h2 : 2 ≤ base) : numT base n = numT base (n / base) ++ [digB (n % base)] := by rw [numT]; rw [dif_neg (by omega)]
theorem numT_length (base : Nat) (hb : 2 ≤ base) : ∀ (k n : Nat), n < base ^ k → (numT base n).length ≤ max k 1
  | 0, n, h => by rw [numT_small (by rw [Nat.pow_zero] at h; omega)]; exact Nat.le_max_right _ _
  | k + 1, n, h => by
    by_cases hn : n < base
    · rw [numT_small hn]; exact Nat.le_max_right _ _
    · rw [numT_step hn hb, List.length_append]
      have := numT_length base hb k (n / base) (by rw [Nat.div_lt_iff_lt_mul (by omega), ← Nat.pow_succ]; exact h)
      simp only [List.length_cons, List.length_nil]
      have hk : 1 ≤ k := by
        rcases k with _ | k
        · exact absurd (by simpa using h) hn
        · omega
      omega
/-- How many zeros stand from a place on. -/
def zerosAt (g : List Int) (i : Nat) : Nat := ((g.drop i).takeWhile (· == 0)).length
theorem zerosAt_le (g : List Int) (i : Nat) : zerosAt g i ≤ g.length - i := by
  unfold zerosAt
  refine Nat.le_trans (List.takeWhile_sublist _).length_le ?_
  rw [List.length_drop]
  exact Nat.le_refl _
/-- The longest run so far, as the program keeps it: from where, and how many. -/
def runP (g : List Int) : Nat → Nat × Nat
  | 0 => (0, 0)
  | i + 1 => if (runP g i).2 < zerosAt g i then (i, zerosAt g i) else runP g i
/-- As the reference keeps it. -/
def runR (g : List Int) : Nat → Int × Nat
  | 0 => (-1, 1)
  | i + 1 => if (runR g i).2 < zerosAt g i then ((i : Int), zerosAt g i) else runR g i
theorem runs_same (g : List Int) : ∀ i, (runP g i).2 ≤ (runR g i).2 ∧ ((2 ≤ (runP g i).2 → (runR g i) = (((runP g i).1 : Int), (runP g i).2)) ∧ ((runP g i).2 < 2 → runR g i = (-1, 1)))
  | 0 => ⟨by simp [runP, runR], by simp [runP], fun _ => rfl⟩
  | i + 1 => by
    obtain ⟨h0, h1, h2⟩ := runs_same g i
    unfold runP runR
    by_cases c1 : (runP g i).2 < zerosAt g i
    · rw [if_pos c1]
      by_cases c2 : (runR g i).2 < zerosAt g i
      · rw [if_pos c2]
        refine ⟨Nat.le_refl _, fun _ => rfl, fun h => ?_⟩
        by_cases c3 : 2 ≤ (runP g i).2
        · simp only at h; omega
        · have := h2 (by omega)
          rw [this] at c2
          simp only at h c2; omega
      · rw [if_neg c2]
        refine ⟨by simp only; omega, fun h => ?_, fun h => ?_⟩
        · by_cases c3 : 2 ≤ (runP g i).2
          · have := h1 c3
            rw [this] at c2
            simp only at c2; omega
          · have := h2 (by omega)
            rw [this] at c2
            simp only at h c2; omega
        · exact h2 (by simp only at h; omega)
    · rw [if_neg c1]
      by_cases c2 : (runR g i).2 < zerosAt g i
      · omega
      · rw [if_neg c2]
        exact ⟨h0, h1, h2⟩
/-- Texts with a sign between. -/
def joinT (s : UInt8) : List (List UInt8) → List UInt8
  | [] => []
  | [x] => x
  | x :: y :: l => x ++ [s] ++ joinT s (y :: l)
theorem joinT_snoc (s : UInt8) : ∀ (l : List (List UInt8)) (x : List UInt8), l ≠ [] → joinT s (l ++ [x]) = joinT s l ++ [s] ++ x
  | [], _, h => absurd rfl h
  | [y], x, _ => rfl
  | y :: z :: l, x, _ => by
    show y ++ [s] ++ joinT s ((z :: l) ++ [x]) = _
    rw [joinT_snoc s (z :: l) x (by simp)]
    simp [joinT]
/-- The text of groups: a run of zeros is left out. -/
def hexT (g : List Int) : List UInt8 := joinT 58 (g.map fun x => numT 16 x.toNat)
def sixT (g : List Int) (from_ many : Nat) : List UInt8 := if many < 2 then hexT g else hexT (g.take from_) ++ [58, 58] ++ hexT (g.drop (from_ + many))
def fourT (g : List Int) : List UInt8 := joinT 46 (g.map fun x => numT 10 x.toNat)

end Go.Proofs.YticikknfkkmoaaaDoor
