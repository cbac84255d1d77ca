/-
  
  
  
  
  
  
  
  
-/
import Derived.Test.YtmljdjakbbedlaaC3
import Derived.Test.YtmljdjakbbedlaaChecked
import Derived.Test.YtmljdjakbbedlaaC1
import Derived.Test.YtmljdjakbbedlaaC2
namespace Go.Proofs.Ytmljdjakbbedlaa

/-- The j-th group of wd bits, of the first k of wid bits. -/
def gv (v wid wd k j : Nat) : Nat := v / 2 ^ (wid - min (wd * (j + 1)) k) % 2 ^ (min (wd * (j + 1)) k - wd * j)
def groups (v wid wd k : Nat) : List Int := (List.range ((k + wd - 1) / wd)).map fun j => (gv v wid wd k j : Int)
theorem groups_length (v wid wd k : Nat) : (groups v wid wd k).length = (k + wd - 1) / wd := by simp [groups]
theorem groups_get (v wid wd k j : Nat) (hj : j < (k + wd - 1) / wd) : (groups v wid wd k)[j]? = some (gv v wid wd k j : Int) := by
  unfold groups
  rw [List.getElem?_map, List.getElem?_range hj]
  rfl
theorem gv_lt (v wid wd k j : Nat) : gv v wid wd k j < 2 ^ wd := by
  unfold gv
  refine Nat.lt_of_lt_of_le (Nat.mod_lt _ (Nat.two_pow_pos _)) (Nat.pow_le_pow_right (by omega) ?_)
  have : wd * (j + 1) = wd * j + wd := by rw [Nat.mul_succ]
  omega
theorem mod_two_pow (x r : Nat) : x % 2 ^ (r + 1) = 2 * (x / 2 % 2 ^ r) + x % 2 := by
  rw [Nat.pow_succ, Nat.mul_comm (2 ^ r) 2, Nat.mod_mul]
  omega
/-- One bit more. -/
theorem groups_step (v wid wd k : Nat) (hw : 0 < wd) (hk : k < wid) :
    groups v wid wd (k + 1) = (if k % wd = 0 then groups v wid wd k ++ [((v / 2 ^ (wid - 1 - k) % 2 : Nat) : Int)] else (groups v wid wd k).set (k / wd) (2 * ((groups v wid wd k)[k / wd]?.getD 0) + ((v / 2 ^ (wid - 1 - k) % 2 : Nat) : Int))) := by
  have hdm := Nat.div_add_mod k wd
  have hr := Nat.mod_lt k hw
  obtain ⟨q, hq⟩ : ∃ q, k / wd = q := ⟨_, rfl⟩
  obtain ⟨r, hrr⟩ : ∃ r, k % wd = r := ⟨_, rfl⟩
  rw [hq, hrr] at hdm
  rw [hrr] at hr
  rw [hq, hrr]
  have hn1 : (k + 1 + wd - 1) / wd = q + 1 := by
    rw [show k + 1 + wd - 1 = r + wd * (q + 1) by rw [Nat.mul_succ]; omega, Nat.add_mul_div_left _ _ hw, Nat.div_eq_of_lt hr]
    omega
  have hmono : ∀ j, j < q → wd * (j + 1) ≤ wd * q := fun j hj => Nat.mul_le_mul_left _ hj
  have hold : ∀ j, j < q → gv v wid wd (k + 1) j = gv v wid wd k j := by
    intro j hj
    have := hmono j hj
    unfold gv
    rw [Nat.min_eq_left (by omega), Nat.min_eq_left (by omega)]
  by_cases h0 : r = 0
  · rw [if_pos h0]
    subst h0
    have hn0 : (k + wd - 1) / wd = q := by
      rw [show k + wd - 1 = (wd - 1) + wd * q by omega, Nat.add_mul_div_left _ _ hw, Nat.div_eq_of_lt (by omega)]
      omega
    unfold groups
    rw [hn1, hn0, List.range_succ, List.map_append]
    congr 1
    · exact List.map_congr_left fun j hj => by rw [hold j (List.mem_range.1 hj)]
    · show [((gv v wid wd (k + 1) q : Nat) : Int)] = _
      have e : gv v wid wd (k + 1) q = v / 2 ^ (wid - 1 - k) % 2 := by
        unfold gv
        rw [Nat.min_eq_right (by rw [Nat.mul_succ]; omega), show k + 1 - wd * q = 1 by omega, show wid - (k + 1) = wid - 1 - k by omega]
      rw [e]
  · rw [if_neg h0]
    have hn0 : (k + wd - 1) / wd = q + 1 := by
      rw [show k + wd - 1 = (r - 1) + wd * (q + 1) by rw [Nat.mul_succ]; omega, Nat.add_mul_div_left _ _ hw, Nat.div_eq_of_lt (by omega)]
      omega
    have hlast : gv v wid wd (k + 1) q = 2 * gv v wid wd k q + v / 2 ^ (wid - 1 - k) % 2 := by
      unfold gv
      have hs : wd * (q + 1) = wd * q + wd := by rw [Nat.mul_succ]
      rw [Nat.min_eq_right (by omega), Nat.min_eq_right (by omega), show k + 1 - wd * q = r + 1 by omega, show k - wd * q = r by omega, show wid - (k + 1) = wid - 1 - k by omega, mod_two_pow]
      rw [Nat.div_div_eq_div_mul, ← Nat.pow_succ, show (wid - 1 - k).succ = wid - k by omega]
    rw [groups_get v wid wd k q (by omega)]
    apply List.ext_getElem?
    intro j
    by_cases hj : j < q + 1
    · rw [groups_get v wid wd (k + 1) j (by omega), List.getElem?_set]
      by_cases hjq : q = j
      · subst hjq
        rw [if_pos rfl, if_pos (by rw [groups_length]; omega), hlast]
        simp
      · rw [if_neg hjq, groups_get v wid wd k j (by omega), hold j (by omega)]
    · rw [List.getElem?_eq_none (by rw [groups_length]; omega), List.getElem?_eq_none (by rw [List.length_set, groups_length]; omega)]

/-- An octet of an address. -/
def octN (a : AV) (i : Nat) : Nat := a.v / 2 ^ (widN a.six - 8 - 8 * i) % 256
theorem gv_oct (a : AV) (i : Nat) (hi : 8 * i + 8 ≤ widN a.six) : gv a.v (widN a.six) 8 (widN a.six) i = octN a i := by
  unfold gv octN
  rw [Nat.min_eq_left (by omega), show 8 * (i + 1) - 8 * i = 8 by omega, show widN a.six - 8 * (i + 1) = widN a.six - 8 - 8 * i by omega]

theorem oct_four (hi lo : Int) (i : Nat) (h : 0 ≤ lo) : lo / 2 ^ (24 - 8 * i) % 256 = (octN ⟨false, hi, lo⟩ i : Int) := by
  obtain ⟨l, rfl⟩ : ∃ l : Nat, lo = l := ⟨lo.toNat, by omega⟩
  have e : octN ⟨false, hi, (l : Int)⟩ i = l / 2 ^ (24 - 8 * i) % 256 := by
    unfold octN AV.v valI widN
    simp
  rw [e, Int.natCast_emod, Int.natCast_ediv, Int.natCast_pow]
  rfl
theorem six_v (h l : Nat) : AV.v ⟨true, (h : Int), (l : Int)⟩ = h * 18446744073709551616 + l := by
  unfold AV.v valI
  simp
  omega
theorem oct_high (hi lo : Int) (i : Nat) (h : 0 ≤ hi) (h2 : 0 ≤ lo ∧ lo < 18446744073709551616) (hi8 : i < 8) : hi / 2 ^ (56 - 8 * i) % 256 = (octN ⟨true, hi, lo⟩ i : Int) := by
  obtain ⟨g, rfl⟩ : ∃ g : Nat, hi = g := ⟨hi.toNat, by omega⟩
  obtain ⟨l, rfl⟩ : ∃ l : Nat, lo = l := ⟨lo.toNat, by omega⟩
  have e : octN ⟨true, (g : Int), (l : Int)⟩ i = g / 2 ^ (56 - 8 * i) % 256 := by
    unfold octN
    rw [six_v, show widN (⟨true, (g : Int), (l : Int)⟩ : AV).six - 8 - 8 * i = 64 + (56 - 8 * i) by simp [widN]; omega, Nat.pow_add, ← Nat.div_div_eq_div_mul]
    congr 2
    rw [show (2 : Nat) ^ 64 = 18446744073709551616 by decide]
    omega
  rw [e, Int.natCast_emod, Int.natCast_ediv, Int.natCast_pow]
  rfl
theorem oct_low (hi lo : Int) (i : Nat) (h : 0 ≤ hi) (h2 : 0 ≤ lo) (hi8 : 8 ≤ i) (hi16 : i < 16) : lo / 2 ^ (120 - 8 * i) % 256 = (octN ⟨true, hi, lo⟩ i : Int) := by
  obtain ⟨g, rfl⟩ : ∃ g : Nat, hi = g := ⟨hi.toNat, by omega⟩
  obtain ⟨l, rfl⟩ : ∃ l : Nat, lo = l := ⟨lo.toNat, by omega⟩
  have e : octN ⟨true, (g : Int), (l : Int)⟩ i = l / 2 ^ (120 - 8 * i) % 256 := by
    unfold octN
    rw [six_v, show widN (⟨true, (g : Int), (l : Int)⟩ : AV).six - 8 - 8 * i = 120 - 8 * i by simp [widN]]
    obtain ⟨s, hs⟩ : ∃ s, 120 - 8 * i = s := ⟨_, rfl⟩
    obtain ⟨t, ht⟩ : ∃ t, 56 - s = t := ⟨_, rfl⟩
    rw [hs]
    have e2 : (18446744073709551616 : Nat) = 2 ^ s * (2 ^ t * 256) := by
      rw [show (256 : Nat) = 2 ^ 8 by decide, ← Nat.pow_add, ← Nat.pow_add, show s + (t + 8) = 64 by omega]
    rw [e2, show g * (2 ^ s * (2 ^ t * 256)) + l = l + 2 ^ s * (g * 2 ^ t * 256) by rw [Nat.add_comm]; congr 1; rw [Nat.mul_left_comm, Nat.mul_assoc], Nat.add_mul_div_left _ _ (Nat.two_pow_pos s), Nat.add_mul_mod_self_right]
  rw [e, Int.natCast_emod, Int.natCast_ediv, Int.natCast_pow]
  rfl

end Go.Proofs.Ytmljdjakbbedlaa

namespace Go.Proofs.Ytmljdjakbbedlaa

/-- The two sums of Adler-32, not reduced. -/
def sA (l : List Int) : Int := l.foldl (fun a x => a + x) 1
def sB (l : List Int) : Int := (l.foldl (fun (p : Int × Int) x => (p.1 + x, p.2 + (p.1 + x))) (1, 0)).2

theorem sPair (l : List Int) : l.foldl (fun (p : Int × Int) x => (p.1 + x, p.2 + (p.1 + x))) (1, 0) = (sA l, sB l) := by
  have h : ∀ (l : List Int) (p : Int × Int), (l.foldl (fun (p : Int × Int) x => (p.1 + x, p.2 + (p.1 + x))) p).1 = l.foldl (fun a x => a + x) p.1 := by
    intro l
    induction l with
    | nil => intro p; rfl
    | cons x l ih => intro p; simp only [List.foldl_cons]; rw [ih]
  exact Prod.ext (h l (1, 0)) rfl

theorem sA_nil : sA [] = 1 := rfl
theorem sB_nil : sB [] = 0 := rfl
theorem sA_snoc (l : List Int) (x : Int) : sA (l ++ [x]) = sA l + x := by simp [sA, List.foldl_append]
theorem sB_snoc (l : List Int) (x : Int) : sB (l ++ [x]) = sB l + (sA l + x) := by
  unfold sB
  rw [List.foldl_append, sPair]
  rfl
theorem take_snoc_int (l : List Int) (k : Nat) (h : k < l.length) : l.take (k + 1) = l.take k ++ [l.getD k 0] := by
  rw [List.take_succ_eq_append_getElem h, List.getD_eq_getElem?_getD, List.getElem?_eq_getElem h]; rfl
theorem sA_bound (l : List Int) (h : ∀ x ∈ l, 0 ≤ x ∧ x ≤ 255) : 1 ≤ sA l ∧ sA l ≤ 1 + 255 * (l.length : Int) := by
  have g : ∀ (l : List Int) (a : Int), (∀ x ∈ l, 0 ≤ x ∧ x ≤ 255) → a ≤ l.foldl (fun a x => a + x) a ∧ l.foldl (fun a x => a + x) a ≤ a + 255 * (l.length : Int) := by
    intro l
    induction l with
    | nil => intro a _; simp
    | cons x l ih =>
      intro a h
      have h1 := h x (by simp)
      have h2 := ih (a + x) (fun y hy => h y (by simp [hy]))
      simp only [List.foldl_cons, List.length_cons]
      omega
  exact g l 1 h

end Go.Proofs.Ytmljdjakbbedlaa

namespace Go.Proofs.Ytmljdjakbbedlaa

def PV.addr (p : PV) : AV := ⟨p.six, p.hi, p.lo⟩
/-- How many octets of a prefix are kept. -/
def kO (r : RouteV) : Nat := ((r.p.n + 7) / 8).toNat
def octs (r : RouteV) (k : Nat) : List Int := (List.range k).map fun i => (octN r.p.addr i : Int)
def rbL (r : RouteV) : List Int := [if r.p.six then 1 else 0, r.p.n] ++ octs r (kO r) ++ [r.hop / 256, r.hop % 256]
def headL (L : List RouteV) : List Int := [87, 72, 49, L.length]
def saveL (L : List RouteV) : List Int := headL L ++ L.flatMap rbL
def tailL (n : Int) : List Int := [n / 16777216, n / 65536 % 256, n / 256 % 256, n % 256]
theorem octs_succ (r : RouteV) (k : Nat) : octs r (k + 1) = octs r k ++ [(octN r.p.addr k : Int)] := by
  unfold octs; rw [List.range_succ, List.map_append]; rfl
theorem octs_length (r : RouteV) (k : Nat) : (octs r k).length = k := by simp [octs]
theorem octN_lt (a : AV) (i : Nat) : octN a i < 256 := Nat.mod_lt _ (by omega)
/-- A route as a table holds it. -/
structure RouteB (r : RouteV) : Prop where
  n0 : 0 ≤ r.p.n
  n1 : r.p.n ≤ wideI r.p.six
  h0 : 1 ≤ r.hop
  h1 : r.hop ≤ 999
  a : r.p.addr.Ok
theorem wideI_cases (six : Bool) : wideI six = 128 ∨ wideI six = 32 := by cases six <;> simp [wideI]
theorem RouteB.k {r : RouteV} (h : RouteB r) : 8 * kO r ≤ widN r.p.six ∧ kO r ≤ 16 := by
  have h1 := h.n0
  have h2 := h.n1
  have h3 := widN_eq r.p.six
  unfold kO
  rcases wideI_cases r.p.six with h4 | h4 <;> rw [h4] at h2 h3 <;> omega
theorem rb_length {r : RouteV} (h : RouteB r) : (rbL r).length ≤ 20 := by
  have := h.k
  unfold rbL
  rw [List.length_append, List.length_append, octs_length]
  simp
  omega
theorem rb_bytes {r : RouteV} (h : RouteB r) : ∀ x ∈ rbL r, 0 ≤ x ∧ x ≤ 255 := by
  intro x hx
  have h1 := h.n0
  have h2 := h.n1
  have h3 := h.h0
  have h4 := h.h1
  unfold rbL at hx
  rcases List.mem_append.1 hx with hx | hx
  · rcases List.mem_append.1 hx with hx | hx
    · simp at hx
      rcases hx with rfl | rfl
      · split <;> omega
      · rcases wideI_cases r.p.six with h5 | h5 <;> rw [h5] at h2 <;> omega
    · unfold octs at hx
      obtain ⟨i, _, rfl⟩ := List.mem_map.1 hx
      have := octN_lt r.p.addr i
      omega
  · simp at hx
    rcases hx with rfl | rfl <;> omega
theorem save_length : ∀ {L : List RouteV}, (∀ r ∈ L, RouteB r) → (L.flatMap rbL).length ≤ 20 * L.length
  | [], _ => Nat.le_refl _
  | r :: L, h => by
    have h1 := rb_length (h r (by simp))
    have h2 := save_length (L := L) (fun x hx => h x (by simp [hx]))
    rw [List.flatMap_cons, List.length_append, List.length_cons]
    omega
theorem save_bytes {L : List RouteV} (h : ∀ r ∈ L, RouteB r) (hl : L.length ≤ 60) : ∀ x ∈ saveL L, 0 ≤ x ∧ x ≤ 255 := by
  intro x hx
  unfold saveL headL at hx
  rcases List.mem_append.1 hx with hx | hx
  · simp at hx
    rcases hx with rfl | rfl | rfl | rfl <;> omega
  · obtain ⟨r, hr, hx⟩ := List.mem_flatMap.1 hx
    exact rb_bytes (h r hr) x hx

end Go.Proofs.Ytmljdjakbbedlaa

namespace Go.Proofs.Ytmljdjakbbedlaa
open Go.ChangeShapes Go.WideShapes Go.ChangeAt Go.RowKit

def sumOf (l : List Int) : Int := sB l % 65521 * 65536 + sA l % 65521

set_option maxHeartbeats 400000 in
theorem sum_any (A : Option Addr) (n c : Nat) (zs : List Int) (w : World) (hn : n ≤ 3600) (hb : ∀ x ∈ zs, 0 ≤ x ∧ x ≤ 255) (hz : zs.length = n) (hr : Reads w w.heap.size 1 A n (zs.map (Value.int .u8))) :
    Calls Try.prog 95 #[.slice A n c] w fun e w' => e = .returned (.int .u32 (sumOf zs)) ∧ w' = w := by
  have HB := Lib.hid hb
  have HZ := Lib.hid hz
  have HR := Lib.hid hr
  clear hb hz hr
  go_enter Try.func95, Try.ntmps95
  go_wp2
  go_loop [3, 4, 9] (fun a b i => ∃ k : Nat, k ≤ n ∧ i = .int .i64 k ∧ a = .int .u32 (sA (zs.take k) % 65521) ∧ b = .int .u32 (sB (zs.take k) % 65521)) (fun _ _ i => n - (intOf i).toNat)
  case atStart => exact ⟨0, by omega, rfl, rfl, rfl⟩
  case round =>
    obtain ⟨k, hk, rfl, rfl, rfl⟩ := hrel
    by_cases hlt : k < n
    · obtain ⟨ad, x, rfl, hc, e1, _, hm⟩ := HR.out.at1 hlt
      have hx := HB.out x hm
      have ea : Hid (sA (zs.take (k + 1)) = sA (zs.take k) + x) := by show _ = _; rw [e1, sA_snoc]
      have eb : Hid (sB (zs.take (k + 1)) = sB (zs.take k) + (sA (zs.take k) + x)) := by show _ = _; rw [e1, sB_snoc]
      clear e1
      go_wp2
      go_round
      case rel => exact ⟨k + 1, by omega, by go_num, by rw [ea.out]; simp, by rw [eb.out]; simp⟩
      case measure => simp [intOf]; omega
    · obtain rfl : k = n := by omega
      go_wp2
      have e0 : zs.take k = zs := by rw [← HZ.out]; exact List.take_length
      go_ret
      refine ⟨ret_int ?_, rfl⟩
      rw [e0, or_u32 _ _ (by omega) (by omega) (by omega) (by omega)]
      rfl


theorem sumOf_range (l : List Int) : 0 ≤ sumOf l ∧ sumOf l < 4294967296 := by unfold sumOf; omega


def rB (n : Int) (l : List Int) : Int := sB l + (n - l.length) * sA l

theorem rB_nil (n : Int) : rB n [] = n := by simp [rB, sA_nil, sB_nil]

theorem rB_snoc (n : Int) (l : List Int) (x : Int) : rB n (l ++ [x]) = rB n l + (n - l.length) * x := by
  unfold rB
  rw [sA_snoc, sB_snoc]
  have h1 : ((l ++ [x]).length : Int) = (l.length : Int) + 1 := by simp
  rw [h1]
  generalize (l.length : Int) = m
  generalize sA l = a
  have e1 : (n - (m + 1)) * (a + x) = (n - m) * a + (n - m) * x - a - x := by
    rw [show n - (m + 1) = (n - m) - 1 from by omega, Int.sub_mul, Int.mul_add, Int.one_mul]
    omega
  omega

theorem rB_bound (n : Nat) (hn : n ≤ 3600) (l : List Int) (hl : l.length ≤ n) (h : ∀ x ∈ l, 0 ≤ x ∧ x ≤ 255) : 0 ≤ rB n l ∧ rB n l ≤ n + 918000 * (l.length : Int) := by
  induction hk : l.length generalizing l with
  | zero =>
    have : l = [] := List.eq_nil_of_length_eq_zero hk
    subst this
    rw [rB_nil]
    omega
  | succ m ih =>
    rcases List.eq_nil_or_concat l with rfl | ⟨l', x, rfl⟩
    · simp at hk
    · simp only [List.concat_eq_append, List.length_append, List.length_cons, List.length_nil] at hk hl h ⊢
      have h1 := h x (by simp)
      have h2 := ih l' (by omega) (fun y hy => h y (by simp [hy])) (by omega)
      rw [rB_snoc]
      have e : (0 : Int) ≤ ((n : Int) - l'.length) * x := Int.mul_nonneg (by omega) h1.1
      have e2 : ((n : Int) - l'.length) * x ≤ 3600 * 255 := Int.mul_le_mul (by omega) h1.2 h1.1 (by omega)
      omega


set_option maxHeartbeats 400000 in
theorem refSum_any (A : Option Addr) (n c : Nat) (zs : List Int) (w : World) (hn : n ≤ 3600) (hb : ∀ x ∈ zs, 0 ≤ x ∧ x ≤ 255) (hz : zs.length = n) (hr : Reads w w.heap.size 1 A n (zs.map (Value.int .u8))) :
    Calls Try.prog 94 #[.slice A n c] w fun e w' => e = .returned (.tuple #[.int .i64 (sumOf zs), .int .i64 0]) ∧ w' = w := by
  have HB := Lib.hid hb
  have HZ := Lib.hid hz
  have HR := Lib.hid hr
  clear hb hz hr
  go_enter Try.func94, Try.ntmps94
  go_wp2
  go_loop [4, 5, 15] (fun a b i => ∃ k : Nat, k ≤ n ∧ i = .int .i64 k ∧ a = .int .i64 (sA (zs.take k)) ∧ b = .int .i64 (rB n (zs.take k))) (fun _ _ i => n - (intOf i).toNat)
  case atStart => exact ⟨0, by omega, rfl, rfl, by simp [rB_nil]⟩
  case round =>
    obtain ⟨k, hk, rfl, rfl, rfl⟩ := hrel
    have hl : (zs.take k).length = k := by rw [List.length_take, HZ.out]; omega
    have ba := sA_bound (zs.take k) (fun x hx => HB.out x (List.mem_of_mem_take hx))
    have bb := rB_bound n hn (zs.take k) (by omega) (fun x hx => HB.out x (List.mem_of_mem_take hx))
    rw [hl] at ba bb
    have HL := Lib.hid hl
    clear hl
    by_cases hlt : k < n
    · obtain ⟨ad, x, rfl, hc, e1, _, hm⟩ := HR.out.at1 hlt
      have hx := HB.out x hm
      have ea : Hid (sA (zs.take (k + 1)) = sA (zs.take k) + x) := by show _ = _; rw [e1, sA_snoc]
      have eb : Hid (rB n (zs.take (k + 1)) = rB n (zs.take k) + ((n : Int) - k) * x) := by show _ = _; rw [e1, rB_snoc, HL.out]
      clear e1
      have p1 : 0 ≤ ((n : Int) - k) * x := Int.mul_nonneg (by omega) hx.1
      have p2 : ((n : Int) - k) * x ≤ 918000 := Int.le_trans (Int.mul_le_mul (by omega : (n : Int) - k ≤ 3600) hx.2 hx.1 (by omega)) (by omega)
      go_wp2
      go_round
      case rel => exact ⟨k + 1, by omega, by go_num, by rw [ea.out], by rw [eb.out]⟩
      case measure => simp [intOf]; omega
    · obtain rfl : k = n := by omega
      have e0 : zs.take k = zs := by rw [← HZ.out]; exact List.take_length
      have er : rB k zs = sB zs := by unfold rB; rw [HZ.out]; simp
      have E0 := Lib.hid e0
      have ER := Lib.hid er
      clear e0 er
      go_wp2
      go_ret2
      refine ⟨?_, rfl⟩
      rw [E0.out, ER.out]
      rfl


end Go.Proofs.Ytmljdjakbbedlaa

namespace Go.Proofs.Ytmljdjakbbedlaa
open Go.ChangeShapes Go.WideShapes Go.ChangeAt Go.RowKit

set_option maxRecDepth 100000 in
set_option maxHeartbeats 800000 in
theorem octet_any (six : Bool) (hi lo : Int) (i : Nat) (w : World) (ha : (⟨six, hi, lo⟩ : AV).Ok) (hi8 : 8 * i + 8 ≤ widN six) :
    Calls Try.prog 136 #[.agg #[.bool six, .int .u64 hi, .int .u64 lo], .int .i64 i] w fun e w' => e = .returned (.int .u8 (octN ⟨six, hi, lo⟩ i)) ∧ Below w.heap.size w w' := by
  have h1 := ha.rhi
  have h2 := ha.rlo
  have wi : IntKind.i64.wrap (8 * (i : Int)) = 8 * (i : Int) := by rw [IntWalk.i64_in _ (by simp [widN] at hi8; split at hi8 <;> omega)]
  cases six with
  | false =>
    have hi3 : i ≤ 3 := by simp [widN] at hi8; omega
    obtain ⟨s, hs⟩ : ∃ s : Nat, s = 24 - 8 * i := ⟨_, rfl⟩
    have es : (24 : Int) - 8 * (i : Int) = (s : Int) := by omega
    have ws : IntKind.i64.wrap (s : Int) = (s : Int) := by rw [IntWalk.i64_in _ (by omega)]
    have s0 : (0 : Int) ≤ (s : Int) := by omega
    have s1 : ¬ (s : Int) < 0 := by omega
    have s2 : (s : Int) < 64 := by omega
    clear ha
    go_enter Try.func136, Try.ntmps136
    go_wp2
    go_ret
    exact ⟨by rw [← oct_four hi lo i h2.1]; rfl, (Below.refl _ _).alloc (Nat.le_refl _) _⟩
  | true =>
    have hi4 : i < 16 := by simp [widN] at hi8; omega
    by_cases hi3 : i < 8
    · obtain ⟨s, hs⟩ : ∃ s : Nat, s = 56 - 8 * i := ⟨_, rfl⟩
      have es : (56 : Int) - 8 * (i : Int) = (s : Int) := by omega
      have ws : IntKind.i64.wrap (s : Int) = (s : Int) := by rw [IntWalk.i64_in _ (by omega)]
      have s0 : (0 : Int) ≤ (s : Int) := by omega
      have s1 : ¬ (s : Int) < 0 := by omega
      have s2 : (s : Int) < 64 := by omega
      have d1 : decide ((i : Int) < 8) = true := by simp; omega
      clear ha
      go_enter Try.func136, Try.ntmps136
      go_wp2
      go_ret
      exact ⟨by rw [← oct_high hi lo i h1.1 h2 hi3]; rfl, (Below.refl _ _).alloc (Nat.le_refl _) _⟩
    · obtain ⟨s, hs⟩ : ∃ s : Nat, s = 120 - 8 * i := ⟨_, rfl⟩
      have es : (120 : Int) - 8 * (i : Int) = (s : Int) := by omega
      have ws : IntKind.i64.wrap (s : Int) = (s : Int) := by rw [IntWalk.i64_in _ (by omega)]
      have s0 : (0 : Int) ≤ (s : Int) := by omega
      have s1 : ¬ (s : Int) < 0 := by omega
      have s2 : (s : Int) < 64 := by omega
      have d1 : decide ((i : Int) < 8) = false := by simp; omega
      clear ha
      go_enter Try.func136, Try.ntmps136
      go_wp2
      go_ret
      exact ⟨by rw [← oct_low hi lo i h1.1 h2.1 (by omega) hi4]; rfl, (Below.refl _ _).alloc (Nat.le_refl _) _⟩

end Go.Proofs.Ytmljdjakbbedlaa

namespace Go.Proofs.Ytmljdjakbbedlaa
open Go.ChangeShapes Go.WideShapes Go.ChangeAt Go.RowKit

theorem own_same {w w' : World} {base : Nat} {e : TypeId} {size n : Nat} {v : Value} {xs : List Value} (h : w.ownsRow base e size v n xs) (hk : ∀ k, v.ownBlock = some k → w'.heap[k]? = w.heap[k]?) : w'.ownsRow base e size v n xs := by
  obtain ⟨h1, h2⟩ := h
  refine ⟨h1, ?_⟩
  rcases h2 with ⟨rfl, h3⟩ | ⟨g, cap, cur, rfl, hg, hh, r⟩
  · exact .inl ⟨rfl, h3⟩
  · exact .inr ⟨g, cap, cur, rfl, hg, (hk g rfl).trans hh, r⟩
/-- Two rows of the call's own, in blocks apart. -/
structure Two (w : World) (base : Nat) (e : TypeId) (size : Nat) (v u : Value) (n m : Nat) (xs ys : List Value) : Prop where
  a : w.ownsRow base e size v n xs
  b : w.ownsRow base e size u m ys
  apart : ∀ k, v.ownBlock = some k → u.ownBlock ≠ some k
theorem Two.swap {w : World} {base : Nat} {e : TypeId} {size : Nat} {v u : Value} {n m : Nat} {xs ys : List Value} (h : Two w base e size v u n m xs ys) : Two w base e size u v m n ys xs :=
  ⟨h.b, h.a, fun k h1 h2 => h.apart k h2 h1⟩
theorem Two.step {w w' : World} {base : Nat} {e : TypeId} {size : Nat} {v u : Value} {n m : Nat} {xs ys : List Value} (h : Two w base e size v u n m xs ys) (hb : Below w.heap.size w w') : Two w' base e size v u n m xs ys :=
  ⟨own_below h.a hb, own_below h.b hb, h.apart⟩
theorem wpList_append_two {P : Program} {ops : Array Oper} {rest : List Oper} {o : Oper} {a : Act} {Q : Exit → Act → World → Prop} {w0 : World} {us : List Value} {fr : Nat × Nat} {e : TypeId} {g : Nat} (hgd : o.guard = none) (s x : Operand) (t : TypeId)
    (ho : o.op = .call { callee := .builtin .append, args := #[s, x], argTypes := #[t, t] })
    (base : Nat) (z : Value) (size bytes : Nat) (ht : P.underlying t = some (.slice e)) (hi : (P.info? e).map (fun i => (i.zero, i.size, i.bytes)) = some (some z, size, bytes))
    (hzs : z.cells.size = size) (hsz : 0 < size) (v u : Value) (n m : Nat) (xs ys : List Value) (hs : a.eval s = v)
    (hx : a.eval x = .slice (some ⟨g, 0, none⟩) 1 1) (hg : g = w0.heap.size) (htwo : Two w0 base e size v u n m xs ys) (hbase : base ≤ w0.heap.size)
    (hl : us.length = size) (h1 : ∀ u ∈ us, u.oneCell' = true) (h63 : n + 1 ≤ maxLen) (hbytes : (n + 1) * bytes ≤ 140737488355328)
    (h : ∀ v' w', Two w' base e size v' u (n + 1) m (xs ++ us) ys → Below base w0 w' → w0.heap.size < w'.heap.size → (∀ k, k < w0.heap.size → v.ownBlock ≠ some k → w'.heap[k]? = w0.heap[k]?) → wpList P ops Q rest (a.put o.dst v') w') :
    wpList P ops Q (o :: rest) a (w0.alloc (.cells us.toArray e fr)) := by
  subst hg
  obtain ⟨i0, hi, hz0, hz1, hz2⟩ := info_parts hi
  have hr : Reads (w0.alloc (.cells us.toArray e fr)) (w0.alloc (.cells us.toArray e fr)).heap.size size (some ⟨w0.heap.size, 0, none⟩) 1 us := by
    refine ⟨by simp [hl], fun _ => ⟨_, rfl, by simp, fun j u hj => ?_⟩⟩
    have e1 : (⟨w0.heap.size, 0, none⟩ : Addr).add j = ⟨w0.heap.size, j, none⟩ := by unfold Addr.add; split <;> simp_all
    rw [e1]
    have : (w0.alloc (.cells us.toArray e fr)).heap[w0.heap.size]? = some (.cells us.toArray e fr) := heap_alloc_new w0 _
    unfold World.cell?
    simp only [this]
    simpa using hj
  refine wpList_append_any _ hgd s x t ho base e i0 z size bytes ht hi hz0 hz1 hz2 hzs hsz v n xs hs (htwo.a.alloc _) _ _ 1 1 us hx hr h1 h63 hbytes (by simp; omega) ?_
  intro v' w' hown' hgr hblk
  have hsz' := hgr.size
  simp at hsz'
  have hkeep : ∀ k, k < w0.heap.size → v.ownBlock ≠ some k → w'.heap[k]? = w0.heap[k]? := fun k hk hne => by
    rw [hgr.block k (by simp; omega) (fun he => hne he.symm)]
    exact Below.heap_alloc _ _ _ hk
  have hub : ∀ k, u.ownBlock = some k → k < w0.heap.size := fun k hk => by
    apply Classical.byContradiction
    intro hc
    exact own_block_lt htwo.b (k := k) (by omega) hk
  have hb : Below base w0 (w0.alloc (.cells us.toArray e fr)) := (Below.refl _ _).alloc hbase _
  refine h v' w' ⟨hown', own_same htwo.b (fun k hk => hkeep k (hub k hk) (fun hh => htwo.apart k hh hk)), fun k hk hu => ?_⟩ (hb.grown hgr (by simp; omega) ?_) (by omega) hkeep
  · rcases hblk with hh | hh
    · rw [hh] at hk
      exact htwo.apart k hk hu
    · rw [hh] at hk
      injection hk with hk
      have := hub k hu
      simp at hk
      omega
  · intro k hk
    rcases htwo.a.2 with ⟨rfl, _⟩ | ⟨g, cap, cur, rfl, hgb, _⟩
    · simp [Value.ownBlock] at hk
    · simp only [Value.ownBlock, Option.some.injEq] at hk
      omega

/-- A store at a place of a row of one-cell elements. -/
theorem own_set {w : World} {base : Nat} {e : TypeId} {n : Nat} {ad : Addr} {c : Nat} {xs : List Value} (h : w.ownsRow base e 1 (.slice (some ad) n c) n xs) (i : Nat) (u : Value) (_hi : i < n) : (w.setCell (ad.add i) u).ownsRow base e 1 (.slice (some ad) n c) n (xs.set i u) := by
  obtain ⟨h1, h2⟩ := h
  refine ⟨by rw [List.length_set]; exact h1, ?_⟩
  rcases h2 with ⟨hv, _⟩ | ⟨g, cap, cur, hv, hg, hh, hn, hc, hs, ht⟩
  · injection hv with h0; cases h0
  · injection hv with h0 _ h2
    injection h0 with h0
    subst h0 h2
    have e1 : (⟨g, 0, none⟩ : Addr).add i = ⟨g, i, none⟩ := by unfold Addr.add; split <;> simp_all
    rw [e1]
    have hb : Blk w g e cur := hh
    have := hb.set_ i u
    refine .inr ⟨g, c, cur.setIfInBounds i u, rfl, hg, this, hn, hc, by simpa using hs, ?_⟩
    rw [Array.toList_setIfInBounds, List.take_set, ht]
theorem own_frozen {w : World} {base : Nat} {e : TypeId} {n size : Nat} {ad : Addr} {c : Nat} {xs : List Value} (h : w.ownsRow base e size (.slice (some ad) n c) n xs) (i : Nat) : w.frozen? (ad.add i) = false := by
  rcases h.2 with ⟨hv, _⟩ | ⟨g, cap, cur, hv, hg, hh, hn, hc, hs, ht⟩
  · injection hv with h0; cases h0
  · injection hv with h0 _ h2
    injection h0 with h0
    subst h0
    have e1 : (⟨g, 0, none⟩ : Addr).add i = ⟨g, i, none⟩ := by unfold Addr.add; split <;> simp_all
    rw [e1]
    have hb : Blk w g e cur := hh
    exact hb.frozen i
theorem own_at {w : World} {base : Nat} {e : TypeId} {n : Nat} {v : Value} {l : List Int} (h : w.ownsRow base e 1 v n (l.map (Value.int .i64))) (hn : 0 < n) : ∃ ad c, v = .slice (some ad) n c ∧ base ≤ ad.block ∧ ad.block < w.heap.size ∧ ∀ i, i < n → w.cell? (ad.add i) = some (.int .i64 (l[i]?.getD 0)) := by
  obtain ⟨A, c, rfl, hc, hr, hbase⟩ := own_reads_at h
  obtain ⟨ad, rfl, hb, hcell⟩ := hr.2 hn
  refine ⟨ad, c, rfl, hbase ad rfl, hb, fun i hi => ?_⟩
  have hl := hr.1
  rw [List.length_map] at hl
  have hx : l[i]? = some (l[i]'(by omega)) := List.getElem?_eq_getElem _
  rw [hx, Option.getD_some]
  exact hcell i _ (by rw [List.getElem?_map, hx]; rfl)

end Go.Proofs.Ytmljdjakbbedlaa

namespace Go.Proofs.Ytmljdjakbbedlaa
open Go.ChangeShapes Go.WideShapes Go.ChangeAt Go.RowKit

theorem infoInt2 : (Try.prog.info? 3).map (fun i => (i.zero, i.size, i.bytes)) = some (some (.int .i64 0), 1, 8) := by kernel_rfl
def PartsOut (a : AV) (wd : Nat) (w : World) (e : Ending) (w' : World) : Prop :=
  ∃ v, e = .returned v ∧ w'.ownsRow w.heap.size 3 1 v (groups a.v (widN a.six) wd (widN a.six)).length ((groups a.v (widN a.six) wd (widN a.six)).map (Value.int .i64)) ∧ Below w.heap.size w w'

set_option maxRecDepth 100000 in
set_option maxHeartbeats 1600000 in
theorem partsOf_any (six : Bool) (hi lo : Int) (wd : Nat) (w : World) (ha : (⟨six, hi, lo⟩ : AV).Ok) (hw : 0 < wd) (hw2 : wd ≤ 16) :
    Calls Try.prog 93 #[.agg #[.bool six, .int .u64 hi, .int .u64 lo], .int .i64 wd] w (PartsOut ⟨six, hi, lo⟩ wd w) := by
  have CB := Lib.hid (fun (W : World) => bitsOf_any six hi lo W ha.rhi ha.rlo)
  have HBIT := Lib.hid (fun (i : Nat) (hi' : i < widN six) => AV.bitN ha (i := i) hi')
  obtain ⟨V, hV⟩ : ∃ V, (⟨six, hi, lo⟩ : AV).v = V := ⟨_, rfl⟩
  simp only at HBIT
  rw [hV] at HBIT
  obtain ⟨post, hpost⟩ : ∃ post, PartsOut ⟨six, hi, lo⟩ wd w = post := ⟨_, rfl⟩
  have HP := Lib.hid hpost
  rw [hpost]
  have HV := Lib.hid hV
  obtain ⟨N, hN⟩ : ∃ N, widN six = N := ⟨_, rfl⟩
  have hN2 : N ≤ 128 := by rw [← hN]; cases six <;> simp [widN]
  have HNN := Lib.hid hN
  rw [hN] at HBIT
  have HBL : Hid ((bitsL six hi lo).length = N) := by show _ = _; rw [bitsL_length, widN_eq, hN]; simp
  have HBG : Hid (∀ i, i < N → (bitsL six hi lo)[i]? = some (bitI six hi lo (i : Int))) := by
    intro i hi'
    unfold bitsL
    rw [List.getElem?_map, List.getElem?_range (by rw [widN_eq, hN]; simpa using hi')]
    rfl
  clear hpost hV ha hN
  go_enter Try.func93, Try.ntmps93
  go_wp2_with fail
  refine (CB.out _).mono ?_
  rintro e X ⟨vb, rfl, hbits, hbX, hlX⟩
  obtain ⟨Ab, cb, rfl, hcb, hrb⟩ := own_reads hbits
  rw [widN_eq, HNN.out] at hrb hcb ⊢
  simp only [Int.toNat_natCast] at hrb hcb ⊢
  have HRB := Lib.hid hrb
  have HBX : Hid (Below w.heap.size w X) := below_step ((Below.refl _ _).alloc (Nat.le_refl _) _) hbX
  have hwX := HBX.out.size
  have hS1 : ((wd : Int) == 0) = false := by simp; omega
  have hS2 : ¬ (wd : Int) = 0 := by omega
  clear hbits hrb hbX CB
  go_wp2
  go_loopw [11, 5] (fun i s5 wr => ∃ (k : Nat) (v5 : Value), k ≤ N ∧ i = .int .i64 k ∧ v5 = s5 ∧ wr.ownsRow X.heap.size 3 1 v5 (groups V N wd k).length ((groups V N wd k).map (Value.int .i64)) ∧ Below X.heap.size X wr) (fun i _ _ => N - (intOf i).toNat)
  case atStart => exact ⟨0, _, by omega, rfl, rfl, by rw [show groups V N wd 0 = [] from List.eq_nil_of_length_eq_zero (by rw [groups_length]; exact Nat.div_eq_of_lt (by omega))]; exact World.ownsRow_nil _ _ _ _, Below.refl _ _⟩
  case round =>
    obtain ⟨k, v5, hk, rfl, rfl, hrow, hb⟩ := hrel
    obtain ⟨wo, rfl⟩ : ∃ wo : World, wo = wr := ⟨_, rfl⟩
    have hszb := hb.size
    have HB := Lib.hid hb
    by_cases hlt : k < N
    · obtain ⟨ab, x, rfl, hx, -, hxl, -⟩ := HRB.out.at1 hlt
      have hbl : ab.block < X.heap.size := by
        obtain ⟨ad', e1, hb', _⟩ := HRB.out.2 (by omega)
        injection e1 with e1
        rw [e1]; exact hb'
      have q0 := (hb.cell (p := ab.add k) (by rw [block_of_add]; exact hbl)).trans hx
      have hxv : x = ((V / 2 ^ (N - 1 - k) % 2 : Nat) : Int) := by
        rw [HBG.out k hlt] at hxl
        injection hxl with hxl
        rw [← hxl, HBIT.out k hlt]
      have hst := groups_step V N wd k hw hlt
      rw [← hxv] at hst
      have hx01 : 0 ≤ x ∧ x ≤ 1 := by rw [hxv]; omega
      have hmod : Int.tmod (k : Int) (wd : Int) = ((k % wd : Nat) : Int) := by rw [Int.tmod_eq_emod_of_nonneg (by omega)]; exact (Int.natCast_emod k wd).symm
      have hml := Nat.mod_lt k hw
      have hwm : IntKind.i64.wrap (((k % wd : Nat) : Int)) = ((k % wd : Nat) : Int) := by rw [IntWalk.i64_in _ (by omega)]
      obtain ⟨r, hr⟩ : ∃ r, k % wd = r := ⟨_, rfl⟩
      rw [hr] at hst hmod hwm hml
      have hdm := Nat.div_add_mod k wd
      have hgl := groups_length V N wd k
      obtain ⟨q, hq⟩ : ∃ q, k / wd = q := ⟨_, rfl⟩
      rw [hq] at hst hdm
      rw [hr] at hdm
      have hqk : q ≤ k := by rw [← hq]; exact Nat.div_le_self _ _
      obtain ⟨G, hG⟩ : ∃ G, groups V N wd k = G := ⟨_, rfl⟩
      rw [hG] at hst hrow hgl
      by_cases h0 : r = 0
      · rw [if_pos h0] at hst
        have hlen : G.length = q := by
          rw [hgl, show k + wd - 1 = (wd - 1) + wd * q by omega, Nat.add_mul_div_left _ _ hw, Nat.div_eq_of_lt (by omega)]
          omega
        subst h0
        rw [hlen] at hrow
        have HO := Lib.hid hrow
        have HST := Lib.hid hst
        have HLE := Lib.hid hlen
        clear hb hx hxl hxv hst hgl hlen hdm hr hq hG hrow hml
        go_wp2_with (at_builtin; go_loud (refine wpList_append_oneN (us := [.int .i64 0]) rfl _ _ 23 rfl X.heap.size _ 1 8 Try.underlying23 infoInt2 rfl (by decide) _ _ _ rfl rfl rfl HO.out ?c1 rfl ?c4 ?c2 ?c3 ?_))
        case c1 => exact hszb
        case c2 => unfold maxLen; omega
        case c3 => omega
        case c4 => first | rfl | (intro u hu; simp at hu; subst hu; rfl)
        intro v' w9 hown' hb9 hs9 hk9
        have ho9 : w9.ownsRow X.heap.size 3 1 v' (q + 1) ((G ++ [0]).map (Value.int .i64)) := by rw [List.map_append]; exact hown'
        obtain ⟨ad, c9, rfl, hbase, hadl, hcl⟩ := own_at ho9 (by omega)
        have hx0 := hcl q (by omega)
        rw [List.getElem?_append_right (by rw [HLE.out]; exact Nat.le_refl _), HLE.out, Nat.sub_self] at hx0
        simp only [List.getElem?_cons_zero, Option.getD_some] at hx0
        have hfz := own_frozen ho9 q
        have HOS := Lib.hid (own_set ho9 q (.int .i64 x) (by omega))
        have HB9 := Lib.hid (HB.out.trans hb9)
        have HADB := Lib.hid hbase
        have i1 : (0 : Int) ≤ (q : Int) := by omega
        have i2 : (q : Int) < (q : Int) + 1 := by omega
        have e1 : ((q : Int) + 1 - 1) = q := by omega
        clear hown' hb9 hk9 ho9 hcl
        go_wp2
        go_roundw
        case rel =>
          refine ⟨k + 1, _, by omega, by go_num, rfl, ?_, HB9.out.setCell (by rw [block_of_add]; exact HADB.out) _⟩
          have e2 : ((G ++ [0]).map (Value.int .i64)).set q (.int .i64 x) = (G ++ [x]).map (Value.int .i64) := by
            rw [List.map_append, List.map_append, List.set_append_right _ _ (by rw [List.length_map, HLE.out]; exact Nat.le_refl _), List.length_map, HLE.out, Nat.sub_self]
            rfl
          have := HOS.out
          rw [e2] at this
          rw [HST.out, List.length_append, HLE.out]
          exact this
        case measure => simp [intOf]; omega
      · rw [if_neg h0] at hst
        have hlen : G.length = q + 1 := by
          rw [hgl, show k + wd - 1 = (r - 1) + wd * (q + 1) by rw [Nat.mul_succ]; omega, Nat.add_mul_div_left _ _ hw, Nat.div_eq_of_lt (by omega)]
          omega
        obtain ⟨y, hy⟩ : ∃ y, G[q]?.getD 0 = y := ⟨_, rfl⟩
        have hy2 : 0 ≤ y ∧ y < 65536 := by
          rw [← hy, ← hG, groups_get V N wd k q (by rw [← hgl, hlen]; omega)]
          have h1 := gv_lt V N wd k q
          have h2 : 2 ^ wd ≤ 2 ^ 16 := Nat.pow_le_pow_right (by omega) hw2
          simp only [Option.getD_some]
          omega
        rw [hy] at hst
        rw [hlen] at hrow
        have d0 : ((r : Int) == 0) = false := by simp; omega
        obtain ⟨ad, c9, rfl, hbase, hadl, hcl⟩ := own_at hrow (by omega)
        have hx0 := hcl q (by omega)
        rw [hy] at hx0
        have hfz := own_frozen hrow q
        have w1 : IntKind.i64.wrap (2 * y) = 2 * y := by rw [IntWalk.i64_in _ (by omega)]
        have w2 : IntKind.i64.wrap (2 * y + x) = 2 * y + x := by rw [IntWalk.i64_in _ (by omega)]
        have HOS := Lib.hid (own_set hrow q (.int .i64 (2 * y + x)) (by omega))
        have HADB := Lib.hid hbase
        have HST := Lib.hid hst
        have HLE := Lib.hid hlen
        have i1 : (0 : Int) ≤ (q : Int) := by omega
        have i2 : (q : Int) < (q : Int) + 1 := by omega
        have e1 : ((q : Int) + 1 - 1) = q := by omega
        clear hb hx hxl hxv hst hgl hlen hdm hr hq hG hrow hml h0 hy hcl
        go_wp2
        go_roundw
        case rel =>
          refine ⟨k + 1, _, by omega, by go_num, rfl, ?_, HB.out.setCell (by rw [block_of_add]; exact HADB.out) _⟩
          rw [HST.out, List.length_set, HLE.out, List.map_set]
          exact HOS.out
        case measure => simp [intOf]; omega
    · obtain rfl : k = N := by omega
      have HO := Lib.hid hrow
      clear hrow hb
      go_wp2
      (try go_ret)
      rw [← HP.out]
      unfold PartsOut
      rw [HV.out, show widN (⟨six, hi, lo⟩ : AV).six = k from HNN.out]
      exact ⟨_, rfl, own_mono HO.out hwX, HBX.out.trans (HB.out.mono hwX)⟩

end Go.Proofs.Ytmljdjakbbedlaa

namespace Go.Proofs.Ytmljdjakbbedlaa
open Go.ChangeShapes Go.WideShapes Go.ChangeAt Go.RowKit

set_option maxRecDepth 100000 in
set_option maxHeartbeats 800000 in
theorem sameBytes_any (A A' : Option Addr) (n c n' c' : Nat) (l l' : List Int) (w : World) (hz : l.length = n) (hz' : l'.length = n') (hm : n ≤ maxLen) (hm' : n' ≤ maxLen)
    (hr : Reads w w.heap.size 1 A n (l.map (Value.int .u8))) (hr' : Reads w w.heap.size 1 A' n' (l'.map (Value.int .u8))) :
    Calls Try.prog 39 #[.slice A n c, .slice A' n' c'] w fun e w' => e = .returned (.bool (decide (l = l'))) ∧ Below w.heap.size w w' := by
  unfold maxLen at hm hm'
  by_cases hnn : n = n'
  · subst hnn
    have HZ := Lib.hid hz
    have HZ' := Lib.hid hz'
    have HR := Lib.hid hr
    have HR' := Lib.hid hr'
    obtain ⟨d, hd⟩ : ∃ d, d = decide (l = l') := ⟨_, rfl⟩
    rw [← hd]
    have HD := Lib.hid hd
    clear hz hz' hr hr' hm' hd
    go_enter Try.func39, Try.ntmps39
    go_wp2
    go_loopw [5, 4] (fun i _ wr => ∃ k : Nat, k ≤ n ∧ i = .int .i64 k ∧ l.take k = l'.take k ∧ Below w.heap.size w wr) (fun i _ _ => n - (intOf i).toNat)
    case atStart => exact ⟨0, by omega, rfl, rfl, Below.refl _ _⟩
    case round =>
      obtain ⟨k, hk, rfl, hto, hb⟩ := hrel
      have HT := Lib.hid hto
      clear hto
      by_cases hlt : k < n
      · obtain ⟨ad, x, rfl, hcx, htx, hlx, _⟩ := HR.out.at1 hlt
        have hbx : ad.block < w.heap.size := by
          obtain ⟨ad3, ha3, hb3, _⟩ := HR.out.2 (by omega)
          injection ha3 with ha3
          subst ha3
          exact hb3
        have q0 := (hb.cell (p := ad.add k) (by rw [block_of_add]; exact hbx)).trans hcx
        obtain ⟨ad', x', rfl, hcx', htx', hlx', _⟩ := HR'.out.at1 hlt
        have hbx' : ad'.block < w.heap.size := by
          obtain ⟨ad3, ha3, hb3, _⟩ := HR'.out.2 (by omega)
          injection ha3 with ha3
          subst ha3
          exact hb3
        have q1 := (hb.cell (p := ad'.add k) (by rw [block_of_add]; exact hbx')).trans hcx'
        have HTK := Lib.hid htx
        have HL := Lib.hid hlx
        have HTK' := Lib.hid htx'
        have HL' := Lib.hid hlx'
        have HBO := Lib.hid hb
        clear hcx htx hlx hcx' htx' hlx' hb
        by_cases he : x = x'
        · have HN : Hid (l.take (k + 1) = l'.take (k + 1)) := by show _ = _; rw [HTK.out, HTK'.out, HT.out, he]
          have he1 : (x == x') = true := by simpa using he
          have he2 : (x != x') = false := by simpa using he
          clear he
          go_wp2
          go_quiet (fail)
          go_wp2
          go_roundw
          case rel => exact ⟨k + 1, by omega, by go_num, HN.out, below_drewN HBO.out _⟩
          case measure => simp [intOf]; omega
        · have he1 : (x == x') = false := by simpa using he
          have he2 : (x != x') = true := by simpa using he
          have HN : Hid (d = false) := by
            show _ = _
            rw [HD.out, decide_eq_false_iff_not]
            intro h
            subst h
            have h1 := HL'.out
            rw [HL.out] at h1
            injection h1 with h1
            exact he h1
          clear he
          go_wp2
          go_quiet (fail)
          go_wp2
          go_ret
          exact ⟨by rw [HN.out]; rfl, below_drewN HBO.out _⟩
      · obtain rfl : k = n := by omega
        have HN : Hid (d = true) := by
          show _ = _
          rw [HD.out, decide_eq_true_iff]
          have := HT.out
          rwa [List.take_of_length_le (by rw [HZ.out]; omega), List.take_of_length_le (by rw [HZ'.out]; omega)] at this
        go_wp2
        go_ret
        exact ⟨by rw [HN.out]; rfl, hb⟩
  · have hd : decide (l = l') = false := by rw [decide_eq_false_iff_not]; intro h; subst h; omega
    rw [hd]
    have hne : ¬ (n : Int) = n' := by omega
    clear hz hz' hr hr' hd
    go_enter Try.func39, Try.ntmps39
    go_wp2
    go_ret
    exact ⟨rfl, Below.refl _ _⟩

end Go.Proofs.Ytmljdjakbbedlaa
