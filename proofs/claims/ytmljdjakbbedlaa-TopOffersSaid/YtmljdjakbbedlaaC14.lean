/-
  
  
-/
import Derived.Test.YtmljdjakbbedlaaC8
import Derived.Test.YtmljdjakbbedlaaC1
import Derived.Test.YtmljdjakbbedlaaC3
import Derived.Test.YtmljdjakbbedlaaC2
import Derived.Test.YtmljdjakbbedlaaC5
import Derived.Test.YtmljdjakbbedlaaC4
namespace Go.Proofs.Ytmljdjakbbedlaa

/-- The next byte, what is left, and whether it ended too early. -/
def takeN (s : List Int × Bool) : Int × (List Int × Bool) :=
  match s.1 with
  | [] => (0, ([], true))
  | x :: l => (x, (l, s.2))
/-- The octets of an address: i of them are read. -/
def octsTo (six : Bool) (k : Nat) (s : List Int × Bool) : Nat → (Int × Int) × (List Int × Bool)
  | 0 => ((0, 0), s)
  | i + 1 =>
    let o := octsTo six k s i
    let t := if i < k then takeN o.2 else (0, o.2)
    (if six = true ∧ i < 8 then (o.1.1 * 256 + t.1, o.1.2) else (o.1.1, o.1.2 * 256 + t.1), t.2)
def routeN (s : List Int × Bool) : RouteV × (List Int × Bool) :=
  let t1 := takeN s
  let t2 := takeN t1.2
  let six := t1.1 != 0
  if wideI six < t2.1 then (⟨⟨six, 0, 0, t2.1⟩, 0⟩, (t2.2.1, true))
  else
    let o := octsTo six ((t2.1 + 7) / 8).toNat t2.2 (widN six / 8)
    let h1 := takeN o.2
    let h2 := takeN h1.2
    (⟨⟨six, o.1.1, o.1.2, t2.1⟩, h1.1 * 256 + h2.1⟩, h2.2)
def loadTo : Nat → List Int × Bool → List RouteV → List RouteV × Bool
  | 0, s, out => (out, s.2)
  | i + 1, s, out => if s.2 = true then (out, true) else loadTo i (routeN s).2 (out ++ [(routeN s).1])
def loadS (b : List Int) : List Int × Bool := ((b.take (b.length - 4)).drop 3, false)
def loadP (b : List Int) : List RouteV × Bool := loadTo (takeN (loadS b)).1.toNat (takeN (loadS b)).2 []

def acc (a : AV) : Nat → Int × Int
  | 0 => (0, 0)
  | i + 1 => if a.six = true ∧ i < 8 then ((acc a i).1 * 256 + octN a i, (acc a i).2) else ((acc a i).1, (acc a i).2 * 256 + octN a i)
theorem acc_four (hi lo : Int) (h : (⟨false, hi, lo⟩ : AV).Ok) : acc ⟨false, hi, lo⟩ 4 = (hi, lo) := by
  have h2 := h.rlo
  have hm := mayB_four h.may
  simp only at h2 hm
  have e0 := oct_four hi lo 0 h2.1
  have e1 := oct_four hi lo 1 h2.1
  have e2 := oct_four hi lo 2 h2.1
  have e3 := oct_four hi lo 3 h2.1
  simp at e0 e1 e2 e3
  simp only [acc, Bool.false_eq_true, false_and, if_false]
  rw [← e0, ← e1, ← e2, ← e3]
  refine Prod.ext ?_ ?_
  · simp only; omega
  · simp only; omega
theorem fold_step (x m : Int) (hm : 0 < m) : x / (m * 256) * 256 + x / m % 256 = x / m := by
  rw [← Int.ediv_ediv_of_nonneg (by omega : (0 : Int) ≤ m)]
  omega
theorem acc_six (hi lo : Int) (h : (⟨true, hi, lo⟩ : AV).Ok) : acc ⟨true, hi, lo⟩ 16 = (hi, lo) := by
  have h1 := h.rhi
  have h2 := h.rlo
  simp only at h1 h2
  have a0 := oct_high hi lo 0 h1.1 h2 (by omega)
  have a1 := oct_high hi lo 1 h1.1 h2 (by omega)
  have a2 := oct_high hi lo 2 h1.1 h2 (by omega)
  have a3 := oct_high hi lo 3 h1.1 h2 (by omega)
  have a4 := oct_high hi lo 4 h1.1 h2 (by omega)
  have a5 := oct_high hi lo 5 h1.1 h2 (by omega)
  have a6 := oct_high hi lo 6 h1.1 h2 (by omega)
  have a7 := oct_high hi lo 7 h1.1 h2 (by omega)
  have b0 := oct_low hi lo 8 h1.1 h2.1 (by omega) (by omega)
  have b1 := oct_low hi lo 9 h1.1 h2.1 (by omega) (by omega)
  have b2 := oct_low hi lo 10 h1.1 h2.1 (by omega) (by omega)
  have b3 := oct_low hi lo 11 h1.1 h2.1 (by omega) (by omega)
  have b4 := oct_low hi lo 12 h1.1 h2.1 (by omega) (by omega)
  have b5 := oct_low hi lo 13 h1.1 h2.1 (by omega) (by omega)
  have b6 := oct_low hi lo 14 h1.1 h2.1 (by omega) (by omega)
  have b7 := oct_low hi lo 15 h1.1 h2.1 (by omega) (by omega)
  simp at a0 a1 a2 a3 a4 a5 a6 a7 b0 b1 b2 b3 b4 b5 b6 b7
  have g : ∀ x : Int, 0 ≤ x → x < 18446744073709551616 → (((((((0 * 256 + x / 72057594037927936 % 256) * 256 + x / 281474976710656 % 256) * 256 + x / 1099511627776 % 256) * 256 + x / 4294967296 % 256) * 256 + x / 16777216 % 256) * 256 + x / 65536 % 256) * 256 + x / 256 % 256) * 256 + x % 256 = x := by
    intro x hx0 hx1
    have s0 : 0 * 256 + x / 72057594037927936 % 256 = x / 72057594037927936 := by omega
    have s1 := fold_step x 281474976710656 (by omega)
    have s2 := fold_step x 1099511627776 (by omega)
    have s3 := fold_step x 4294967296 (by omega)
    have s4 := fold_step x 16777216 (by omega)
    have s5 := fold_step x 65536 (by omega)
    have s6 := fold_step x 256 (by omega)
    simp only [Int.reduceMul] at s1 s2 s3 s4 s5 s6
    rw [s0, s1, s2, s3, s4, s5, s6]
    omega
  simp only [acc, true_and, Nat.reduceLT, if_true, if_false, Nat.lt_irrefl]
  rw [← a0, ← a1, ← a2, ← a3, ← a4, ← a5, ← a6, ← a7, ← b0, ← b1, ← b2, ← b3, ← b4, ← b5, ← b6, ← b7]
  refine Prod.ext ?_ ?_
  · exact g hi h1.1 h1.2
  · exact g lo h2.1 h2.2
theorem acc_all {a : AV} (h : a.Ok) : acc a (widN a.six / 8) = (a.hi, a.lo) := by
  obtain ⟨six, hi, lo⟩ := a
  cases six with
  | false =>
    have e : widN (⟨false, hi, lo⟩ : AV).six / 8 = 4 := by simp [widN]
    rw [e]; exact acc_four hi lo h
  | true =>
    have e : widN (⟨true, hi, lo⟩ : AV).six / 8 = 16 := by simp [widN]
    rw [e]; exact acc_six hi lo h
/-- Behind a prefix's end the octets are 0. -/
theorem octN_zero {p : PV} (hp : p.Ok) {i : Nat} (h1 : p.n ≤ 8 * (i : Int)) (h2 : 8 * i + 8 ≤ widN p.six) : octN p.addr i = 0 := by
  obtain ⟨q, hq⟩ := PV.dvd hp
  have hk := PV.k_le hp
  obtain ⟨t, ht⟩ : ∃ t : Nat, p.k = (widN p.six - 8 - 8 * i) + (8 + t) := ⟨p.k - (widN p.six - 8 - 8 * i) - 8, by omega⟩
  have e : p.addr.v = 2 ^ (widN p.six - 8 - 8 * i) * (256 * (2 ^ t * q)) := by
    show p.v = _
    rw [hq, ht, Nat.pow_add, Nat.pow_add, show (2 : Nat) ^ 8 = 256 by decide, Nat.mul_assoc, Nat.mul_assoc]
  show p.addr.v / 2 ^ (widN p.six - 8 - 8 * i) % 256 = 0
  rw [e, Nat.mul_div_cancel_left _ (Nat.two_pow_pos _), Nat.mul_mod_right]
theorem octs_at (r : RouteV) (k i : Nat) (h : i < k) : (octs r k).drop i = (octN r.p.addr i : Int) :: (octs r k).drop (i + 1) := by
  rw [List.drop_eq_getElem_cons (by rw [octs_length]; exact h)]
  congr 1
  unfold octs
  simp
theorem octsTo_save (r : RouteV) (k : Nat) (hz : ∀ i, k ≤ i → i < widN r.p.six / 8 → octN r.p.addr i = 0) (rest : List Int) : ∀ i, i ≤ widN r.p.six / 8 → octsTo r.p.six k (octs r k ++ rest, false) i = (acc r.p.addr i, ((octs r k).drop i ++ rest, false))
  | 0, _ => rfl
  | i + 1, hi => by
    have ih := octsTo_save r k hz rest i (by omega)
    unfold octsTo
    rw [ih]
    simp only
    by_cases hk : i < k
    · rw [if_pos hk, octs_at r k i hk]
      simp only [takeN, List.cons_append]
      rw [acc]
      rfl
    · have e1 : (octs r k).drop i = [] := List.drop_of_length_le (by rw [octs_length]; omega)
      have e2 : (octs r k).drop (i + 1) = [] := List.drop_of_length_le (by rw [octs_length]; omega)
      rw [if_neg hk, e1, e2]
      simp only
      rw [acc, hz i (by omega) (by omega)]
      rfl
theorem routeN_save {r : RouteV} (hr : RouteB r) (hp : r.p.Ok) (rest : List Int) : routeN (rbL r ++ rest, false) = (r, (rest, false)) := by
  have hk := hr.k
  have h0 := hr.n0
  have h1 := hr.n1
  have hz : ∀ i, kO r ≤ i → i < widN r.p.six / 8 → octN r.p.addr i = 0 := fun i h2 h3 => octN_zero hp (by unfold kO at h2; omega) (by omega)
  have e : rbL r ++ rest = (if r.p.six then 1 else 0) :: r.p.n :: (octs r (kO r) ++ (r.hop / 256 :: r.hop % 256 :: rest)) := by unfold rbL; simp
  have e6 : ((if r.p.six then (1 : Int) else 0) != 0) = r.p.six := by cases r.p.six <;> rfl
  obtain ⟨x, hx⟩ : ∃ x, (if r.p.six then (1 : Int) else 0) = x := ⟨_, rfl⟩
  rw [hx] at e e6
  have ho := octsTo_save r (kO r) hz (r.hop / 256 :: r.hop % 256 :: rest) _ (Nat.le_refl _)
  have hd : (octs r (kO r)).drop (widN r.p.six / 8) = [] := List.drop_of_length_le (by rw [octs_length]; omega)
  rw [show acc r.p.addr (widN r.p.six / 8) = (r.p.hi, r.p.lo) from acc_all hr.a, hd] at ho
  rw [e]
  have hlt : ¬ wideI r.p.six < r.p.n := by omega
  unfold routeN
  simp only [takeN, e6]
  rw [if_neg hlt]
  rw [show ((r.p.n + 7) / 8).toNat = kO r from rfl, ho]
  simp only [List.nil_append]
  refine Prod.ext ?_ rfl
  obtain ⟨⟨six, hi, lo, n⟩, hop⟩ := r
  show (⟨⟨six, hi, lo, n⟩, hop / 256 * 256 + hop % 256⟩ : RouteV) = _
  congr 1
  omega
theorem loadTo_save : ∀ (L : List RouteV) (rest : List Int) (out : List RouteV), (∀ r ∈ L, RouteB r ∧ r.p.Ok) → loadTo L.length (L.flatMap rbL ++ rest, false) out = (out ++ L, false)
  | [], rest, out, _ => by simp [loadTo]
  | r :: L, rest, out, h => by
    have h1 := h r (by simp)
    have e := routeN_save h1.1 h1.2 (L.flatMap rbL ++ rest)
    rw [List.flatMap_cons, List.append_assoc]
    show loadTo (L.length + 1) _ _ = _
    unfold loadTo
    rw [if_neg (by simp), e]
    simp only
    rw [loadTo_save L rest _ (fun x hx => h x (by simp [hx]))]
    simp
theorem save_split (S : List RouteV) (t : List Int) (ht : t.length = 4) : (saveL S ++ t).take ((saveL S ++ t).length - 4) = saveL S := by
  rw [List.length_append, ht, Nat.add_sub_cancel, List.take_left]
theorem loadP_save {S : List RouteV} (h : ∀ r ∈ S, RouteB r ∧ r.p.Ok) (t : List Int) (ht : t.length = 4) : loadP (saveL S ++ t) = (S, false) := by
  have e : loadS (saveL S ++ t) = ((S.length : Int) :: S.flatMap rbL, false) := by
    unfold loadS
    rw [save_split S t ht]
    rfl
  unfold loadP
  rw [e]
  simp only [takeN, Int.toNat_natCast]
  have := loadTo_save S [] [] h
  simpa using this

/-- The bits that the reference reads: of k octets, then zeros. -/
def bitsO (l : List Int) (k wid : Nat) : List Int := (List.range wid).map fun j => if j < 8 * k then l[j / 8]?.getD 0 / 2 ^ (7 - j % 8) % 2 else 0
def refR : List Int → Option (RouteV × List Int)
  | x :: y :: l =>
    let six := x != 0
    let k := ((y + 7) / 8).toNat
    if wideI six < y ∨ l.length < k + 2 then none
    else some (⟨⟨six, hiOf six (bitsO l k (widN six)), loOf six (bitsO l k (widN six)), y⟩, 256 * l[k]?.getD 0 + l[k + 1]?.getD 0⟩, l.drop (k + 2))
  | _ => none
def refTo : Nat → List Int → List RouteV → Option (List RouteV)
  | 0, _, out => some out
  | i + 1, rest, out => match refR rest with
    | none => none
    | some x => refTo i x.2 (out ++ [x.1])
def refP (b : List Int) : Option (List RouteV) := refTo (b[3]?.getD 0).toNat ((b.take (b.length - 4)).drop 4) []

theorem bit_mod (x s : Nat) (h : s < 8) : x % 256 / 2 ^ s % 2 = x / 2 ^ s % 2 := by
  rcases (by omega : s = 0 ∨ s = 1 ∨ s = 2 ∨ s = 3 ∨ s = 4 ∨ s = 5 ∨ s = 6 ∨ s = 7) with rfl | rfl | rfl | rfl | rfl | rfl | rfl | rfl <;> simp <;> omega
theorem oct_bit (a : AV) (j : Nat) (h : 8 * (j / 8) + 8 ≤ widN a.six) : octN a (j / 8) / 2 ^ (7 - j % 8) % 2 = a.v / 2 ^ (widN a.six - 1 - j) % 2 := by
  unfold octN
  rw [bit_mod _ _ (by omega), Nat.div_div_eq_div_mul, ← Nat.pow_add]
  congr 3
  omega
theorem bits_zero {p : PV} (hp : p.Ok) {j : Nat} (h1 : p.n ≤ (j : Int)) (h2 : j < widN p.six) : p.addr.v / 2 ^ (widN p.six - 1 - j) % 2 = 0 := by
  obtain ⟨q, hq⟩ := PV.dvd hp
  have hk := PV.k_le hp
  obtain ⟨t, ht⟩ : ∃ t : Nat, p.k = (widN p.six - 1 - j) + (1 + t) := ⟨p.k - (widN p.six - 1 - j) - 1, by omega⟩
  have e : p.addr.v = 2 ^ (widN p.six - 1 - j) * (2 * (2 ^ t * q)) := by
    show p.v = _
    rw [hq, ht, Nat.pow_add, Nat.pow_add, show (2 : Nat) ^ 1 = 2 by decide, Nat.mul_assoc, Nat.mul_assoc]
  rw [e, Nat.mul_div_cancel_left _ (Nat.two_pow_pos _), Nat.mul_mod_right]
theorem octs_get (r : RouteV) (k i : Nat) (h : i < k) (rest : List Int) : (octs r k ++ rest)[i]?.getD 0 = (octN r.p.addr i : Int) := by
  rw [List.getElem?_append_left (by rw [octs_length]; exact h)]
  unfold octs
  rw [List.getElem?_map, List.getElem?_range h]
  rfl
theorem bitsO_bits (l : List Int) (k wid : Nat) : Bits (bitsO l k wid) := by
  intro b hb
  obtain ⟨j, _, rfl⟩ := List.mem_map.1 hb
  split <;> omega
theorem bitsO_length (l : List Int) (k wid : Nat) : (bitsO l k wid).length = wid := by simp [bitsO]
theorem refR_save {r : RouteV} (hr : RouteB r) (hp : r.p.Ok) (rest : List Int) : refR (rbL r ++ rest) = some (r, rest) := by
  have hk := hr.k
  have h0 := hr.n0
  have h1 := hr.n1
  have e : rbL r ++ rest = (if r.p.six then 1 else 0) :: r.p.n :: (octs r (kO r) ++ (r.hop / 256 :: r.hop % 256 :: rest)) := by unfold rbL; simp
  have e6 : ((if r.p.six then (1 : Int) else 0) != 0) = r.p.six := by cases r.p.six <;> rfl
  obtain ⟨x, hx⟩ : ∃ x, (if r.p.six then (1 : Int) else 0) = x := ⟨_, rfl⟩
  rw [hx] at e e6
  have hbits : ∀ j : Nat, (j : Int) < wideI r.p.six → (bitsO (octs r (kO r) ++ (r.hop / 256 :: r.hop % 256 :: rest)) (kO r) (widN r.p.six))[j]? = some (bitI r.p.six r.p.hi r.p.lo j) := by
    intro j hj
    rw [widN_eq] at hj
    have hj2 : j < widN r.p.six := by omega
    unfold bitsO
    rw [List.getElem?_map, List.getElem?_range hj2]
    have hb := AV.bitN (a := r.p.addr) hr.a (i := j) hj2
    show some _ = some _
    congr 1
    rw [show bitI r.p.six r.p.hi r.p.lo (j : Int) = _ from hb]
    show (if j < 8 * kO r then (octs r (kO r) ++ (r.hop / 256 :: r.hop % 256 :: rest))[j / 8]?.getD 0 / 2 ^ (7 - j % 8) % 2 else 0) = _
    by_cases hjk : j < 8 * kO r
    · rw [if_pos hjk, octs_get r (kO r) (j / 8) (by omega)]
      have := oct_bit r.p.addr j (by show 8 * (j / 8) + 8 ≤ widN r.p.six; omega)
      rw [← this, Int.natCast_emod, Int.natCast_ediv, Int.natCast_pow]
      rfl
    · rw [if_neg hjk]
      rw [show r.p.addr.v / 2 ^ (widN r.p.addr.six - 1 - j) % 2 = 0 from bits_zero hp (by unfold kO at hjk; omega) hj2]
      rfl
  have hu := of_unique r.p.six _ (bitsO_bits _ _ _) (by rw [bitsO_length, widN_eq]) r.p.hi r.p.lo hr.a.rhi hr.a.rlo hr.a.may hbits
  have g0 : (octs r (kO r) ++ (r.hop / 256 :: r.hop % 256 :: rest))[kO r]?.getD 0 = r.hop / 256 := by
    rw [List.getElem?_append_right (by rw [octs_length]; exact Nat.le_refl _), octs_length, Nat.sub_self]
    rfl
  have g1 : (octs r (kO r) ++ (r.hop / 256 :: r.hop % 256 :: rest))[kO r + 1]?.getD 0 = r.hop % 256 := by
    rw [List.getElem?_append_right (by rw [octs_length]; omega), octs_length, Nat.add_sub_cancel_left]
    rfl
  have g2 : (octs r (kO r) ++ (r.hop / 256 :: r.hop % 256 :: rest)).drop (kO r + 2) = rest := by
    rw [List.drop_append, octs_length, List.drop_of_length_le (by rw [octs_length]; omega), Nat.add_sub_cancel_left]
    rfl
  rw [e]
  unfold refR
  simp only [e6]
  rw [show ((r.p.n + 7) / 8).toNat = kO r from rfl, if_neg (by rw [List.length_append, octs_length]; simp only [List.length_cons]; omega), hu.1, hu.2, g0, g1, g2]
  congr 2
  obtain ⟨⟨six, hi, lo, n⟩, hop⟩ := r
  show (⟨⟨six, hi, lo, n⟩, 256 * (hop / 256) + hop % 256⟩ : RouteV) = _
  congr 1
  omega
theorem refTo_save : ∀ (L : List RouteV) (rest : List Int) (out : List RouteV), (∀ r ∈ L, RouteB r ∧ r.p.Ok) → refTo L.length (L.flatMap rbL ++ rest) out = some (out ++ L)
  | [], rest, out, _ => by simp [refTo]
  | r :: L, rest, out, h => by
    have h1 := h r (by simp)
    have e := refR_save h1.1 h1.2 (L.flatMap rbL ++ rest)
    rw [List.flatMap_cons, List.append_assoc]
    show refTo (L.length + 1) _ _ = _
    unfold refTo
    rw [e]
    simp only
    rw [refTo_save L rest _ (fun x hx => h x (by simp [hx]))]
    simp
theorem refP_save {S : List RouteV} (h : ∀ r ∈ S, RouteB r ∧ r.p.Ok) (t : List Int) (ht : t.length = 4) : refP (saveL S ++ t) = some S := by
  unfold refP
  rw [save_split S t ht]
  have e3 : (saveL S ++ t)[3]?.getD 0 = (S.length : Int) := rfl
  have e4 : (saveL S).drop 4 = S.flatMap rbL := rfl
  rw [e3, e4, Int.toNat_natCast]
  have := refTo_save S [] [] h
  simpa using this

end Go.Proofs.Ytmljdjakbbedlaa

namespace Go.Proofs.Ytmljdjakbbedlaa
open Go.ChangeShapes Go.WideShapes Go.ChangeAt Go.RowKit

/-- A reader of bytes in block g. -/
def Rdr (w : World) (g B : Nat) (s : List Int × Bool) : Prop :=
  ∃ (ad : Addr) (m c : Nat), Blk w g 178 #[.slice (some ad) m c, .bool s.2] ∧ s.1.length = m ∧ m < c ∧ c ≤ maxLen ∧ Reads w B 1 (some ad) m (s.1.map (Value.int .u8)) ∧ B ≤ g
def Took (w : World) (g B : Nat) (r : Int × (List Int × Bool)) (e : Ending) (w' : World) : Prop := e = .returned (.int .i64 r.1) ∧ Rdr w' g B r.2 ∧ Kept [g] w w'

set_option maxRecDepth 100000 in
set_option maxHeartbeats 1600000 in
theorem take_any {w : World} {g B : Nat} {s : List Int × Bool} (h : Rdr w g B s) (hb : ∀ x ∈ s.1, 0 ≤ x ∧ x ≤ 255) :
    Calls Try.prog 96 #[.pointer (some ⟨g, 0, none⟩)] w (Took w g B (takeN s)) := by
  obtain ⟨l, bad⟩ := s
  obtain ⟨ad, m, c, hk, hz, hmc, hcm, hr, hB⟩ := h
  have x0 := hk.cell 0
  have x1 := hk.cell 1
  have f0 := hk.frozen 0
  have f1 := hk.frozen 1
  have hg := hk.lt
  simp at x0 x1
  unfold maxLen at hcm
  have HK := Lib.hid hk
  have HR := Lib.hid hr
  cases l with
  | nil =>
    obtain rfl : m = 0 := by simpa using hz.symm
    have hfin : Took w g B (0, ([], true)) (.returned (.int .i64 0)) (w.setCell ⟨g, 1, none⟩ (.bool true)) :=
      ⟨rfl, ⟨ad, 0, c, by have := hk.set_ 1 (.bool true); simpa using this, rfl, hmc, by unfold maxLen; omega, hr.setCell hB _, hB⟩, (Kept.of_below (Below.refl _ _)).setCellS (by simp) _⟩
    obtain ⟨post, hpost⟩ : ∃ post, Took w g B (0, ([], true)) = post := ⟨_, rfl⟩
    show Calls _ _ _ _ (Took w g B (0, ([], true)))
    rw [hpost] at hfin ⊢
    have HF := Lib.hid hfin
    clear hk hr hz hfin hpost
    go_enter Try.func96, Try.ntmps96
    go_wp2
    exact HF.out
  | cons x l =>
    have hx := hb x (by simp)
    obtain ⟨ad', e1, hbl, hcell⟩ := hr.2 (by simp at hz; omega)
    injection e1 with e1
    subst e1
    have hc0 := hcell 0 (.int .u8 x) (by simp)
    have ea : ad.add 0 = ad := by simp [Addr.add]
    rw [ea] at hc0
    have hz' : l.length + 1 = m := by simpa using hz
    subst hz'
    have hr1 : Reads w B 1 (some (ad.add 1)) l.length (l.map (Value.int .u8)) := by
      have := hr.cut (k := 1) (cap := c) (by omega) (by omega)
      rw [if_neg (by omega)] at this
      simpa using this
    have hfin : Took w g B (x, (l, bad)) (.returned (.int .i64 x)) (w.setCell ⟨g, 0, none⟩ (.slice (some (ad.add 1)) l.length (c - 1))) :=
      ⟨rfl, ⟨ad.add 1, l.length, c - 1, by have := hk.set_ 0 (.slice (some (ad.add 1)) l.length (c - 1)); simpa using this, rfl, by omega, by unfold maxLen; omega, hr1.setCell hB _, hB⟩, (Kept.of_below (Below.refl _ _)).setCellS (by simp) _⟩
    obtain ⟨post, hpost⟩ : ∃ post, Took w g B (x, (l, bad)) = post := ⟨_, rfl⟩
    show Calls _ _ _ _ (Took w g B (x, (l, bad)))
    rw [hpost] at hfin ⊢
    have HF := Lib.hid hfin
    generalize l.length = ln at *
    clear hk hr hr1 hz hfin hpost hcell HR HK
    go_enter Try.func96, Try.ntmps96
    go_wp2
    exact HF.out

theorem or8_u64 (x y : Int) (h1 : 0 ≤ x) (h2 : x < 72057594037927936) (h3 : 0 ≤ y) (h4 : y < 256) : bits .or .u64 (x * 256) y = x * 256 + y := by
  rw [u64_or (x * 256) y (by omega) (by omega) h3 (by omega), nat_join 8 _ _ (by omega) (by omega)]
  omega
theorem or8_i64 (x y : Int) (h1 : 0 ≤ x) (h2 : x < 65536) (h3 : 0 ≤ y) (h4 : y < 256) : bits .or .i64 (x * 256) y = x * 256 + y := by
  obtain ⟨X, rfl⟩ := Int.eq_ofNat_of_zero_le h1
  obtain ⟨Y, rfl⟩ := Int.eq_ofNat_of_zero_le h3
  rw [show (X : Int) * 256 = ((X * 256 : Nat) : Int) by omega]
  show IntKind.i64.wrap ((BitVec.ofInt 64 ((X * 256 : Nat) : Int) ||| BitVec.ofInt 64 (Y : Int)).toNat : Int) = _
  rw [BitVec.toNat_or, ofInt_u64 _ (by omega), ofInt_u64 _ (by omega), IntKind.wrap_i64, nat_join 8 _ _ (by omega) (by omega)]
  omega
theorem shl_or (a x : Int) (h1 : 0 ≤ a) (h2 : a < 72057594037927936) (h3 : 0 ≤ x) (h4 : x < 256) : bits .or .u64 (IntKind.u64.wrap (a * 256)) x = a * 256 + x := by
  rw [show IntKind.u64.wrap (a * 256) = a * 256 by rw [IntKind.wrap_u64]; omega, or8_u64 a x h1 h2 h3 h4]
theorem p256 : (256 ^ 7 : Nat) = 72057594037927936 := by decide
theorem takeN_mem {s : List Int × Bool} (h : ∀ x ∈ s.1, 0 ≤ x ∧ x ≤ 255) : (0 ≤ (takeN s).1 ∧ (takeN s).1 ≤ 255) ∧ ∀ x ∈ (takeN s).2.1, 0 ≤ x ∧ x ≤ 255 := by
  obtain ⟨l, b⟩ := s
  cases l with
  | nil => exact ⟨⟨by simp [takeN], by simp [takeN]⟩, by simp [takeN]⟩
  | cons x l => exact ⟨h x (by simp), fun y hy => h y (by simp; right; exact hy)⟩
/-- What is read of an address stays within its words. -/
structure OctB (six : Bool) (i : Nat) (o : (Int × Int) × (List Int × Bool)) : Prop where
  mem : ∀ x ∈ o.2.1, 0 ≤ x ∧ x ≤ 255
  h0 : 0 ≤ o.1.1
  l0 : 0 ≤ o.1.2
  h1 : o.1.1 < ((256 ^ (min i 8) : Nat) : Int)
  l1 : o.1.2 < ((256 ^ (if six = true then i - 8 else i) : Nat) : Int)
theorem octsTo_bound (six : Bool) (k : Nat) (s : List Int × Bool) (hb : ∀ x ∈ s.1, 0 ≤ x ∧ x ≤ 255) : ∀ i, OctB six i (octsTo six k s i)
  | 0 => ⟨hb, by simp [octsTo], by simp [octsTo], by simp [octsTo], by simp [octsTo]⟩
  | i + 1 => by
    obtain ⟨a1, a2, a3, a4, a5⟩ := octsTo_bound six k s hb i
    have ht : (0 ≤ (if i < k then takeN (octsTo six k s i).2 else (0, (octsTo six k s i).2)).1 ∧ (if i < k then takeN (octsTo six k s i).2 else (0, (octsTo six k s i).2)).1 ≤ 255) ∧ ∀ x ∈ (if i < k then takeN (octsTo six k s i).2 else (0, (octsTo six k s i).2)).2.1, 0 ≤ x ∧ x ≤ 255 := by
      split
      · exact takeN_mem a1
      · exact ⟨⟨by simp, by simp⟩, a1⟩
    unfold octsTo
    simp only
    generalize (if i < k then takeN (octsTo six k s i).2 else (0, (octsTo six k s i).2)) = t at *
    generalize octsTo six k s i = o at *
    obtain ⟨⟨t1, t2⟩, t3⟩ := ht
    by_cases hc : six = true ∧ i < 8
    · rw [if_pos hc]
      obtain ⟨rfl, h8⟩ := hc
      refine ⟨t3, ?_, a3, ?_, ?_⟩
      · simp only; omega
      · simp only
        rw [Nat.min_eq_left (by omega)] at a4 ⊢
        rw [Nat.pow_succ]
        omega
      · simp only [if_true] at a5 ⊢
        rw [show i + 1 - 8 = i - 8 by omega]
        exact a5
    · rw [if_neg hc]
      refine ⟨t3, a2, ?_, ?_, ?_⟩
      · simp only; omega
      · simp only
        refine Int.lt_of_lt_of_le a4 ?_
        have : 256 ^ (min i 8) ≤ 256 ^ (min (i + 1) 8) := Nat.pow_le_pow_right (by omega) (by omega)
        omega
      · simp only
        have e : (if six = true then i + 1 - 8 else i + 1) = (if six = true then i - 8 else i) + 1 := by
          cases six with
          | false => rfl
          | true => simp only [if_true]; simp at hc; omega
        rw [e, Nat.pow_succ]
        generalize (256 ^ (if six = true then i - 8 else i) : Nat) = P at *
        omega
theorem Rdr.keep {w w' : World} {g B : Nat} {s : List Int × Bool} (h : Rdr w g B s) (hb : Below B w w') (hg : w'.heap[g]? = w.heap[g]?) : Rdr w' g B s := by
  obtain ⟨ad, m, c, hk, hz, hmc, hcm, hr, hB⟩ := h
  exact ⟨ad, m, c, hg.trans hk, hz, hmc, hcm, hr.below hb, hB⟩
theorem Rdr.lt {w : World} {g B : Nat} {s : List Int × Bool} (h : Rdr w g B s) : g < w.heap.size := let ⟨_, _, _, hk, _⟩ := h; hk.lt
theorem Rdr.le {w : World} {g B : Nat} {s : List Int × Bool} (h : Rdr w g B s) : B ≤ g := let ⟨_, _, _, _, _, _, _, _, h⟩ := h; h
theorem Rdr.far {w : World} {g B : Nat} {s : List Int × Bool} (h : Rdr w g B s) {p : Addr} (hp : g ≠ p.block) (hB : B ≤ p.block) (u : Value) : Rdr (w.setCell p u) g B s := by
  obtain ⟨ad, m, c, hk, hz, hmc, hcm, hr, hB'⟩ := h
  exact ⟨ad, m, c, hk.far hp u, hz, hmc, hcm, hr.setCell hB u, hB'⟩
theorem Rdr.alloc {w : World} {g B : Nat} {s : List Int × Bool} (h : Rdr w g B s) (hB : B ≤ w.heap.size) (o : Obj) : Rdr (w.alloc o) g B s := by
  obtain ⟨ad, m, c, hk, hz, hmc, hcm, hr, hB'⟩ := h
  exact ⟨ad, m, c, hk.alloc o, hz, hmc, hcm, hr.alloc hB o, hB'⟩
theorem Rdr.bad {w : World} {g B : Nat} {s : List Int × Bool} (h : Rdr w g B s) : Rdr (w.setCell ⟨g, 1, none⟩ (.bool true)) g B (s.1, true) := by
  obtain ⟨ad, m, c, hk, hz, hmc, hcm, hr, hB'⟩ := h
  exact ⟨ad, m, c, by have := hk.set_ 1 (.bool true); simpa using this, hz, hmc, hcm, hr.setCell hB' _, hB'⟩
def Routed (w : World) (g B : Nat) (r : RouteV × (List Int × Bool)) (e : Ending) (w' : World) : Prop := e = .returned (.agg #[.bool r.1.p.six, .int .u64 r.1.p.hi, .int .u64 r.1.p.lo, .int .i64 r.1.p.n, .int .i64 r.1.hop]) ∧ Rdr w' g B r.2 ∧ Kept [g] w w'
theorem Blk.keepG {g q : Nat} {w w' : World} {t : TypeId} {cs : Array Value} (h : Blk w q t cs) (hk : Kept [g] w w') (hq : g ≠ q) : Blk w' q t cs := (hk.block q h.lt (by simp; omega)).trans h
theorem Kept.transG {S : List Nat} {w w1 w2 : World} (h : Kept S w w1) (h' : Kept S w1 w2) : Kept S w w2 :=
  ⟨h'.os.trans h.os, h'.tape.trans h.tape, h'.output.trans h.output, Nat.le_trans h.size h'.size, fun k hk hn => (h'.block k (by have := h.size; omega) hn).trans (h.block k hk hn)⟩
theorem Kept.new1 {g : Nat} {w w' : World} (h : Kept [g] w w') {p : Addr} (hp : w.heap.size ≤ p.block) (u : Value) : Kept [g] w (w'.setCell p u) := h.setCell (.inr hp) u

theorem routed_fin {w W : World} {g B : Nat} {r : RouteV × (List Int × Bool)} (hr : Rdr W g B r.2) (hk : Kept [g] w W) (hqg : g ≠ w.heap.size) (hB : B ≤ w.heap.size) (u0 u1 u2 u3 u4 : Value) :
    Routed w g B r (.returned (.agg #[.bool r.1.p.six, .int .u64 r.1.p.hi, .int .u64 r.1.p.lo, .int .i64 r.1.p.n, .int .i64 r.1.hop])) (((((W.setCell ⟨w.heap.size, 0, none⟩ u0).setCell ⟨w.heap.size, 1, none⟩ u1).setCell ⟨w.heap.size, 2, none⟩ u2).setCell ⟨w.heap.size, 3, none⟩ u3).setCell ⟨w.heap.size, 4, none⟩ u4) :=
  ⟨rfl, ((((hr.far hqg hB _).far hqg hB _).far hqg hB _).far hqg hB _).far hqg hB _, ((((hk.new1 (Nat.le_refl _) _).new1 (Nat.le_refl _) _).new1 (Nat.le_refl _) _).new1 (Nat.le_refl _) _).new1 (Nat.le_refl _) _⟩

set_option maxRecDepth 100000 in
set_option maxHeartbeats 3200000 in
theorem route_any {w : World} {g B : Nat} {s : List Int × Bool} (h : Rdr w g B s) (hb : ∀ x ∈ s.1, 0 ≤ x ∧ x ≤ 255) :
    Calls Try.prog 97 #[.pointer (some ⟨g, 0, none⟩)] w (Routed w g B (routeN s)) := by
  have hg := h.lt
  have hBg := h.le
  obtain ⟨R, hR⟩ : ∃ R, routeN s = R := ⟨_, rfl⟩
  rw [hR]
  have HR := Lib.hid hR
  obtain ⟨post, hpost⟩ : ∃ post, Routed w g B R = post := ⟨_, rfl⟩
  have HP := Lib.hid hpost
  rw [hpost]
  clear hR hpost
  have CT := Lib.hid (fun (W : World) (s : List Int × Bool) (h : Rdr W g B s) (hb : ∀ x ∈ s.1, 0 ≤ x ∧ x ≤ 255) => take_any h hb)
  have CW := Lib.hid wide_any
  obtain ⟨X, hX⟩ : ∃ X : World, X = w.alloc (.cells #[.bool false, .int .u64 0, .int .u64 0, .int .i64 0, .int .i64 0] 48) := ⟨_, rfl⟩
  have kX : Blk X w.heap.size 48 #[.bool false, .int .u64 0, .int .u64 0, .int .i64 0, .int .i64 0] := by rw [hX]; exact Blk.new _ _ _
  have rX : Rdr X g B s := by rw [hX]; exact h.alloc (by omega) _
  have KX : Kept [g] w X := by rw [hX]; exact (Kept.of_below (Below.refl _ _)).alloc _
  have HRX := Lib.hid rX
  have HKX := Lib.hid KX
  have HX := Lib.hid hX
  have m1 := takeN_mem hb
  obtain ⟨t1, ht1⟩ : ∃ t1, takeN s = t1 := ⟨_, rfl⟩
  have C1 := Lib.hid (CT.out X s rX hb)
  rw [ht1] at C1 m1
  have m2 := takeN_mem m1.2
  obtain ⟨t2, ht2⟩ : ∃ t2, takeN t1.2 = t2 := ⟨_, rfl⟩
  rw [ht2] at m2
  obtain ⟨x1, s1⟩ := t1
  obtain ⟨n, s2⟩ := t2
  obtain ⟨six, hsix⟩ : ∃ six : Bool, (x1 != 0) = six := ⟨_, rfl⟩
  have HT1 := Lib.hid ht1
  have HT2 := Lib.hid ht2
  have HM1 := Lib.hid m1.2
  have HM2 := Lib.hid m2.2
  have hn := m2.1
  simp only at hn
  have HSX := Lib.hid hsix
  clear m1 m2 ht1 ht2 rX KX h hb
  have hqg : g ≠ w.heap.size := by omega
  have hsx := HSX.out
  go_enter Try.func97, Try.ntmps97
  go_wp2_with fail
  rw [← HX.out]
  refine C1.out.mono ?_
  rintro e w1 ⟨rfl, r1, k1⟩
  have kq1 := Blk.keepG kX k1 hqg
  have f0 := kq1.frozen 0
  have y0 := kq1.cell 0
  simp at y0
  have hq1 := kq1.lt
  have HR1 := Lib.hid r1
  have HK1 := Lib.hid (HKX.out.transG k1)
  obtain ⟨W1, hW1⟩ : ∃ W1, W1 = w1.setCell ⟨w.heap.size, 0, none⟩ (.bool six) := ⟨_, rfl⟩
  have kW1 : Blk W1 w.heap.size 48 #[.bool six, .int .u64 0, .int .u64 0, .int .i64 0, .int .i64 0] := by rw [hW1]; have := Blk.set_ kq1 0 (.bool six); simpa using this
  have C2 := CT.out W1 s1 (by rw [hW1]; exact r1.far hqg (by simp; omega) _) HM1.out
  rw [HT2.out] at C2
  have HC2 := Lib.hid C2
  have HKW1 : Hid (Kept [g] w W1) := by show Kept _ _ _; rw [hW1]; exact HK1.out.new1 (Nat.le_refl _) _
  have HW1 := Lib.hid hW1
  clear r1 k1 kX hX kq1 C2 hW1
  simp only
  go_wp2_with fail
  rw [← HW1.out]
  refine HC2.out.mono ?_
  rintro e w2 ⟨rfl, r2, k2⟩
  have kq2 := Blk.keepG kW1 k2 hqg
  have f3 := kq2.frozen 3
  have z0 := kq2.cell 0
  have z3 := kq2.cell 3
  simp at z0 z3
  have hq2 := kq2.lt
  obtain ⟨W3, hW3⟩ : ∃ W3, W3 = w2.setCell ⟨w.heap.size, 3, none⟩ (.int .i64 n) := ⟨_, rfl⟩
  have kW3 : Blk W3 w.heap.size 48 #[.bool six, .int .u64 0, .int .u64 0, .int .i64 n, .int .i64 0] := by rw [hW3]; have := Blk.set_ kq2 3 (.int .i64 n); simpa using this
  have HR3 : Hid (Rdr W3 g B s2) := by show Rdr _ _ _ _; rw [hW3]; exact r2.far hqg (by simp; omega) _
  have HK3 : Hid (Kept [g] w W3) := by show Kept _ _ _; rw [hW3]; exact (HKW1.out.transG k2).new1 (Nat.le_refl _) _
  have HW3 := Lib.hid hW3
  clear r2 k2 kW1 kq2 hW3
  simp only
  go_wp2_with fail
  rw [← HW3.out]
  refine (CW.out six _).mono ?_
  rintro e w' ⟨rfl, rfl⟩
  have v0 := kW3.cell 0
  have v1 := kW3.cell 1
  have v2 := kW3.cell 2
  have v3 := kW3.cell 3
  have v4 := kW3.cell 4
  have g0 := kW3.frozen 0
  have g1 := kW3.frozen 1
  have g2 := kW3.frozen 2
  have g3 := kW3.frozen 3
  have g4 := kW3.frozen 4
  simp at v0 v1 v2 v3 v4
  have hq3 := kW3.lt
  have hwl := wideI_le six
  by_cases hbad : wideI six < n
  · have hRv : Hid (R = (⟨⟨six, 0, 0, n⟩, 0⟩, (s2.1, true))) := by
      show _ = _
      rw [← HR.out]
      unfold routeN
      simp only [HT1.out, HT2.out, HSX.out]
      rw [if_pos hbad]
    obtain ⟨ad, m, c, hkg, -⟩ := HR3.out
    have b1 := hkg.cell 1
    have fb1 := hkg.frozen 1
    have hg3 := hkg.lt
    have hne2 : ¬ w.heap.size = g := by omega
    have hne1 : ¬ g = w.heap.size := by omega
    simp at b1
    obtain ⟨WB, hWB⟩ : ∃ WB, WB = W3.setCell ⟨g, 1, none⟩ (.bool true) := ⟨_, rfl⟩
    have kWB : Blk WB w.heap.size 48 #[.bool six, .int .u64 0, .int .u64 0, .int .i64 n, .int .i64 0] := by rw [hWB]; exact kW3.far (by simp; omega) _
    have HRB : Hid (Rdr WB g B (s2.1, true)) := by show Rdr _ _ _ _; rw [hWB]; exact HR3.out.bad
    have HKB : Hid (Kept [g] w WB) := by show Kept _ _ _; rw [hWB]; exact HK3.out.setCellS (by simp) _
    have HWB := Lib.hid hWB
    have c0 := kWB.cell 0
    have c1 := kWB.cell 1
    have c2 := kWB.cell 2
    have c3 := kWB.cell 3
    have c4 := kWB.cell 4
    simp at c0 c1 c2 c3 c4
    have hqB := kWB.lt
    clear hkg hWB
    go_wp2
    rw [← HWB.out]
    refine bodyPost_ret (v := .agg #[.bool six, .int .u64 0, .int .u64 0, .int .i64 n, .int .i64 0]) ?_ rfl ?_
    · simp [results, Try.results97, go_sem, c0, c1, c2, c3, c4]
    · rw [← HP.out, hRv.out]
      exact routed_fin (r := (⟨⟨six, 0, 0, n⟩, 0⟩, (s2.1, true))) HRB.out HKB.out hqg (by omega) _ _ _ _ _
  · obtain ⟨k, hk⟩ : ∃ k : Nat, ((n + 7) / 8).toNat = k := ⟨_, rfl⟩
    have hk8 : (n + 7) / 8 = (k : Int) := by omega
    obtain ⟨N, hN⟩ : ∃ N : Nat, widN six / 8 = N := ⟨_, rfl⟩
    have hwN : Int.tdiv (wideI six) 8 = (N : Int) := by rw [widN_eq, Int.tdiv_eq_ediv_of_nonneg (by omega)]; omega
    have hwW : IntKind.i64.wrap (N : Int) = (N : Int) := by rw [IntWalk.i64_in _ (by cases six <;> simp [widN] at hN <;> omega)]
    have hN16 : N ≤ 16 ∧ (six = false → N = 4) := by cases six <;> simp [widN] at hN <;> simp <;> omega
    have hBD := Lib.hid (octsTo_bound six k s2 HM2.out)
    have hq7 : IntKind.i64.wrap (n + 7) = n + 7 := by rw [IntWalk.i64_in _ (by omega)]
    have hd7 : Int.tdiv (n + 7) 8 = (k : Int) := by rw [Int.tdiv_eq_ediv_of_nonneg (by omega)]; exact hk8
    have hw7 : IntKind.i64.wrap (k : Int) = (k : Int) := by rw [IntWalk.i64_in _ (by omega)]
    have hkk : k ≤ 33 := by omega
    obtain ⟨O, hO⟩ : ∃ O, octsTo six k s2 = O := ⟨_, rfl⟩
    rw [hO] at hBD
    have HO0 : Hid (O 0 = ((0, 0), s2)) := by show _ = _; rw [← hO]; rfl
    have HOS : Hid (∀ i, O (i + 1) = (if six = true ∧ i < 8 then ((O i).1.1 * 256 + (if i < k then takeN (O i).2 else (0, (O i).2)).1, (O i).1.2) else ((O i).1.1, (O i).1.2 * 256 + (if i < k then takeN (O i).2 else (0, (O i).2)).1), (if i < k then takeN (O i).2 else (0, (O i).2)).2)) := by
      intro i; rw [← hO]; rfl
    have hRv : Hid (R = (⟨⟨six, (O N).1.1, (O N).1.2, n⟩, (takeN (O N).2).1 * 256 + (takeN (takeN (O N).2).2).1⟩, (takeN (takeN (O N).2).2).2)) := by
      show _ = _
      rw [← HR.out]
      unfold routeN
      simp only [HT1.out, HT2.out, HSX.out]
      rw [if_neg hbad, hk, hN, hO]
    clear hO hN hk
    go_wp2
    go_loopw [35, 5, 6] (fun i _ _ wr => ∃ j : Nat, j ≤ N ∧ i = .int .i64 j ∧ Hid (Blk wr w.heap.size 48 #[.bool six, .int .u64 (O j).1.1, .int .u64 (O j).1.2, .int .i64 n, .int .i64 0]) ∧ Hid (Rdr wr g B (O j).2) ∧ Hid (Kept [g] w wr)) (fun i _ _ _ => N - (intOf i).toNat)
    case atStart => exact ⟨0, by omega, rfl, by rw [HO0.out]; exact kW3, by rw [HO0.out]; exact HR3.out, HK3.out⟩
    case round =>
      obtain ⟨j, hj, rfl, hkb, hrd, hkp⟩ := hrel
      obtain ⟨wo, rfl⟩ : ∃ wo : World, wo = wr := ⟨_, rfl⟩
      obtain ⟨m1, m2, m3, m4, m5⟩ := hBD.out j
      have hos := HOS.out j

      obtain ⟨o, hOj⟩ : ∃ o, O j = o := ⟨_, rfl⟩
      obtain ⟨⟨hi, lo⟩, sj⟩ := o
      rw [hOj] at hkb hrd m1 m2 m3 m4 m5 hos
      simp only at hkb hrd m1 m2 m3 m4 m5 hos
      have HOJ := Lib.hid hOj
      clear hOj
      by_cases hlt : j < N
      · have z0 := hkb.out.cell 0
        have z1 := hkb.out.cell 1
        have z2 := hkb.out.cell 2
        have z3 := hkb.out.cell 3
        have z4 := hkb.out.cell 4
        simp at z0 z1 z2 z3 z4
        have hqo := hkb.out.lt
        by_cases hjk : j < k
        · rw [if_pos hjk] at hos
          have C4 := CT.out wo sj hrd.out m1
          have mt := takeN_mem m1
          obtain ⟨t, ht⟩ : ∃ t, takeN sj = t := ⟨_, rfl⟩
          rw [ht] at C4 mt hos
          obtain ⟨x, s4⟩ := t
          have HC4 := Lib.hid C4
          have hx := mt.1
          simp only at hx hos
          have hxw : IntKind.u64.wrap x = x := by rw [IntKind.wrap_u64]; omega
          have dk : decide ((j : Int) < (k : Int)) = true := by simpa using hjk
          clear C4 mt ht m1
          go_wp2_with fail
          refine HC4.out.mono ?_
          rintro e w4 ⟨rfl, hrd4, hk4⟩
          have kq4 := Blk.keepG hkb.out hk4 hqg
          have u0 := kq4.cell 0
          have u1 := kq4.cell 1
          have u2 := kq4.cell 2
          have u3 := kq4.cell 3
          have u4 := kq4.cell 4
          simp at u0 u1 u2 u3 u4
          have e1 := kq4.frozen 1
          have e2 := kq4.frozen 2
          have hq4 := kq4.lt
          have HK4 := Lib.hid (hkp.out.transG hk4)
          have HR4 := Lib.hid hrd4
          clear hrd4 hk4
          simp only
          cases six with
          | false =>
            have hN4 := hN16.2 rfl
            have hp : (256 ^ j : Nat) ≤ 256 ^ 7 := Nat.pow_le_pow_right (by omega) (by omega)
            rw [p256] at hp
            simp only [Bool.false_eq_true, if_false] at m5
            have HV : Hid (bits .or .u64 (IntKind.u64.wrap (lo * 256)) x = lo * 256 + x) := shl_or _ _ (by omega) (by omega) (by omega) (by omega)
            have HO1 : Hid (O (j + 1) = ((hi, lo * 256 + x), s4)) := by show _ = _; rw [hos]; rw [if_neg (by simp)]
            clear hos m2 m3 m4 m5
            go_wp2
            go_roundw
            case rel =>
              refine ⟨j + 1, by omega, by go_num, ?_, ?_, HK4.out.new1 (Nat.le_refl _) _⟩
              · show Blk _ _ _ _
                rw [HV.out, HO1.out]
                have := Blk.set_ kq4 2 (.int .u64 (lo * 256 + x))
                simpa using this
              · show Rdr _ _ _ _
                rw [HO1.out]
                exact HR4.out.far hqg (show B ≤ w.heap.size by omega) _
            case measure => simp [intOf]; omega
          | true =>
            by_cases h8 : j < 8
            · have hp : (256 ^ (min j 8) : Nat) ≤ 256 ^ 7 := Nat.pow_le_pow_right (by omega) (by omega)
              rw [p256] at hp
              have d8 : decide ((j : Int) < 8) = true := by simp; omega
              have HV : Hid (bits .or .u64 (IntKind.u64.wrap (hi * 256)) x = hi * 256 + x) := shl_or _ _ (by omega) (by omega) (by omega) (by omega)
              have HO1 : Hid (O (j + 1) = ((hi * 256 + x, lo), s4)) := by show _ = _; rw [hos]; rw [if_pos ⟨rfl, h8⟩]
              clear hos m2 m3 m4 m5
              go_wp2
              go_roundw
              case rel =>
                refine ⟨j + 1, by omega, by go_num, ?_, ?_, HK4.out.new1 (Nat.le_refl _) _⟩
                · show Blk _ _ _ _
                  rw [HV.out, HO1.out]
                  have := Blk.set_ kq4 1 (.int .u64 (hi * 256 + x))
                  simpa using this
                · show Rdr _ _ _ _
                  rw [HO1.out]
                  exact HR4.out.far hqg (show B ≤ w.heap.size by omega) _
              case measure => simp [intOf]; omega
            · have hp : (256 ^ (j - 8) : Nat) ≤ 256 ^ 7 := Nat.pow_le_pow_right (by omega) (by omega)
              rw [p256] at hp
              simp only [if_true] at m5
              have d8 : decide ((j : Int) < 8) = false := by simp; omega
              have HV : Hid (bits .or .u64 (IntKind.u64.wrap (lo * 256)) x = lo * 256 + x) := shl_or _ _ (by omega) (by omega) (by omega) (by omega)
              have HO1 : Hid (O (j + 1) = ((hi, lo * 256 + x), s4)) := by show _ = _; rw [hos]; rw [if_neg (fun h => h8 h.2)]
              clear hos m2 m3 m4 m5
              go_wp2
              go_roundw
              case rel =>
                refine ⟨j + 1, by omega, by go_num, ?_, ?_, HK4.out.new1 (Nat.le_refl _) _⟩
                · show Blk _ _ _ _
                  rw [HV.out, HO1.out]
                  have := Blk.set_ kq4 2 (.int .u64 (lo * 256 + x))
                  simpa using this
                · show Rdr _ _ _ _
                  rw [HO1.out]
                  exact HR4.out.far hqg (show B ≤ w.heap.size by omega) _
              case measure => simp [intOf]; omega
        · rw [if_neg hjk] at hos
          simp only at hos
          have kq4 := hkb.out
          have e1 := kq4.frozen 1
          have e2 := kq4.frozen 2
          have HK4 := hkp
          have HR4 := hrd
          have dk : decide ((j : Int) < (k : Int)) = false := by simpa using hjk
          cases six with
          | false =>
            have hN4 := hN16.2 rfl
            have hp : (256 ^ j : Nat) ≤ 256 ^ 7 := Nat.pow_le_pow_right (by omega) (by omega)
            rw [p256] at hp
            simp only [Bool.false_eq_true, if_false] at m5
            have HV : Hid (bits .or .u64 (IntKind.u64.wrap (lo * 256)) 0 = lo * 256 + 0) := shl_or _ 0 (by omega) (by omega) (by omega) (by omega)
            have HO1 : Hid (O (j + 1) = ((hi, lo * 256 + 0), sj)) := by show _ = _; rw [hos]; rw [if_neg (by simp)]
            clear hos m2 m3 m4 m5
            go_wp2
            go_roundw
            case rel =>
              refine ⟨j + 1, by omega, by go_num, ?_, ?_, HK4.out.new1 (Nat.le_refl _) _⟩
              · show Blk _ _ _ _
                rw [HV.out, HO1.out]
                have := Blk.set_ kq4 2 (.int .u64 (lo * 256 + 0))
                simpa using this
              · show Rdr _ _ _ _
                rw [HO1.out]
                exact HR4.out.far hqg (show B ≤ w.heap.size by omega) _
            case measure => simp [intOf]; omega
          | true =>
            by_cases h8 : j < 8
            · have hp : (256 ^ (min j 8) : Nat) ≤ 256 ^ 7 := Nat.pow_le_pow_right (by omega) (by omega)
              rw [p256] at hp
              have d8 : decide ((j : Int) < 8) = true := by simp; omega
              have HV : Hid (bits .or .u64 (IntKind.u64.wrap (hi * 256)) 0 = hi * 256 + 0) := shl_or _ 0 (by omega) (by omega) (by omega) (by omega)
              have HO1 : Hid (O (j + 1) = ((hi * 256 + 0, lo), sj)) := by show _ = _; rw [hos]; rw [if_pos ⟨rfl, h8⟩]
              clear hos m2 m3 m4 m5
              go_wp2
              go_roundw
              case rel =>
                refine ⟨j + 1, by omega, by go_num, ?_, ?_, HK4.out.new1 (Nat.le_refl _) _⟩
                · show Blk _ _ _ _
                  rw [HV.out, HO1.out]
                  have := Blk.set_ kq4 1 (.int .u64 (hi * 256 + 0))
                  simpa using this
                · show Rdr _ _ _ _
                  rw [HO1.out]
                  exact HR4.out.far hqg (show B ≤ w.heap.size by omega) _
              case measure => simp [intOf]; omega
            · have hp : (256 ^ (j - 8) : Nat) ≤ 256 ^ 7 := Nat.pow_le_pow_right (by omega) (by omega)
              rw [p256] at hp
              simp only [if_true] at m5
              have d8 : decide ((j : Int) < 8) = false := by simp; omega
              have HV : Hid (bits .or .u64 (IntKind.u64.wrap (lo * 256)) 0 = lo * 256 + 0) := shl_or _ 0 (by omega) (by omega) (by omega) (by omega)
              have HO1 : Hid (O (j + 1) = ((hi, lo * 256 + 0), sj)) := by show _ = _; rw [hos]; rw [if_neg (fun h => h8 h.2)]
              clear hos m2 m3 m4 m5
              go_wp2
              go_roundw
              case rel =>
                refine ⟨j + 1, by omega, by go_num, ?_, ?_, HK4.out.new1 (Nat.le_refl _) _⟩
                · show Blk _ _ _ _
                  rw [HV.out, HO1.out]
                  have := Blk.set_ kq4 2 (.int .u64 (lo * 256 + 0))
                  simpa using this
                · show Rdr _ _ _ _
                  rw [HO1.out]
                  exact HR4.out.far hqg (show B ≤ w.heap.size by omega) _
              case measure => simp [intOf]; omega
      · obtain rfl : j = N := by omega
        have z4 := hkb.out.cell 4
        have e4 := hkb.out.frozen 4
        simp at z4
        have hqo := hkb.out.lt
        have C4 := CT.out wo sj hrd.out m1
        have mt := takeN_mem m1
        obtain ⟨t, ht⟩ : ∃ t, takeN sj = t := ⟨_, rfl⟩
        rw [ht] at C4 mt
        obtain ⟨x, s4⟩ := t
        have mt2 := takeN_mem mt.2
        obtain ⟨t5, ht5⟩ : ∃ t, takeN s4 = t := ⟨_, rfl⟩
        simp only at mt2
        rw [ht5] at mt2
        obtain ⟨y, s5⟩ := t5
        have HC4 := Lib.hid C4
        have HM4 := Lib.hid mt.2
        have hx := mt.1
        have hy := mt2.1
        simp only at hx hy
        have HT4 := Lib.hid ht
        have HT5 := Lib.hid ht5
        have hxw : IntKind.i64.wrap (x * 256) = x * 256 := by rw [IntWalk.i64_in _ (by omega)]
        have hor := or8_i64 x y (by omega) (by omega) (by omega) (by omega)
        clear C4 mt mt2 ht ht5 m1 m2 m3 m4 m5 hos
        go_wp2_with fail
        refine HC4.out.mono ?_
        rintro e w4 ⟨rfl, hrd4, hk4⟩
        have kq4 := Blk.keepG hkb.out hk4 hqg
        have HK4 := Lib.hid (hkp.out.transG hk4)
        have C5 := CT.out w4 s4 hrd4 HM4.out
        rw [HT5.out] at C5
        have HC5 := Lib.hid C5
        clear C5 hrd4 hk4
        simp only
        go_wp2_with fail
        refine HC5.out.mono ?_
        rintro e w5 ⟨rfl, hrd5, hk5⟩
        have kq5 := Blk.keepG kq4 hk5 hqg
        have f5 := kq5.frozen 4
        have t0 := kq5.cell 0
        have t1 := kq5.cell 1
        have t2 := kq5.cell 2
        have t3 := kq5.cell 3
        have t4 := kq5.cell 4
        have ff0 := kq5.frozen 0
        have ff1 := kq5.frozen 1
        have ff2 := kq5.frozen 2
        have ff3 := kq5.frozen 3
        simp at t0 t1 t2 t3 t4
        have hq5 := kq5.lt
        obtain ⟨W7, hW7⟩ : ∃ W7, W7 = w5.setCell ⟨w.heap.size, 4, none⟩ (.int .i64 (x * 256 + y)) := ⟨_, rfl⟩
        have kW7 : Blk W7 w.heap.size 48 #[.bool six, .int .u64 hi, .int .u64 lo, .int .i64 n, .int .i64 (x * 256 + y)] := by rw [hW7]; have := Blk.set_ kq5 4 (.int .i64 (x * 256 + y)); simpa using this
        have HR7 : Hid (Rdr W7 g B s5) := by show Rdr _ _ _ _; rw [hW7]; exact hrd5.far hqg (show B ≤ w.heap.size by omega) _
        have HK7 : Hid (Kept [g] w W7) := by show Kept _ _ _; rw [hW7]; exact (HK4.out.transG hk5).new1 (Nat.le_refl _) _
        have HW7 := Lib.hid hW7
        have c0 := kW7.cell 0
        have c1 := kW7.cell 1
        have c2 := kW7.cell 2
        have c3 := kW7.cell 3
        have c4 := kW7.cell 4
        simp at c0 c1 c2 c3 c4
        have p0 := kW7.frozen 0
        have p1 := kW7.frozen 1
        have p2 := kW7.frozen 2
        have p3 := kW7.frozen 3
        have p4 := kW7.frozen 4
        have hq7' := kW7.lt
        clear hrd5 hk5 kq5 kq4 hW7
        simp only
        go_wp2
        rw [← HW7.out]
        refine bodyPost_ret (v := .agg #[.bool six, .int .u64 hi, .int .u64 lo, .int .i64 n, .int .i64 (x * 256 + y)]) ?_ rfl ?_
        · simp [results, Try.results97, go_sem, c0, c1, c2, c3, c4]
        · have hRv2 := hRv.out
          rw [HOJ.out] at hRv2
          simp only [HT4.out, HT5.out] at hRv2
          rw [← HP.out, hRv2]
          exact routed_fin (r := (⟨⟨six, hi, lo, n⟩, x * 256 + y⟩, s5)) HR7.out HK7.out hqg (by omega) _ _ _ _ _

end Go.Proofs.Ytmljdjakbbedlaa
