/-
  
  
  
  
  
  
  
-/
import Derived.Test.YtnflaaoapmhjgaaC7
import Derived.Test.YtnflaaoapmhjgaaChecked
import Derived.Test.YtnflaaoapmhjgaaC3
import Derived.Test.YtnflaaoapmhjgaaC2
import Derived.Test.YtnflaaoapmhjgaaC1
import Derived.Test.YtnflaaoapmhjgaaC8
namespace Go.Proofs.Ytnflaaoapmhjgaa
open Classical
set_option linter.unusedVariables false

def gI (L : List Int) (i : Nat) : Int := L[i]?.getD 0
def leftT (l : List ShareV) (ps bs : List Int) (p : Nat) : List Int := (List.range ps.length).map fun k => max 0 (gI ps k - ((bs.take p).count (hopN l k) : Nat))
structure TurnOk (l : List ShareV) (ps bs : List Int) : Prop where
  len : ps.length = l.length
  ps0 : ∀ i, 0 ≤ gI ps i
  distinct : ∀ i j, i < l.length → j < l.length → hopN l i = hopN l j → i = j
  hop1 : ∀ i, i < l.length → 1 ≤ hopN l i
  sum : ps.sum = bs.length

variable {l : List ShareV} {ps bs : List Int}
theorem leftT_length (p : Nat) : (leftT l ps bs p).length = ps.length := by unfold leftT; simp
theorem leftT_get {k : Nat} (p : Nat) (hk : k < ps.length) : gI (leftT l ps bs p) k = max 0 (gI ps k - ((bs.take p).count (hopN l k) : Nat)) := by
  unfold leftT
  show ((List.map _ (List.range ps.length))[k]?).getD 0 = _
  rw [List.getElem?_map, List.getElem?_range hk]
  rfl
theorem gI_ext {L M : List Int} (hl : L.length = M.length) (h : ∀ k, k < L.length → gI L k = gI M k) : L = M := by
  apply List.ext_getElem hl
  intro k h1 h2
  have := h k h1
  unfold gI at this
  rw [List.getElem?_eq_getElem h1, List.getElem?_eq_getElem h2] at this
  simpa using this
theorem gI_set {L : List Int} {k j : Nat} {x : Int} (hk : k < L.length) : gI (L.set k x) j = if k = j then x else gI L j := by
  unfold gI
  by_cases e : k = j
  · subst e; rw [if_pos rfl, List.getElem?_set_self hk]; rfl
  · rw [if_neg e, List.getElem?_set_ne e]
theorem leftT_zero (h : TurnOk l ps bs) : leftT l ps bs 0 = ps := by
  refine gI_ext (leftT_length 0) fun k hk => ?_
  rw [leftT_length] at hk
  rw [leftT_get 0 hk]
  have := h.ps0 k
  simp
  omega
theorem count_next {p : Nat} (hp : p < bs.length) (x : Int) : ((bs.take (p + 1)).count x : Int) = ((bs.take p).count x : Nat) + if gI bs p = x then 1 else 0 := by
  have e : bs[p]? = some (gI bs p) := by unfold gI; rw [List.getElem?_eq_getElem hp]; rfl
  rw [List.take_add_one, e, Option.toList_some, List.count_append, List.count_singleton]
  by_cases hx : gI bs p = x
  · simp [hx]
  · simp [hx]
/-- A bucket stays. -/
theorem leftT_keep (h : TurnOk l ps bs) {p k : Nat} (hk : k < l.length) (hh : hopN l k = gI bs p) (h0 : 0 < gI (leftT l ps bs p) k) (hp : p < bs.length) :
    leftT l ps bs (p + 1) = (leftT l ps bs p).set k (gI (leftT l ps bs p) k - 1) := by
  have hk2 : k < ps.length := by rw [h.len]; exact hk
  refine gI_ext (by rw [List.length_set, leftT_length, leftT_length]) fun j hj => ?_
  rw [leftT_length] at hj
  rw [gI_set (by rw [leftT_length]; exact hk2), leftT_get (p + 1) hj, count_next hp]
  by_cases e : k = j
  · subst e
    rw [if_pos rfl, if_pos hh.symm]
    rw [leftT_get p hk2] at h0 ⊢
    omega
  · rw [if_neg e, if_neg (fun hx => e (h.distinct k j hk (by rw [← h.len]; exact hj) (hh.trans hx))), leftT_get p hj]
    omega
theorem leftT_same (h : TurnOk l ps bs) {p : Nat} (hp : p < bs.length) (hno : ∀ k, k < l.length → hopN l k = gI bs p → ¬ 0 < gI (leftT l ps bs p) k) : leftT l ps bs (p + 1) = leftT l ps bs p := by
  refine gI_ext (by rw [leftT_length, leftT_length]) fun j hj => ?_
  rw [leftT_length] at hj
  have hjl : j < l.length := by rw [← h.len]; exact hj
  rw [leftT_get (p + 1) hj, leftT_get p hj, count_next hp]
  by_cases e : gI bs p = hopN l j
  · have := hno j hjl e.symm
    rw [leftT_get p hj] at this
    rw [if_pos e]
    omega
  · rw [if_neg e]; omega

/-- What a bucket keeps. -/
noncomputable def valT (l : List ShareV) (ps bs : List Int) (p : Nat) : Int := if ∃ k, k < l.length ∧ hopN l k = gI bs p ∧ 0 < gI (leftT l ps bs p) k then gI bs p else 0
noncomputable def zerosT (l : List ShareV) (ps bs : List Int) : Nat → Nat
  | 0 => 0
  | p + 1 => zerosT l ps bs p + if valT l ps bs p = 0 then 1 else 0
theorem valT_keep (h : TurnOk l ps bs) {p k : Nat} (hk : k < l.length) (hh : hopN l k = gI bs p) (h0 : 0 < gI (leftT l ps bs p) k) : valT l ps bs p = gI bs p ∧ 1 ≤ valT l ps bs p := by
  have e : valT l ps bs p = gI bs p := if_pos ⟨k, hk, hh, h0⟩
  exact ⟨e, by rw [e, ← hh]; exact h.hop1 k hk⟩
theorem valT_drop {p : Nat} (hno : ∀ k, k < l.length → hopN l k = gI bs p → ¬ 0 < gI (leftT l ps bs p) k) : valT l ps bs p = 0 := if_neg fun ⟨k, h1, h2, h3⟩ => hno k h1 h2 h3
theorem sum_left (h : TurnOk l ps bs) : ∀ p, p ≤ bs.length → (leftT l ps bs p).sum + (p : Int) = ps.sum + (zerosT l ps bs p : Int)
  | 0, _ => by rw [leftT_zero h]; simp [zerosT]
  | p + 1, hp => by
    have ih := sum_left h p (by omega)
    by_cases hx : ∃ k, k < l.length ∧ hopN l k = gI bs p ∧ 0 < gI (leftT l ps bs p) k
    · obtain ⟨k, h1, h2, h3⟩ := hx
      have hv := (valT_keep h h1 h2 h3).2
      have hkl : k < (leftT l ps bs p).length := by rw [leftT_length, h.len]; exact h1
      rw [leftT_keep h h1 h2 h3 (by omega), set_sum _ _ _ hkl]
      show _ + ((p + 1 : Nat) : Int) = ps.sum + ((zerosT l ps bs p + if valT l ps bs p = 0 then 1 else 0 : Nat) : Int)
      rw [if_neg (by omega)]
      unfold gI
      omega
    · have hno : ∀ k, k < l.length → hopN l k = gI bs p → ¬ 0 < gI (leftT l ps bs p) k := fun k h1 h2 h3 => hx ⟨k, h1, h2, h3⟩
      rw [leftT_same h (by omega) hno]
      show _ + ((p + 1 : Nat) : Int) = ps.sum + ((zerosT l ps bs p + if valT l ps bs p = 0 then 1 else 0 : Nat) : Int)
      rw [if_pos (valT_drop hno)]
      omega
theorem left_nonneg (p i : Nat) : 0 ≤ gI (leftT l ps bs p) i := by
  by_cases hi : i < ps.length
  · rw [leftT_get p hi]; omega
  · unfold gI; rw [List.getElem?_eq_none (by rw [leftT_length]; omega)]; simp

/-! What fills the gaps. -/
def poolF (l : List ShareV) (left : List Int) : Nat → Nat → List Int
  | _, 0 => []
  | k, m + 1 => List.replicate (gI left k).toNat (hopN l k) ++ poolF l left (k + 1) m
theorem pool_deal (l : List ShareV) (left : List Int) : ∀ m k, dealTo l left (k + m) = dealTo l left k ++ poolF l left k m
  | 0, k => by simp [poolF]
  | m + 1, k => by
    rw [show k + (m + 1) = (k + 1) + m by omega, pool_deal l left m (k + 1), dealTo_succ, List.append_assoc]
    rfl
theorem pool_all (l : List ShareV) (left : List Int) (n : Nat) : poolF l left 0 n = dealTo l left n := by
  have := pool_deal l left n 0
  rw [Nat.zero_add] at this
  rw [this]
  simp [dealTo]
theorem pool_set {l : List ShareV} {left : List Int} {k : Nat} {x : Int} (hk : k < left.length) : ∀ m j, k < j → poolF l (left.set k x) j m = poolF l left j m
  | 0, _, _ => rfl
  | m + 1, j, hj => by
    show List.replicate _ _ ++ _ = List.replicate _ _ ++ _
    rw [gI_set hk, if_neg (by omega), pool_set hk m (j + 1) (by omega)]
theorem pool_take {l : List ShareV} {left : List Int} {k m : Nat} (hk : k < left.length) (h0 : 0 < gI left k) : poolF l left k (m + 1) = hopN l k :: poolF l (left.set k (gI left k - 1)) k (m + 1) := by
  show List.replicate _ _ ++ _ = _ :: (List.replicate _ _ ++ _)
  rw [gI_set hk, if_pos rfl, pool_set hk m (k + 1) (by omega)]
  obtain ⟨N, hN⟩ : ∃ N : Nat, gI left k = ((N + 1 : Nat) : Int) := ⟨(gI left k - 1).toNat, by omega⟩
  rw [hN, show ((N + 1 : Nat) : Int) - 1 = (N : Int) by omega, Int.toNat_natCast, Int.toNat_natCast, List.replicate_succ]
  rfl
theorem pool_skip {l : List ShareV} {left : List Int} {k m : Nat} (h0 : gI left k = 0) : poolF l left k (m + 1) = poolF l left (k + 1) m := by
  show List.replicate _ _ ++ _ = _
  rw [h0]; rfl
theorem pool_length {l : List ShareV} {left : List Int} (h0 : ∀ i, 0 ≤ gI left i) : ∀ (M : List Int) (k : Nat), (∀ i, gI M i = gI left (k + i)) → ((poolF l left k M.length).length : Int) = M.sum
  | [], k, _ => by simp [poolF]
  | x :: M, k, h => by
    show ((List.replicate _ _ ++ poolF l left (k + 1) M.length).length : Int) = x + M.sum
    have h1 := h 0
    have ih := pool_length (l := l) h0 M (k + 1) fun i => by
      have := h (i + 1)
      rw [show k + (i + 1) = k + 1 + i by omega] at this
      rw [← this]; rfl
    have hx : x = gI left k := h1
    have := h0 k
    rw [List.length_append, List.length_replicate, Int.natCast_add, ih, hx]
    omega

/-- What is left, as a list. -/
noncomputable def poolT (l : List ShareV) (ps bs : List Int) : List Int := dealTo l (leftT l ps bs bs.length) l.length
theorem poolT_length (h : TurnOk l ps bs) : (poolT l ps bs).length = zerosT l ps bs bs.length := by
  have hs := sum_left h bs.length (Nat.le_refl _)
  rw [h.sum] at hs
  have hp := pool_length (l := l) (left := leftT l ps bs bs.length) (left_nonneg _) (leftT l ps bs bs.length) 0 fun i => by rw [Nat.zero_add]
  rw [leftT_length, h.len, pool_all] at hp
  unfold poolT
  omega
noncomputable def turnAt (l : List ShareV) (ps bs : List Int) (p : Nat) : Int := if valT l ps bs p = 0 then gI (poolT l ps bs) (zerosT l ps bs p) else valT l ps bs p
noncomputable def turnTo (l : List ShareV) (ps bs : List Int) : List Int := (List.range bs.length).map (turnAt l ps bs)
theorem zeros_mono (l : List ShareV) (ps bs : List Int) {p q : Nat} (h : p ≤ q) : zerosT l ps bs p ≤ zerosT l ps bs q := by
  induction q with
  | zero => obtain rfl : p = 0 := by omega
            exact Nat.le_refl _
  | succ q ih =>
    by_cases e : p = q + 1
    · subst e; exact Nat.le_refl _
    · have := ih (by omega)
      show _ ≤ zerosT l ps bs q + _
      omega
theorem zeros_lt (l : List ShareV) (ps bs : List Int) {p : Nat} (hp : p < bs.length) (h0 : valT l ps bs p = 0) : zerosT l ps bs p < zerosT l ps bs bs.length := by
  have h1 : zerosT l ps bs (p + 1) = zerosT l ps bs p + 1 := by show _ + (if _ then 1 else 0) = _; rw [if_pos h0]
  have := zeros_mono l ps bs (p := p + 1) (q := bs.length) (by omega)
  omega

end Go.Proofs.Ytnflaaoapmhjgaa

namespace Go.Proofs.Ytnflaaoapmhjgaa
open Go.ChangeShapes Go.WideShapes Go.ChangeAt Go.RowKit

/-- A test on an element, as a function value: its contract in every later world. -/
def IntTest (w : World) (fid : FuncId) (caps : Array Value) (f : Int → Bool) (l : List Int) : Prop :=
  ∀ r ∈ l, ∀ w', Below w.heap.size w w' → Calls Try.prog fid (#[.int .i64 r] ++ caps) w' fun e w'' => e = .returned (.bool (f r)) ∧ Below w'.heap.size w' w''

set_option maxRecDepth 100000 in
set_option maxHeartbeats 1600000 in
theorem idxInt_any (A : Option Addr) (n c : Nat) (l : List Int) (f : Int → Bool) (fid : FuncId) (caps : Array Value) (w : World) (hent : ∀ (args : Array Value) (w : World), (callFunc fid args).run Try.prog w = .ok (.enter fid args) w) (hz : l.length = n) (hm : n ≤ maxLen) (hr : Reads w w.heap.size 1 A n (l.map (Value.int .i64)))
    (ht : IntTest w fid caps f l) :
    Calls Try.prog 197 #[.slice A n c, .func (.func fid) #[] caps] w fun e w' => e = .returned (.int .i64 (firstAt f l)) ∧ Below w.heap.size w w' := by
  have HZ := Lib.hid hz
  have HR := Lib.hid hr
  have HBK : Hid (∀ ad, A = some ad → 0 < n → ad.block < w.heap.size) := by
    show ∀ ad, _ → _ → _
    intro ad ha hn
    obtain ⟨ad', ha', hb', _⟩ := hr.2 hn
    rw [ha] at ha'
    injection ha' with ha'
    rw [ha']
    exact hb'
  have HT := Lib.hid ht
  unfold maxLen at hm
  obtain ⟨r, hr0⟩ : ∃ r, r = firstAt f l := ⟨_, rfl⟩
  rw [← hr0]
  have H0 := Lib.hid hr0
  clear hz hr ht hr0
  go_enter Try.func197, Try.ntmps197
  go_wp2
  go_loopw [8, 5] (fun i _ wr => ∃ k : Nat, k ≤ n ∧ i = .int .i64 k ∧ NoneYet f l k ∧ Below w.heap.size w wr) (fun i _ _ => n - (intOf i).toNat)
  case atStart => exact ⟨0, by omega, rfl, noneYet_zero f l, Below.refl _ _⟩
  case round =>
    obtain ⟨k, hk, rfl, hto, hb⟩ := hrel
    have HN := Lib.hid hto
    clear hto
    by_cases hlt : k < n
    · obtain ⟨ad, x, rfl, hc0, htk, hlk, hmem⟩ := HR.out.at1 hlt
      have q0 := (hb.cell (p := ad.add k) (by rw [block_of_add]; exact HBK.out ad rfl (by omega))).trans hc0
      have HC : Hid (Calls Try.prog fid (#[.int .i64 x] ++ caps) wr fun e w'' => e = .returned (.bool (f x)) ∧ Below wr.heap.size wr w'') := HT.out _ hmem wr hb
      have HL := Lib.hid hlk
      have HK := Lib.hid htk
      clear hlk htk hmem hc0
      generalize hfv : f x = fv at *
      have HV := Lib.hid hfv
      clear hfv
      cases fv
      · have HN2 := Lib.hid (noneYet_succ HN.out HK.out HV.out)
        go_wp2_with fail
        refine HC.out.mono ?_
        rintro e w1 ⟨rfl, hb1⟩
        have HB := Lib.hid (below_step hb hb1)
        clear hb1
        go_wp2
        go_roundw
        case rel => exact ⟨k + 1, by omega, by go_num, HN2.out, HB.out⟩
        case measure => simp [intOf]; omega
      · have HN2 := Lib.hid (firstAt_at HN.out HL.out HV.out)
        go_wp2_with fail
        refine HC.out.mono ?_
        rintro e w1 ⟨rfl, hb1⟩
        have HB := Lib.hid (below_step hb hb1)
        clear hb1
        go_wp2
        go_ret
        exact ⟨ret_int (HN2.out.symm.trans H0.out.symm), HB.out⟩
    · obtain rfl : k = n := by omega
      have HN2 := Lib.hid (firstAt_end HN.out HZ.out)
      go_wp2
      go_ret
      exact ⟨ret_int (HN2.out.symm.trans H0.out.symm), hb⟩

set_option maxRecDepth 100000 in
set_option maxHeartbeats 400000 in
theorem hasInt_any (A : Option Addr) (n c : Nat) (l : List Int) (f : Int → Bool) (fid : FuncId) (caps : Array Value) (w : World) (hent : ∀ (args : Array Value) (w : World), (callFunc fid args).run Try.prog w = .ok (.enter fid args) w) (hz : l.length = n) (hm : n ≤ maxLen) (hr : Reads w w.heap.size 1 A n (l.map (Value.int .i64)))
    (ht : IntTest w fid caps f l) :
    Calls Try.prog 154 #[.slice A n c, .func (.func fid) #[] caps] w fun e w' => e = .returned (.bool (l.any f)) ∧ Below w.heap.size w w' := by
  have HI := idxInt_any A n c l f fid caps w hent hz hm hr ht
  clear hz hm hr ht hent
  rcases firstAt_cases f l with ⟨h1, h2⟩ | ⟨k, x, h1, h2, h3⟩
  · rw [show l.any f = false from by rw [List.any_eq_false]; exact fun x hx => by rw [h2 x hx]; simp]
    rw [h1] at HI
    have HI' := Lib.hid HI
    clear HI h1 h2
    go_enter Try.func154, Try.ntmps154
    go_wp2_with fail
    refine HI'.out.mono ?_
    rintro e w1 ⟨rfl, hb⟩
    go_wp2
    go_ret
    exact ⟨rfl, hb⟩
  · rw [show l.any f = true from by rw [List.any_eq_true]; exact ⟨x, List.mem_of_getElem? h2, h3⟩]
    rw [h1] at HI
    have HI' := Lib.hid HI
    clear HI h1 h2 h3
    go_enter Try.func154, Try.ntmps154
    go_wp2_with fail
    refine HI'.out.mono ?_
    rintro e w1 ⟨rfl, hb⟩
    go_wp2
    go_ret
    exact ⟨rfl, hb⟩

end Go.Proofs.Ytnflaaoapmhjgaa

namespace Go.Proofs.Ytnflaaoapmhjgaa
open Go.ChangeShapes Go.WideShapes Go.ChangeAt Go.RowKit

def oddHop (h : Int) : Bool := decide (h < 0) || decide (999 < h)
/-- What is refused of buckets. -/
def bucketsF (l : List Int) : Int := if l.length < 1 ∨ 64 < l.length then 2 else if l.any oddHop = true then 2 else 0

/-- What is known of a slice of ints. -/
def IsInts (w : World) (A : Option Addr) (n c : Nat) (l : List Int) : Prop :=
  l.length = n ∧ (n ≤ c ∧ c ≤ maxLen) ∧ Reads w w.heap.size 1 A n (l.map (Value.int .i64))
theorem IsInts.below {w w' : World} {A : Option Addr} {n c : Nat} {l : List Int} (h : IsInts w A n c l) (hb : Below w.heap.size w w') : IsInts w' A n c l :=
  ⟨h.1, h.2.1, (h.2.2.below hb).more hb.size⟩

set_option maxRecDepth 100000 in
theorem open_intsV {H : Type} {enc : TypeId × Value → H} {W : World} {base : Nat} {sp : Nat → Bool} {held : Bool} {a0 : Option Addr} {len0 cap0 : Nat} {d : DataW H} {p : List MemPlace}
    (h : DataW.Trod enc Try.prog W base sp held 33 (.slice a0 len0 cap0) d p) : ∃ l : List Int, IsInts W a0 len0 cap0 l ∧ ∀ x ∈ l, -9223372036854775808 ≤ x ∧ x ≤ 9223372036854775807 := by
  have hk : flat Try.prog 9 3 = some [some .i64] := by kernel_rfl
  obtain ⟨css, hcl, hfit, hr, hl, hm⟩ := open_flats Try.underlying33 hk (by kernel_rfl) (by simp) h
  obtain ⟨l, rfl, hz⟩ := choose_list (f := fun x : Int => [Value.int .i64 x]) (Q := fun x => -9223372036854775808 ≤ x ∧ x ≤ 9223372036854775807) css (fun cs hc => by
    have hf := hfit cs hc
    clear hr hcl hfit
    obtain ⟨x, _, rfl, wx, hf1⟩ := hf.int_inv
    obtain rfl := hf1.nil_inv
    exact ⟨x, bounds_i64 wx, rfl⟩)
  refine ⟨l, ⟨by simpa using hcl, ⟨hl, hm⟩, ?_⟩, hz⟩
  have e : (l.map fun x : Int => [Value.int .i64 x]).flatten = l.map (Value.int .i64) := by
    clear hr hcl hfit hz
    induction l with
    | nil => rfl
    | cons x l ih => simp [ih]
  rw [e] at hr
  exact hr

set_option maxHeartbeats 400000 in
theorem oddClosure_any (h : Int) (w : World) : Calls Try.prog 153 #[.int .i64 h] w fun e w' => e = .returned (.bool (oddHop h)) ∧ w = w' := by
  by_cases h1 : h < 0
  · rw [show oddHop h = true from by simp [oddHop, h1]]
    go_enter Try.func153, Try.ntmps153
    go_wp2
    go_ret
    exact ⟨rfl, rfl⟩
  · rw [show oddHop h = decide (999 < h) from by simp [oddHop, h1]]
    have hd : decide (h < 0) = false := by simpa using h1
    go_enter Try.func153, Try.ntmps153
    go_wp2
    go_ret
    exact ⟨rfl, rfl⟩
theorem oddEnters (args : Array Value) (w : World) : (callFunc 153 args).run Try.prog w = .ok (.enter 153 args) w := by kernel_rfl

set_option maxRecDepth 100000 in
set_option maxHeartbeats 800000 in
theorem buckets_any (A : Option Addr) (n c : Nat) (l : List Int) (w : World) (h : IsInts w A n c l) :
    Calls Try.prog 86 #[.slice A n c] w fun e w' => e = .returned (.int .i64 (bucketsF l)) ∧ Below w.heap.size w w' := by
  have hm := h.2.1
  unfold maxLen at hm
  have hz := h.1
  by_cases hn : n < 1 ∨ 64 < n
  · rw [show bucketsF l = 2 from by unfold bucketsF; rw [if_pos (by omega)]]
    clear h hz
    rcases hn with hn | hn
    · obtain rfl : n = 0 := by omega
      go_enter Try.func86, Try.ntmps86
      go_wp2
      go_ret
      exact ⟨rfl, Below.refl _ _⟩
    · have hd1 : decide ((n : Int) < 1) = false := by simp; omega
      have hd2 : decide (64 < (n : Int)) = true := by simp; omega
      go_enter Try.func86, Try.ntmps86
      go_wp2
      go_ret
      exact ⟨rfl, Below.refl _ _⟩
  · have HI := Lib.hid (hasInt_any A n c l oddHop 153 #[] w oddEnters hz (by unfold maxLen; omega) h.2.2 (fun r _ w' _ => (oddClosure_any r w').mono fun e w'' he => ⟨he.1, by rw [← he.2]; exact Below.refl _ _⟩))
    rw [show bucketsF l = if l.any oddHop = true then 2 else 0 from by unfold bucketsF; rw [if_neg (by omega)]]
    generalize l.any oddHop = v at *
    have hd1 : decide ((n : Int) < 1) = false := by simp; omega
    have hd2 : decide (64 < (n : Int)) = false := by simp; omega
    clear h hz
    cases v
    · go_enter Try.func86, Try.ntmps86
      go_wp2_with fail
      refine HI.out.mono ?_
      rintro e w1 ⟨rfl, hb⟩
      go_wp2
      go_ret
      exact ⟨rfl, hb⟩
    · go_enter Try.func86, Try.ntmps86
      go_wp2_with fail
      refine HI.out.mono ?_
      rintro e w1 ⟨rfl, hb⟩
      go_wp2
      go_ret
      exact ⟨rfl, hb⟩

set_option maxRecDepth 100000 in
set_option maxHeartbeats 800000 in
theorem refBuckets_any (A : Option Addr) (n c : Nat) (l : List Int) (w : World) (h : IsInts w A n c l) :
    Calls Try.prog 91 #[.slice A n c] w fun e w' => e = .returned (.int .i64 (bucketsF l)) ∧ w = w' := by
  have hm := h.2.1
  unfold maxLen at hm
  have hz := h.1
  by_cases hn : n < 1 ∨ 64 < n
  · rw [show bucketsF l = 2 from by unfold bucketsF; rw [if_pos (by omega)]]
    clear h hz
    rcases hn with hn | hn
    · obtain rfl : n = 0 := by omega
      go_enter Try.func91, Try.ntmps91
      go_wp2
      go_ret
      exact ⟨rfl, rfl⟩
    · have hd1 : ((n : Int) == 0) = false := by simp; omega
      have hd2 : decide (64 < (n : Int)) = true := by simp; omega
      go_enter Try.func91, Try.ntmps91
      go_wp2
      go_ret
      exact ⟨rfl, rfl⟩
  · rw [show bucketsF l = if l.any oddHop = true then 2 else 0 from by unfold bucketsF; rw [if_neg (by omega)]]
    have hd1 : ((n : Int) == 0) = false := by simp; omega
    have hd2 : decide (64 < (n : Int)) = false := by simp; omega
    have hN : n ≤ 64 := by omega
    have HR := Lib.hid h.2.2
    have HZ := Lib.hid hz
    obtain ⟨v, hv⟩ : ∃ v, v = (if l.any oddHop = true then (2 : Int) else 0) := ⟨_, rfl⟩
    rw [← hv]
    have HV := Lib.hid hv
    clear h hz hn hv
    go_enter Try.func91, Try.ntmps91
    go_wp2
    go_loop [15, 4] (fun i _ => ∃ k : Nat, k ≤ n ∧ i = .int .i64 k ∧ NoneYet oddHop l k) (fun i _ => n - (intOf i).toNat)
    case atStart => exact ⟨0, by omega, rfl, noneYet_zero _ _⟩
    case round =>
      obtain ⟨k, hk, rfl, hto⟩ := hrel
      have HN := Lib.hid hto
      clear hto
      by_cases hlt : k < n
      · obtain ⟨ad, x, rfl, hc0, htk, hlk, hmem⟩ := HR.out.at1 hlt
        have HT := Lib.hid htk
        have HM := Lib.hid hmem
        clear htk hlk hmem
        by_cases ho : oddHop x = true
        · have H2 : Hid (2 = v) := by show _ = _; rw [HV.out, if_pos (List.any_eq_true.2 ⟨x, HM.out, ho⟩)]
          have hx : x < 0 ∨ 999 < x := by simpa [oddHop] using ho
          clear ho
          rcases hx with hx | hx
          · go_wp2
            go_ret
            exact ⟨ret_int H2.out, rfl⟩
          · have hx0 : decide (x < 0) = false := by simp; omega
            go_wp2
            go_ret
            exact ⟨ret_int H2.out, rfl⟩
        · have ho' : oddHop x = false := by simpa using ho
          have HN2 := Lib.hid (noneYet_succ HN.out HT.out ho')
          have hx : ¬ x < 0 ∧ ¬ 999 < x := by simpa [oddHop] using ho'
          have hx0 : decide (x < 0) = false := decide_eq_false hx.1
          have hx1 : decide (999 < x) = false := decide_eq_false hx.2
          clear ho ho' hx
          go_wp2
          go_round
          case rel => exact ⟨k + 1, by omega, by go_num, HN2.out⟩
          case measure => simp [intOf]; omega
      · obtain rfl : k = n := by omega
        have H2 : Hid (0 = v) := by
          show _ = _
          rw [HV.out, if_neg]
          rw [List.any_eq_true]
          rintro ⟨x, hx, hox⟩
          have := HN.out x (by rw [List.take_of_length_le (by rw [HZ.out]; omega)]; exact hx)
          rw [this] at hox
          cases hox
        go_wp2
        go_ret
        exact ⟨ret_int H2.out, rfl⟩

end Go.Proofs.Ytnflaaoapmhjgaa

namespace Go.Proofs.Ytnflaaoapmhjgaa
open Classical
set_option linter.unusedVariables false

theorem shares_apart {l : List ShareV} (h : sharesF l = 0) {i j : Nat} (hij : i < j) (hj : j < l.length) : hopN l i ≠ hopN l j := by
  intro he
  unfold sharesF at h
  by_cases hn : l.length < 1 ∨ 16 < l.length
  · rw [if_pos hn] at h; cases h
  rw [if_neg hn] at h
  have h0 := firstF_zeroS h j (List.mem_range.2 hj)
  unfold shareAt at h0
  rw [List.getElem?_eq_getElem hj] at h0
  simp only at h0
  unfold shareF at h0
  by_cases hb : (l[j]).hop < 1 ∨ 999 < (l[j]).hop ∨ (l[j]).weight < 1 ∨ 20 < (l[j]).weight
  · rw [if_pos hb] at h0; cases h0
  rw [if_neg hb] at h0
  have hi : i < l.length := by omega
  have ht : (l.take j).any (fun t => (l[j]).hop == t.hop) = true := by
    rw [List.any_eq_true]
    refine ⟨l[i], ?_, ?_⟩
    · rw [List.mem_iff_getElem]
      exact ⟨i, by rw [List.length_take]; omega, by rw [List.getElem_take]⟩
    · unfold hopN at he
      rw [List.getElem?_eq_getElem hj, List.getElem?_eq_getElem hi] at he
      have he2 : (l[i]).hop = (l[j]).hop := he
      rw [he2]
      exact beq_self_eq_true _
  rw [if_pos ht] at h0
  cases h0
theorem turnOk_of {l : List ShareV} {bs : List Int} (h : sharesF l = 0) (hm : 1 ≤ bs.length ∧ bs.length ≤ 64) : TurnOk l (partsS l bs.length) bs := by
  have hok := sharesOk_of h
  have hl := hok.len
  refine ⟨parts_length _ _, fun i => (parts_range hok (by omega) i).1, fun i j hi hj he => ?_, fun i hi => ?_, ?_⟩
  · rcases Nat.lt_trichotomy i j with h1 | h1 | h1
    · exact absurd he (shares_apart h h1 hj)
    · exact h1
    · exact absurd he.symm (shares_apart h h1 hi)
  · have := (hok.each _ (List.getElem_mem hi)).1.1
    unfold hopN
    rw [List.getElem?_eq_getElem hi]
    exact this
  · have hlb := left_bounds hok (bs.length : Int)
    have hrl : (remS l bs.length).length = l.length := by unfold remS; rw [List.length_map]
    have hql : (quoS l bs.length).length = l.length := by unfold quoS; rw [List.length_map]
    unfold partsS
    rw [incs_sum _ _ (fun i hi => by
      have := picks_lt (by omega) _ i hi
      omega), picks_length]
    unfold leftS at hlb ⊢
    omega
def turnE (l : List ShareV) (bs : List Int) : Int := if ¬ sharesF l = 0 then sharesF l else bucketsF bs
noncomputable def turnL (l : List ShareV) (bs : List Int) : List Int := if ¬ sharesF l = 0 then [] else if ¬ bucketsF bs = 0 then [] else turnTo l (partsS l bs.length) bs
theorem buckets_len {bs : List Int} (h : bucketsF bs = 0) : 1 ≤ bs.length ∧ bs.length ≤ 64 := by
  unfold bucketsF at h
  by_cases hn : bs.length < 1 ∨ 64 < bs.length
  · rw [if_pos hn] at h; cases h
  · omega
theorem ints_at {w : World} {A : Option Addr} {n c k : Nat} {bs : List Int} (h : IsInts w A n c bs) (hk : k < n) : ∃ ad, A = some ad ∧ ad.block < w.heap.size ∧ w.cell? (ad.add k) = some (.int .i64 (gI bs k)) := by
  obtain ⟨ad, u, rfl, hb, hx, hc⟩ := h.2.2.at_ hk
  refine ⟨ad, rfl, hb, ?_⟩
  have hl : k < bs.length := by rw [h.1]; exact hk
  rw [List.getElem?_map, List.getElem?_eq_getElem hl] at hx
  injection hx with hx
  rw [hc, ← hx]
  unfold gI
  rw [List.getElem?_eq_getElem hl]
  rfl

theorem range_set {f g : Nat → Int} {N p : Nat} (hp : p < N) (h : ∀ q, q ≠ p → g q = f q) : (List.range N).map g = ((List.range N).map f).set p (g p) := by
  apply List.ext_getElem (by simp)
  intro q h1 h2
  rw [List.getElem_set]
  by_cases e : p = q
  · subst e; simp
  · rw [if_neg e]; simp [h q (fun x => e x.symm)]
theorem range_same {f g : Nat → Int} {N : Nat} (h : ∀ q, q < N → g q = f q) : (List.range N).map g = (List.range N).map f := List.map_congr_left fun q hq => h q (List.mem_range.1 hq)

section
variable {l : List ShareV} {ps bs : List Int}
noncomputable def midT (l : List ShareV) (ps bs : List Int) (p : Nat) : List Int := (List.range bs.length).map fun q => if q < p then valT l ps bs q else 0
noncomputable def fillT (l : List ShareV) (ps bs : List Int) (p : Nat) : List Int := (List.range bs.length).map fun q => if q < p then turnAt l ps bs q else valT l ps bs q
theorem midT_zero : midT l ps bs 0 = List.replicate bs.length 0 := by
  unfold midT
  rw [range_same (f := fun _ => 0) (fun q _ => by rw [if_neg (by omega)])]
  rw [List.map_const', List.length_range]
theorem midT_keep {p : Nat} (hp : p < bs.length) : midT l ps bs (p + 1) = (midT l ps bs p).set p (valT l ps bs p) := by
  unfold midT
  rw [range_set (f := fun q => if q < p then valT l ps bs q else 0) hp (fun q hq => by
    by_cases h : q < p
    · rw [if_pos h, if_pos (by omega)]
    · rw [if_neg h, if_neg (by omega)]), if_pos (by omega)]
theorem midT_drop {p : Nat} (h0 : valT l ps bs p = 0) : midT l ps bs (p + 1) = midT l ps bs p := range_same fun q _ => by
  by_cases h : q < p
  · rw [if_pos h, if_pos (by omega)]
  · rw [if_neg h]
    by_cases e : q = p
    · subst e; rw [if_pos (by omega), h0]
    · rw [if_neg (by omega)]
theorem midT_end : midT l ps bs bs.length = fillT l ps bs 0 := range_same fun q hq => by rw [if_pos hq, if_neg (by omega)]
theorem fillT_val {q : Nat} (hq : q < bs.length) : gI (fillT l ps bs q) q = valT l ps bs q := by
  unfold gI fillT
  rw [List.getElem?_map, List.getElem?_range hq, Option.map_some, Option.getD_some, if_neg (by omega)]
theorem fillT_set {q : Nat} (hq : q < bs.length) : fillT l ps bs (q + 1) = (fillT l ps bs q).set q (turnAt l ps bs q) := by
  unfold fillT
  rw [range_set (f := fun r => if r < q then turnAt l ps bs r else valT l ps bs r) hq (fun r hr => by
    by_cases h : r < q
    · rw [if_pos h, if_pos (by omega)]
    · rw [if_neg h, if_neg (by omega)]), if_pos (by omega)]
theorem fillT_same {q : Nat} (h0 : ¬ valT l ps bs q = 0) : fillT l ps bs (q + 1) = fillT l ps bs q := range_same fun r _ => by
  by_cases h : r < q
  · rw [if_pos h, if_pos (by omega)]
  · rw [if_neg h]
    by_cases e : r = q
    · subst e; rw [if_pos (by omega)]; unfold turnAt; rw [if_neg h0]
    · rw [if_neg (by omega)]
theorem fillT_end : fillT l ps bs bs.length = turnTo l ps bs := range_same fun q hq => by rw [if_pos hq]
theorem turnTo_length : (turnTo l ps bs).length = bs.length := by unfold turnTo; simp
theorem valT_cases (h : TurnOk l ps bs) (p : Nat) : valT l ps bs p = 0 ∨ 1 ≤ valT l ps bs p := by
  by_cases hx : ∃ k, k < l.length ∧ hopN l k = gI bs p ∧ 0 < gI (leftT l ps bs p) k
  · obtain ⟨k, h1, h2, h3⟩ := hx
    exact .inr (valT_keep h h1 h2 h3).2
  · exact .inl (if_neg hx)
theorem left_le (h : TurnOk l ps bs) (p i : Nat) : gI (leftT l ps bs p) i ≤ gI ps i := by
  have h0 := h.ps0 i
  by_cases hi : i < ps.length
  · rw [leftT_get p hi]; omega
  · unfold gI at h0 ⊢; rw [List.getElem?_eq_none (by rw [leftT_length]; omega)]; simpa using h0
theorem pool_lt {l : List ShareV} {M P : List Int} {y n z : Nat} (hy : y ≤ n) (hD : poolF l M y (n - y) = P.drop z) (hz : z < P.length) : y < n := by
  by_cases e : y = n
  · subst e
    rw [Nat.sub_self] at hD
    have := congrArg List.length hD
    rw [List.length_drop] at this
    simp [poolF] at this
    omega
  · omega
theorem pool_step {l : List ShareV} {M P : List Int} {y n z : Nat} (hM : M.length = n) (hy : y < n) (hD : poolF l M y (n - y) = P.drop z) (hz : z < P.length) (h0 : 0 < gI M y) :
    hopN l y = gI P z ∧ poolF l (M.set y (gI M y - 1)) y (n - y) = P.drop (z + 1) := by
  rw [show n - y = (n - (y + 1)) + 1 by omega] at hD ⊢
  rw [pool_take (by omega) h0, List.drop_eq_getElem_cons hz] at hD
  injection hD with h1 h2
  refine ⟨?_, h2⟩
  rw [h1]
  unfold gI
  rw [List.getElem?_eq_getElem hz]
  rfl

/-! As the reference does it: share by share. -/
noncomputable def valK (l : List ShareV) (ps bs : List Int) (k p : Nat) : Int := if ∃ j, j < k ∧ hopN l j = gI bs p ∧ 0 < gI (leftT l ps bs p) j then gI bs p else 0
noncomputable def outK (l : List ShareV) (ps bs : List Int) (k p : Nat) : List Int := (List.range bs.length).map fun q => if q < p then valK l ps bs (k + 1) q else valK l ps bs k q
theorem outK_zero : outK l ps bs 0 0 = List.replicate bs.length 0 := by
  unfold outK
  rw [range_same (f := fun _ => 0) (fun q _ => by rw [if_neg (by omega)]; exact if_neg fun ⟨j, h, _⟩ => by omega)]
  rw [List.map_const', List.length_range]
theorem outK_next (k : Nat) : outK l ps bs k bs.length = outK l ps bs (k + 1) 0 := range_same fun q hq => by rw [if_pos hq, if_neg (by omega)]
theorem outK_end : outK l ps bs l.length 0 = fillT l ps bs 0 := range_same fun q hq => by rw [if_neg (by omega), if_neg (by omega)]; rfl
theorem outK_keep {k p : Nat} (hp : p < bs.length) (hh : hopN l k = gI bs p) (h0 : 0 < gI (leftT l ps bs p) k) : outK l ps bs k (p + 1) = (outK l ps bs k p).set p (gI bs p) := by
  unfold outK
  rw [range_set (f := fun q => if q < p then valK l ps bs (k + 1) q else valK l ps bs k q) hp (fun q hq => by
    by_cases h : q < p
    · rw [if_pos h, if_pos (by omega)]
    · rw [if_neg h, if_neg (by omega)]), if_pos (by omega)]
  congr 1
  exact if_pos ⟨k, by omega, hh, h0⟩
theorem outK_same {k p : Nat} (hno : ¬ (hopN l k = gI bs p ∧ 0 < gI (leftT l ps bs p) k)) : outK l ps bs k (p + 1) = outK l ps bs k p := range_same fun q _ => by
  by_cases h : q < p
  · rw [if_pos h, if_pos (by omega)]
  · rw [if_neg h]
    by_cases e : q = p
    · subst e
      rw [if_pos (by omega)]
      unfold valK
      by_cases hx : ∃ j, j < k ∧ hopN l j = gI bs q ∧ 0 < gI (leftT l ps bs q) j
      · obtain ⟨j, h1, h2⟩ := hx
        rw [if_pos ⟨j, Nat.lt_succ_of_lt h1, h2⟩, if_pos ⟨j, h1, h2⟩]
      · rw [if_neg hx, if_neg]
        rintro ⟨j, h1, h2⟩
        by_cases ej : j = k
        · subst ej; exact hno h2
        · exact hx ⟨j, by omega, h2⟩
    · rw [if_neg (by omega)]
theorem want_keep (h : TurnOk l ps bs) {p k : Nat} (hk : k < l.length) (hh : hopN l k = gI bs p) (h0 : 0 < gI (leftT l ps bs p) k) (hp : p < bs.length) : gI (leftT l ps bs (p + 1)) k = gI (leftT l ps bs p) k - 1 := by
  rw [leftT_keep h hk hh h0 hp, gI_set (by rw [leftT_length, h.len]; exact hk), if_pos rfl]
theorem want_same (h : TurnOk l ps bs) {p k : Nat} (hk : k < l.length) (hno : ¬ (hopN l k = gI bs p ∧ 0 < gI (leftT l ps bs p) k)) (hp : p < bs.length) : gI (leftT l ps bs (p + 1)) k = gI (leftT l ps bs p) k := by
  have hk2 : k < ps.length := by rw [h.len]; exact hk
  rw [leftT_get p hk2] at hno
  rw [leftT_get (p + 1) hk2, leftT_get p hk2, count_next hp]
  by_cases e : gI bs p = hopN l k
  · rw [if_pos e]
    have : ¬ 0 < max 0 (gI ps k - ((bs.take p).count (hopN l k) : Nat)) := fun hx => hno ⟨e.symm, hx⟩
    omega
  · rw [if_neg e]; omega
end

end Go.Proofs.Ytnflaaoapmhjgaa

namespace Go.Proofs.Ytnflaaoapmhjgaa
open Go.ChangeShapes Go.WideShapes Go.ChangeAt Go.RowKit

set_option maxRecDepth 100000 in
set_option maxHeartbeats 400000 in
theorem turnClosure_any (x : Int) (r : ShareV) (b : Nat) (w : World) (c0 : w.cell? ⟨b, 0, none⟩ = some (.int .i64 x)) (hb : b < w.heap.size) :
    Calls Try.prog 89 #[.agg r.cells.toArray, .pointer (some ⟨b, 0, none⟩)] w fun e w' => e = .returned (.bool (r.hop == x)) ∧ Below w.heap.size w w' := by
  obtain ⟨h, wt⟩ := r
  show Calls _ _ #[.agg #[.int .i64 h, .int .i64 wt], .pointer (some ⟨b, 0, none⟩)] _ _
  go_enter Try.func89, Try.ntmps89
  go_wp2
  go_ret
  exact ⟨rfl, (Below.refl _ _).alloc (Nat.le_refl _) _⟩
theorem turnEnters (args : Array Value) (w : World) : (callFunc 89 args).run Try.prog w = .ok (.enter 89 args) w := by kernel_rfl

set_option maxRecDepth 100000 in
set_option maxHeartbeats 3200000 in
theorem turn_is {A0 : Option Addr} {n0 c0 : Nat} {bs : List Int} {A : Option Addr} {n c : Nat} {l : List ShareV} {w : World} (h0 : IsInts w A0 n0 c0 bs) (h : IsShares w A n c l) :
    Calls Try.prog 34 #[.slice A0 n0 c0, .slice A n c] w (RetInts w (turnL l bs) (turnE l bs)) := by
  obtain ⟨post, hpost⟩ : ∃ post, RetInts w (turnL l bs) (turnE l bs) = post := ⟨_, rfl⟩
  have HPO := Lib.hid hpost
  rw [hpost]
  have CF := Lib.hid (sharesCheck_is h)
  have CB := Lib.hid (fun (Y : World) (hb : Below w.heap.size w Y) => buckets_any A0 n0 c0 bs Y (h0.below hb))
  have HS := Lib.hid h
  have HI := Lib.hid h0
  have hnc := h.2.1.1
  have hcm := h.2.1.2
  have hnc0 := h0.2.1.1
  have hcm0 := h0.2.1.2
  unfold maxLen at hcm hcm0
  clear hpost
  by_cases hz : sharesF l = 0
  · rw [hz] at CF
    by_cases hbz : bucketsF bs = 0
    · rw [hbz] at CB
      have hE : turnE l bs = 0 := by unfold turnE; rw [if_neg (by simpa using hz), hbz]
      have hL : turnL l bs = turnTo l (partsS l n0) bs := by unfold turnL; rw [if_neg (by simpa using hz), if_neg (by simpa using hbz), h0.1]
      rw [hE, hL] at HPO
      have hN := buckets_len hbz
      have hok := sharesOk_of hz
      have hto := turnOk_of hz hN
      rw [h0.1] at hN hto
      have hpr := parts_range (many := n0) hok (by omega)
      have hpl := parts_length l n0
      rw [h.1] at hpl
      have hn := hok.len
      rw [h.1] at hn
      have CP := Lib.hid (fun (Y : World) (hb : Below w.heap.size w Y) => parts_any (h.below hb) hok n0 (by omega))
      obtain ⟨ps, hps⟩ : ∃ ps, partsS l n0 = ps := ⟨_, rfl⟩
      unfold PartsPost at CP
      rw [hps] at hpr hpl HPO CP hto
      rw [h.1] at CP
      have HTO := Lib.hid hto
      have HPR := Lib.hid hpr
      have HPL := Lib.hid hpl
      have HMK := made_ints n0 (by omega)
      obtain ⟨Z, hZ⟩ : ∃ Z, zerosA n0 = Z := ⟨_, rfl⟩
      have hZs : Z.size = n0 := by rw [← hZ]; exact zerosA_size n0
      have hZl : Z.toList = (midT l ps bs 0).map (Value.int .i64) := by rw [← hZ, midT_zero, h0.1]; unfold zerosA; rw [toList_madeCells_one, Nat.mul_one, List.map_replicate]
      rw [hZ] at HMK
      have HZS := Lib.hid hZs
      have HZL := Lib.hid hZl
      have HLZ := Lib.hid h0.1
      have HLS := Lib.hid h.1
      clear hE hL hz hbz hok h h0 hto hpr hpl hps hZ hZs hZl
      go_enter Try.func34, Try.ntmps34
      go_wp2_with fail
      refine CF.out.mono ?_
      rintro e w1 ⟨rfl, hb1⟩
      have HB1 := Lib.hid hb1
      clear hb1
      go_wp2_with fail
      refine (CB.out _ HB1.out).mono ?_
      rintro e w2 ⟨rfl, hb2⟩
      have HB2 := Lib.hid (below_step HB1.out hb2)
      clear hb2
      go_wp2_with fail
      refine (CP.out _ HB2.out).mono ?_
      rintro e w3 ⟨v, rfl, hown, hb3⟩
      obtain ⟨ap, cp, rfl, hap0, hap, -⟩ := own_at hown (by omega)
      have HB3 := Lib.hid (below_step HB2.out hb3)
      have hsz3 := HB3.out.size
      have hszw2 := HB2.out.size
      have hapw : w.heap.size ≤ ap.block := by omega
      have HTW : Hid (Two (w3.alloc (.cells Z 3)) w.heap.size 3 1 (.slice (some ap) n cp) (.slice (some ⟨w3.heap.size, 0, none⟩) n0 n0) n n0 ((leftT l ps bs 0).map (Value.int .i64)) ((midT l ps bs 0).map (Value.int .i64))) := by
        show Two _ _ _ _ _ _ _ _ _ _
        rw [leftT_zero HTO.out, ← HZL.out]
        refine ⟨own_low2 (hown.alloc _) hszw2, own_low2 (own_of_blk (Blk.new _ _ _) HZS.out (Nat.le_refl _) (by unfold maxLen; omega)) hsz3, fun k h1 h2 => ?_⟩
        simp [Value.ownBlock] at h1 h2
        omega
      have HBW : Hid (Below w.heap.size w (w3.alloc (.cells Z 3))) := HB3.out.alloc hsz3 _
      clear hown hb3
      go_wp2
      go_loopw [35, 10, 11, 12] (fun i _ _ _ wr => ∃ p : Nat, p ≤ n0 ∧ i = .int .i64 p ∧ Two wr w.heap.size 3 1 (.slice (some ap) n cp) (.slice (some ⟨w3.heap.size, 0, none⟩) n0 n0) n n0 ((leftT l ps bs p).map (Value.int .i64)) ((midT l ps bs p).map (Value.int .i64)) ∧ Below w.heap.size w wr) (fun i _ _ _ _ => n0 - (intOf i).toNat)
      case atStart => exact ⟨0, by omega, rfl, HTW.out, HBW.out⟩
      case round =>
        obtain ⟨p, hp, rfl, htwo, hb⟩ := hrel
        obtain ⟨wo, rfl⟩ : ∃ wo : World, wo = wr := ⟨_, rfl⟩
        have HT := Lib.hid htwo
        have HB := Lib.hid hb
        have hszo := hb.size
        have hapo := (own_cells htwo.a (by omega)).1
        have hgo := (own_cells htwo.b (by omega)).1
        by_cases hlt : p < n0
        · obtain ⟨ad, rfl, hbk, hc⟩ := ints_at HI.out hlt
          have q0 := (hb.cell (p := ad.add p) (by rw [block_of_add]; exact hbk)).trans hc
          obtain ⟨x, hx⟩ : ∃ x, gI bs p = x := ⟨_, rfl⟩
          rw [hx] at q0
          have HX := Lib.hid hx
          have i1 : (0 : Int) ≤ (p : Int) := by omega
          have i2 : (p : Int) < (n0 : Int) := by omega
          have CI : Hid (Calls Try.prog 88 #[.slice A n c, .func (.func 89) #[] #[.pointer (some ⟨wo.heap.size, 0, none⟩)]] (wo.alloc (.cells #[.int .i64 x] 3)) fun e w' => e = .returned (.int .i64 (firstAt (fun r : ShareV => r.hop == x) l)) ∧ Below (wo.alloc (.cells #[.int .i64 x] 3)).heap.size (wo.alloc (.cells #[.int .i64 x] 3)) w') := Lib.hid (by
            have hba := hb.alloc hb.size (.cells #[.int .i64 x] 3)
            refine idxShare_any A n c l (fun r : ShareV => r.hop == x) _ _ _ turnEnters HLS.out (by unfold maxLen; omega) ((HS.out.2.2.below hba).more hba.size) fun r _ w' hbw => ?_
            obtain ⟨D1, S1, F⟩ := box1 (cs := [.int .i64 x]) hbw
            exact turnClosure_any x r wo.heap.size w' (F 0 _ rfl) S1)
          have hfc := firstAt_cases (fun r : ShareV => r.hop == x) l
          obtain ⟨r, hr⟩ : ∃ r, firstAt (fun r : ShareV => r.hop == x) l = r := ⟨_, rfl⟩
          rw [hr] at CI hfc
          clear htwo hb hbk hc hx hr
          rcases hfc with ⟨rfl, hno⟩ | ⟨k, s, rfl, hls, hsx⟩
          · have hno2 : ∀ k, k < l.length → hopN l k = gI bs p → ¬ 0 < gI (leftT l ps bs p) k := by
              intro k hk he _
              have := hno _ (List.getElem_mem hk)
              rw [HX.out] at he
              unfold hopN at he
              rw [List.getElem?_eq_getElem hk] at he
              simp at he this
              exact this he
            have HL1 := Lib.hid (leftT_same HTO.out (by rw [HLZ.out]; exact hlt) hno2)
            have HM1 := Lib.hid (midT_drop (l := l) (ps := ps) (bs := bs) (p := p) (valT_drop hno2))
            clear hno hno2
            go_wp2_with fail
            refine CI.out.mono ?_
            rintro e w4 ⟨rfl, hb4⟩
            have HB4 := Lib.hid (below_step (HB.out.alloc hszo _) hb4)
            have HST := Lib.hid (below_step ((Below.refl wo.heap.size wo).alloc (Nat.le_refl _) (.cells #[.int .i64 x] 3)) hb4)
            clear hb4
            go_wp2
            go_roundw
            case rel => exact ⟨p + 1, by omega, by go_num, by rw [HL1.out, HM1.out]; exact HT.out.step HST.out, HB4.out⟩
            case measure => simp [intOf]; omega
          · have hkn : k < n := by have := (List.getElem?_eq_some_iff.1 hls).1; rw [HLS.out] at this; exact this
            have hhop : hopN l k = gI bs p := by unfold hopN; rw [hls, HX.out]; simpa using hsx
            have hy0 := left_nonneg (l := l) (ps := ps) (bs := bs) p k
            have hy1 : gI (leftT l ps bs p) k ≤ 1300 := Int.le_trans (left_le HTO.out p k) (HPR.out k).2
            have k1 : (0 : Int) ≤ (k : Int) := by omega
            have k2 : (k : Int) < (n : Int) := by omega
            clear hls hsx
            by_cases hy : 0 < gI (leftT l ps bs p) k
            · have hl1 := leftT_keep HTO.out (by rw [HLS.out]; exact hkn) hhop hy (by rw [HLZ.out]; exact hlt)
              have hv := (valT_keep HTO.out (by rw [HLS.out]; exact hkn) hhop hy).1
              have hm1 := midT_keep (l := l) (ps := ps) (bs := bs) (p := p) (by rw [HLZ.out]; exact hlt)
              rw [hv, HX.out] at hm1
              obtain ⟨y, hyy⟩ : ∃ y, gI (leftT l ps bs p) k = y := ⟨_, rfl⟩
              rw [hyy] at hl1 hy hy0 hy1
              have d1 : decide (0 < y) = true := by simpa using hy
              have HL1 := Lib.hid hl1
              have HM1 := Lib.hid hm1
              have HYY := Lib.hid hyy
              clear hl1 hv hm1 hyy hhop
              go_wp2_with fail
              refine CI.out.mono ?_
              rintro e w4 ⟨rfl, hb4⟩
              obtain ⟨D1, S1, F⟩ := box1 (cs := [.int .i64 x]) hb4
              have f0 := F 0 _ rfl
              have HB4 := Lib.hid (below_step (HB.out.alloc hszo _) hb4)
              have HST := Lib.hid (below_step ((Below.refl wo.heap.size wo).alloc (Nat.le_refl _) (.cells #[.int .i64 x] 3)) hb4)
              have ht4 := HT.out.step HST.out
              have x8 := (own_cells ht4.a (by omega)).2 k hkn
              rw [show (leftT l ps bs p)[k]?.getD 0 = y from HYY.out] at x8
              obtain ⟨u9, -, x9⟩ := own_val ht4.b hlt
              have y8 := own_frozen ht4.a k
              have y9 := own_frozen ht4.b p
              rw [add_zero_off] at x9 y9
              have z8 : ap.block < w4.heap.size := (own_cells ht4.a (by omega)).1
              have z9 : w3.heap.size < w4.heap.size := (own_cells ht4.b (by omega)).1
              have m1 : ¬ (⟨wo.heap.size, 0, none⟩ : Addr) = ap.add k := fun e => by have := congrArg Addr.block e; rw [block_of_add] at this; simp at this; omega
              have m2 : ¬ ap.add k = (⟨wo.heap.size, 0, none⟩ : Addr) := fun e => m1 e.symm
              have m3 : ¬ (⟨w3.heap.size, p, none⟩ : Addr) = ap.add k := fun e => by have := congrArg Addr.block e; rw [block_of_add] at this; simp at this; omega
              have m4 : ¬ ap.add k = (⟨w3.heap.size, p, none⟩ : Addr) := fun e => m3 e.symm
              have HT4 := Lib.hid ht4
              clear hb4 D1 F ht4
              go_wp2
              go_roundw
              case rel =>
                refine ⟨p + 1, by omega, by go_num, ?_, (HB4.out.setCell (by rw [block_of_add]; omega) _).setCell (p := ⟨w3.heap.size, p, none⟩) (by show _ ≤ _; simp; omega) _⟩
                have := own_two2 (own_set2 HT4.out k (.int .i64 (y - 1)) hkn) p (.int .i64 x) hlt
                rw [add_zero_off] at this
                rw [HL1.out, HM1.out, List.map_set, List.map_set]
                exact this
              case measure => simp [intOf]; omega
            · have hno2 : ∀ k, k < l.length → hopN l k = gI bs p → ¬ 0 < gI (leftT l ps bs p) k := by
                intro j hj he
                obtain rfl := HTO.out.distinct j k hj (by rw [HLS.out]; exact hkn) (he.trans hhop.symm)
                exact hy
              have HL1 := Lib.hid (leftT_same HTO.out (by rw [HLZ.out]; exact hlt) hno2)
              have HM1 := Lib.hid (midT_drop (l := l) (ps := ps) (bs := bs) (p := p) (valT_drop hno2))
              obtain ⟨y, hyy⟩ : ∃ y, gI (leftT l ps bs p) k = y := ⟨_, rfl⟩
              rw [hyy] at hy hy0 hy1
              have d1 : decide (0 < y) = false := by simpa using hy
              have HYY := Lib.hid hyy
              clear hno2 hyy hhop
              go_wp2_with fail
              refine CI.out.mono ?_
              rintro e w4 ⟨rfl, hb4⟩
              have HB4 := Lib.hid (below_step (HB.out.alloc hszo _) hb4)
              have HST := Lib.hid (below_step ((Below.refl wo.heap.size wo).alloc (Nat.le_refl _) (.cells #[.int .i64 x] 3)) hb4)
              have ht4 := HT.out.step HST.out
              have x8 := (own_cells ht4.a (by omega)).2 k hkn
              rw [show (leftT l ps bs p)[k]?.getD 0 = y from HYY.out] at x8
              have HT4 := Lib.hid ht4
              clear hb4 ht4
              go_wp2
              go_roundw
              case rel => exact ⟨p + 1, by omega, by go_num, by rw [HL1.out, HM1.out]; exact HT4.out, HB4.out⟩
              case measure => simp [intOf]; omega
        · obtain rfl : n0 = p := by omega
          have hme : midT l ps bs n0 = fillT l ps bs 0 := by rw [← midT_end, HLZ.out]
          have hpd : poolF l (leftT l ps bs n0) 0 n = (poolT l ps bs).drop (zerosT l ps bs 0) := by
            show _ = (poolT l ps bs).drop 0
            rw [pool_all, List.drop_zero]; unfold poolT; rw [HLZ.out, HLS.out]
          rw [hme] at HT
          have HPD := Lib.hid hpd
          have HLL : Hid ((leftT l ps bs n0).length = n) := Lib.hid (by rw [leftT_length, HPL.out])
          have HMB : Hid (∀ i, 0 ≤ gI (leftT l ps bs n0) i ∧ gI (leftT l ps bs n0) i ≤ 1300) := Lib.hid (fun i => ⟨left_nonneg _ _, Int.le_trans (left_le HTO.out n0 i) (HPR.out i).2⟩)
          clear hme hpd htwo hb
          go_wp2
          go_loopw [65, 13, 14, 15] (fun i nx _ _ wr => ∃ (q y : Nat) (M : List Int), q ≤ n0 ∧ i = .int .i64 q ∧ nx = .int .i64 y ∧ y ≤ n ∧ M.length = n ∧ (∀ i, 0 ≤ gI M i ∧ gI M i ≤ 1300) ∧ poolF l M y (n - y) = (poolT l ps bs).drop (zerosT l ps bs q) ∧ Two wr w.heap.size 3 1 (.slice (some ap) n cp) (.slice (some ⟨w3.heap.size, 0, none⟩) n0 n0) n n0 (M.map (Value.int .i64)) ((fillT l ps bs q).map (Value.int .i64)) ∧ Below w.heap.size w wr) (fun i _ _ _ _ => n0 - (intOf i).toNat)
          case atStart => exact ⟨0, 0, _, by omega, rfl, rfl, by omega, HLL.out, HMB.out, HPD.out, HT.out, HB.out⟩
          case round =>
            obtain ⟨q, y, M, hq, rfl, rfl, hyn, hML, hMb, hpo, htwo, hb⟩ := hrel
            obtain ⟨wi, rfl⟩ : ∃ wi : World, wi = wr := ⟨_, rfl⟩
            have HTI := Lib.hid htwo
            have HBI := Lib.hid hb
            have HML := Lib.hid hML
            have HMB2 := Lib.hid hMb
            have HPI := Lib.hid hpo
            have hszi := hb.size
            have hapi := (own_cells htwo.a (by omega)).1
            have hgi := (own_cells htwo.b (by omega)).1
            by_cases hlt : q < n0
            · have x9 := (own_cells htwo.b (by omega)).2 q hlt
              rw [show (fillT l ps bs q)[q]?.getD 0 = valT l ps bs q from fillT_val (by rw [HLZ.out]; exact hlt), add_zero_off] at x9
              have i1 : (0 : Int) ≤ (q : Int) := by omega
              have i2 : (q : Int) < (n0 : Int) := by omega
              rcases valT_cases HTO.out q with hv | hv
              · rw [hv] at x9
                have hzl := zeros_lt l ps bs (by rw [HLZ.out]; exact hlt) hv
                rw [← poolT_length HTO.out] at hzl
                have ha : turnAt l ps bs q = gI (poolT l ps bs) (zerosT l ps bs q) := by unfold turnAt; rw [if_pos hv]
                have hz1 : zerosT l ps bs (q + 1) = zerosT l ps bs q + 1 := by show _ + (if _ then 1 else 0) = _; rw [if_pos hv]
                have hfs := fillT_set (l := l) (ps := ps) (bs := bs) (q := q) (by rw [HLZ.out]; exact hlt)
                rw [ha] at hfs
                obtain ⟨zz, hzz⟩ : ∃ zz, zerosT l ps bs q = zz := ⟨_, rfl⟩
                rw [hzz] at hzl hz1 hfs HPI
                have HZ1 := Lib.hid hz1
                have HFS := Lib.hid hfs
                have HZL2 := Lib.hid hzl
                have y9 := own_frozen htwo.b q
                rw [add_zero_off] at y9
                clear hv hzl ha hz1 hfs hzz htwo hb hML hMb hpo
                go_wp2
                go_loopw [13] (fun nx wr => ∃ y2 : Nat, y2 ≤ n ∧ nx = .int .i64 y2 ∧ poolF l M y2 (n - y2) = (poolT l ps bs).drop zz ∧ wi = wr) (fun nx _ => n - (intOf nx).toNat)
                case atStart => exact ⟨y, hyn, rfl, HPI.out, rfl⟩
                case round =>
                  obtain ⟨y2, hy2, rfl, hpo2, rfl⟩ := hrel
                  have hy2n : y2 < n := pool_lt hy2 hpo2 HZL2.out
                  have x8 := (own_cells HTI.out.a (by omega)).2 y2 hy2n
                  have y8 := own_frozen HTI.out.a y2
                  have k1 : (0 : Int) ≤ (y2 : Int) := by omega
                  have k2 : (y2 : Int) < (n : Int) := by omega
                  have hmb := HMB2.out y2
                  rw [show M[y2]?.getD 0 = gI M y2 from rfl] at x8
                  by_cases hm0 : gI M y2 = 0
                  · rw [show n - y2 = (n - (y2 + 1)) + 1 by omega, pool_skip hm0] at hpo2
                    have HP2 := Lib.hid hpo2
                    rw [hm0] at x8
                    clear hpo2 hmb hm0
                    go_wp2
                    go_roundw
                    case rel => exact ⟨y2 + 1, by omega, by go_num, HP2.out, by first | trivial | rfl⟩
                    case measure => simp [intOf]; omega
                  · obtain ⟨hst1, hst2⟩ := pool_step HML.out hy2n hpo2 HZL2.out (by omega)
                    obtain ⟨m, hm⟩ : ∃ m, gI M y2 = m := ⟨_, rfl⟩
                    rw [hm] at x8 hm0 hmb hst2
                    have d1 : (m == 0) = false := by simpa using hm0
                    obtain ⟨ad, ⟨hop, wt⟩, rfl, hlk, -, -, hbk, hc0, hcj⟩ := HS.out.2.2.atS ShareV.cells_length HLS.out hy2n
                    have q0 := (HBI.out.cell (p := ad.add (y2 * 2)) (by rw [block_of_add]; exact hbk)).trans (hc0 _ rfl)
                    have hhop : hop = gI (poolT l ps bs) zz := by rw [← hst1]; unfold hopN; rw [hlk]; rfl
                    have m1 : ¬ ad.add (y2 * 2) = ap.add y2 := fun e => by have := congrArg Addr.block e; rw [block_of_add, block_of_add] at this; omega
                    have m2 : ¬ ap.add y2 = ad.add (y2 * 2) := fun e => m1 e.symm
                    have m3 : ¬ (⟨w3.heap.size, q, none⟩ : Addr) = ap.add y2 := fun e => HTI.out.apart ap.block rfl (by have := congrArg Addr.block e; rw [block_of_add] at this; rw [← this]; rfl)
                    have m4 : ¬ ap.add y2 = (⟨w3.heap.size, q, none⟩ : Addr) := fun e => m3 e.symm
                    have HST1 := Lib.hid hhop
                    have HST2 := Lib.hid hst2
                    have HM := Lib.hid hm
                    clear hst1 hst2 hm hpo2 hlk hbk hc0 hcj hhop
                    go_wp2
                    go_roundw
                    case rel =>
                      refine ⟨q + 1, y2, M.set y2 (m - 1), by omega, by go_num, rfl, by omega, by rw [List.length_set]; exact HML.out, fun i => ?_, by rw [HZ1.out]; exact HST2.out, ?_, (HBI.out.setCell (by rw [block_of_add]; omega) _).setCell (p := ⟨w3.heap.size, q, none⟩) (by show _ ≤ _; simp; omega) _⟩
                      · rw [gI_set (by rw [HML.out]; exact hy2n)]
                        by_cases e : y2 = i
                        · rw [if_pos e]; omega
                        · rw [if_neg e]; exact HMB2.out i
                      · have := own_two2 (own_set2 HTI.out y2 (.int .i64 (m - 1)) hy2n) q (.int .i64 hop) hlt
                        rw [add_zero_off] at this
                        rw [HFS.out, ← HST1.out, List.map_set, List.map_set]
                        exact this
                    case measure => simp [intOf]; omega
              · have hz1 : zerosT l ps bs (q + 1) = zerosT l ps bs q := by show _ + (if _ then 1 else 0) = _; rw [if_neg (by omega)]; rfl
                have hfs := fillT_same (l := l) (ps := ps) (bs := bs) (q := q) (by omega)
                obtain ⟨v, hvv⟩ : ∃ v, valT l ps bs q = v := ⟨_, rfl⟩
                rw [hvv] at hv x9
                have d1 : decide (0 < v) = true := by simp; omega
                have HZ1 := Lib.hid hz1
                have HFS := Lib.hid hfs
                clear hz1 hfs hvv htwo hb hML hMb hpo
                go_wp2
                go_roundw
                case rel => exact ⟨q + 1, y, M, by omega, by go_num, rfl, hyn, HML.out, HMB2.out, by rw [HZ1.out]; exact HPI.out, by rw [HFS.out]; exact HTI.out, HBI.out⟩
                case measure => simp [intOf]; omega
            · obtain rfl : n0 = q := by omega
              go_wp2
              rw [← HPO.out]
              exact ⟨_, rfl, by rw [turnTo_length, HLZ.out, ← fillT_end, HLZ.out]; exact HTI.out.b, HBI.out⟩
    · have hE : turnE l bs = bucketsF bs := by unfold turnE; rw [if_neg (by simpa using hz)]
      have hL : turnL l bs = [] := by unfold turnL; rw [if_neg (by simpa using hz), if_pos hbz]
      rw [hE, hL] at HPO
      obtain ⟨E, hEE⟩ : ∃ E, bucketsF bs = E := ⟨_, rfl⟩
      rw [hEE] at CB hbz HPO
      have d1 : (E != 0) = true := by simpa using hbz
      clear hE hL hEE hbz h h0 hz
      go_enter Try.func34, Try.ntmps34
      go_wp2_with fail
      refine CF.out.mono ?_
      rintro e w1 ⟨rfl, hb1⟩
      have HB1 := Lib.hid hb1
      clear hb1
      go_wp2_with fail
      refine (CB.out _ HB1.out).mono ?_
      rintro e w2 ⟨rfl, hb2⟩
      have HB2 := Lib.hid (below_step HB1.out hb2)
      clear hb2
      go_wp2
      rw [← HPO.out]
      exact retInts_nil HB2.out
  · have hE : turnE l bs = sharesF l := by unfold turnE; rw [if_pos hz]
    have hL : turnL l bs = [] := by unfold turnL; rw [if_pos hz]
    rw [hE, hL] at HPO
    obtain ⟨E, hEE⟩ : ∃ E, sharesF l = E := ⟨_, rfl⟩
    rw [hEE] at CF hz HPO
    have d1 : (E != 0) = true := by simpa using hz
    clear hE hL hEE hz h h0
    go_enter Try.func34, Try.ntmps34
    go_wp2_with fail
    refine CF.out.mono ?_
    rintro e w1 ⟨rfl, hb⟩
    go_wp2
    rw [← HPO.out]
    exact retInts_nil hb

end Go.Proofs.Ytnflaaoapmhjgaa

namespace Go.Proofs.Ytnflaaoapmhjgaa
open Go.ChangeShapes Go.WideShapes Go.ChangeAt Go.RowKit

theorem KeepG.low {g : Nat} {w w1 w2 : World} (h : KeepG g w w1) (hb : Below w.heap.size w1 w2) : KeepG g w w2 :=
  ⟨hb.os.trans h.os, hb.tape.trans h.tape, hb.output.trans h.output, Nat.le_trans h.size hb.size, fun k hk hn => (hb.block k hk).trans (h.block k hk hn)⟩
theorem KeepG.cell {g : Nat} {w w1 : World} (h : KeepG g w w1) {p : Addr} (hp : p.block < w.heap.size) (hn : p.block ≠ g) : w1.cell? p = w.cell? p := World.cell?_of_block (h.block _ hp hn)
theorem KeepG.toBelow {g base : Nat} {w w1 : World} (h : KeepG g w w1) (hg : base ≤ g) (hs : base ≤ w.heap.size) : Below base w w1 :=
  ⟨h.os, h.tape, h.output, h.size, fun k hk => h.block k (by omega) (by omega)⟩

set_option maxRecDepth 100000 in
set_option maxHeartbeats 3200000 in
theorem refTurn_is {A0 : Option Addr} {n0 c0 : Nat} {bs : List Int} {A : Option Addr} {n c : Nat} {l : List ShareV} {w : World} (h0 : IsInts w A0 n0 c0 bs) (h : IsShares w A n c l) :
    Calls Try.prog 35 #[.slice A0 n0 c0, .slice A n c] w (RetInts w (turnL l bs) (turnE l bs)) := by
  obtain ⟨post, hpost⟩ : ∃ post, RetInts w (turnL l bs) (turnE l bs) = post := ⟨_, rfl⟩
  have HPO := Lib.hid hpost
  rw [hpost]
  have CF := Lib.hid (sharesFault_is h)
  have CB := Lib.hid (fun (Y : World) (hb : Below w.heap.size w Y) => refBuckets_any A0 n0 c0 bs Y (h0.below hb))
  have HS := Lib.hid h
  have HI := Lib.hid h0
  have hnc := h.2.1.1
  have hcm := h.2.1.2
  have hnc0 := h0.2.1.1
  have hcm0 := h0.2.1.2
  unfold maxLen at hcm hcm0
  clear hpost
  by_cases hz : sharesF l = 0
  · rw [hz] at CF
    by_cases hbz : bucketsF bs = 0
    · rw [hbz] at CB
      have hE : turnE l bs = 0 := by unfold turnE; rw [if_neg (by simpa using hz), hbz]
      have hL : turnL l bs = turnTo l (partsS l n0) bs := by unfold turnL; rw [if_neg (by simpa using hz), if_neg (by simpa using hbz), h0.1]
      rw [hE, hL] at HPO
      have hN := buckets_len hbz
      have hok := sharesOk_of hz
      have hto := turnOk_of hz hN
      rw [h0.1] at hN hto
      have hpr := parts_range (many := n0) hok (by omega)
      have hpl := parts_length l n0
      rw [h.1] at hpl
      have hn := hok.len
      rw [h.1] at hn
      have CP := Lib.hid (fun (Y : World) (hb : Below w.heap.size w Y) => refParts_any (h.below hb) hok n0 (by omega))
      obtain ⟨ps, hps⟩ : ∃ ps, partsS l n0 = ps := ⟨_, rfl⟩
      unfold PartsPost at CP
      rw [hps] at hpr hpl HPO CP hto
      rw [h.1] at CP
      have HTO := Lib.hid hto
      have HPR := Lib.hid hpr
      have HPL := Lib.hid hpl
      have HMK := made_ints n0 (by omega)
      obtain ⟨Z, hZ⟩ : ∃ Z, zerosA n0 = Z := ⟨_, rfl⟩
      have hZs : Z.size = n0 := by rw [← hZ]; exact zerosA_size n0
      have hZl : Z.toList = (outK l ps bs 0 0).map (Value.int .i64) := by rw [← hZ, outK_zero, h0.1]; unfold zerosA; rw [toList_madeCells_one, Nat.mul_one, List.map_replicate]
      rw [hZ] at HMK
      have HZS := Lib.hid hZs
      have HZL := Lib.hid hZl
      have HLZ := Lib.hid h0.1
      have HLS := Lib.hid h.1
      clear hE hL hz hbz hok h h0 hto hpr hpl hps hZ hZs hZl
      go_enter Try.func35, Try.ntmps35
      go_wp2_with fail
      refine CF.out.mono ?_
      rintro e w1 ⟨rfl, hb1⟩
      have HB1 := Lib.hid hb1
      have hsz1 := hb1.size
      clear hb1
      go_wp2_with fail
      refine (CB.out _ HB1.out).mono ?_
      rintro e w2 ⟨rfl, hw2⟩
      obtain rfl : w2 = w1 := hw2.symm
      clear hw2
      go_wp2_with fail
      refine (CP.out _ (HB1.out.alloc hsz1 (.cells Z 3))).mono ?_
      rintro e w3 ⟨v, rfl, hown, hb3⟩
      obtain ⟨ap, cp, rfl, hap0, hap, hcp⟩ := own_at hown (by omega)
      rw [World.size_alloc] at hap0
      have HCP := Lib.hid hcp
      have HB3 := Lib.hid (below_step (HB1.out.alloc hsz1 (.cells Z 3)) hb3)
      have hsz3 := HB3.out.size
      have hg3 : w2.heap.size < w3.heap.size := by have := hb3.size; rw [World.size_alloc] at this; omega
      have HOO : Hid (w3.ownsRow w.heap.size 3 1 (.slice (some ⟨w2.heap.size, 0, none⟩) n0 n0) n0 ((outK l ps bs 0 0).map (Value.int .i64))) := by
        show World.ownsRow _ _ _ _ _ _ _
        rw [← HZL.out]
        exact own_low2 (own_of_blk ((Blk.new w2 3 Z).below hb3 (by simp)) HZS.out (Nat.le_refl _) (by unfold maxLen; omega)) hsz1
      clear hown hb3 hcp
      obtain ⟨LF, hLF⟩ : ∃ LF, leftT l ps bs n0 = LF := ⟨_, rfl⟩
      have hlf : ∀ i, 0 ≤ gI LF i ∧ gI LF i ≤ 1300 := fun i => by rw [← hLF]; exact ⟨left_nonneg _ _, Int.le_trans (left_le HTO.out n0 i) (HPR.out i).2⟩
      have HLF := Lib.hid hLF
      have HLB := Lib.hid hlf
      have hpoo : poolT l ps bs = dealTo l LF n := by unfold poolT; rw [HLZ.out, HLS.out, hLF]
      have HPOO := Lib.hid hpoo
      clear hLF hlf hpoo
      go_wp2
      go_loopw [33, 9, 10, 11, 12, 13] (fun i v _ _ _ _ wr => ∃ k : Nat, k ≤ n ∧ i = .int .i64 k ∧ wr.ownsRow w3.heap.size 3 1 v (dealTo l LF k).length ((dealTo l LF k).map (Value.int .i64)) ∧ wr.ownsRow w.heap.size 3 1 (.slice (some ⟨w2.heap.size, 0, none⟩) n0 n0) n0 ((outK l ps bs k 0).map (Value.int .i64)) ∧ KeepG w2.heap.size w3 wr) (fun i _ _ _ _ _ _ => n - (intOf i).toNat)
      case atStart => exact ⟨0, by omega, rfl, World.ownsRow_nil _ _ _ _, HOO.out, KeepG.refl _ _⟩
      case round =>
        obtain ⟨k, hk, rfl, hown, hout, hkg⟩ := hrel
        obtain ⟨wo, rfl⟩ : ∃ wo : World, wo = wr := ⟨_, rfl⟩
        have HO := Lib.hid hown
        have HOU := Lib.hid hout
        have HK := Lib.hid hkg
        have hszo := hkg.size
        by_cases hlt : k < n
        · have i1 : (0 : Int) ≤ (k : Int) := by omega
          have i2 : (k : Int) < (n : Int) := by omega
          have y1 := (hkg.cell (p := ap.add k) (by rw [block_of_add]; exact hap) (by rw [block_of_add]; omega)).trans (HCP.out k hlt)
          rw [show ps[k]?.getD 0 = gI ps k from rfl] at y1
          have hr1 := HPR.out k
          obtain ⟨N, hN⟩ : ∃ N, gI ps k = N := ⟨_, rfl⟩
          rw [show ps[k]?.getD 0 = gI ps k from rfl, hN] at hr1
          rw [hN] at y1
          have hst : gI (leftT l ps bs 0) k = N := by rw [leftT_zero HTO.out, hN]
          have HST := Lib.hid hst
          have hsucc := dealTo_succ l LF k
          rw [show LF[k]?.getD 0 = gI LF k from rfl] at hsucc
          have hlk : (dealTo l LF k).length ≤ 1300 * k := dealTo_len (fun i => (HLB.out i).2) k
          have hlb := HLB.out k
          obtain ⟨ad, ⟨hop, wt⟩, rfl, hlk2, -, -, hbk, hc0, hcj⟩ := HS.out.2.2.atS ShareV.cells_length HLS.out hlt
          have q1 := hc0 _ rfl
          have q2 := (HB3.out.cell (p := ad.add (k * 2)) (by rw [block_of_add]; exact hbk)).trans q1
          have HQ := Lib.hid q2
          have hhop : hopN l k = hop := by unfold hopN; rw [hlk2]; rfl
          rw [hhop] at hsucc
          have hbw3 : ad.block < w3.heap.size := by omega
          have hbng : ad.block ≠ w2.heap.size := by omega
          have HH := Lib.hid hhop
          obtain ⟨D, hD⟩ : ∃ D, dealTo l LF k = D := ⟨_, rfl⟩
          rw [hD] at hsucc HO hlk
          have HSU := Lib.hid hsucc
          clear hown hout hkg hN hst hsucc hlk2 hc0 hcj q1 q2 hhop hD
          go_wp2
          go_loopw [40, 11, 12, 13] (fun i wt _ _ wr => ∃ p : Nat, p ≤ n0 ∧ i = .int .i64 p ∧ wt = .int .i64 (gI (leftT l ps bs p) k) ∧ wr.ownsRow w3.heap.size 3 1 u9 D.length (D.map (Value.int .i64)) ∧ wr.ownsRow w.heap.size 3 1 (.slice (some ⟨w2.heap.size, 0, none⟩) n0 n0) n0 ((outK l ps bs k p).map (Value.int .i64)) ∧ KeepG w2.heap.size w3 wr) (fun i _ _ _ _ => n0 - (intOf i).toNat)
          case atStart => exact ⟨0, by omega, rfl, by rw [HST.out], HO.out, HOU.out, HK.out⟩
          case round =>
            obtain ⟨p, hp, rfl, rfl, hown, hout, hkg⟩ := hrel
            obtain ⟨wi, rfl⟩ : ∃ wi : World, wi = wr := ⟨_, rfl⟩
            have HOI := Lib.hid hown
            have HOUI := Lib.hid hout
            have HKI := Lib.hid hkg
            have hszi := hkg.size
            by_cases hlt2 : p < n0
            · obtain ⟨ad0, rfl, hbk0, hcx⟩ := ints_at HI.out hlt2
              have x0 := ((hkg.cell (p := ad0.add p) (by rw [block_of_add]; omega) (by rw [block_of_add]; omega)).trans (HB3.out.cell (p := ad0.add p) (by rw [block_of_add]; exact hbk0))).trans hcx
              have q0 := (hkg.cell (p := ad.add (k * 2)) (by rw [block_of_add]; exact hbw3) (by rw [block_of_add]; exact hbng)).trans HQ.out
              obtain ⟨x, hx⟩ : ∃ x, gI bs p = x := ⟨_, rfl⟩
              rw [hx] at x0
              have j1 : (0 : Int) ≤ (p : Int) := by omega
              have j2 : (p : Int) < (n0 : Int) := by omega
              have hy0 := left_nonneg (l := l) (ps := ps) (bs := bs) p k
              have hy1 : gI (leftT l ps bs p) k ≤ 1300 := Int.le_trans (left_le HTO.out p k) (HPR.out k).2
              obtain ⟨uo, -, x9⟩ := own_val hout hlt2
              have y9 := own_frozen hout p
              rw [add_zero_off] at x9 y9
              have z9 : w2.heap.size < wi.heap.size := by omega
              by_cases hxe : x = hop
              · by_cases hy : 0 < gI (leftT l ps bs p) k
                · have hh : hopN l k = gI bs p := by rw [HH.out, hx, hxe]
                  have hok2 := outK_keep (l := l) (ps := ps) (bs := bs) (k := k) (p := p) (by rw [HLZ.out]; exact hlt2) hh hy
                  have hwk := want_keep HTO.out (by rw [HLS.out]; exact hlt) hh hy (by rw [HLZ.out]; exact hlt2)
                  rw [hx] at hok2
                  obtain ⟨y, hyy⟩ : ∃ y, gI (leftT l ps bs p) k = y := ⟨_, rfl⟩
                  rw [hyy] at hwk hy hy0 hy1 ⊢
                  have d1 : decide (0 < y) = true := by simpa using hy
                  have d0 : (x == hop) = true := by simpa using hxe
                  have HOK2 := Lib.hid hok2
                  have HWK := Lib.hid hwk
                  clear hok2 hwk hyy hh hx hxe hown hout hkg hcx
                  go_wp2
                  go_roundw
                  case rel =>
                    refine ⟨p + 1, by omega, by go_num, by rw [HWK.out], ?_, ?_, HKI.out.setCell (p := ⟨w2.heap.size, p, none⟩) rfl _⟩
                    · exact ownsRow_setCell_other HOI.out (a := ⟨w2.heap.size, p, none⟩) (fun e => by have h1 : w3.heap.size ≤ w2.heap.size := (HOI.out.lt _ e).1; omega) _
                    · have := own_set HOUI.out p (.int .i64 x) hlt2
                      rw [add_zero_off] at this
                      rw [HOK2.out, List.map_set]
                      exact this
                  case measure => simp [intOf]; omega
                · have hno : ¬ (hopN l k = gI bs p ∧ 0 < gI (leftT l ps bs p) k) := fun e => hy e.2
                  have HOK2 := Lib.hid (outK_same (l := l) (ps := ps) (bs := bs) (k := k) (p := p) hno)
                  have HWK := Lib.hid (want_same HTO.out (by rw [HLS.out]; exact hlt) hno (by rw [HLZ.out]; exact hlt2))
                  obtain ⟨y, hyy⟩ : ∃ y, gI (leftT l ps bs p) k = y := ⟨_, rfl⟩
                  rw [hyy] at HWK hy hy0 hy1 ⊢
                  have d1 : decide (0 < y) = false := by simpa using hy
                  have d0 : (x == hop) = true := by simpa using hxe
                  clear hno hyy hx hxe hown hout hkg hcx
                  go_wp2
                  go_roundw
                  case rel => exact ⟨p + 1, by omega, by go_num, by rw [HWK.out], HOI.out, by rw [HOK2.out]; exact HOUI.out, HKI.out⟩
                  case measure => simp [intOf]; omega
              · have hno : ¬ (hopN l k = gI bs p ∧ 0 < gI (leftT l ps bs p) k) := fun e => hxe (by rw [← hx, ← HH.out]; exact e.1.symm)
                have HOK2 := Lib.hid (outK_same (l := l) (ps := ps) (bs := bs) (k := k) (p := p) hno)
                have HWK := Lib.hid (want_same HTO.out (by rw [HLS.out]; exact hlt) hno (by rw [HLZ.out]; exact hlt2))
                obtain ⟨y, hyy⟩ : ∃ y, gI (leftT l ps bs p) k = y := ⟨_, rfl⟩
                rw [hyy] at HWK hy0 hy1 ⊢
                have d0 : (x == hop) = false := by simpa using hxe
                clear hno hyy hx hxe hown hout hkg hcx
                go_wp2
                go_roundw
                case rel => exact ⟨p + 1, by omega, by go_num, by rw [HWK.out], HOI.out, by rw [HOK2.out]; exact HOUI.out, HKI.out⟩
                case measure => simp [intOf]; omega
            · obtain rfl : n0 = p := by omega
              have hnx : outK l ps bs k n0 = outK l ps bs (k + 1) 0 := by rw [← outK_next, HLZ.out]
              rw [hnx] at HOUI
              rw [HLF.out]
              obtain ⟨M, hM⟩ : ∃ M : Nat, gI LF k = (M : Int) := ⟨(gI LF k).toNat, by omega⟩
              rw [hM] at hlb HSU ⊢
              have HSU2 : Hid (dealTo l LF (k + 1) = D ++ List.replicate M hop) := by
                show _ = _
                rw [HSU.out, Int.toNat_natCast]
              clear hown hout hkg hM hnx HSU
              go_wp2
              go_loopw [9, 11] (fun v s wr => ∃ t : Nat, t ≤ M ∧ s = .int .i64 ((M : Int) - (t : Int)) ∧ wr.ownsRow w3.heap.size 3 1 v (D ++ List.replicate t hop).length ((D ++ List.replicate t hop).map (Value.int .i64)) ∧ wr.ownsRow w.heap.size 3 1 (.slice (some ⟨w2.heap.size, 0, none⟩) n0 n0) n0 ((outK l ps bs (k + 1) 0).map (Value.int .i64)) ∧ KeepG w2.heap.size w3 wr) (fun _ s _ => (intOf s).toNat)
              case atStart => exact ⟨0, by omega, by go_num, by simpa using HOI.out, HOUI.out, HKI.out⟩
              case round =>
                obtain ⟨t, ht, rfl, hown, hout, hkg⟩ := hrel
                obtain ⟨wj, rfl⟩ : ∃ wj : World, wj = wr := ⟨_, rfl⟩
                have HOJ := Lib.hid hown
                have HOUJ := Lib.hid hout
                have HKJ := Lib.hid hkg
                have hszj := hkg.size
                by_cases hlt3 : t < M
                · have d3 : decide ((0 : Int) < (M : Int) - (t : Int)) = true := by simp; omega
                  have q0 := (hkg.cell (p := ad.add (k * 2)) (by rw [block_of_add]; exact hbw3) (by rw [block_of_add]; exact hbng)).trans HQ.out
                  have hlen : (D ++ List.replicate t hop).length = D.length + t := by simp
                  rw [hlen] at HOJ
                  clear hown hout hkg hlen
                  go_wp2_with (at_builtin; go_loud (refine wpList_append_oneN (us := [.int .i64 hop]) rfl _ _ 33 rfl w3.heap.size _ 1 8 Try.underlying33 infoInt1 rfl (by decide) _ _ _ rfl rfl rfl HOJ.out ?c1 rfl ?c4 ?c2 ?c3 ?_))
                  (try case c1 => first | exact hszj | omega)
                  case c2 => unfold maxLen; omega
                  case c3 => omega
                  case c4 => first | exact int_one _ | rfl
                  intro v9 w9 hown9 hb9 hs9 hk9
                  have HO9 := Lib.hid hown9
                  have HK9 := Lib.hid (HKJ.out.low hb9)
                  have HOU9 := Lib.hid (own_same HOUJ.out (w' := w9) (fun q hq => hb9.block q (by simp [Value.ownBlock] at hq; omega)))
                  clear hown9 hb9 hk9
                  go_wp2
                  go_roundw
                  case rel =>
                    refine ⟨t + 1, by omega, by go_num, ?_, HOU9.out, HK9.out⟩
                    have e : D ++ List.replicate (t + 1) hop = (D ++ List.replicate t hop) ++ [hop] := by rw [List.replicate_succ', List.append_assoc]
                    rw [e, List.map_append, List.length_append, List.length_append, List.length_replicate]
                    first | exact HO9.out | (rw [List.map_append, List.map_replicate, List.append_assoc]; exact HO9.out)
                  case measure => simp [intOf]; omega
                · obtain rfl : t = M := by omega
                  go_wp2
                  go_roundw
                  case rel => exact ⟨k + 1, by omega, by go_num, by rw [HSU2.out]; exact HOJ.out, HOUJ.out, HKJ.out⟩
                  case measure => simp [intOf]; omega
        · obtain rfl : n = k := by omega
          have hoe : outK l ps bs n 0 = fillT l ps bs 0 := by rw [← outK_end, HLS.out]
          rw [hoe] at HOU
          rw [← HPOO.out] at hown
          have hpl := poolT_length HTO.out
          rw [HLZ.out] at hpl
          obtain ⟨P, hP⟩ : ∃ P, poolT l ps bs = P := ⟨_, rfl⟩
          rw [hP] at hown hpl
          obtain ⟨A9, c9, rfl, hc9, hr9, hb9⟩ := own_reads_at hown
          have HP := Lib.hid hP
          have HPLN := Lib.hid hpl
          have HR9 := Lib.hid hr9
          have HA9 := Lib.hid hb9
          clear hown hout hkg hoe hP hpl hr9 hb9 HO
          go_wp2
          go_loopw [78, 9, 14] (fun i v _ wr => ∃ (q : Nat) (A9 : Option Addr) (c9 : Nat), q ≤ n0 ∧ i = .int .i64 q ∧ v = .slice A9 (P.length - zerosT l ps bs q) c9 ∧ (P.length - zerosT l ps bs q ≤ c9 ∧ c9 ≤ maxLen) ∧ Reads wr wr.heap.size 1 A9 (P.length - zerosT l ps bs q) ((P.drop (zerosT l ps bs q)).map (Value.int .i64)) ∧ (∀ ad, A9 = some ad → w3.heap.size ≤ ad.block) ∧ wr.ownsRow w.heap.size 3 1 (.slice (some ⟨w2.heap.size, 0, none⟩) n0 n0) n0 ((fillT l ps bs q).map (Value.int .i64)) ∧ KeepG w2.heap.size w3 wr) (fun i _ _ _ => n0 - (intOf i).toNat)
          case atStart => exact ⟨0, A9, c9, by omega, rfl, rfl, hc9, HR9.out, HA9.out, HOU.out, HK.out⟩
          case round =>
            obtain ⟨q, A9, c9, hq, rfl, rfl, hc9, hr9, hb9, hout, hkg⟩ := hrel
            obtain ⟨wi, rfl⟩ : ∃ wi : World, wi = wr := ⟨_, rfl⟩
            have HOUI := Lib.hid hout
            have HKI := Lib.hid hkg
            have HR9 := Lib.hid hr9
            have HA9 := Lib.hid hb9
            have hszi := hkg.size
            by_cases hlt : q < n0
            · have x9 := (own_cells hout (by omega)).2 q hlt
              rw [show (fillT l ps bs q)[q]?.getD 0 = valT l ps bs q from fillT_val (by rw [HLZ.out]; exact hlt), add_zero_off] at x9
              have i1 : (0 : Int) ≤ (q : Int) := by omega
              have i2 : (q : Int) < (n0 : Int) := by omega
              rcases valT_cases HTO.out q with hv | hv
              · rw [hv] at x9
                have hzl := zeros_lt l ps bs (by rw [HLZ.out]; exact hlt) hv
                rw [HLZ.out, ← HPLN.out] at hzl
                have ha : turnAt l ps bs q = gI P (zerosT l ps bs q) := by unfold turnAt; rw [if_pos hv, HP.out]
                have hz1 : zerosT l ps bs (q + 1) = zerosT l ps bs q + 1 := by show _ + (if _ then 1 else 0) = _; rw [if_pos hv]
                have hfs := fillT_set (l := l) (ps := ps) (bs := bs) (q := q) (by rw [HLZ.out]; exact hlt)
                rw [ha] at hfs
                obtain ⟨zz, hzz⟩ : ∃ zz, zerosT l ps bs q = zz := ⟨_, rfl⟩
                rw [hzz] at hzl hz1 hfs hc9 HR9 ⊢
                obtain ⟨d, hd⟩ : ∃ d, P.length - zz = d + 1 := ⟨P.length - zz - 1, by omega⟩
                rw [hd] at hc9 HR9 ⊢
                obtain ⟨ad, u, rfl, hbk, hu, hcu⟩ := HR9.out.at_ (k := 0) (by omega)
                have hu2 : u = .int .i64 (gI P zz) := by
                  rw [List.getElem?_map, List.getElem?_drop, Nat.add_zero, List.getElem?_eq_getElem hzl] at hu
                  injection hu with hu
                  rw [← hu]; unfold gI; rw [List.getElem?_eq_getElem hzl]; rfl
                subst hu2
                obtain ⟨x, hx⟩ : ∃ x, gI P zz = x := ⟨_, rfl⟩
                rw [hx] at hcu hfs
                have hab := HA9.out ad rfl
                have hcu2 := hcu
                rw [Addr.add_zero'] at hcu2
                have HZ1 := Lib.hid hz1
                have HFS := Lib.hid hfs
                have y9 := own_frozen hout q
                rw [add_zero_off] at y9
                have z9 : w2.heap.size < wi.heap.size := by omega
                have s1 : (1 : Int) ≤ ((d + 1 : Nat) : Int) := by omega
                have s2 : (0 : Int) < ((d + 1 : Nat) : Int) := by omega
                have hzz1 : P.length - (zz + 1) = d := by omega
                have hrd : ∀ W : World, Reads wi wi.heap.size 1 (some ad) (d + 1) ((P.drop zz).map (Value.int .i64)) → (∀ p : Addr, p.block ≠ w2.heap.size → W.cell? p = wi.cell? p) → wi.heap.size = W.heap.size → ∀ B : Option Addr, (0 < d → B = some (ad.add 1)) → Reads W W.heap.size 1 B d ((P.drop (zz + 1)).map (Value.int .i64)) := by
                  intro W hr hW hsz B hB
                  refine ⟨by rw [List.length_map, List.length_drop]; omega, fun hd0 => ?_⟩
                  refine ⟨ad.add 1, hB hd0, by rw [block_of_add, ← hsz]; exact hbk, fun j u hj => ?_⟩
                  obtain ⟨ad', e', hb', hc'⟩ := hr.2 (by omega)
                  injection e' with e'
                  subst e'
                  have := hc' (j + 1) u (by rw [← hj, List.getElem?_map, List.getElem?_map, List.getElem?_drop, List.getElem?_drop, show zz + 1 + j = zz + (j + 1) by omega])
                  rw [hW _ (by rw [block_of_add, block_of_add]; omega)]
                  rw [show (ad.add 1).add j = ad.add (j + 1) by rw [Addr.add_add, Nat.add_comm]]
                  exact this
                have HRD := Lib.hid hrd
                clear hv hzl ha hz1 hfs hzz hout hkg hr9 hb9 hu hx hrd
                by_cases hc1 : c9 = 1
                · subst hc1
                  obtain rfl : d = 0 := by omega
                  go_wp2
                  go_roundw
                  case rel =>
                    refine ⟨q + 1, some ad, 0, by omega, by go_num, by rw [HZ1.out, hzz1], by rw [HZ1.out, hzz1]; exact ⟨Nat.le_refl _, by unfold maxLen; omega⟩, ?_, HA9.out, ?_, HKI.out.setCell (p := ⟨w2.heap.size, q, none⟩) rfl _⟩
                    · rw [HZ1.out, hzz1]
                      exact HRD.out _ HR9.out (fun p hp => World.cell?_of_block (Below.heap_setCell _ _ _ _ hp)) (by simp) _ (fun h => absurd h (by omega))
                    · have := own_set HOUI.out q (.int .i64 x) hlt
                      rw [add_zero_off] at this
                      rw [HFS.out, List.map_set]
                      exact this
                  case measure => simp [intOf]; omega
                · go_wp2
                  go_roundw
                  case rel =>
                    refine ⟨q + 1, some (ad.add 1), c9 - 1, by omega, by go_num, by rw [HZ1.out, hzz1]; rfl, by rw [HZ1.out, hzz1]; exact ⟨by omega, by omega⟩, ?_, fun a ha => by injection ha with ha; rw [← ha, block_of_add]; exact hab, ?_, HKI.out.setCell (p := ⟨w2.heap.size, q, none⟩) rfl _⟩
                    · rw [HZ1.out, hzz1]
                      exact HRD.out _ HR9.out (fun p hp => World.cell?_of_block (Below.heap_setCell _ _ _ _ hp)) (by simp) _ (fun _ => rfl)
                    · have := own_set HOUI.out q (.int .i64 x) hlt
                      rw [add_zero_off] at this
                      rw [HFS.out, List.map_set]
                      exact this
                  case measure => simp [intOf]; omega
              · have hz1 : zerosT l ps bs (q + 1) = zerosT l ps bs q := by show _ + (if _ then 1 else 0) = _; rw [if_neg (by omega)]; rfl
                have hfs := fillT_same (l := l) (ps := ps) (bs := bs) (q := q) (by omega)
                obtain ⟨v, hvv⟩ : ∃ v, valT l ps bs q = v := ⟨_, rfl⟩
                rw [hvv] at hv x9
                have d1 : (v == 0) = false := by simp; omega
                have HZ1 := Lib.hid hz1
                have HFS := Lib.hid hfs
                clear hz1 hfs hvv hout hkg
                go_wp2
                go_roundw
                case rel => exact ⟨q + 1, A9, c9, by omega, by go_num, by rw [HZ1.out], by rw [HZ1.out]; exact hc9, by rw [HZ1.out]; exact HR9.out, HA9.out, by rw [HFS.out]; exact HOUI.out, HKI.out⟩
                case measure => simp [intOf]; omega
            · obtain rfl : n0 = q := by omega
              go_wp2
              rw [← HPO.out]
              exact ⟨_, rfl, by rw [turnTo_length, HLZ.out, ← fillT_end, HLZ.out]; exact HOUI.out, HB3.out.trans (HKI.out.toBelow hsz1 hsz3)⟩
    · have hE : turnE l bs = bucketsF bs := by unfold turnE; rw [if_neg (by simpa using hz)]
      have hL : turnL l bs = [] := by unfold turnL; rw [if_neg (by simpa using hz), if_pos hbz]
      rw [hE, hL] at HPO
      obtain ⟨E, hEE⟩ : ∃ E, bucketsF bs = E := ⟨_, rfl⟩
      rw [hEE] at CB hbz HPO
      have d1 : (E != 0) = true := by simpa using hbz
      clear hE hL hEE hbz h h0 hz
      go_enter Try.func35, Try.ntmps35
      go_wp2_with fail
      refine CF.out.mono ?_
      rintro e w1 ⟨rfl, hb1⟩
      have HB1 := Lib.hid hb1
      clear hb1
      go_wp2_with fail
      refine (CB.out _ HB1.out).mono ?_
      rintro e w2 ⟨rfl, hw2⟩
      obtain rfl : w2 = w1 := hw2.symm
      clear hw2
      go_wp2
      rw [← HPO.out]
      exact retInts_nil HB1.out
  · have hE : turnE l bs = sharesF l := by unfold turnE; rw [if_pos hz]
    have hL : turnL l bs = [] := by unfold turnL; rw [if_pos hz]
    rw [hE, hL] at HPO
    obtain ⟨E, hEE⟩ : ∃ E, sharesF l = E := ⟨_, rfl⟩
    rw [hEE] at CF hz HPO
    have d1 : (E != 0) = true := by simpa using hz
    clear hE hL hEE hz h h0
    go_enter Try.func35, Try.ntmps35
    go_wp2_with fail
    refine CF.out.mono ?_
    rintro e w1 ⟨rfl, hb⟩
    go_wp2
    rw [← HPO.out]
    exact retInts_nil hb

end Go.Proofs.Ytnflaaoapmhjgaa

namespace Go.Proofs.Ytnflaaoapmhjgaa
open Go.ChangeShapes Go.WideShapes Go.ChangeAt Go.RowKit

theorem turn_len (l : List ShareV) (bs : List Int) : (turnL l bs).length ≤ 100000 := by
  unfold turnL
  by_cases hz : sharesF l = 0
  · rw [if_neg (by simpa using hz)]
    by_cases hb : bucketsF bs = 0
    · rw [if_neg (by simpa using hb), turnTo_length]
      have := buckets_len hb
      omega
    · rw [if_pos hb]; simp
  · rw [if_pos hz]; simp

set_option maxRecDepth 100000 in
set_option maxHeartbeats 800000 in
theorem shareTurns_walk {H : Type} {enc : TypeId × Value → H} (W : World) (vs : Array Value) (ds : List (DataW H)) (ps : List MemPlace) (h : ArgsOk Try.prog [33, 66] H enc W vs.toList ds ps) :
    Calls Try.prog 6 vs W fun e W' => e = .returned (.bool true) ∧ Below W.heap.size W W' := by
  obtain ⟨hA, ⟨base, hval⟩, _, _⟩ := h
  obtain ⟨v0, v1, d0, d1, p0, p1, e0, _, _, h0, h1⟩ := trodAll_two hA
  obtain ⟨A0, n0, c0, rfl⟩ := okWide_slice Try.underlying33 (hval 0 _ v0 rfl (by rw [e0]; rfl))
  obtain ⟨a0, n, c, rfl⟩ := okWide_slice Try.underlying66 (hval 1 _ v1 rfl (by rw [e0]; rfl))
  obtain ⟨bs, hri, -⟩ := open_intsV h0
  obtain ⟨l, hr⟩ := open_shares h1
  obtain rfl : vs = #[.slice A0 n0 c0, .slice a0 n c] := by cases vs; simp_all
  have C1 := Lib.hid (fun (w : World) (hb : Below W.heap.size W w) => turn_is (hri.below hb) (hr.below hb))
  have C2 := Lib.hid (fun (w : World) (hb : Below W.heap.size W w) => refTurn_is (hri.below hb) (hr.below hb))
  have hlen := turn_len l bs
  unfold RetInts at C1 C2
  generalize turnL l bs = L at *
  generalize turnE l bs = E at *
  clear hr hri h0 h1 hA hval e0
  go_enter Try.func6, Try.ntmps6
  go_wp2_with fail
  refine (C1.out _ (Below.refl _ _)).mono ?_
  rintro e w1 ⟨v, rfl, hown, hb1⟩
  have HB := Lib.hid hb1
  have HO1 := Lib.hid hown
  clear hb1 hown
  go_wp2_with fail
  refine (C2.out _ HB.out).mono ?_
  rintro e w2 ⟨v', rfl, hown2, hb2⟩
  have hO1 := own_below HO1.out hb2
  obtain ⟨A1, c1, rfl, -, hr1⟩ := own_reads hO1
  obtain ⟨A2, c2, rfl, -, hr2⟩ := own_reads hown2
  have HB2 := Lib.hid (below_step HB.out hb2)
  have CS := Lib.hid (fun (w' : World) (hb : Below w2.heap.size w2 w') => sameInts_any A1 A2 L.length c1 L.length c2 L L w' rfl rfl (by unfold maxLen; omega) (by unfold maxLen; omega) ((hr1.below hb).more hb.size) ((hr2.below hb).more hb.size))
  rw [decide_eq_true rfl] at CS
  clear hb2 hO1 hr1 hr2 hown2
  go_wp2_with fail
  refine (CS.out _ (Below.refl _ _)).mono ?_
  rintro e w3 ⟨rfl, hb3⟩
  have HB3 := Lib.hid (below_step HB2.out hb3)
  clear hb3
  go_wp2
  go_ret
  exact ⟨by simp, HB3.out⟩

end Go.Proofs.Ytnflaaoapmhjgaa
