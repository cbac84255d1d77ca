/-
  
  
  
-/
import Derived.Test.YtmljdjakbbedlaaC8
import Derived.Test.YtmljdjakbbedlaaC15
import Derived.Test.YtmljdjakbbedlaaC2
import Derived.Test.YtmljdjakbbedlaaC6
namespace Go.Proofs.Ytmljdjakbbedlaa
open Go.ChangeShapes Go.WideShapes Go.ChangeAt Go.RowKit

def zerosI (n : Nat) : Array Value := madeCells #[.int .i64 0] (n * 1)
theorem zerosI_size (n : Nat) : (zerosI n).size = n := by unfold zerosI; rw [size_madeCells]; omega
theorem makes_ints (n : Nat) (hn : n ≤ 100000) (w : World) : (Instr.makeSlice 23 (.int .i64 n) (.int .i64 n)).run Try.prog w = .ok (.slice (some ⟨w.heap.size, 0, none⟩) n n) (w.alloc (.cells (zerosI n) 3)) := by
  obtain ⟨i0, hi, hz0, hz1, hz2⟩ := info_parts infoInt2
  have := run_make (P := Try.prog) w 23 3 i0 _ Try.underlying23 hi hz0 .i64 .i64 n n (by omega) (Int.le_refl _) (by rw [hz2]; omega) (by omega)
  rw [this, hz1]
  rfl

end Go.Proofs.Ytmljdjakbbedlaa

namespace Go.Proofs.Ytmljdjakbbedlaa
open Go.ChangeShapes Go.WideShapes Go.ChangeAt Go.RowKit

def But1 (ob : Option Nat) (V w' : World) : Prop := (∀ b o, b < V.heap.size → ¬ ob = some b → w'.cell? ⟨b, o, none⟩ = V.cell? ⟨b, o, none⟩) ∧ V.heap.size ≤ w'.heap.size
theorem But1.refl (ob : Option Nat) (V : World) : But1 ob V V := ⟨fun _ _ _ _ => rfl, Nat.le_refl _⟩
theorem But1.drewN {ob : Option Nat} {V X : World} (h : But1 ob V X) (n : Nat) : But1 ob V (X.drewN n) := ⟨fun b o h1 h2 => h.1 b o h1 h2, h.2⟩
theorem But1.drew {ob : Option Nat} {V X : World} (h : But1 ob V X) : But1 ob V X.drew := ⟨fun b o h1 h2 => h.1 b o h1 h2, h.2⟩
theorem But1.alloc {ob : Option Nat} {V X : World} (h : But1 ob V X) (o : Obj) : But1 ob V (X.alloc o) :=
  ⟨fun b o' h1 h2 => (World.cell?_of_block (Below.heap_alloc _ _ _ (Nat.lt_of_lt_of_le h1 h.2))).trans (h.1 b o' h1 h2), by have := h.2; simp; omega⟩
theorem But1.grown {ob : Option Nat} {V X w' : World} (h : But1 ob V X) (hk : ∀ b, b < X.heap.size → ob ≠ some b → w'.heap[b]? = X.heap[b]?) (hs : X.heap.size ≤ w'.heap.size) : But1 ob V w' :=
  ⟨fun b o h1 h2 => (World.cell?_of_block (hk b (Nat.lt_of_lt_of_le h1 h.2) h2)).trans (h.1 b o h1 h2), Nat.le_trans h.2 hs⟩
theorem and1_i64 (x : Int) (h1 : 0 ≤ x) (h2 : x < 65536) : bits .and .i64 x 1 = x % 2 := by
  obtain ⟨X, rfl⟩ := Int.eq_ofNat_of_zero_le h1
  show IntKind.i64.wrap ((BitVec.ofInt 64 (X : Int) &&& BitVec.ofInt 64 ((1 : Nat) : Int)).toNat : Int) = _
  rw [BitVec.toNat_and, ofInt_u64 _ (by omega), ofInt_u64 _ (by omega), IntKind.wrap_i64, Nat.and_one_is_mod]
  omega
theorem refR_short {l : List Int} (h : l.length < 2) : refR l = none := by
  match l, h with
  | [], _ => rfl
  | [_], _ => rfl
  | _ :: _ :: _, h => simp at h; omega
/-- The bits so far. -/
def bitTo (l : List Int) (k wid j : Nat) : List Int := (List.range wid).map fun t => if t < j then (bitsO l k wid)[t]?.getD 0 else 0
theorem bitTo_length (l : List Int) (k wid j : Nat) : (bitTo l k wid j).length = wid := by simp [bitTo]
theorem bitTo_zero (l : List Int) (k wid : Nat) : bitTo l k wid 0 = List.replicate wid 0 := by
  unfold bitTo
  rw [List.eq_replicate_iff]
  exact ⟨by simp, fun b hb => by obtain ⟨_, _, rfl⟩ := List.mem_map.1 hb; simp⟩
theorem bitTo_succ (l : List Int) (k wid j : Nat) (b : Int) (hb : (bitsO l k wid)[j]?.getD 0 = b) : bitTo l k wid (j + 1) = (bitTo l k wid j).set j b := by
  apply List.ext_getElem?
  intro t
  rw [List.getElem?_set, bitTo_length]
  unfold bitTo
  rw [List.getElem?_map, List.getElem?_map]
  by_cases ht : t < wid
  · rw [List.getElem?_range ht]
    by_cases h1 : j = t
    · subst h1
      rw [if_pos rfl, if_pos ht]
      simp [hb]
    · rw [if_neg h1]
      simp only [Option.map_some]
      by_cases h2 : t < j
      · rw [if_pos (by omega), if_pos h2]
      · rw [if_neg (by omega), if_neg h2]
  · rw [List.getElem?_eq_none (by simpa using ht)]
    by_cases h1 : j = t
    · subst h1; rw [if_pos rfl, if_neg ht]; rfl
    · rw [if_neg h1]; rfl
theorem bitTo_all (l : List Int) (k wid : Nat) (h : 8 * k ≤ wid) : bitTo l k wid (8 * k) = bitsO l k wid := by
  apply List.ext_getElem?
  intro t
  unfold bitTo bitsO
  rw [List.getElem?_map, List.getElem?_map]
  by_cases ht : t < wid
  · rw [List.getElem?_range ht]
    simp only [Option.map_some]
    by_cases h2 : t < 8 * k
    · rw [if_pos h2, if_pos h2]
      simp [List.getElem?_map, List.getElem?_range ht, h2]
    · rw [if_neg h2, if_neg h2]
  · rw [List.getElem?_eq_none (by simpa using ht)]
    rfl
theorem refTo_ok : ∀ (i : Nat) (l : List Int) (out : List RouteV), (∀ x ∈ l, 0 ≤ x ∧ x ≤ 255) → (∀ r ∈ out, r.Ok) → ∀ o, refTo i l out = some o → ∀ r ∈ o, r.Ok
  | 0, _, _, _, ho, o, h => by unfold refTo at h; injection h with h; rw [← h]; exact ho
  | i + 1, l, out, hb, ho, o, h => by
    unfold refTo at h
    cases hr : refR l with
    | none => rw [hr] at h; cases h
    | some x =>
      rw [hr] at h
      simp only at h
      match l, hr with
      | x1 :: y1 :: l', hr =>
        unfold refR at hr
        simp only at hr
        split at hr
        · cases hr
        · rename_i hc
          injection hr with hr
          subst hr
          have hy := hb y1 (by simp)
          have hw := wideI_le (x1 != 0)
          have rg := of_range (x1 != 0) _ (bitsO_bits l' ((y1 + 7) / 8).toNat (widN (x1 != 0))) (by rw [bitsO_length, widN_eq])
          have g : ∀ t : Nat, 0 ≤ l'[t]?.getD 0 ∧ l'[t]?.getD 0 ≤ 255 := fun t => by
            cases ht : l'[t]? with
            | none => simp
            | some z => exact hb z (by simp; right; right; exact List.mem_of_getElem? ht)
          have g1 := g ((y1 + 7) / 8).toNat
          have g2 := g (((y1 + 7) / 8).toNat + 1)
          refine refTo_ok i _ _ (fun z hz => hb z (by simp; right; right; exact List.mem_of_mem_drop hz)) (fun r hr => ?_) o h
          rcases List.mem_append.1 hr with hr | hr
          · exact ho r hr
          · simp at hr
            subst hr
            exact ⟨rg.1, rg.2.1, by simp only; omega, by simp only; omega⟩
      | [], hr => cases hr
      | [_], hr => cases hr
theorem readR_ok {b : List Int} (hb : ∀ x ∈ b, 0 ≤ x ∧ x ≤ 255) (o : List RouteV) (h : readR b o) : ∀ r ∈ o, r.Ok :=
  refTo_ok _ _ [] (fun x hx => hb x (List.mem_of_mem_take (List.mem_of_mem_drop hx))) (by simp) o h

set_option maxRecDepth 100000 in
set_option maxHeartbeats 3200000 in
theorem refLoad_any {w : World} {A : Option Addr} {n c : Nat} {bs : List Int} (h : IsBytes w A n c bs) :
    Calls Try.prog 41 #[.slice A n c] w (Loaded w bs (readR bs)) := by
  obtain ⟨hz, ⟨hnc, hcm⟩, hby, hr⟩ := h
  unfold maxLen at hcm
  obtain ⟨post, hpost⟩ : ∃ post, Loaded w bs (readR bs) = post := ⟨_, rfl⟩
  have HP := Lib.hid hpost
  rw [hpost]
  clear hpost
  by_cases hn8 : n < 8
  · have hF : loadF bs = 11 := by unfold loadF; rw [if_pos (by omega)]
    have HF := Lib.hid (show LoadIs bs (readR bs) 11 [] from .inl ⟨by rw [hF]; decide, hF.symm, rfl⟩)
    have d1 : decide ((n : Int) < 8) = true := by simp; omega
    clear hF hr hby
    go_enter Try.func41, Try.ntmps41
    go_wp2
    (try go_ret2)
    rw [← HP.out]
    exact loaded_bad HF.out (Below.refl _ _)
  have d1 : decide ((n : Int) < 8) = false := by simp; omega
  by_cases hn36 : 3600 < n
  · have hF : loadF bs = 1 := by unfold loadF; rw [if_neg (by omega), if_pos (by omega)]
    have HF := Lib.hid (show LoadIs bs (readR bs) 1 [] from .inl ⟨by rw [hF]; decide, hF.symm, rfl⟩)
    have d2 : decide ((3600 : Int) < n) = true := by simp; omega
    clear hF hr hby
    go_enter Try.func41, Try.ntmps41
    go_wp2
    (try go_ret2)
    rw [← HP.out]
    exact loaded_bad HF.out (Below.refl _ _)
  obtain ⟨ad, rfl, hab, -⟩ := hr.2 (by omega)
  obtain ⟨k, hk⟩ : ∃ k, n - 4 = k := ⟨_, rfl⟩
  have hnk : n = k + 4 := by omega
  subst hnk
  have hkc : k < c := by omega
  have ki : ((k + 4 : Nat) : Int) - 4 = (k : Int) := by omega
  have kw : IntKind.i64.wrap (((k + 4 : Nat) : Int) - 4) = (k : Int) := by rw [IntWalk.i64_in _ (by omega)]; omega
  have kw2 : IntKind.i64.wrap ((k : Int) + 4 - 4) = (k : Int) := by rw [IntWalk.i64_in _ (by omega)]; omega
  have HR := Lib.hid hr
  have HBY := Lib.hid hby
  have HZ := Lib.hid hz
  have HTL : Hid (∀ (W : World), Below w.heap.size w W → Reads W w.heap.size 1 (some (ad.add k)) 4 ((bs.drop k).map (Value.int .u8))) := by
    intro W hb
    have := (hr.below hb).cut (k := k) (cap := c) (by omega) (by omega)
    rw [if_neg (by omega), Nat.mul_one, Nat.add_sub_cancel_left, ← List.map_drop] at this
    exact this
  have HHD : Hid (∀ (W : World), Below w.heap.size w W → Reads W w.heap.size 1 (some ad) k ((bs.take k).map (Value.int .u8))) := fun W hb => (hr.below hb).take1 (by omega)
  have CS := Lib.hid (refSum_any (some ad) k c (bs.take k) w (by omega) (fun x hx => hby x (List.mem_of_mem_take hx)) (by rw [List.length_take, hz]; omega) (HHD.out w (Below.refl _ _)))
  obtain ⟨sm, hsm⟩ : ∃ sm, sumOf (bs.take k) = sm := ⟨_, rfl⟩
  rw [hsm] at CS
  have HSM := Lib.hid hsm
  have hrg := sumOf_range (bs.take k)
  rw [hsm] at hrg
  clear hr hby hk hsm
  go_enter Try.func41, Try.ntmps41
  go_wp2_with fail
  refine CS.out.mono ?_
  rintro e w2 ⟨rfl, rfl⟩
  go_wp2
  obtain ⟨TL, hTL⟩ : ∃ TL, bs.drop k = TL := ⟨_, rfl⟩
  have htl : TL.length = 4 := by rw [← hTL, List.length_drop, HZ.out]; omega
  have htb : Hid (∀ x ∈ TL, 0 ≤ x ∧ x ≤ 255) := fun x hx => HBY.out x (by rw [← hTL] at hx; exact List.mem_of_mem_drop hx)
  have HTL0 := Lib.hid (HTL.out w2 (Below.refl _ _))
  rw [hTL] at HTL0
  have HTLE := Lib.hid hTL
  have HLEN := Lib.hid htl
  clear hTL htl
  go_loop [42, 7] (fun i m => ∃ j : Nat, j ≤ 4 ∧ i = .int .i64 j ∧ m = .int .i64 (beN (TL.take j))) (fun i _ => 4 - (intOf i).toNat)
  case atStart => exact ⟨0, by omega, rfl, rfl⟩
  case round =>
    obtain ⟨j, hj, rfl, rfl⟩ := hrel
    by_cases hlt : j < 4
    · obtain ⟨ad', x, e1, hx, htk, -, hm⟩ := HTL0.out.at1 hlt
      injection e1 with e1
      subst e1
      have hxb := htb.out x hm
      have hbd := beN_bound (TL.take j) (fun y hy => htb.out y (List.mem_of_mem_take hy))
      rw [List.length_take, HLEN.out] at hbd
      have hp : (256 ^ (min j 4) : Nat) ≤ 256 ^ 3 := Nat.pow_le_pow_right (by omega) (by omega)
      have hp3 : (256 ^ 3 : Nat) = 16777216 := by decide
      rw [hp3] at hp
      have hv : Hid (beN (TL.take (j + 1)) = 256 * beN (TL.take j) + x) := by show _ = _; rw [htk, beN_snoc]; omega
      have hw1 : IntKind.i64.wrap (256 * beN (TL.take j)) = 256 * beN (TL.take j) := by rw [IntWalk.i64_in _ (by omega)]
      have hw2 : IntKind.i64.wrap (256 * beN (TL.take j) + x) = 256 * beN (TL.take j) + x := by rw [IntWalk.i64_in _ (by omega)]
      clear hbd hp hp3 htk hm
      go_wp2
      go_round
      case rel => exact ⟨j + 1, by omega, by go_num, by rw [hv.out]⟩
      case measure => simp [intOf]; omega
    · obtain rfl : j = 4 := by omega
      have e4 : TL.take 4 = TL := List.take_of_length_le (by rw [HLEN.out]; exact Nat.le_refl _)
      rw [e4]
      obtain ⟨sn, hsn⟩ : ∃ sn, beN TL = sn := ⟨_, rfl⟩
      rw [hsn]
      have hlf : loadF bs = if sm = sn then 0 else 12 := by
        unfold loadF
        rw [if_neg (by rw [HZ.out]; omega), if_neg (by rw [HZ.out]; omega), HZ.out, Nat.add_sub_cancel, HSM.out, HTLE.out, hsn]
      have HLF := Lib.hid hlf
      clear hsn hlf e4
      by_cases hse : sm = sn
      rotate_left
      · have HFI := Lib.hid (show LoadIs bs (readR bs) 12 [] from .inl ⟨by rw [HLF.out, if_neg hse]; decide, by rw [HLF.out, if_neg hse], rfl⟩)
        have dn : (sm != sn) = true := by simp; omega
        go_wp2
        (try go_ret2)
        rw [← HP.out]
        exact loaded_bad HFI.out (Below.refl _ _)
      · have HF0 : Hid (loadF bs = 0) := by show _ = _; rw [HLF.out, if_pos hse]
        have dn : (sm != sn) = false := by simp; omega
        clear hse HLF
        go_wp2
        obtain ⟨RP, hRP⟩ : ∃ RP, refP bs = RP := ⟨_, rfl⟩
        obtain ⟨ad3, x3, e3, hc3, -, hx3, hm3⟩ := HR.out.at1 (k := 3) (by omega)
        injection e3 with e3
        subst e3
        have h3r := HBY.out x3 hm3
        obtain ⟨cnt, rfl⟩ : ∃ cnt : Nat, x3 = cnt := ⟨x3.toNat, by omega⟩
        have hc3b : ad.block < w2.heap.size := hab
        have HRPS : Hid (refTo cnt ((bs.take k).drop 4) [] = RP) := by
          show _ = _
          rw [← hRP]
          unfold refP
          rw [hx3, HZ.out, Nat.add_sub_cancel]
          rfl
        have HRP := Lib.hid hRP
        have HNO : Hid (RP = none → LoadIs bs (readR bs) 4 []) := fun hn => .inr ⟨HF0.out, .inr ⟨rfl, rfl, fun ⟨o, ho, _⟩ => by
          unfold readR at ho
          rw [HRP.out, hn] at ho
          cases ho⟩⟩
        have hcnt : cnt ≤ 255 := by omega
        have hkk4 : 4 ≤ k := by omega
        clear hRP hx3 hm3 h3r
        go_loopw [12, 10, 11] (fun iv av v wr => ∃ (i a : Nat) (out : List RouteV), iv = .int .i64 i ∧ av = .int .i64 a ∧ i ≤ cnt ∧ a ≤ k ∧ out.length = i ∧ Hid (refTo (cnt - i) ((bs.take k).drop a) out = RP) ∧ Hid (OwnRs wr w2.heap.size v out) ∧ Hid (Below w2.heap.size w2 wr)) (fun iv _ _ _ => cnt - (intOf iv).toNat)
        case atStart => exact ⟨0, 4, [], rfl, rfl, by omega, hkk4, rfl, HRPS.out, World.ownsRow_nil _ _ _ _, Below.refl _ _⟩
        case round =>
          obtain ⟨i, a, out, rfl, rfl, hi, hak, hoi, hlt, hown, hbw⟩ := hrel
          obtain ⟨wo, rfl⟩ : ∃ wo : World, wo = wr := ⟨_, rfl⟩
          have b3 := (hbw.out.cell (p := ad.add 3) (by rw [block_of_add]; exact hc3b)).trans hc3
          have b3' : wo.cell? ⟨ad.block, ad.off + 3, none⟩ = some (.int .u8 cnt) := by have := b3; rwa [show ad.add 3 = ⟨ad.block, ad.off + 3, none⟩ by simp [Addr.add]] at this
          have hkn : (bs.take k).length = k := by rw [List.length_take, HZ.out]; omega
          have HKN := Lib.hid hkn
          clear hkn
          by_cases hic : i < cnt
          · have dic : decide ((i : Int) < (cnt : Int)) = true := by simpa using hic
            have hlt2 := hlt.out
            rw [show cnt - i = (cnt - i - 1) + 1 by omega] at hlt2
            unfold refTo at hlt2
            by_cases ha2 : a + 2 ≤ k
            · have da : decide ((k : Int) < (a : Int) + 2) = false := by simp; omega
              obtain ⟨ad4, x, e4, hcx, -, hbx, hmx⟩ := HR.out.at1 (k := a) (by omega)
              injection e4 with e4
              subst e4
              obtain ⟨ad4, y, e4, hcy, -, hby1, hmy⟩ := HR.out.at1 (k := a + 1) (by omega)
              injection e4 with e4
              subst e4
              have q0 := (hbw.out.cell (p := ad.add a) (by rw [block_of_add]; exact hc3b)).trans hcx
              have q1 := (hbw.out.cell (p := ad.add (a + 1)) (by rw [block_of_add]; exact hc3b)).trans hcy
              have q1' : wo.cell? ⟨ad.block, ad.off + (a + 1), none⟩ = some (.int .u8 y) := by have := q1; rwa [show ad.add (a + 1) = ⟨ad.block, ad.off + (a + 1), none⟩ by simp [Addr.add]] at this
              have hxr := HBY.out x hmx
              have hyr := HBY.out y hmy
              obtain ⟨kk, hkk⟩ : ∃ kk : Nat, ((y + 7) / 8).toNat = kk := ⟨_, rfl⟩
              have hk8 : (y + 7) / 8 = (kk : Int) := by omega
              obtain ⟨l, hl⟩ : ∃ l, (bs.take k).drop (a + 2) = l := ⟨_, rfl⟩
              have hll : l.length = k - (a + 2) := by rw [← hl, List.length_drop, HKN.out]
              have HLL := Lib.hid hll
              have HL := Lib.hid hl
              have hrest : (bs.take k).drop a = x :: y :: l := by
                rw [drop_at (x := x) (by rw [List.getElem?_take_of_lt (by omega)]; exact hbx), drop_at (x := y) (by rw [List.getElem?_take_of_lt (by omega)]; exact hby1), hl]
              have hrr : refR ((bs.take k).drop a) = if wideI (x != 0) < y ∨ k - (a + 2) < kk + 2 then none else some (⟨⟨x != 0, hiOf (x != 0) (bitsO l kk (widN (x != 0))), loOf (x != 0) (bitsO l kk (widN (x != 0))), y⟩, 256 * l[kk]?.getD 0 + l[kk + 1]?.getD 0⟩, l.drop (kk + 2)) := by
                rw [hrest]
                unfold refR
                simp only [hkk, hll]
              have y7 : IntKind.i64.wrap (y + 7) = y + 7 := by rw [IntWalk.i64_in _ (by omega)]
              have yd : Int.tdiv (y + 7) 8 = (kk : Int) := by rw [Int.tdiv_eq_ediv_of_nonneg (by omega)]; exact hk8
              have yw : IntKind.i64.wrap (kk : Int) = (kk : Int) := by rw [IntWalk.i64_in _ (by omega)]
              have hkk33 : kk ≤ 33 := by omega
              clear hcx hbx hmx hcy hby1 hmy hkk hl hll hrest
              obtain ⟨six, hsix⟩ : ∃ six : Bool, (x != 0) = six := ⟨_, rfl⟩
              rw [hsix] at hrr
              cases six with
              | false =>
                have hW : widN false = 32 := by simp [widN]
                have hWI : wideI false = 32 := by simp [wideI]
                by_cases hbad : (32 : Int) < y ∨ k < a + kk + 4
                · have hN : RP = none := by
                    rw [← hlt2, hrr, if_pos (by rw [hWI]; omega)]
                  have HN := Lib.hid hN
                  clear hlt2 hrr hN
                  by_cases hb1 : (32 : Int) < y
                  · have db : decide ((32 : Int) < y) = true := by simpa using hb1
                    go_wp2
                    (try go_ret2)
                    rw [← HP.out]
                    exact loaded_bad (HNO.out HN.out) hbw.out
                  · have db : decide ((32 : Int) < y) = false := by simpa using hb1
                    have db2 : decide ((k : Int) < (a : Int) + 2 + (kk : Int) + 2) = true := by simp; omega
                    go_wp2
                    (try go_ret2)
                    rw [← HP.out]
                    exact loaded_bad (HNO.out HN.out) hbw.out
                · have db : decide ((32 : Int) < y) = false := by simp; omega
                  have db2 : decide ((k : Int) < (a : Int) + 2 + (kk : Int) + 2) = false := by simp; omega
                  have hmk : ∀ V : World, (Instr.makeSlice 23 (.int .i64 32) (.int .i64 32)).run Try.prog V = .ok (.slice (some ⟨V.heap.size, 0, none⟩) 32 32) (V.alloc (.cells (zerosI 32) 3)) := fun V => makes_ints 32 (by omega) V
                  rw [hrr, if_neg (by rw [hWI]; omega)] at hlt2
                  rw [hW] at hlt2
                  have HL2 := Lib.hid hlt2
                  have hkW : 8 * kk ≤ 32 := by omega
                  have hak4 : a + kk + 4 ≤ k := by omega
                  obtain ⟨Y, hY⟩ : ∃ Y : World, Y = wo.alloc (.cells (zerosI 32) 3) := ⟨_, rfl⟩
                  have kY : Blk Y wo.heap.size 3 ((bitTo l kk 32 0).map (Value.int .i64)).toArray := by
                    rw [hY, bitTo_zero, show ((List.replicate 32 (0 : Int)).map (Value.int .i64)).toArray = zerosI 32 from by kernel_rfl]
                    exact Blk.new _ _ _
                  have hsY : wo.heap.size < Y.heap.size := by rw [hY]; simp
                  have HBY2 : Hid (Below wo.heap.size wo Y) := by show Below _ _ _; rw [hY]; exact (Below.refl _ _).alloc (Nat.le_refl _) _
                  have HYE := Lib.hid hY
                  clear hlt2 hrr hbad hY
                  go_wp2
                  rw [← HYE.out]
                  go_loopw [17] (fun jv wr => ∃ j : Nat, j ≤ 8 * kk ∧ jv = .int .i64 j ∧ Hid (Blk wr wo.heap.size 3 ((bitTo l kk 32 j).map (Value.int .i64)).toArray) ∧ Hid (Kept [wo.heap.size] Y wr)) (fun jv _ => 8 * kk - (intOf jv).toNat)
                  case atStart => exact ⟨0, by omega, rfl, kY, Kept.of_below (Below.refl _ _)⟩
                  case round =>
                    obtain ⟨j, hj, rfl, hkb, hkp⟩ := hrel
                    obtain ⟨wi, rfl⟩ : ∃ wi : World, wi = wr := ⟨_, rfl⟩
                    have hszo := hbw.out.size
                    have HBWI : Hid (Below w2.heap.size w2 wi) := (hbw.out.trans (HBY2.out.mono hszo)).trans (hkp.out.below (by simp; omega) (by omega))
                    have hqi := hkb.out.lt
                    by_cases hjk : j < 8 * kk
                    · have djk : decide ((j : Int) < 8 * (kk : Int)) = true := by simp; omega
                      obtain ⟨ad5, z, e5, hcz, -, hbz, hmz⟩ := HR.out.at1 (k := a + 2 + j / 8) (by omega)
                      injection e5 with e5
                      subst e5
                      have qz := (HBWI.out.cell (p := ad.add (a + 2 + j / 8)) (by rw [block_of_add]; exact hc3b)).trans hcz
                      have qz' : wi.cell? ⟨ad.block, ad.off + (a + 2 + j / 8), none⟩ = some (.int .u8 z) := by have := qz; rwa [show ad.add (a + 2 + j / 8) = ⟨ad.block, ad.off + (a + 2 + j / 8), none⟩ by simp [Addr.add]] at this
                      have hzr := HBY.out z hmz
                      obtain ⟨s, hs⟩ : ∃ s : Nat, s = 7 - j % 8 := ⟨_, rfl⟩
                      have tm : Int.tmod (j : Int) 8 = ((j % 8 : Nat) : Int) := by rw [Int.tmod_eq_emod_of_nonneg (by omega)]; omega
                      have td : Int.tdiv (j : Int) 8 = ((j / 8 : Nat) : Int) := by rw [Int.tdiv_eq_ediv_of_nonneg (by omega)]; omega
                      have tmw : IntKind.i64.wrap ((j % 8 : Nat) : Int) = ((j % 8 : Nat) : Int) := by rw [IntWalk.i64_in _ (by omega)]
                      have tdw : IntKind.i64.wrap ((j / 8 : Nat) : Int) = ((j / 8 : Nat) : Int) := by rw [IntWalk.i64_in _ (by omega)]
                      have es : (7 : Int) - ((j % 8 : Nat) : Int) = (s : Int) := by omega
                      have sw : IntKind.i64.wrap (s : Int) = (s : Int) := by rw [IntWalk.i64_in _ (by omega)]
                      have s0 : (0 : Int) ≤ (s : Int) := by omega
                      have s1 : ¬ (s : Int) < 0 := by omega
                      have s2 : (s : Int) < 64 := by omega
                      have hvB : (bitsO l kk 32)[j]?.getD 0 = z / 2 ^ (7 - j % 8) % 2 := by
                        unfold bitsO
                        rw [List.getElem?_map, List.getElem?_range (by omega)]
                        show (if j < 8 * kk then l[j / 8]?.getD 0 / 2 ^ (7 - j % 8) % 2 else 0) = _
                        rw [if_pos hjk, ← HL.out, List.getElem?_drop, List.getElem?_take_of_lt (by omega), hbz]
                        rfl
                      have hset := bitTo_succ l kk 32 j _ hvB
                      have hz2 : 0 ≤ z / 2 ^ (7 - j % 8) ∧ z / 2 ^ (7 - j % 8) ≤ 255 := by
                        have hp : (0 : Int) < 2 ^ (7 - j % 8) := Int.pow_pos (by omega)
                        exact ⟨Int.ediv_nonneg hzr.1 (by omega), Int.le_trans (Int.ediv_le_self _ hzr.1) hzr.2⟩
                      have HV : Hid (bits .and .i64 (wrap64 (z / 2 ^ (7 - j % 8))) 1 = z / 2 ^ (7 - j % 8) % 2) := by
                        show _ = _
                        rw [show wrap64 (z / 2 ^ (7 - j % 8)) = z / 2 ^ (7 - j % 8) by unfold wrap64; omega, and1_i64 _ hz2.1 (by omega)]
                      obtain ⟨b0, hb0⟩ : ∃ b0, (bitTo l kk 32 j)[j]? = some b0 := ⟨_, List.getElem?_eq_getElem (by rw [bitTo_length]; omega)⟩
                      have yj : wi.cell? ⟨wo.heap.size, j, none⟩ = some (.int .i64 b0) := by rw [hkb.out.cell j]; simp [hb0]
                      have fj := hkb.out.frozen j
                      have HSET := Lib.hid hset
                      clear hset hvB hbz hmz hcz hb0 hz2
                      go_wp2
                      go_roundw
                      case rel =>
                        refine ⟨j + 1, by omega, by go_num, ?_, ?_⟩
                        · show Blk _ _ _ _
                          rw [HV.out, HSET.out]
                          have := Blk.set_ hkb.out j (.int .i64 (z / 2 ^ (7 - j % 8) % 2))
                          simpa [List.map_set] using this
                        · exact hkp.out.setCellS (by simp) _
                      case measure => simp [intOf]; omega
                    · obtain rfl : j = 8 * kk := by omega
                      have hball := bitTo_all l kk 32 hkW
                      rw [hball] at hkb
                      have djk : decide (8 * (kk : Int) < 8 * (kk : Int)) = false := by simp
                      obtain ⟨BT, hBT⟩ : ∃ BT, bitsO l kk 32 = BT := ⟨_, rfl⟩
                      have hbt1 : Bits BT := by rw [← hBT]; exact bitsO_bits _ _ _
                      have hbt2 : BT.length = 32 := by rw [← hBT]; exact bitsO_length _ _ _
                      rw [hBT] at hkb HL2
                      have CA := Lib.hid (fun (V : World) (hb : Below wi.heap.size wi V) => addrOf_any false BT 32 wo.heap.size 32 V hbt1 hbt2 (by simp [wideI]) (fun t b ht => by
                        rw [(hb.cell (p := ⟨wo.heap.size, t, none⟩) hqi), hkb.out.cell t]
                        simp [ht]) (by have := hb.size; omega))
                      obtain ⟨H, hH⟩ : ∃ H, hiOf false BT = H := ⟨_, rfl⟩
                      obtain ⟨L, hL⟩ : ∃ L, loOf false BT = L := ⟨_, rfl⟩
                      rw [hH, hL] at CA HL2
                      obtain ⟨ad5, z1, e5, hc1, -, hb1, hm1⟩ := HR.out.at1 (k := a + 2 + kk) (by omega)
                      injection e5 with e5
                      subst e5
                      obtain ⟨ad5, z2, e5, hc2, -, hb2, hm2⟩ := HR.out.at1 (k := a + 2 + kk + 1) (by omega)
                      injection e5 with e5
                      subst e5
                      have hz1r := HBY.out z1 hm1
                      have hz2r := HBY.out z2 hm2
                      have g1 : l[kk]?.getD 0 = z1 := by rw [← HL.out, List.getElem?_drop, List.getElem?_take_of_lt (by omega), hb1]; rfl
                      have g2 : l[kk + 1]?.getD 0 = z2 := by rw [← HL.out, List.getElem?_drop, List.getElem?_take_of_lt (by omega), show a + 2 + (kk + 1) = a + 2 + kk + 1 by omega, hb2]; rfl
                      rw [g1, g2] at HL2
                      have p1 := (HBWI.out.cell (p := ad.add (a + 2 + kk)) (by rw [block_of_add]; exact hc3b)).trans hc1
                      have p2 := (HBWI.out.cell (p := ad.add (a + 2 + kk + 1)) (by rw [block_of_add]; exact hc3b)).trans hc2
                      have p1' : wi.cell? ⟨ad.block, ad.off + (a + 2 + kk), none⟩ = some (.int .u8 z1) := by have := p1; rwa [show ad.add (a + 2 + kk) = ⟨ad.block, ad.off + (a + 2 + kk), none⟩ by simp [Addr.add]] at this
                      have p2' : wi.cell? ⟨ad.block, ad.off + (a + 2 + kk + 1), none⟩ = some (.int .u8 z2) := by have := p2; rwa [show ad.add (a + 2 + kk + 1) = ⟨ad.block, ad.off + (a + 2 + kk + 1), none⟩ by simp [Addr.add]] at this
                      have ea1 : ad.add (a + 2 + kk) = ⟨ad.block, ad.off + (a + 2 + kk), none⟩ := by simp [Addr.add]
                      have ea2 : ad.add (a + 2 + kk + 1) = ⟨ad.block, ad.off + (a + 2 + kk + 1), none⟩ := by simp [Addr.add]
                      have x1 : (0 : Int) ≤ (a : Int) + 2 + (kk : Int) := by omega
                      have x2 : (a : Int) + 2 + (kk : Int) < (k : Int) := by omega
                      have x3 : (0 : Int) ≤ (a : Int) + 2 + (kk : Int) + 1 := by omega
                      have x4 : (a : Int) + 2 + (kk : Int) + 1 < (k : Int) := by omega
                      have x5 : ((a : Int) + 2 + (kk : Int)).toNat = a + 2 + kk := by omega
                      have x6 : ((a : Int) + 2 + (kk : Int) + 1).toNat = a + 2 + kk + 1 := by omega
                      have x7 : IntKind.i64.wrap ((a : Int) + 2 + (kk : Int) + 1) = (a : Int) + 2 + (kk : Int) + 1 := by rw [IntWalk.i64_in _ (by omega)]
                      have nb : ¬ u11.ownBlock = some ad.block := fun e => by have := own_base hown.out _ e; omega
                      have hadi : ad.block < wi.heap.size := by have := HBWI.out.size; omega
                      have hw2i := HBWI.out.size
                      have uz1 : IntKind.i64.wrap z1 = z1 := by rw [IntWalk.i64_in _ (by omega)]
                      have uz2 : IntKind.i64.wrap z2 = z2 := by rw [IntWalk.i64_in _ (by omega)]
                      have u1 : IntKind.i64.wrap (256 * z1) = 256 * z1 := by rw [IntWalk.i64_in _ (by omega)]
                      have u2 : IntKind.i64.wrap (256 * z1 + z2) = 256 * z1 + z2 := by rw [IntWalk.i64_in _ (by omega)]
                      have how := own_keepT (own_below hown.out HBY2.out) (KeepT.of_kept (t := 48) hkp.out kY (by decide))
                      obtain ⟨ol, hol⟩ : ∃ ol, out.length = ol := ⟨_, rfl⟩
                      rw [hol] at how
                      have HOW := Lib.hid how
                      have HOL := Lib.hid hol
                      have hol2 : ol ≤ 255 := by omega
                      clear p1 p2 hball hBT hbt1 hbt2 hH hL hc1 hb1 hm1 hc2 hb2 hm2 g1 g2 how hkb kY hkp
                      go_wp2
                      go_region_held3 (fun w' => (∀ b o, b < wi.heap.size → ¬ u11.ownBlock = some b → w'.cell? ⟨b, o, none⟩ = wi.cell? ⟨b, o, none⟩) ∧ wi.heap.size ≤ w'.heap.size)
                        ((first | assumption | (repeat (first | exact But1.refl _ _ | assumption | refine But1.grown ?_ hk9 hs9 | refine But1.grown ?_ hk4 hs4 | refine But1.drew ?_ | refine But1.drewN ?_ _ | refine But1.alloc ?_ _))))
                        (first
                          | (go_at_call 98; (with_reducible refine (CA.out _ ?hb1).mono ?_); (case hb1 => (repeat' first | with_reducible exact Below.refl _ _ | with_reducible refine Below.alloc ?_ ?_ _ | with_reducible refine Below.drew ?_ | with_reducible refine below_drewN ?_ _ | with_reducible refine below_step ?_ hb4 | (simp; done) | (simp; omega) | omega)); rintro e w4 ⟨rfl, hb4⟩; have hk4 := fun b hb (_ : u11.ownBlock ≠ some b) => hb4.block b hb; have hs4 := hb4.size; have hs4i : wi.heap.size ≤ w4.heap.size := hb4.size)
                          | ((refine step_append_farI (o := ⟨some 143, _, _, _, _, _⟩) [.bool false, .int .u64 H, .int .u64 L, .int .i64 y, .int .i64 (256 * z1 + z2)] 1 26 ol (out.flatMap RouteV.cells) rfl rfl w2.heap.size 48 _ 5 40 Try.underlying26 infoRouteP rfl (by decide) ?_ ?_ ?_ ?_ ?_ ?_ ?_; (focus (refine own_below HOW.out ?_; (repeat' first | with_reducible exact Below.refl _ _ | with_reducible refine Below.alloc ?_ ?_ _ | with_reducible refine Below.drew ?_ | with_reducible refine below_drewN ?_ _ | with_reducible refine below_step ?_ hb4 | (simp; done) | (simp; omega) | omega))); (focus exact ⟨_, _, rfl, reads_new (by rfl)⟩); (focus (intro u hu; simp at hu; rcases hu with rfl | rfl | rfl | rfl | rfl <;> rfl)); (focus (unfold maxLen; omega)); (focus omega); (focus (simp; omega)); intro v9 w9 hown9 hb9 hg9; have hk9 := fun b hb (hne : u11.ownBlock ≠ some b) => hg9.block b hb (fun e => hne e.symm); have hs9 := hg9.size)))
                      all_goals
                        have HO9 : Hid (OwnRs w9 w2.heap.size v9 (out ++ [(⟨⟨false, H, L, y⟩, 256 * z1 + z2⟩ : RouteV)])) := by
                          show World.ownsRow _ _ _ _ _ _ _
                          rw [List.length_append, List.flatMap_append, HOL.out]
                          exact hown9
                        have HB9 : Hid (Below w2.heap.size w2 w9) := by
                          refine Below.trans ?_ hb9
                          refine HBWI.out.trans (Below.mono ?_ hw2i)
                          (repeat' first | with_reducible exact Below.refl _ _ | with_reducible refine Below.alloc ?_ ?_ _ | with_reducible refine Below.drew ?_ | with_reducible refine below_drewN ?_ _ | with_reducible refine below_step ?_ hb4 | (simp; done) | (simp; omega) | omega)
                        have HLN : Hid (refTo (cnt - (i + 1)) ((bs.take k).drop (a + 2 + kk + 2)) (out ++ [(⟨⟨false, H, L, y⟩, 256 * z1 + z2⟩ : RouteV)]) = RP) := by
                          show _ = _
                          have e1 : l.drop (kk + 2) = (bs.take k).drop (a + 2 + kk + 2) := by
                            rw [← HL.out, List.drop_drop]
                            congr 1
                            (try omega)
                          rw [show cnt - (i + 1) = cnt - i - 1 by omega, ← e1]
                          exact HL2.out
                        clear hown9 hb9 hg9 hk9
                        go_wp2
                        go_roundw
                        case rel => exact ⟨i + 1, a + 2 + kk + 2, out ++ [(⟨⟨false, H, L, y⟩, 256 * z1 + z2⟩ : RouteV)], by go_num, by go_num, by omega, by omega, by rw [List.length_append, HOL.out]; simp; omega, HLN.out, HO9.out, HB9.out⟩
                        case measure => simp [intOf]; omega
              | true =>
                have hW : widN true = 128 := by simp [widN]
                have hWI : wideI true = 128 := by simp [wideI]
                by_cases hbad : (128 : Int) < y ∨ k < a + kk + 4
                · have hN : RP = none := by
                    rw [← hlt2, hrr, if_pos (by rw [hWI]; omega)]
                  have HN := Lib.hid hN
                  clear hlt2 hrr hN
                  by_cases hb1 : (128 : Int) < y
                  · have db : decide ((128 : Int) < y) = true := by simpa using hb1
                    go_wp2
                    (try go_ret2)
                    rw [← HP.out]
                    exact loaded_bad (HNO.out HN.out) hbw.out
                  · have db : decide ((128 : Int) < y) = false := by simpa using hb1
                    have db2 : decide ((k : Int) < (a : Int) + 2 + (kk : Int) + 2) = true := by simp; omega
                    go_wp2
                    (try go_ret2)
                    rw [← HP.out]
                    exact loaded_bad (HNO.out HN.out) hbw.out
                · have db : decide ((128 : Int) < y) = false := by simp; omega
                  have db2 : decide ((k : Int) < (a : Int) + 2 + (kk : Int) + 2) = false := by simp; omega
                  have hmk : ∀ V : World, (Instr.makeSlice 23 (.int .i64 128) (.int .i64 128)).run Try.prog V = .ok (.slice (some ⟨V.heap.size, 0, none⟩) 128 128) (V.alloc (.cells (zerosI 128) 3)) := fun V => makes_ints 128 (by omega) V
                  rw [hrr, if_neg (by rw [hWI]; omega)] at hlt2
                  rw [hW] at hlt2
                  have HL2 := Lib.hid hlt2
                  have hkW : 8 * kk ≤ 128 := by omega
                  have hak4 : a + kk + 4 ≤ k := by omega
                  obtain ⟨Y, hY⟩ : ∃ Y : World, Y = wo.alloc (.cells (zerosI 128) 3) := ⟨_, rfl⟩
                  have kY : Blk Y wo.heap.size 3 ((bitTo l kk 128 0).map (Value.int .i64)).toArray := by
                    rw [hY, bitTo_zero, show ((List.replicate 128 (0 : Int)).map (Value.int .i64)).toArray = zerosI 128 from by kernel_rfl]
                    exact Blk.new _ _ _
                  have hsY : wo.heap.size < Y.heap.size := by rw [hY]; simp
                  have HBY2 : Hid (Below wo.heap.size wo Y) := by show Below _ _ _; rw [hY]; exact (Below.refl _ _).alloc (Nat.le_refl _) _
                  have HYE := Lib.hid hY
                  clear hlt2 hrr hbad hY
                  go_wp2
                  rw [← HYE.out]
                  go_loopw [17] (fun jv wr => ∃ j : Nat, j ≤ 8 * kk ∧ jv = .int .i64 j ∧ Hid (Blk wr wo.heap.size 3 ((bitTo l kk 128 j).map (Value.int .i64)).toArray) ∧ Hid (Kept [wo.heap.size] Y wr)) (fun jv _ => 8 * kk - (intOf jv).toNat)
                  case atStart => exact ⟨0, by omega, rfl, kY, Kept.of_below (Below.refl _ _)⟩
                  case round =>
                    obtain ⟨j, hj, rfl, hkb, hkp⟩ := hrel
                    obtain ⟨wi, rfl⟩ : ∃ wi : World, wi = wr := ⟨_, rfl⟩
                    have hszo := hbw.out.size
                    have HBWI : Hid (Below w2.heap.size w2 wi) := (hbw.out.trans (HBY2.out.mono hszo)).trans (hkp.out.below (by simp; omega) (by omega))
                    have hqi := hkb.out.lt
                    by_cases hjk : j < 8 * kk
                    · have djk : decide ((j : Int) < 8 * (kk : Int)) = true := by simp; omega
                      obtain ⟨ad5, z, e5, hcz, -, hbz, hmz⟩ := HR.out.at1 (k := a + 2 + j / 8) (by omega)
                      injection e5 with e5
                      subst e5
                      have qz := (HBWI.out.cell (p := ad.add (a + 2 + j / 8)) (by rw [block_of_add]; exact hc3b)).trans hcz
                      have qz' : wi.cell? ⟨ad.block, ad.off + (a + 2 + j / 8), none⟩ = some (.int .u8 z) := by have := qz; rwa [show ad.add (a + 2 + j / 8) = ⟨ad.block, ad.off + (a + 2 + j / 8), none⟩ by simp [Addr.add]] at this
                      have hzr := HBY.out z hmz
                      obtain ⟨s, hs⟩ : ∃ s : Nat, s = 7 - j % 8 := ⟨_, rfl⟩
                      have tm : Int.tmod (j : Int) 8 = ((j % 8 : Nat) : Int) := by rw [Int.tmod_eq_emod_of_nonneg (by omega)]; omega
                      have td : Int.tdiv (j : Int) 8 = ((j / 8 : Nat) : Int) := by rw [Int.tdiv_eq_ediv_of_nonneg (by omega)]; omega
                      have tmw : IntKind.i64.wrap ((j % 8 : Nat) : Int) = ((j % 8 : Nat) : Int) := by rw [IntWalk.i64_in _ (by omega)]
                      have tdw : IntKind.i64.wrap ((j / 8 : Nat) : Int) = ((j / 8 : Nat) : Int) := by rw [IntWalk.i64_in _ (by omega)]
                      have es : (7 : Int) - ((j % 8 : Nat) : Int) = (s : Int) := by omega
                      have sw : IntKind.i64.wrap (s : Int) = (s : Int) := by rw [IntWalk.i64_in _ (by omega)]
                      have s0 : (0 : Int) ≤ (s : Int) := by omega
                      have s1 : ¬ (s : Int) < 0 := by omega
                      have s2 : (s : Int) < 64 := by omega
                      have hvB : (bitsO l kk 128)[j]?.getD 0 = z / 2 ^ (7 - j % 8) % 2 := by
                        unfold bitsO
                        rw [List.getElem?_map, List.getElem?_range (by omega)]
                        show (if j < 8 * kk then l[j / 8]?.getD 0 / 2 ^ (7 - j % 8) % 2 else 0) = _
                        rw [if_pos hjk, ← HL.out, List.getElem?_drop, List.getElem?_take_of_lt (by omega), hbz]
                        rfl
                      have hset := bitTo_succ l kk 128 j _ hvB
                      have hz2 : 0 ≤ z / 2 ^ (7 - j % 8) ∧ z / 2 ^ (7 - j % 8) ≤ 255 := by
                        have hp : (0 : Int) < 2 ^ (7 - j % 8) := Int.pow_pos (by omega)
                        exact ⟨Int.ediv_nonneg hzr.1 (by omega), Int.le_trans (Int.ediv_le_self _ hzr.1) hzr.2⟩
                      have HV : Hid (bits .and .i64 (wrap64 (z / 2 ^ (7 - j % 8))) 1 = z / 2 ^ (7 - j % 8) % 2) := by
                        show _ = _
                        rw [show wrap64 (z / 2 ^ (7 - j % 8)) = z / 2 ^ (7 - j % 8) by unfold wrap64; omega, and1_i64 _ hz2.1 (by omega)]
                      obtain ⟨b0, hb0⟩ : ∃ b0, (bitTo l kk 128 j)[j]? = some b0 := ⟨_, List.getElem?_eq_getElem (by rw [bitTo_length]; omega)⟩
                      have yj : wi.cell? ⟨wo.heap.size, j, none⟩ = some (.int .i64 b0) := by rw [hkb.out.cell j]; simp [hb0]
                      have fj := hkb.out.frozen j
                      have HSET := Lib.hid hset
                      clear hset hvB hbz hmz hcz hb0 hz2
                      go_wp2
                      go_roundw
                      case rel =>
                        refine ⟨j + 1, by omega, by go_num, ?_, ?_⟩
                        · show Blk _ _ _ _
                          rw [HV.out, HSET.out]
                          have := Blk.set_ hkb.out j (.int .i64 (z / 2 ^ (7 - j % 8) % 2))
                          simpa [List.map_set] using this
                        · exact hkp.out.setCellS (by simp) _
                      case measure => simp [intOf]; omega
                    · obtain rfl : j = 8 * kk := by omega
                      have hball := bitTo_all l kk 128 hkW
                      rw [hball] at hkb
                      have djk : decide (8 * (kk : Int) < 8 * (kk : Int)) = false := by simp
                      obtain ⟨BT, hBT⟩ : ∃ BT, bitsO l kk 128 = BT := ⟨_, rfl⟩
                      have hbt1 : Bits BT := by rw [← hBT]; exact bitsO_bits _ _ _
                      have hbt2 : BT.length = 128 := by rw [← hBT]; exact bitsO_length _ _ _
                      rw [hBT] at hkb HL2
                      have CA := Lib.hid (fun (V : World) (hb : Below wi.heap.size wi V) => addrOf_any true BT 128 wo.heap.size 128 V hbt1 hbt2 (by simp [wideI]) (fun t b ht => by
                        rw [(hb.cell (p := ⟨wo.heap.size, t, none⟩) hqi), hkb.out.cell t]
                        simp [ht]) (by have := hb.size; omega))
                      obtain ⟨H, hH⟩ : ∃ H, hiOf true BT = H := ⟨_, rfl⟩
                      obtain ⟨L, hL⟩ : ∃ L, loOf true BT = L := ⟨_, rfl⟩
                      rw [hH, hL] at CA HL2
                      obtain ⟨ad5, z1, e5, hc1, -, hb1, hm1⟩ := HR.out.at1 (k := a + 2 + kk) (by omega)
                      injection e5 with e5
                      subst e5
                      obtain ⟨ad5, z2, e5, hc2, -, hb2, hm2⟩ := HR.out.at1 (k := a + 2 + kk + 1) (by omega)
                      injection e5 with e5
                      subst e5
                      have hz1r := HBY.out z1 hm1
                      have hz2r := HBY.out z2 hm2
                      have g1 : l[kk]?.getD 0 = z1 := by rw [← HL.out, List.getElem?_drop, List.getElem?_take_of_lt (by omega), hb1]; rfl
                      have g2 : l[kk + 1]?.getD 0 = z2 := by rw [← HL.out, List.getElem?_drop, List.getElem?_take_of_lt (by omega), show a + 2 + (kk + 1) = a + 2 + kk + 1 by omega, hb2]; rfl
                      rw [g1, g2] at HL2
                      have p1 := (HBWI.out.cell (p := ad.add (a + 2 + kk)) (by rw [block_of_add]; exact hc3b)).trans hc1
                      have p2 := (HBWI.out.cell (p := ad.add (a + 2 + kk + 1)) (by rw [block_of_add]; exact hc3b)).trans hc2
                      have p1' : wi.cell? ⟨ad.block, ad.off + (a + 2 + kk), none⟩ = some (.int .u8 z1) := by have := p1; rwa [show ad.add (a + 2 + kk) = ⟨ad.block, ad.off + (a + 2 + kk), none⟩ by simp [Addr.add]] at this
                      have p2' : wi.cell? ⟨ad.block, ad.off + (a + 2 + kk + 1), none⟩ = some (.int .u8 z2) := by have := p2; rwa [show ad.add (a + 2 + kk + 1) = ⟨ad.block, ad.off + (a + 2 + kk + 1), none⟩ by simp [Addr.add]] at this
                      have ea1 : ad.add (a + 2 + kk) = ⟨ad.block, ad.off + (a + 2 + kk), none⟩ := by simp [Addr.add]
                      have ea2 : ad.add (a + 2 + kk + 1) = ⟨ad.block, ad.off + (a + 2 + kk + 1), none⟩ := by simp [Addr.add]
                      have x1 : (0 : Int) ≤ (a : Int) + 2 + (kk : Int) := by omega
                      have x2 : (a : Int) + 2 + (kk : Int) < (k : Int) := by omega
                      have x3 : (0 : Int) ≤ (a : Int) + 2 + (kk : Int) + 1 := by omega
                      have x4 : (a : Int) + 2 + (kk : Int) + 1 < (k : Int) := by omega
                      have x5 : ((a : Int) + 2 + (kk : Int)).toNat = a + 2 + kk := by omega
                      have x6 : ((a : Int) + 2 + (kk : Int) + 1).toNat = a + 2 + kk + 1 := by omega
                      have x7 : IntKind.i64.wrap ((a : Int) + 2 + (kk : Int) + 1) = (a : Int) + 2 + (kk : Int) + 1 := by rw [IntWalk.i64_in _ (by omega)]
                      have nb : ¬ u11.ownBlock = some ad.block := fun e => by have := own_base hown.out _ e; omega
                      have hadi : ad.block < wi.heap.size := by have := HBWI.out.size; omega
                      have hw2i := HBWI.out.size
                      have uz1 : IntKind.i64.wrap z1 = z1 := by rw [IntWalk.i64_in _ (by omega)]
                      have uz2 : IntKind.i64.wrap z2 = z2 := by rw [IntWalk.i64_in _ (by omega)]
                      have u1 : IntKind.i64.wrap (256 * z1) = 256 * z1 := by rw [IntWalk.i64_in _ (by omega)]
                      have u2 : IntKind.i64.wrap (256 * z1 + z2) = 256 * z1 + z2 := by rw [IntWalk.i64_in _ (by omega)]
                      have how := own_keepT (own_below hown.out HBY2.out) (KeepT.of_kept (t := 48) hkp.out kY (by decide))
                      obtain ⟨ol, hol⟩ : ∃ ol, out.length = ol := ⟨_, rfl⟩
                      rw [hol] at how
                      have HOW := Lib.hid how
                      have HOL := Lib.hid hol
                      have hol2 : ol ≤ 255 := by omega
                      clear p1 p2 hball hBT hbt1 hbt2 hH hL hc1 hb1 hm1 hc2 hb2 hm2 g1 g2 how hkb kY hkp
                      go_wp2
                      go_region_held3 (fun w' => (∀ b o, b < wi.heap.size → ¬ u11.ownBlock = some b → w'.cell? ⟨b, o, none⟩ = wi.cell? ⟨b, o, none⟩) ∧ wi.heap.size ≤ w'.heap.size)
                        ((first | assumption | (repeat (first | exact But1.refl _ _ | assumption | refine But1.grown ?_ hk9 hs9 | refine But1.grown ?_ hk4 hs4 | refine But1.drew ?_ | refine But1.drewN ?_ _ | refine But1.alloc ?_ _))))
                        (first
                          | (go_at_call 98; (with_reducible refine (CA.out _ ?hb1).mono ?_); (case hb1 => (repeat' first | with_reducible exact Below.refl _ _ | with_reducible refine Below.alloc ?_ ?_ _ | with_reducible refine Below.drew ?_ | with_reducible refine below_drewN ?_ _ | with_reducible refine below_step ?_ hb4 | (simp; done) | (simp; omega) | omega)); rintro e w4 ⟨rfl, hb4⟩; have hk4 := fun b hb (_ : u11.ownBlock ≠ some b) => hb4.block b hb; have hs4 := hb4.size; have hs4i : wi.heap.size ≤ w4.heap.size := hb4.size)
                          | ((refine step_append_farI (o := ⟨some 143, _, _, _, _, _⟩) [.bool true, .int .u64 H, .int .u64 L, .int .i64 y, .int .i64 (256 * z1 + z2)] 1 26 ol (out.flatMap RouteV.cells) rfl rfl w2.heap.size 48 _ 5 40 Try.underlying26 infoRouteP rfl (by decide) ?_ ?_ ?_ ?_ ?_ ?_ ?_; (focus (refine own_below HOW.out ?_; (repeat' first | with_reducible exact Below.refl _ _ | with_reducible refine Below.alloc ?_ ?_ _ | with_reducible refine Below.drew ?_ | with_reducible refine below_drewN ?_ _ | with_reducible refine below_step ?_ hb4 | (simp; done) | (simp; omega) | omega))); (focus exact ⟨_, _, rfl, reads_new (by rfl)⟩); (focus (intro u hu; simp at hu; rcases hu with rfl | rfl | rfl | rfl | rfl <;> rfl)); (focus (unfold maxLen; omega)); (focus omega); (focus (simp; omega)); intro v9 w9 hown9 hb9 hg9; have hk9 := fun b hb (hne : u11.ownBlock ≠ some b) => hg9.block b hb (fun e => hne e.symm); have hs9 := hg9.size)))
                      all_goals
                        have HO9 : Hid (OwnRs w9 w2.heap.size v9 (out ++ [(⟨⟨true, H, L, y⟩, 256 * z1 + z2⟩ : RouteV)])) := by
                          show World.ownsRow _ _ _ _ _ _ _
                          rw [List.length_append, List.flatMap_append, HOL.out]
                          exact hown9
                        have HB9 : Hid (Below w2.heap.size w2 w9) := by
                          refine Below.trans ?_ hb9
                          refine HBWI.out.trans (Below.mono ?_ hw2i)
                          (repeat' first | with_reducible exact Below.refl _ _ | with_reducible refine Below.alloc ?_ ?_ _ | with_reducible refine Below.drew ?_ | with_reducible refine below_drewN ?_ _ | with_reducible refine below_step ?_ hb4 | (simp; done) | (simp; omega) | omega)
                        have HLN : Hid (refTo (cnt - (i + 1)) ((bs.take k).drop (a + 2 + kk + 2)) (out ++ [(⟨⟨true, H, L, y⟩, 256 * z1 + z2⟩ : RouteV)]) = RP) := by
                          show _ = _
                          have e1 : l.drop (kk + 2) = (bs.take k).drop (a + 2 + kk + 2) := by
                            rw [← HL.out, List.drop_drop]
                            congr 1
                            (try omega)
                          rw [show cnt - (i + 1) = cnt - i - 1 by omega, ← e1]
                          exact HL2.out
                        clear hown9 hb9 hg9 hk9
                        go_wp2
                        go_roundw
                        case rel => exact ⟨i + 1, a + 2 + kk + 2, out ++ [(⟨⟨true, H, L, y⟩, 256 * z1 + z2⟩ : RouteV)], by go_num, by go_num, by omega, by omega, by rw [List.length_append, HOL.out]; simp; omega, HLN.out, HO9.out, HB9.out⟩
                        case measure => simp [intOf]; omega
            · have hN : RP = none := by rw [← hlt2, refR_short (by rw [List.length_drop, HKN.out]; omega)]
              have HN := Lib.hid hN
              have da : decide ((k : Int) < (a : Int) + 2) = true := by simp; omega
              clear hlt2 hN
              go_wp2
              (try go_ret2)
              rw [← HP.out]
              exact loaded_bad (HNO.out HN.out) hbw.out
          · obtain rfl : i = cnt := by omega
            have dic : decide ((i : Int) < (i : Int)) = false := by simp
            have hRPs : RP = some out := by
              rw [← hlt.out, Nat.sub_self]
              rfl
            have HRR : Hid (readR bs out) := HRP.out.trans hRPs
            have hok := readR_ok HBY.out out HRR.out
            obtain ⟨Ao, co, rfl, hco, hro⟩ := own_reads hown.out
            have HIR : Hid (IsRoutes wo Ao out.length co out) := ⟨rfl, hco, hok, hro⟩
            have CSV := Lib.hid (refSave_any HIR.out)
            obtain ⟨f, hf⟩ : ∃ f, routesF out = f := ⟨_, rfl⟩
            rw [hf] at CSV
            have HF := Lib.hid hf
            have HUQ : Hid (∀ o, readR bs o → o = out) := fun o ho => by
              have h1 := HRR.out
              unfold readR at ho h1
              rw [ho] at h1
              injection h1
            have HVL := Lib.hid (fun h0 => valid_of hok h0)
            have HOK := Lib.hid hok
            have HOO : Hid (OwnRs wo w2.heap.size (.slice Ao out.length co) out) := hown
            rw [hoi] at CSV ⊢
            have HOI := Lib.hid hoi
            clear hRPs hf hco hro hok hlt hoi hown
            go_wp2_with fail
            refine CSV.out.mono ?_
            rintro e w5 ⟨v5, E5, b5, rfl, hsv, hown5, hb5⟩
            have HB5 := Lib.hid (below_step hbw.out hb5)
            have HO5 : Hid (OwnRs w5 w2.heap.size (.slice Ao out.length co) out) := own_below HOO.out hb5
            rcases hsv with ⟨hf0, rfl, rfl⟩ | ⟨hf0, rfl, S, hS, hb5e⟩
            · have HFI := Lib.hid (show LoadIs bs (readR bs) 4 [] from .inr ⟨HF0.out, .inr ⟨rfl, rfl, fun ⟨o, ho, hg⟩ => by
                rw [HUQ.out o ho] at hg
                exact hf0 (HF.out.symm.trans hg.1)⟩⟩)
              have df : (E5 != 0) = true := by simpa using hf0
              clear hown5 hb5 CSV
              go_wp2
              (try go_ret2)
              rw [← HP.out]
              exact loaded_bad HFI.out HB5.out
            · subst hf0
              have hsb := save_all_bytes (good_ok HOK.out HF.out hS) (by rw [hS.1.length_eq]; exact (HVL.out HF.out).2)
              rw [← hb5e] at hsb
              have hl5 : 4 ≤ b5.length := by rw [hb5e]; simp [tailL]
              obtain ⟨A5, c5, rfl, -, hr5⟩ := own_reads hown5
              obtain ⟨a5, rfl, -, -⟩ := hr5.2 (by omega)
              have cv5 := conv_str (c := c5) hsb rfl hr5
              have cvb := conv_str (c := c) HBY.out HZ.out (HR.out.below HB5.out)
              have HS := Lib.hid hS
              have HE5 := Lib.hid hb5e
              have HSB := Lib.hid hsb
              obtain ⟨l5, hl5e⟩ : ∃ l5, b5.length = l5 := ⟨_, rfl⟩
              rw [hl5e] at cv5 ⊢
              clear hown5 hb5 hS hb5e hsb hr5 hl5 hl5e CSV
              by_cases he : b5 = bs
              · have HFI := Lib.hid (show LoadIs bs (readR bs) 0 out from .inr ⟨HF0.out, .inl ⟨rfl, HRR.out, HF.out, S, HS.out, by rw [← he]; exact HE5.out⟩⟩)
                have ds : ((strB b5).toList == (strB bs).toList) = true := by rw [he]; simp
                clear he
                go_wp2
                (try go_ret2)
                rw [← HP.out]
                have h9 := HO5.out
                rw [HOI.out] at h9
                exact ⟨_, 0, out, rfl, HFI.out, h9, HB5.out⟩
              · have HFI := Lib.hid (show LoadIs bs (readR bs) 4 [] from .inr ⟨HF0.out, .inr ⟨rfl, rfl, fun ⟨o, ho, hg⟩ => by
                  rw [HUQ.out o ho] at hg
                  obtain ⟨_, S', hS', hb'⟩ := hg
                  rw [← sortedOf_unique (HVL.out HF.out).1 HS.out hS'] at hb'
                  exact he (HE5.out.trans hb'.symm)⟩⟩)
                have ds : ((strB b5).toList == (strB bs).toList) = false := by
                  rw [beq_eq_false_iff_ne]
                  exact fun h => he (strB_inj HSB.out HBY.out (bytes_ext h))
                clear he
                go_wp2
                (try go_ret2)
                rw [← HP.out]
                exact loaded_bad HFI.out HB5.out

end Go.Proofs.Ytmljdjakbbedlaa

namespace Go.Proofs.Ytmljdjakbbedlaa
open Go.ChangeShapes Go.WideShapes Go.ChangeAt Go.RowKit

theorem loadIs_len {b : List Int} {E : Int} {out : List RouteV} (hb : ∀ x ∈ b, 0 ≤ x ∧ x ≤ 255) (h : LoadIs b (readP b) E out) : out.length ≤ 60 := by
  rcases h with ⟨_, _, rfl⟩ | ⟨_, ⟨_, h1, h2⟩ | ⟨_, rfl, _⟩⟩
  · simp
  · exact (valid_of (readP_ok hb out h1) h2.1).2
  · simp

set_option maxRecDepth 100000 in
set_option maxHeartbeats 800000 in
theorem imageLoads_core {W : World} {A : Option Addr} {n c : Nat} {bs : List Int} (hl : IsBytes W A n c bs) :
    Calls Try.prog 12 #[.slice A n c] W fun e W' => e = .returned (.bool true) ∧ Below W.heap.size W W' := by
  have C1 := Lib.hid (load_any hl)
  have C2 := Lib.hid (fun (w : World) (hb : Below W.heap.size W w) => refLoad_any (hl.below hb))
  have hby := hl.2.2.1
  clear hl
  go_enter Try.func12, Try.ntmps12
  go_wp2_with fail
  refine C1.out.mono ?_
  rintro e w1 ⟨v1, E, out, rfl, hS1, hd1, hb1⟩
  have HD1 := Lib.hid hd1
  have HB1 := Lib.hid hb1
  clear hd1 hb1
  go_wp2_with fail
  refine (C2.out _ HB1.out).mono ?_
  rintro e w2 ⟨v2, E2, out2, rfl, hS2, hd2, hb2⟩
  obtain ⟨rfl, rfl⟩ := loadIs_unique (readP_ok hby) (readR_ok hby) hS1 hS2
  have hlen : out.length ≤ 60 := loadIs_len hby hS1
  obtain ⟨A2, c2, rfl, hc2, hr2⟩ := own_reads hd2
  obtain ⟨A1, c1, rfl, hc1, hr1⟩ := own_reads (own_below HD1.out hb2)
  have CS := Lib.hid (sameRoutes_any A1 A2 out.length c1 out.length c2 out out w2 rfl rfl (by unfold maxLen; omega) (by unfold maxLen; omega) hr1 hr2)
  rw [decide_eq_true rfl] at CS
  have HB2 := Lib.hid (below_step HB1.out hb2)
  generalize out.length = k at *
  clear hd2 hb2 hr1 hr2 C1 C2 HD1 hS1 hS2 hby
  go_wp2_with fail
  refine CS.out.mono ?_
  rintro e w3 ⟨rfl, hb3⟩
  have HB3 := Lib.hid (below_step HB2.out hb3)
  clear hb3
  go_wp2
  go_ret
  exact ⟨ret_bool (by simp), HB3.out⟩

set_option maxRecDepth 100000 in
set_option maxHeartbeats 800000 in
theorem imageLoads_walk {H : Type} {enc : TypeId × Value → H} (W : World) (vs : Array Value) (ds : List (DataW H)) (ps : List MemPlace) (h : ArgsOk Try.prog [82] H enc W vs.toList ds ps) :
    Calls Try.prog 12 vs W fun e W' => e = .returned (.bool true) ∧ Below W.heap.size W W' := by
  obtain ⟨hA, ⟨base, hval⟩, _, _⟩ := h
  obtain ⟨v0, d0, e0, _, h0⟩ := trodAll_one hA
  obtain ⟨a0, n, c, rfl⟩ := okWide_slice Try.underlying82 (hval 0 _ v0 rfl (by rw [e0]; rfl))
  obtain ⟨bs, hr⟩ := open_bytes2 h0
  obtain rfl : vs = #[.slice a0 n c] := by cases vs; simp_all
  exact imageLoads_core hr

end Go.Proofs.Ytmljdjakbbedlaa
