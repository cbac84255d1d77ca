/-
  
  
  
  
  
  
  
  
-/
import Derived.Test.YticikknfkkmoaaaDoorC2
import Derived.Test.YticikknfkkmoaaaDoorC3
import Derived.Test.YticikknfkkmoaaaDoorC4
import Derived.Lib.ItoaMem
import Derived.Lib.AppendIntMem
import Derived.Lib.QuietBelow
import Derived.Test.YticikknfkkmoaaaDoorRows
import Derived.Lib.LaidTab
import Derived.LaidSub
import Derived.MakeChecks
import Derived.Lib.SplitLaws
import Derived.Lib.IndexMore
import Derived.Lib.ParseIntB
import Derived.Lib.ConvBytes
import Derived.Lib.AtoiAllMem
import Derived.Lib.ParseIntBMem
namespace Go.Proofs.YticikknfkkmoaaaDoor
open Go.ChangeShapes Go.WideShapes Go.ChangeAt Go.RowKit Go.Sort Go.Lib

/-- The library's two tables read as its text lays them. -/
def Tabs (w : World) : Prop := Lib.TabIs Tryd.prog w "internal/strconv.uint64pow10" .u64 Lib.pow10Tab ∧ TabAt (Tryd.lays7_27_ren.g 1) Lib.deBruijn64tab w
theorem Tabs.below {w w' : World} (h : Tabs w) (hb : Below w.heap.size w w') : Tabs w' := by
  refine ⟨Lib.tabBelow_of_tabIs h.1 w' hb, fun j hj => ?_⟩
  have := h.2 j hj
  refine Eq.trans ?_ this
  exact hb.cell (World.block_lt_of_cell? w _ this)
theorem dec_num (n : Nat) : Lib.decDigits n = numT 10 n := by
  induction n using Nat.strongRecOn with
  | _ n ih =>
    by_cases h : n < 10
    · rw [Lib.decDigits, dif_pos h, numT_small h]
      unfold digB
      rw [if_pos h]
    · rw [Lib.decDigits, dif_neg h, numT_step h (by omega), ih _ (by omega)]
      unfold digB
      rw [if_pos (by omega)]

set_option maxRecDepth 100000 in
set_option maxHeartbeats 1600000 in
theorem fmt10_any (u : Nat) (hu : u < 18446744073709551616) (w : World) (ht : Tabs w) :
    Calls Tryd.prog 41 #[.int .u64 u, .int .i64 10] w fun e w' => e = .returned (.string ⟨(numT 10 u).toArray⟩) ∧ Below w.heap.size w w' := by
  rw [← dec_num]
  by_cases h100 : u < 100
  · have d : decide ((u : Int) < 100) = true := by simp; omega
    go_enter Tryd.func41, Tryd.ntmps41
    go_wp2_with (go_at_call 56; refine (Tryd.internal_strconv_small u h100 _).mono ?_; rintro e w' ⟨rfl, rfl⟩)
    go_ret
    exact ⟨rfl, Below.refl _ _⟩
  · have d : decide ((u : Int) < 100) = false := by simp; omega
    have hu1 : 1 ≤ u := by omega
    have hnd20 : Lib.nDigits u ≤ 20 := by have := Lib.numDigits_eq u hu1 hu; split at this <;> omega
    have hal : Tryd.prog.arrayLen 92 = 24 := by kernel_rfl
    have hH0 : Holds (fun (b : UInt8) => Value.int .u8 (b.toNat : Int)) (w.alloc (.cells Lib.zeros24 92)) w.heap.size 0 (Array.replicate (Lib.nDigits u) (0 : UInt8)) := fun j hj => by
      have hj' : j < Lib.nDigits u := by simpa using hj
      refine ⟨?_, World.frozen?_alloc_new _ _ _ _⟩
      rw [World.cell?_alloc_new, Lib.zeros24_at _ (by omega), getElem!_pos _ j hj]
      simp
    have hfmt := Tryd.internal_strconv_formatBase10 w.heap.size 0 24 u (Array.replicate (Lib.nDigits u) 0) (w.alloc (.cells Lib.zeros24 92)) hH0 (by rw [Array.size_replicate]; exact Lib.lt_pow_nDigits u) hu (by rw [Array.size_replicate]; omega)
    rw [Array.size_replicate] at hfmt
    have hnum := Tryd.internal_strconv_numDigits u hu1 hu (w.alloc (.cells Lib.zeros24 92)) (Lib.tabIs_alloc ht.1 _)
    have HF := Lib.hid hfmt
    have HNM := Lib.hid hnum
    have HH := Lib.hid hH0
    have hsl : ∀ W : World, (Instr.sliceAt 92 (.pointer (some ⟨w.heap.size, 0, none⟩)) none (some (.int .i64 (Lib.nDigits u : Int))) none).run Tryd.prog W = .ok (.slice (some ⟨w.heap.size, 0, none⟩) (Lib.nDigits u) 24) W := fun W => by
      rw [run_sliceAt_array_h W 92 ⟨w.heap.size, 0, none⟩ (by simp [Program.arrayLen, Program.elem, Tryd.underlying92]) .i64 (Lib.nDigits u : Int) (by omega) (by rw [hal]; omega)]
      go_simp
    clear hfmt hnum hH0 hal
    go_enter Tryd.func41, Tryd.ntmps41
    go_wp2_with (go_at_call 57; refine HNM.out.mono ?_; rintro e w' ⟨rfl, rfl⟩)
    refine HF.out.mono ?_
    rintro e w' ⟨rfl, k, v', dk, rfl, hF⟩
    have hcv : (convert 77 9 (.slice (some ⟨w.heap.size, 0, none⟩) (Lib.nDigits u) 24)).run Tryd.prog ((putRow (fun (b : UInt8) => Value.int .u8 (b.toNat : Int)) (w.alloc (.cells Lib.zeros24 92)) w.heap.size 0 dk).drewN k) = .ok (.string ⟨(Lib.decDigits u).toArray⟩) ((putRow (fun (b : UInt8) => Value.int .u8 (b.toNat : Int)) (w.alloc (.cells Lib.zeros24 92)) w.heap.size 0 dk).drewN k) := by
      have h := run_convert_bytes_back (P := Tryd.prog) ((putRow (fun (b : UInt8) => Value.int .u8 (b.toNat : Int)) (w.alloc (.cells Lib.zeros24 92)) w.heap.size 0 dk).drewN k) 77 9 5 ⟨w.heap.size, 0, none⟩ 24 (Lib.decDigits u) Tryd.underlying77 Tryd.underlying5 Tryd.underlying9 (fun j hj => by
        rw [Lib.row_is_numeral hF j hj, Lib.add_plain, World.cell?_drewN]
        exact cell?_putRow (fun (b : UInt8) => Value.int .u8 (b.toNat : Int)) _ w.heap.size 0 _ dk HH.out (by rw [hF.size, Array.size_replicate]) j (by rw [hF.size]; rw [Lib.decDigits_length] at hj; exact hj))
      rw [Lib.decDigits_length] at h
      exact h
    have HB : Hid (Below w.heap.size w ((putRow (fun (b : UInt8) => Value.int .u8 (b.toNat : Int)) (w.alloc (.cells Lib.zeros24 92)) w.heap.size 0 dk).drewN k)) := by
      show Below _ _ _
      refine below_drewN ?_ _
      rw [alloc_eq_grow]
      obtain ⟨os', _, e⟩ := putRow_grow_new (fun (b : UInt8) => Value.int .u8 (b.toNat : Int)) w #[Obj.cells Lib.zeros24 92] w.heap.size 0 dk (Nat.le_refl _)
      rw [e]
      have := below_regrown w w.drawn os'
      exact this
    go_wp2
    go_ret
    exact ⟨rfl, HB.out⟩

theorem hexS_get (d : Nat) (hd : d < 16) (h : d < (⟨#[48, 49, 50, 51, 52, 53, 54, 55, 56, 57, 97, 98, 99, 100, 101, 102, 103, 104, 105, 106, 107, 108, 109, 110, 111, 112, 113, 114, 115, 116, 117, 118, 119, 120, 121, 122]⟩ : ByteArray).size) : (⟨#[48, 49, 50, 51, 52, 53, 54, 55, 56, 57, 97, 98, 99, 100, 101, 102, 103, 104, 105, 106, 107, 108, 109, 110, 111, 112, 113, 114, 115, 116, 117, 118, 119, 120, 121, 122]⟩ : ByteArray)[d]'h = digB d := by
  rcases (by omega : d = 0 ∨ d = 1 ∨ d = 2 ∨ d = 3 ∨ d = 4 ∨ d = 5 ∨ d = 6 ∨ d = 7 ∨ d = 8 ∨ d = 9 ∨ d = 10 ∨ d = 11 ∨ d = 12 ∨ d = 13 ∨ d = 14 ∨ d = 15) with rfl | rfl | rfl | rfl | rfl | rfl | rfl | rfl | rfl | rfl | rfl | rfl | rfl | rfl | rfl | rfl <;> kernel_rfl
theorem dig_index (d : Nat) (hd : d < 16) (W : World) : (Instr.index 9 (.string ⟨#[48, 49, 50, 51, 52, 53, 54, 55, 56, 57, 97, 98, 99, 100, 101, 102, 103, 104, 105, 106, 107, 108, 109, 110, 111, 112, 113, 114, 115, 116, 117, 118, 119, 120, 121, 122]⟩) (.int .u64 (d : Int))).run Tryd.prog W = .ok (.int .u8 ((digB d).toNat : Int)) W := by
  rcases (by omega : d = 0 ∨ d = 1 ∨ d = 2 ∨ d = 3 ∨ d = 4 ∨ d = 5 ∨ d = 6 ∨ d = 7 ∨ d = 8 ∨ d = 9 ∨ d = 10 ∨ d = 11 ∨ d = 12 ∨ d = 13 ∨ d = 14 ∨ d = 15) with rfl | rfl | rfl | rfl | rfl | rfl | rfl | rfl | rfl | rfl | rfl | rfl | rfl | rfl | rfl | rfl <;> kernel_rfl

set_option maxRecDepth 100000 in
set_option maxHeartbeats 1600000 in
theorem bits16_any (u : Nat) (hu : u < 65536) (w : World) (ht : Tabs w) :
    Calls Tryd.prog 59 #[.slice none 0 0, .int .u64 u, .int .i64 16, .bool false, .bool false] w fun e w' => e = .returned (.tuple #[.slice none 0 0, .string ⟨(numT 16 u).toArray⟩]) ∧ Below w.heap.size w w' := by
  have HT := Lib.hid ht
  have CZ : Hid (∀ W : World, Below w.heap.size w W → Calls Tryd.prog 78 #[.int .u64 16] W fun e w' => e = .returned (.int .i64 4) ∧ w' = W) := fun W hb => by
    have h := Any7.bits_TrailingZeros Tryd.lays7_27 16 (by omega) W (fun _ => (ht.below hb).2)
    rw [show Lib.ctz 64 16 = 4 by decide] at h
    exact h
  clear ht
  go_enter Tryd.func59, Tryd.ntmps59
  go_wp2_with (first | (go_at_call 78; refine (CZ.out _ ?hb).mono ?_; (case hb => exact (Below.refl _ _).alloc (Nat.le_refl _) _); rintro e w' ⟨rfl, rfl⟩) | go_in)
  go_loopw [1, 13] (fun uv iv wr => ∃ (cs : Array Value) (L : List UInt8) (x i : Nat), uv = .int .u64 x ∧ iv = .int .i64 i ∧ i + L.length = 65 ∧ L.length ≤ 4 ∧ Hid (x * 16 ^ L.length ≤ u) ∧ Hid (numT 16 u = numT 16 x ++ L) ∧ Hid (cs.size = 65) ∧ Hid (cs.toList.drop i = L.map fun b => Value.int .u8 (b.toNat : Int)) ∧ Hid (Blk wr w.heap.size 110 cs) ∧ Hid (Below w.heap.size w wr)) (fun uv _ _ => (RowKit.intOf uv).toNat)
  case atStart =>
    refine ⟨_, [], u, 65, rfl, rfl, rfl, by simp, (by show _ ≤ _; simp), (by show _ = _; simp), ?_, ?_, Blk.new _ _ _, (Below.refl _ _).alloc (Nat.le_refl _) _⟩
    · show _ = _; rfl
    · show _ = _; rfl
  case round =>
    obtain ⟨cs, L, x, i, rfl, rfl, hiL, hL, hxu, hnum, hcs, hdr, hkb, hbw⟩ := hrel
    obtain ⟨wo, rfl⟩ : ∃ wo : World, wo = wr := ⟨_, rfl⟩
    have hp1 : 1 ≤ 16 ^ L.length := Nat.pow_pos (by omega)
    have hx6 : x < 65536 := by
      have h1 := hxu.out
      have := Nat.le_mul_of_pos_right x hp1
      omega
    have hq := hkb.out.lt
    obtain ⟨v0, hv0⟩ : ∃ v0, cs[i - 1]? = some v0 := ⟨_, Array.getElem?_eq_getElem (by rw [hcs.out]; omega)⟩
    have y0 : wo.cell? ⟨w.heap.size, i - 1, none⟩ = some v0 := by rw [hkb.out.cell]; exact hv0
    have f0 := hkb.out.frozen (i - 1)
    have ei : ((i : Int) - 1) = ((i - 1 : Nat) : Int) := by omega
    have hset : ∀ b : UInt8, ((cs.setIfInBounds (i - 1) (.int .u8 (b.toNat : Int))).toList.drop (i - 1)) = (b :: L).map fun b => Value.int .u8 (b.toNat : Int) := fun b => by
      have hlt : i - 1 < cs.size := by rw [hcs.out]; omega
      rw [Array.toList_setIfInBounds, List.drop_eq_getElem_cons (by simpa using hlt), List.getElem_set_self, List.drop_set_of_lt (by omega), show i - 1 + 1 = i by omega, hdr.out]
      rfl
    have HSET := Lib.hid hset
    clear hset hv0 hp1
    by_cases hx : 16 ≤ x
    · have dx : decide ((16 : Int) ≤ (x : Int)) = true := by simp; omega
      have han : bits .and .u64 (x : Int) 15 = ((x % 16 : Nat) : Int) := by
        rw [show (15 : Int) = ((15 : Nat) : Int) from rfl, u64_and_nat x 15 (by omega) (by omega), show (15 : Nat) = 2 ^ 4 - 1 from rfl, Nat.and_two_pow_sub_one_eq_mod]
      have hdg := dig_index (x % 16) (Nat.mod_lt _ (by omega))
      have hL3 : L.length ≤ 3 := by
        rcases (by omega : L.length ≤ 3 ∨ L.length = 4) with h | h
        · exact h
        · have h1 := hxu.out
          rw [h, show (16 : Nat) ^ 4 = 65536 by decide] at h1
          omega
      go_wp2
      go_roundw
      case rel =>
        refine ⟨_, digB (x % 16) :: L, x / 16, i - 1, by go_num, by go_num, by simp only [List.length_cons]; omega, by simp only [List.length_cons]; omega, ?_, ?_, ?_, HSET.out _, ?_, hbw.out.setCell (Nat.le_refl _) _⟩
        · show _ ≤ _
          rw [List.length_cons, Nat.pow_succ, Nat.mul_comm (16 ^ L.length) 16, ← Nat.mul_assoc]
          exact Nat.le_trans (Nat.mul_le_mul_right _ (Nat.div_mul_le_self x 16)) hxu.out
        · show _ = _
          rw [hnum.out, numT_step (by omega) (by omega), List.append_assoc]
          rfl
        · show _ = _
          rw [Array.size_setIfInBounds]; exact hcs.out
        · show Blk _ _ _ _
          rw [hexS_get (x % 16) (Nat.mod_lt _ (by omega))]
          exact Blk.set_ hkb.out (i - 1) _
      case measure => simp [RowKit.intOf]; omega
    · have dx : decide ((16 : Int) ≤ (x : Int)) = false := by simp; omega
      have hal : Tryd.prog.arrayLen 110 = 65 := by kernel_rfl
      have hi60 : 60 < i := by omega
      have hsl : ∀ W : World, (Instr.sliceAt 110 (.pointer (some ⟨w.heap.size, 0, none⟩)) (some (.int .i64 ((i - 1 : Nat) : Int))) none none).run Tryd.prog W = .ok (.slice (some ⟨w.heap.size, i - 1, none⟩) (L.length + 1) (L.length + 1)) W := fun W => by
        rw [run_sliceAt_array_l W 110 ⟨w.heap.size, 0, none⟩ (by simp [Program.arrayLen, Program.elem, Tryd.underlying110]) .i64 ((i - 1 : Nat) : Int) (by omega) (by rw [hal]; omega)]
        go_simp
        exact ⟨by omega, by omega⟩
      have hx36 : x < (⟨#[48, 49, 50, 51, 52, 53, 54, 55, 56, 57, 97, 98, 99, 100, 101, 102, 103, 104, 105, 106, 107, 108, 109, 110, 111, 112, 113, 114, 115, 116, 117, 118, 119, 120, 121, 122]⟩ : ByteArray).size := by show x < 36; omega
      have hnu : numT 16 u = digB x :: L := by rw [hnum.out, numT_small (by omega)]; rfl
      have hks := Blk.set_ hkb.out (i - 1) (.int .u8 ((digB x).toNat : Int))
      have hcv : (convert 77 9 (.slice (some ⟨w.heap.size, i - 1, none⟩) (L.length + 1) (L.length + 1))).run Tryd.prog (wo.setCell ⟨w.heap.size, i - 1, none⟩ (.int .u8 (((⟨#[48, 49, 50, 51, 52, 53, 54, 55, 56, 57, 97, 98, 99, 100, 101, 102, 103, 104, 105, 106, 107, 108, 109, 110, 111, 112, 113, 114, 115, 116, 117, 118, 119, 120, 121, 122]⟩ : ByteArray)[x]'hx36).toNat : Int))) = .ok (.string ⟨(numT 16 u).toArray⟩) (wo.setCell ⟨w.heap.size, i - 1, none⟩ (.int .u8 (((⟨#[48, 49, 50, 51, 52, 53, 54, 55, 56, 57, 97, 98, 99, 100, 101, 102, 103, 104, 105, 106, 107, 108, 109, 110, 111, 112, 113, 114, 115, 116, 117, 118, 119, 120, 121, 122]⟩ : ByteArray)[x]'hx36).toNat : Int))) := by
        rw [hexS_get x (by omega) hx36, hnu]
        have h := run_convert_bytes_back (P := Tryd.prog) (wo.setCell ⟨w.heap.size, i - 1, none⟩ (.int .u8 ((digB x).toNat : Int))) 77 9 5 ⟨w.heap.size, i - 1, none⟩ (L.length + 1) (digB x :: L) Tryd.underlying77 Tryd.underlying5 Tryd.underlying9 (fun j hj => by
          rw [Lib.add_plain, hks.cell (i - 1 + j)]
          have h2 := HSET.out (digB x)
          have h3 : ((cs.setIfInBounds (i - 1) (.int .u8 ((digB x).toNat : Int))).toList.drop (i - 1))[j]? = ((digB x :: L).map fun b => Value.int .u8 (b.toNat : Int))[j]? := by rw [h2]
          rw [List.getElem?_drop, Array.getElem?_toList, List.getElem?_map, List.getElem?_eq_getElem hj] at h3
          exact h3)
        exact h
      have HB9 : Hid (Below w.heap.size w (wo.setCell ⟨w.heap.size, i - 1, none⟩ (.int .u8 (((⟨#[48, 49, 50, 51, 52, 53, 54, 55, 56, 57, 97, 98, 99, 100, 101, 102, 103, 104, 105, 106, 107, 108, 109, 110, 111, 112, 113, 114, 115, 116, 117, 118, 119, 120, 121, 122]⟩ : ByteArray)[x]'hx36).toNat : Int)))) := hbw.out.setCell (Nat.le_refl _) _
      clear hnu hks
      go_wp2
      go_ret2
      exact ⟨rfl, HB9.out⟩

set_option maxRecDepth 100000 in
theorem fmt16_any (u : Nat) (hu : u < 65536) (w : World) (ht : Tabs w) :
    Calls Tryd.prog 41 #[.int .u64 u, .int .i64 16] w fun e w' => e = .returned (.string ⟨(numT 16 u).toArray⟩) ∧ Below w.heap.size w w' := by
  have C := Lib.hid (bits16_any u hu w ht)
  clear ht
  go_enter Tryd.func41, Tryd.ntmps41
  go_wp2_with fail
  refine C.out.mono ?_
  rintro e w1 ⟨rfl, hb⟩
  have HB := Lib.hid hb
  clear hb
  go_wp2
  go_ret
  exact ⟨rfl, HB.out⟩
/-- strconv.FormatUint at base 10 and at base 16. -/
theorem format_any (base u : Nat) (hb : base = 10 ∨ base = 16) (hu : u < 65536) (w : World) (ht : Tabs w) :
    Calls Tryd.prog 22 #[.int .u64 u, .int .i64 base] w fun e w' => e = .returned (.string ⟨(numT base u).toArray⟩) ∧ Below w.heap.size w w' := by
  have C : Hid (Calls Tryd.prog 41 #[.int .u64 u, .int .i64 base] w fun e w' => e = .returned (.string ⟨(numT base u).toArray⟩) ∧ Below w.heap.size w w') := by
    rcases hb with rfl | rfl
    · exact fmt10_any u (by omega) w ht
    · exact fmt16_any u hu w ht
  clear ht hb
  go_enter Tryd.func22, Tryd.ntmps22
  go_wp2_with fail
  refine C.out.mono ?_
  rintro e w1 ⟨rfl, hb⟩
  have HB := Lib.hid hb
  clear hb
  go_wp2
  go_ret
  exact ⟨rfl, HB.out⟩

end Go.Proofs.YticikknfkkmoaaaDoor

namespace Go.Proofs.YticikknfkkmoaaaDoor
open Go.ChangeShapes Go.WideShapes Go.ChangeAt Go.RowKit Go.Lib

theorem laid_one {L : List (String × DataW Unit)} {w : World} (h : laidMetH Tryd.prog L w) (name : String) (d : DataW Unit) (hf : L.filter (fun x => x.1 == name) = [(name, d)]) (hh : d.handleName?.isNone = true) : laidMet Tryd.prog [(name, d)] w := by
  have := h.filter (fun x => x.1 == name)
  rw [hf, MakeChecks.laidMetH_plain Tryd.prog [(name, d)] w (by simp [hh])] at this
  exact this
theorem tabs_of_laid {L : List (String × DataW Unit)} {w : World} (h : laidMetH Tryd.prog L w)
    (h1 : L.filter (fun x => x.1 == "internal/strconv.uint64pow10") = [("internal/strconv.uint64pow10", Rows.laid_internal_strconv_uint64pow10)])
    (h2 : L.filter (fun x => x.1 == "math/bits.deBruijn64tab") = [("math/bits.deBruijn64tab", Rows.laid_math_bits_deBruijn64tab)]) : Tabs w := by
  constructor
  · have := laid_one h _ _ h1 rfl
    rw [show (Rows.laid_internal_strconv_uint64pow10 : DataW Unit) = tabData .u64 Lib.pow10Tab from rfl] at this
    exact tabIs_of_head (g := (Tryd.prog.globalNamed "internal/strconv.uint64pow10").getD 0) (t := 108) (e := 22) (n := 20) (by kernel_rfl) (by kernel_rfl) Tryd.underlying108 Tryd.underlying22 (by kernel_rfl) (by kernel_rfl) this
  · have := laid_one h _ _ h2 rfl
    rw [show (Rows.laid_math_bits_deBruijn64tab : DataW Unit) = tabData .u8 (Lib.deBruijn64tab.map fun n : Nat => (n : Int)) from rfl] at this
    have ht := tabIs_of_head (g := Tryd.lays7_27_ren.g 1) (t := 126) (e := 5) (n := 64) (by kernel_rfl) (by kernel_rfl) Tryd.underlying126 Tryd.underlying5 (by kernel_rfl) (by kernel_rfl) this
    intro j hj
    have hc := ht.cell (g := Tryd.lays7_27_ren.g 1) (by kernel_rfl) j (by simpa using hj)
    rw [hc]
    simp [List.getD, hj]

end Go.Proofs.YticikknfkkmoaaaDoor

namespace Go.Proofs.YticikknfkkmoaaaDoor

/-- Parts between signs. -/
def splitL (c : UInt8) : List UInt8 → List (List UInt8)
  | [] => [[]]
  | b :: l => if b = c then [] :: splitL c l else (b :: (splitL c l).headD []) :: (splitL c l).drop 1
theorem splitL_ne (c : UInt8) : ∀ l, splitL c l ≠ []
  | [] => by simp [splitL]
  | b :: l => by unfold splitL; split <;> simp
theorem splitL_other {b c : UInt8} (h : ¬ b = c) {l x : List UInt8} {xs : List (List UInt8)} (hs : splitL c l = x :: xs) : splitL c (b :: l) = (b :: x) :: xs := by
  unfold splitL
  rw [if_neg h, hs]
  rfl
theorem splitL_pre {c : UInt8} : ∀ {x : List UInt8} (_ : c ∉ x) (r : List UInt8), splitL c (x ++ c :: r) = x :: splitL c r
  | [], _, r => by
    show splitL c (c :: r) = _
    rw [splitL, if_pos rfl]
  | b :: x, h, r => by
    rw [List.mem_cons, not_or] at h
    exact splitL_other (fun e => h.1 e.symm) (splitL_pre h.2 r)
theorem splitL_none {c : UInt8} : ∀ {x : List UInt8} (_ : c ∉ x), splitL c x = [x]
  | [], _ => rfl
  | b :: x, h => by
    rw [List.mem_cons, not_or] at h
    exact splitL_other (fun e => h.1 e.symm) (splitL_none h.2)
theorem splitL_join {c : UInt8} : ∀ (xs : List (List UInt8)), xs ≠ [] → (∀ x ∈ xs, c ∉ x) → splitL c (joinT c xs) = xs
  | [], h, _ => absurd rfl h
  | [x], _, h => splitL_none (h x (by simp))
  | x :: y :: l, _, h => by
    have e : joinT c (x :: y :: l) = x ++ c :: joinT c (y :: l) := by simp [joinT]
    rw [e, splitL_pre (h x (by simp)), splitL_join (y :: l) (by simp) (fun z hz => h z (by simp [hz]))]
theorem index_cons_eq (c : UInt8) (l : List UInt8) : Lib.index (c :: l) [c] = 0 := by simp [Lib.index]
theorem index_cons_ne {b c : UInt8} (h : ¬ b = c) (l : List UInt8) : Lib.index (b :: l) [c] = if Lib.index l [c] = -1 then -1 else Lib.index l [c] + 1 := by
  have h' : ¬ c = b := fun e => h e.symm
  rw [Lib.index]
  simp [List.isPrefixOf, h']
theorem index_of_mem {c : UInt8} : ∀ {l : List UInt8}, c ∈ l → 0 ≤ Lib.index l [c]
  | [], h => by simp at h
  | b :: l, h => by
    by_cases hb : b = c
    · rw [hb, index_cons_eq]; omega
    · rw [index_cons_ne hb]
      have h2 := index_of_mem (l := l) (c := c) (by rcases List.mem_cons.1 h with h | h; exact absurd h.symm hb; exact h)
      rw [if_neg (by omega)]
      omega
theorem splitK_one (c : UInt8) : ∀ (s : List UInt8), Lib.splitK [c] 0 (s.count c) s = splitL c s
  | [] => rfl
  | b :: l => by
    by_cases hb : b = c
    · subst hb
      rw [List.count_cons_self, Lib.splitK, index_cons_eq, splitL, if_pos rfl]
      simp only [show ((0 : Int) == -1) = false from rfl, Bool.false_eq_true, if_false]
      rw [← splitK_one b l]
      rfl
    · rw [List.count_cons_of_ne hb]
      have ih := splitK_one c l
      cases hk : l.count c with
      | zero =>
        rw [hk] at ih
        have : Lib.splitK [c] 0 0 l = [l] := rfl
        rw [this] at ih
        rw [splitL_other hb ih.symm]
        rfl
      | succ k =>
        rw [hk] at ih
        have hmem : c ∈ l := List.count_pos_iff.1 (by omega)
        have hi := index_of_mem hmem
        obtain ⟨i, hi2⟩ : ∃ i : Nat, Lib.index l [c] = i := ⟨(Lib.index l [c]).toNat, by omega⟩
        rw [Lib.splitK, hi2, if_neg (by first | (simp; done) | (simp; omega))] at ih
        rw [splitL_other hb ih.symm, Lib.splitK, index_cons_ne hb, hi2, if_neg (by omega : ¬ ((i : Int) = -1)), if_neg (by first | (simp; done) | (simp; omega))]
        have e : ((i : Int) + 1).toNat = i + 1 := by omega
        rw [e]
        simp [List.take_succ_cons]
/-- What strings.Split gives at one sign. -/
theorem split_one (c : UInt8) (s : ByteArray) : (Lib.splitB ⟨#[c]⟩ 0 (Lib.countB s ⟨#[c]⟩) s).map (·.data.toList) = splitL c s.data.toList := by
  rw [Lib.splitB_data]
  have : Lib.countB s ⟨#[c]⟩ = s.data.toList.count c := by
    show Lib.count s.data.toList [c] = _
    rw [Lib.count_one]
  rw [this]
  exact splitK_one c s.data.toList

/-- No two signs side by side, and none at the end. -/
def NoCC (c : UInt8) (x : List UInt8) : Prop := ∀ i, x[i]? = some c → ∃ b, x[i + 1]? = some b ∧ ¬ b = c
theorem NoCC.tail {c b : UInt8} {x : List UInt8} (h : NoCC c (b :: x)) : NoCC c x := fun i hi => by
  have := h (i + 1) (by simpa using hi)
  simpa using this
theorem index_two {c : UInt8} : ∀ {x : List UInt8} (_ : NoCC c x) (r : List UInt8), Lib.index (x ++ c :: c :: r) [c, c] = x.length
  | [], _, r => by simp [Lib.index, List.isPrefixOf]
  | b :: x, h, r => by
    have ih := index_two h.tail r
    rw [List.cons_append, Lib.index, ih]
    have hp : [c, c].isPrefixOf (b :: (x ++ c :: c :: r)) = false := by
      by_cases hb : b = c
      · obtain ⟨d, hd, hdc⟩ := h 0 (by simp [hb])
        have hd : x[0]? = some d := by simpa using hd
        cases x with
        | nil => simp at hd
        | cons y x =>
          have : y = d := by simpa using hd
          subst this
          simp [List.isPrefixOf]
          intro _ e
          exact absurd e.symm hdc
      · simp [List.isPrefixOf]
        intro e
        exact absurd e.symm hb
    rw [hp]
    simp only [Bool.false_eq_true, if_false, List.length_cons]
    rw [if_neg (by first | (simp; done) | (simp; omega))]
    omega
theorem index_two_none {c : UInt8} : ∀ {x : List UInt8} (_ : NoCC c x), Lib.index x [c, c] = -1
  | [], _ => rfl
  | b :: x, h => by
    have ih := index_two_none h.tail
    rw [Lib.index, ih]
    have hp : [c, c].isPrefixOf (b :: x) = false := by
      by_cases hb : b = c
      · obtain ⟨d, hd, hdc⟩ := h 0 (by simp [hb])
        have hd : x[0]? = some d := by simpa using hd
        cases x with
        | nil => simp at hd
        | cons y x =>
          have : y = d := by simpa using hd
          subst this
          simp [List.isPrefixOf]
          intro _ e
          exact absurd e.symm hdc
      · simp [List.isPrefixOf]
        intro e
        exact absurd e.symm hb
    rw [hp]
    rfl
theorem cut_two {c : UInt8} {x : List UInt8} (h : NoCC c x) (r : List UInt8) : Lib.cut (x ++ c :: c :: r) [c, c] = (x, r, true) := by
  unfold Lib.cut
  rw [index_two h, if_pos (by omega)]
  have e : ((x.length : Int)).toNat = x.length := by omega
  rw [e, List.take_left, show [c, c].length = 2 from rfl]
  have : x ++ c :: c :: r = (x ++ [c, c]) ++ r := by simp
  rw [this, List.drop_left' (by simp)]
theorem cut_none {c : UInt8} {x : List UInt8} (h : NoCC c x) : Lib.cut x [c, c] = (x, [], false) := by
  unfold Lib.cut
  rw [index_two_none h, if_neg (by omega)]
theorem noCC_of {c : UInt8} {x : List UInt8} (h : c ∉ x) : NoCC c x := fun _i hi => absurd (List.mem_of_getElem? hi) h
theorem noCC_join {c : UInt8} : ∀ (xs : List (List UInt8)), (∀ x ∈ xs, x ≠ [] ∧ c ∉ x) → NoCC c (joinT c xs)
  | [], _ => fun i hi => by simp [joinT] at hi
  | [x], h => noCC_of (h x (by simp)).2
  | x :: y :: l, h => by
    have ih := noCC_join (y :: l) (fun z hz => h z (by simp [hz]))
    have e : joinT c (x :: y :: l) = x ++ c :: joinT c (y :: l) := by simp [joinT]
    rw [e]
    have hx := (h x (by simp)).2
    have hy := h y (by simp)
    obtain ⟨b, t, hbt⟩ : ∃ b t, joinT c (y :: l) = b :: t ∧ ¬ b = c := by
      cases hy0 : y with
      | nil => exact absurd hy0 hy.1
      | cons b y' =>
        have hb : ¬ b = c := fun e => hy.2 (by rw [hy0, e]; simp)
        cases l with
        | nil => exact ⟨b, y', rfl, hb⟩
        | cons z l => exact ⟨b, y' ++ [c] ++ joinT c (z :: l), by simp [joinT], hb⟩
    intro i hi
    rcases Nat.lt_trichotomy i x.length with hlt | heq | hgt
    · rw [List.getElem?_append_left hlt] at hi
      exact absurd (List.mem_of_getElem? hi) hx
    · refine ⟨b, ?_, hbt.2⟩
      rw [List.getElem?_append_right (by omega), heq, show x.length + 1 - x.length = 1 by omega, hbt.1]
      rfl
    · rw [List.getElem?_append_right (by omega)] at hi ⊢
      obtain ⟨j, hj⟩ : ∃ j, i - x.length = j + 1 := ⟨i - x.length - 1, by omega⟩
      rw [hj] at hi
      rw [show i + 1 - x.length = (j + 1) + 1 by omega]
      exact ih j (by simpa using hi)
  termination_by xs => xs.length
end Go.Proofs.YticikknfkkmoaaaDoor

namespace Go.Proofs.YticikknfkkmoaaaDoor

theorem digB_sign : ∀ d : Fin 16, ¬ digB d = 46 ∧ ¬ digB d = 58 ∧ ¬ digB d = 47 := by decide
theorem numT_dig {base : Nat} (hb : 2 ≤ base) : ∀ (n : Nat), ∀ b ∈ numT base n, ∃ d, d < base ∧ b = digB d := by
  intro n
  induction n using Nat.strongRecOn with
  | ind n ih =>
    intro b h
    by_cases hn : n < base
    · rw [numT_small hn] at h
      exact ⟨n, hn, by simpa using h⟩
    · rw [numT_step hn hb] at h
      rcases List.mem_append.1 h with h | h
      · exact ih (n / base) (Nat.div_lt_self (by omega) (by omega)) b h
      · exact ⟨n % base, Nat.mod_lt _ (by omega), by simpa using h⟩
theorem numT_sign {base n : Nat} (hb : 2 ≤ base) (hb2 : base ≤ 16) : 46 ∉ numT base n ∧ 58 ∉ numT base n ∧ 47 ∉ numT base n := by
  have key : ∀ b ∈ numT base n, ¬ b = 46 ∧ ¬ b = 58 ∧ ¬ b = 47 := fun b h => by
    obtain ⟨d, hd, rfl⟩ := numT_dig hb n b h
    exact digB_sign ⟨d, by omega⟩
  exact ⟨fun h => (key _ h).1 rfl, fun h => (key _ h).2.1 rfl, fun h => (key _ h).2.2 rfl⟩
theorem numT_ne {base n : Nat} (hb : 2 ≤ base) : numT base n ≠ [] := by
  by_cases hn : n < base
  · rw [numT_small hn]; simp
  · rw [numT_step hn hb]; simp

/-- What a byte is worth as a digit, small letters and capitals alike. -/
def hexD (c : UInt8) : Option Nat := if 48 ≤ c.toNat ∧ c.toNat ≤ 57 then some (c.toNat - 48) else if 97 ≤ c.toNat ||| 32 ∧ c.toNat ||| 32 ≤ 122 then some ((c.toNat ||| 32) - 87) else none
/-- strconv.ParseUint at base 16 and 16 bits. -/
def parse16 (acc : Nat) : List UInt8 → Lib.NumEnd Nat
  | [] => .ok acc
  | c :: r => match hexD c with
    | none => .syntax
    | some d => if 16 ≤ d then .syntax else if 65535 < acc * 16 + d then .range else parse16 (acc * 16 + d) r
theorem hexD_dig : ∀ d : Fin 16, hexD (digB d) = some d.val := by decide
theorem dec_dig : ∀ d : Fin 10, 48 ≤ (digB d).toNat ∧ (digB d).toNat ≤ 57 ∧ (digB d).toNat - 48 = d.val := by decide
theorem parse16_append : ∀ (xs ys : List UInt8) (acc m : Nat), parse16 acc xs = .ok m → parse16 acc (xs ++ ys) = parse16 m ys
  | [], ys, acc, m, h => by
    have : acc = m := by simpa [parse16] using h
    rw [this]
    rfl
  | c :: xs, ys, acc, m, h => by
    rw [List.cons_append]
    unfold parse16 at h ⊢
    cases hc : hexD c with
    | none => rw [hc] at h; cases h
    | some d =>
      rw [hc] at h
      simp only at h ⊢
      by_cases h1 : 16 ≤ d
      · rw [if_pos h1] at h; cases h
      rw [if_neg h1] at h ⊢
      by_cases h2 : 65535 < acc * 16 + d
      · rw [if_pos h2] at h; cases h
      rw [if_neg h2] at h ⊢
      exact (parse16_append xs ys _ m h).trans (by cases ys <;> rfl)
theorem parse16_num : ∀ (n : Nat), n ≤ 65535 → parse16 0 (numT 16 n) = .ok n := by
  intro n
  induction n using Nat.strongRecOn with
  | ind n ih =>
    intro hn
    by_cases hs : n < 16
    · rw [numT_small hs]
      unfold parse16
      rw [hexD_dig ⟨n, hs⟩]
      simp only
      rw [if_neg (by omega), if_neg (by omega)]
      simp [parse16]
    · rw [numT_step hs (by omega), parse16_append _ _ _ _ (ih (n / 16) (Nat.div_lt_self (by omega) (by omega)) (by omega))]
      unfold parse16
      rw [hexD_dig ⟨n % 16, Nat.mod_lt _ (by omega)⟩]
      simp only
      rw [if_neg (by omega), if_neg (by omega)]
      simp only [parse16, Lib.NumEnd.ok.injEq]
      omega
theorem parse16_le : ∀ (xs : List UInt8) (acc m : Nat), acc ≤ 65535 → parse16 acc xs = .ok m → m ≤ 65535
  | [], acc, m, h0, h => by
    have : acc = m := by simpa [parse16] using h
    omega
  | c :: xs, acc, m, h0, h => by
    unfold parse16 at h
    cases hc : hexD c with
    | none => rw [hc] at h; cases h
    | some d =>
      rw [hc] at h
      simp only at h
      by_cases h1 : 16 ≤ d
      · rw [if_pos h1] at h; cases h
      rw [if_neg h1] at h
      by_cases h2 : 65535 < acc * 16 + d
      · rw [if_pos h2] at h; cases h
      rw [if_neg h2] at h
      exact parse16_le xs _ m (by omega) h
theorem parseM_append {M : Nat} (hM : M ≤ 1000000) : ∀ (xs ys : List UInt8) (acc m : Nat), Lib.parseUintM M acc xs = .ok m → Lib.parseUintM M acc (xs ++ ys) = Lib.parseUintM M m ys
  | [], ys, acc, m, h => by
    have : acc = m := by simpa [Lib.parseUintM] using h
    rw [this]
    rfl
  | c :: xs, ys, acc, m, h => by
    rw [List.cons_append]
    unfold Lib.parseUintM at h ⊢
    by_cases hd : 48 ≤ c.toNat ∧ c.toNat ≤ 57
    · rw [if_pos hd] at h ⊢
      by_cases h1 : 1844674407370955162 ≤ acc
      · rw [if_pos h1] at h; cases h
      rw [if_neg h1] at h ⊢
      by_cases h2 : M < acc * 10 + (c.toNat - 48)
      · rw [if_pos h2] at h; cases h
      rw [if_neg h2] at h ⊢
      exact (parseM_append hM xs ys _ m h).trans (by cases ys <;> rfl)
    · rw [if_neg hd] at h; cases h
theorem parseM_num {M : Nat} (hM : M ≤ 1000000) : ∀ (n : Nat), n ≤ M → Lib.parseUintM M 0 (numT 10 n) = .ok n := by
  intro n
  induction n using Nat.strongRecOn with
  | ind n ih =>
    intro hn
    by_cases hs : n < 10
    · rw [numT_small hs]
      obtain ⟨a, b, c⟩ := dec_dig ⟨n, hs⟩
      simp only at a b c
      unfold Lib.parseUintM
      rw [if_pos ⟨a, b⟩, if_neg (by omega), c, if_neg (by omega)]
      simp [Lib.parseUintM]
    · rw [numT_step hs (by omega), parseM_append hM _ _ _ _ (ih (n / 10) (Nat.div_lt_self (by omega) (by omega)) (by omega))]
      obtain ⟨a, b, c⟩ := dec_dig ⟨n % 10, Nat.mod_lt _ (by omega)⟩
      simp only at a b c
      unfold Lib.parseUintM
      rw [if_pos ⟨a, b⟩, if_neg (by omega), c, if_neg (by omega)]
      simp only [Lib.parseUintM, Lib.NumEnd.ok.injEq]
      omega
theorem parseM_le {M : Nat} : ∀ (xs : List UInt8) (acc m : Nat), acc ≤ M → Lib.parseUintM M acc xs = .ok m → m ≤ M
  | [], acc, m, h0, h => by
    have : acc = m := by simpa [Lib.parseUintM] using h
    omega
  | c :: xs, acc, m, h0, h => by
    unfold Lib.parseUintM at h
    by_cases hd : 48 ≤ c.toNat ∧ c.toNat ≤ 57
    · rw [if_pos hd] at h
      by_cases h1 : 1844674407370955162 ≤ acc
      · rw [if_pos h1] at h; cases h
      rw [if_neg h1] at h
      by_cases h2 : M < acc * 10 + (c.toNat - 48)
      · rw [if_pos h2] at h; cases h
      rw [if_neg h2] at h
      exact parseM_le xs _ m (by omega) h
    · rw [if_neg hd] at h; cases h

/-- What is read of one part, to a base: 10 (a byte) or 16 (two bytes). -/
def toO : Lib.NumEnd Nat → Option Nat
  | .ok n => some n
  | _ => none
def endB (base : Nat) (s : List UInt8) : Lib.NumEnd Nat := if base = 10 then Lib.parseUintB 8 s else if s = [] then .syntax else parse16 0 s
def partO (base : Nat) (s : List UInt8) : Option Nat := toO (endB base s)
def mostB (base : Nat) : Nat := if base = 10 then 255 else 65535
theorem partO_num {base n : Nat} (hb : base = 10 ∨ base = 16) (hn : n ≤ mostB base) : partO base (numT base n) = some n := by
  rcases hb with rfl | rfl
  · unfold partO endB
    rw [if_pos rfl]
    unfold Lib.parseUintB
    rw [if_neg (numT_ne (by omega)), parseM_num (by omega) n (by simpa [mostB] using hn)]
    rfl
  · unfold partO endB
    rw [if_neg (by omega), if_neg (numT_ne (by omega)), parse16_num n (by simpa [mostB] using hn)]
    rfl
theorem partO_le {base n : Nat} {s : List UInt8} (hb : base = 10 ∨ base = 16) (h : partO base s = some n) : n ≤ mostB base := by
  unfold partO endB at h
  rcases hb with rfl | rfl
  · rw [if_pos rfl] at h
    unfold Lib.parseUintB at h
    split at h
    · cases h
    · cases hp : Lib.parseUintM (2 ^ 8 - 1) 0 s with
      | ok m =>
        rw [hp] at h
        have : m = n := by simpa [toO] using h
        have := parseM_le s 0 m (by omega) hp
        simp [mostB]
        omega
      | _ => rw [hp] at h; cases h
  · rw [if_neg (by omega)] at h
    split at h
    · cases h
    · cases hp : parse16 0 s with
      | ok m =>
        rw [hp] at h
        have : m = n := by simpa [toO] using h
        have := parse16_le s 0 m (by omega) hp
        simp [mostB]
        omega
      | _ => rw [hp] at h; cases h
/-- All parts. -/
def allO (base : Nat) : List (List UInt8) → Option (List Nat)
  | [] => some []
  | x :: l => match partO base x with
    | none => none
    | some n => (allO base l).map (n :: ·)
theorem allO_nums {base : Nat} (hb : base = 10 ∨ base = 16) : ∀ (ns : List Nat), (∀ n ∈ ns, n ≤ mostB base) → allO base (ns.map (numT base)) = some ns
  | [], _ => rfl
  | n :: ns, h => by
    rw [List.map_cons]
    unfold allO
    rw [partO_num hb (h n (by simp)), allO_nums hb ns (fun x hx => h x (by simp [hx]))]
    rfl
theorem allO_le {base : Nat} (hb : base = 10 ∨ base = 16) : ∀ {xs : List (List UInt8)} {ns : List Nat}, allO base xs = some ns → ns.length = xs.length ∧ ∀ n ∈ ns, n ≤ mostB base
  | [], ns, h => by
    have : ns = [] := by simpa [allO] using h.symm
    subst this
    simp
  | x :: xs, ns, h => by
    unfold allO at h
    cases hp : partO base x with
    | none => rw [hp] at h; cases h
    | some n =>
      rw [hp] at h
      cases ha : allO base xs with
      | none => rw [ha] at h; cases h
      | some ms =>
        rw [ha] at h
        have : ns = n :: ms := by simpa using h.symm
        subst this
        obtain ⟨h1, h2⟩ := allO_le hb ha
        exact ⟨by simp [h1], fun m hm => by
          rcases List.mem_cons.1 hm with rfl | hm
          · exact partO_le hb hp
          · exact h2 m hm⟩
/-- The numbers of a text. -/
def numsO (base : Nat) (c : UInt8) (s : List UInt8) : Option (List Nat) := if s = [] then some [] else allO base (splitL c s)
theorem joinT_ne {c : UInt8} {x : List UInt8} {l : List (List UInt8)} (h : x ≠ []) : joinT c (x :: l) ≠ [] := by
  cases l with
  | nil => exact h
  | cons y l => simp [joinT]
theorem numsO_join {base : Nat} {c : UInt8} (hb : base = 10 ∨ base = 16) (hc : c = 46 ∨ c = 58 ∨ c = 47) (ns : List Nat) (h : ∀ n ∈ ns, n ≤ mostB base) : numsO base c (joinT c (ns.map (numT base))) = some ns := by
  have hb2 : 2 ≤ base ∧ base ≤ 16 := by omega
  unfold numsO
  cases ns with
  | nil => rfl
  | cons n ns =>
    rw [if_neg (by rw [List.map_cons]; exact joinT_ne (numT_ne hb2.1)), splitL_join _ (by simp), allO_nums hb _ h]
    intro x hx
    obtain ⟨m, _, rfl⟩ := List.mem_map.1 hx
    have := numT_sign (n := m) hb2.1 hb2.2
    rcases hc with rfl | rfl | rfl
    · exact this.1
    · exact this.2.1
    · exact this.2.2
end Go.Proofs.YticikknfkkmoaaaDoor

namespace Go.Proofs.YticikknfkkmoaaaDoor
open Go.ChangeShapes Go.WideShapes Go.ChangeAt Go.RowKit

set_option maxRecDepth 100000 in
theorem or32 (c : UInt8) : bits .or .u8 (c.toNat : Int) 32 = ((c.toNat ||| 32 : Nat) : Int) := by
  have h : ∀ k : Fin 256, bits .or .u8 (k.val : Int) 32 = ((k.val ||| 32 : Nat) : Int) := by decide
  exact h ⟨c.toNat, c.toNat_lt⟩

set_option maxHeartbeats 32000000 in
set_option maxRecDepth 100000 in
theorem pu16_in (t : ByteArray) (hne : t.size ≠ 0) (hmax : t.size ≤ 9223372036854775806) (w : World) :
    Calls Tryd.prog 55 #[.string t, .int .i64 16, .int .i64 16] w fun e w' => e = .returned (Lib.uintTupleM 83 65535 (parse16 0 t.data.toList)) ∧ w' = Lib.bytesWorld w 5 t := by
  have hemp : t.toList.isEmpty = false := by
    rw [← decide_eq_emptyBytes]
    exact decide_eq_false (fun h => hne (by rw [h]; rfl))
  have hcv := Lib.run_convert_string_bytes (P := Tryd.prog) w 9 77 5 t (u := .string) Tryd.underlying9 Tryd.underlying77 Tryd.underlying5
  have hB : ∀ j, j < t.size → (Lib.bytesWorld w 5 t).cell? ⟨w.heap.size, j, none⟩ = some (.int .u8 (t.data.toList.getD j 0).toNat) := fun j hj => Lib.bytesWorld_cell w 5 t j hj
  obtain ⟨W1, hW1⟩ : ∃ W1, W1 = Lib.bytesWorld w 5 t := ⟨_, rfl⟩
  rw [← hW1] at hcv hB ⊢
  clear hW1
  obtain ⟨bs, hL⟩ : ∃ bs, bs = t.data.toList := ⟨_, rfl⟩
  have hLn : bs.length = t.size := by rw [hL, Lib.size_eq]
  rw [← hL] at hB ⊢
  clear hL
  have hmv : IntKind.u64.wrap (IntKind.u64.wrap 65536 - 1) = 65535 := by
    rw [IntKind.wrap_u64, IntKind.wrap_u64]
    decide
  go_enter Tryd.func55, Tryd.ntmps55
  go_wp2
  go_loop [12, 13, 101] (fun vu vn vi => ∃ (k acc : Nat) (a : Int), vu = .bool false ∧ vn = .int .u64 a ∧ vi = .int .i64 k ∧ k ≤ t.size ∧ Hid (a = (acc : Int) ∧ acc ≤ 65535 ∧ parse16 0 bs = parse16 acc (bs.drop k)))
    (fun _ _ vi => t.size - (intOf vi).toNat)
  case atStart => exact ⟨0, 0, 0, rfl, rfl, rfl, by omega, rfl, by omega, rfl⟩
  case round =>
    obtain ⟨k, acc, a, rfl, rfl, rfl, hk, hh⟩ := hrel
    obtain ⟨ha, hacc, hdec⟩ := hh.out
    clear hh
    have a0 : 0 ≤ a := by omega
    have a1 : a ≤ 65535 := by omega
    by_cases hkn : k < t.size
    · have hc := hB k hkn
      have hdrop : bs.drop k = bs[k]'(by omega) :: bs.drop (k + 1) := List.drop_eq_getElem_cons (by omega)
      have hget : bs.getD k 0 = bs[k]'(by omega) := by simp [List.getD, List.getElem?_eq_getElem (show k < bs.length by omega)]
      rw [hdrop] at hdec
      rw [hget] at hc
      generalize bs[k]'(by omega) = c at hc hdec
      have hc256 : c.toNat < 256 := c.toNat_lt
      clear hB hdrop hget
      by_cases hdig : 48 ≤ c.toNat ∧ c.toNat ≤ 57
      · obtain ⟨hd0, hd1⟩ := hdig
        have hx : hexD c = some (c.toNat - 48) := by unfold hexD; rw [if_pos ⟨hd0, hd1⟩]
        by_cases hov : 65535 < acc * 16 + (c.toNat - 48)
        · have hF : parse16 acc (c :: bs.drop (k + 1)) = .range := by
            unfold parse16
            rw [hx]
            simp only
            rw [if_neg (by omega), if_pos hov]
          rw [hF] at hdec
          have iov : 65535 < a * 16 + ((c.toNat : Int) - 48) := by omega
          clear hacc hF hov ha hx
          go_wp2
          go_ret2
          exact ⟨rfl, rfl⟩
        · have hF : parse16 acc (c :: bs.drop (k + 1)) = parse16 (acc * 16 + (c.toNat - 48)) (bs.drop (k + 1)) := by
            rw [parse16, hx]
            simp only
            rw [if_neg (by omega), if_neg hov]
          have HN : Hid (a * 16 + ((c.toNat : Int) - 48) = ((acc * 16 + (c.toNat - 48) : Nat) : Int) ∧ acc * 16 + (c.toNat - 48) ≤ 65535 ∧ parse16 0 bs = parse16 (acc * 16 + (c.toNat - 48)) (bs.drop (k + 1))) := Lib.hid ⟨by omega, by omega, hdec.trans hF⟩
          have iov : a * 16 + ((c.toNat : Int) - 48) ≤ 65535 := by omega
          clear hacc hF hov hdec ha hx
          go_wp2
          refine ⟨⟨k + 1, acc * 16 + (c.toNat - 48), a * 16 + ((c.toNat : Int) - 48), rfl, (by first | rfl | (congr 1; omega)), (by first | rfl | (congr 1; omega)), by omega, HN⟩, by simp [intOf]; omega⟩
      · by_cases h95 : c.toNat = 95
        · have hx : hexD c = none := by
            unfold hexD
            rw [h95]
            decide
          have hF : parse16 acc (c :: bs.drop (k + 1)) = .syntax := by
            unfold parse16
            rw [hx]
          rw [hF] at hdec
          rw [h95] at hc
          have hlw : bits .or .u8 95 32 = 127 := by decide
          clear hacc hF ha hx hdig h95 hc256
          go_wp2_with (go_at_call 72; refine (Tryd.internal_strconv_lower _ _).mono ?_; rintro e w' ⟨rfl, rfl⟩)
          all_goals go_ret2
          all_goals first | exact ⟨rfl, rfl⟩ | exact ⟨by rw [hdec]; rfl, rfl⟩
        · have CLw : ∀ w, Calls Tryd.prog 72 #[.int .u8 (c.toNat : Int)] w fun e w' => e = .returned (.int .u8 ((c.toNat ||| 32 : Nat) : Int)) ∧ w' = w := fun w => by
            have := Tryd.internal_strconv_lower (c.toNat : Int) w
            rwa [or32] at this
          have hxx : hexD c = if 97 ≤ c.toNat ||| 32 ∧ c.toNat ||| 32 ≤ 122 then some ((c.toNat ||| 32) - 87) else none := by unfold hexD; rw [if_neg hdig]
          generalize c.toNat ||| 32 = lv at CLw hxx
          have CL := Lib.hid CLw
          have hn95 : ¬ (c.toNat : Int) = 95 := by omega
          have hdi : ¬ (48 ≤ (c.toNat : Int) ∧ (c.toNat : Int) ≤ 57) := by omega
          clear CLw
          by_cases hlet : 97 ≤ lv ∧ lv ≤ 122
          · rw [if_pos hlet] at hxx
            obtain ⟨l0, l1⟩ := hlet
            have hw1 : IntKind.u8.wrap ((lv : Int) - 97) = (lv : Int) - 97 := by rw [IntKind.wrap_u8]; omega
            have hw2 : IntKind.u8.wrap ((lv : Int) - 97 + 10) = (lv : Int) - 97 + 10 := by rw [IntKind.wrap_u8]; omega
            by_cases h16 : 16 ≤ lv - 87
            · have hF : parse16 acc (c :: bs.drop (k + 1)) = .syntax := by
                unfold parse16
                rw [hxx]
                simp only
                rw [if_pos h16]
              rw [hF] at hdec
              have i16 : 16 ≤ (lv : Int) - 97 + 10 := by omega
              clear hacc hF ha hxx h16
              go_wp2_with (go_at_call 72; refine (CL.out _).mono ?_; rintro e w' ⟨rfl, rfl⟩)
              all_goals go_ret2
              all_goals first | exact ⟨rfl, rfl⟩ | exact ⟨by rw [hdec]; rfl, rfl⟩
            · by_cases hov : 65535 < acc * 16 + (lv - 87)
              · have hF : parse16 acc (c :: bs.drop (k + 1)) = .range := by
                  unfold parse16
                  rw [hxx]
                  simp only
                  rw [if_neg h16, if_pos hov]
                rw [hF] at hdec
                have i16 : (lv : Int) - 97 + 10 < 16 := by omega
                have iov : 65535 < a * 16 + ((lv : Int) - 97 + 10) := by omega
                clear hacc hF hov ha hxx h16
                go_wp2_with (go_at_call 72; refine (CL.out _).mono ?_; rintro e w' ⟨rfl, rfl⟩)
                all_goals go_ret2
                all_goals first | exact ⟨rfl, rfl⟩ | exact ⟨by rw [hdec]; rfl, rfl⟩
              · have hF : parse16 acc (c :: bs.drop (k + 1)) = parse16 (acc * 16 + (lv - 87)) (bs.drop (k + 1)) := by
                  rw [parse16, hxx]
                  simp only
                  rw [if_neg h16, if_neg hov]
                have HN : Hid (a * 16 + ((lv : Int) - 97 + 10) = ((acc * 16 + (lv - 87) : Nat) : Int) ∧ acc * 16 + (lv - 87) ≤ 65535 ∧ parse16 0 bs = parse16 (acc * 16 + (lv - 87)) (bs.drop (k + 1))) := Lib.hid ⟨by omega, by omega, hdec.trans hF⟩
                have i16 : (lv : Int) - 97 + 10 < 16 := by omega
                have iov : a * 16 + ((lv : Int) - 97 + 10) ≤ 65535 := by omega
                clear hacc hF hov hdec ha hxx h16
                go_wp2_with (go_at_call 72; refine (CL.out _).mono ?_; rintro e w' ⟨rfl, rfl⟩)
                all_goals refine ⟨⟨k + 1, acc * 16 + (lv - 87), a * 16 + ((lv : Int) - 97 + 10), rfl, (by first | rfl | (congr 1; omega)), (by first | rfl | (congr 1; omega)), by omega, HN⟩, by simp [intOf]; omega⟩
          · rw [if_neg hlet] at hxx
            have hF : parse16 acc (c :: bs.drop (k + 1)) = .syntax := by
              unfold parse16
              rw [hxx]
            rw [hF] at hdec
            have hli : ¬ (97 ≤ (lv : Int) ∧ (lv : Int) ≤ 122) := by omega
            clear hacc hF ha hxx hlet
            go_wp2_with (go_at_call 72; refine (CL.out _).mono ?_; rintro e w' ⟨rfl, rfl⟩)
            all_goals go_ret2
            all_goals first | exact ⟨rfl, rfl⟩ | exact ⟨by rw [hdec]; rfl, rfl⟩
    · have hkk : k = t.size := by omega
      subst hkk
      have hF : parse16 acc (bs.drop t.size) = .ok acc := by rw [List.drop_eq_nil_of_le (by omega)]; rfl
      rw [hF] at hdec
      subst ha
      clear hacc hF a0 a1
      go_wp2
      go_ret2
      exact ⟨rfl, rfl⟩
end Go.Proofs.YticikknfkkmoaaaDoor

namespace Go.Proofs.YticikknfkkmoaaaDoor
open Go.ChangeShapes Go.WideShapes Go.ChangeAt Go.RowKit

/-- The library's two errors are laid. -/
def Errs (w : World) : Prop := (∃ a, w.cell? ⟨1, 0, none⟩ = some a ∧ (a = .nilIface ∨ ∃ te pe, a = .iface te pe)) ∧ ∃ a, w.cell? ⟨2, 0, none⟩ = some a ∧ (a = .nilIface ∨ ∃ te pe, a = .iface te pe)
theorem Errs.below {w w' : World} (h : Errs w) (hb : Below w.heap.size w w') : Errs w' := by
  obtain ⟨⟨a, h1, h2⟩, b, h3, h4⟩ := h
  exact ⟨⟨a, (hb.cell (Lib.lt_of_cell h1)).trans h1, h2⟩, b, (hb.cell (Lib.lt_of_cell h3)).trans h3, h4⟩
def PuRet (base : Nat) (s : List UInt8) (e : Ending) : Prop := match partO base s with
  | some n => e = .returned (.tuple #[.int .u64 n, .nilIface])
  | none => ∃ z t p, e = .returned (.tuple #[.int .u64 z, .iface t p])
theorem puRet_ok {base n : Nat} {s : List UInt8} (h : endB base s = .ok n) : PuRet base s (.returned (.tuple #[.int .u64 n, .nilIface])) := by
  unfold PuRet partO
  rw [h]
  exact rfl
theorem puRet_bad {base : Nat} {s : List UInt8} (h : endB base s = .syntax ∨ endB base s = .range) (z : Int) (t : TypeId) (p : Value) : PuRet base s (.returned (.tuple #[.int .u64 z, .iface t p])) := by
  unfold PuRet partO
  rcases h with h | h <;> rw [h] <;> exact ⟨_, _, _, rfl⟩
theorem bytesOr {w w' : World} {t : TypeId} {s : ByteArray} (h : w' = w ∨ w' = Lib.bytesWorld w t s) : Below w.heap.size w w' := by
  rcases h with rfl | rfl
  · exact Below.refl _ _
  · exact Lib.bytesWorld_below _ _ _
theorem pu10_any (s : ByteArray) (hs : s.size ≤ 1000) (w : World) (he : Errs w) : Calls Tryd.prog 40 #[.string s, .int .i64 10, .int .i64 8] w fun e w' => PuRet 10 s.data.toList e ∧ Below w.heap.size w w' := by
  obtain ⟨⟨a, h1, h2⟩, b, h3, h4⟩ := he
  have hd : endB 10 s.data.toList = Lib.parseUintB 8 s.data.toList := rfl
  cases hp : Lib.parseUintB 8 s.data.toList with
  | ok n => exact (Tryd.strconv_ParseUint_10_at8_ok s (by omega) n hp w).mono fun e w' ⟨h, hw⟩ => ⟨by rw [h]; exact puRet_ok (by rw [hd, hp]), bytesOr hw⟩
  | «syntax» => exact (Tryd.strconv_ParseUint_10_at8_syntax s (by omega) hp a w h1 h2).mono fun e w' ⟨N, h, _, _, hb⟩ => ⟨by rw [h]; exact puRet_bad (.inl (by rw [hd, hp])) _ _ _, hb⟩
  | range => exact (Tryd.strconv_ParseUint_10_at8_range s (by omega) hp b w h3 h4).mono fun e w' ⟨N, h, _, _, hb⟩ => ⟨by rw [h]; exact puRet_bad (.inr (by rw [hd, hp])) _ _ _, hb⟩
theorem pu16_all (s : ByteArray) (hs : s.size ≤ 1000) (w : World) :
    Calls Tryd.prog 55 #[.string s, .int .i64 16, .int .i64 16] w fun e w' => e = .returned (Lib.uintTupleM 83 65535 (endB 16 s.data.toList)) ∧ Below w.heap.size w w' := by
  by_cases hz : s.size = 0
  · obtain rfl : s = ⟨#[]⟩ := by
      obtain ⟨d⟩ := s
      have : d.size = 0 := hz
      rw [Array.size_eq_zero_iff] at this
      rw [this]
    exact (Tryd.internal_strconv_ParseUint_empty 16 16 w).mono fun e w' ⟨h, hw⟩ => ⟨by rw [h]; rfl, by rw [hw]; exact Below.refl _ _⟩
  · refine (pu16_in s hz (by omega) w).mono fun e w' ⟨h, hw⟩ => ⟨?_, by rw [hw]; exact Lib.bytesWorld_below _ _ _⟩
    rw [h]
    unfold endB
    rw [if_neg (by omega), if_neg (fun h0 => hz (by rw [Lib.size_eq, h0]; rfl))]
set_option maxHeartbeats 4000000 in
set_option maxRecDepth 100000 in
theorem pu16_any (s : ByteArray) (hs : s.size ≤ 1000) (w : World) (he : Errs w) : Calls Tryd.prog 40 #[.string s, .int .i64 16, .int .i64 16] w fun e w' => PuRet 16 s.data.toList e ∧ Below w.heap.size w w' := by
  have CI := pu16_all s hs w
  cases hp : endB 16 s.data.toList with
  | ok n =>
    rw [hp] at CI
    have HP := Lib.hid (puRet_ok hp)
    have CJ := Lib.hid CI
    unfold Lib.uintTupleM at CJ
    clear CI hp he
    go_enter Tryd.func40, Tryd.ntmps40
    go_wp2_with fail
    refine CJ.out.mono ?_
    rintro e w1 ⟨rfl, hb1⟩
    have HB := Lib.hid hb1
    clear hb1
    go_wp2
    go_ret2
    exact ⟨HP.out, HB.out⟩
  | «syntax» =>
    rw [hp] at CI
    have HP := Lib.hid (fun z t p => puRet_bad (.inl hp) z t p)
    have CJ := Lib.hid CI
    unfold Lib.uintTupleM at CJ
    have CE := Lib.hid (fun (w' : World) (hb : Below w.heap.size w w') => (he.below hb).1)
    clear CI hp he
    go_enter Tryd.func40, Tryd.ntmps40
    go_wp2_with fail
    refine CJ.out.mono ?_
    rintro e w1 ⟨rfl, hb1⟩
    have HB := Lib.hid hb1
    obtain ⟨a, h1, h2⟩ := CE.out w1 hb1
    have CT := Lib.hid (Tryd.strconv_toError_syntax ⟨#[80, 97, 114, 115, 101, 85, 105, 110, 116]⟩ s 16 16 a w1 (by omega) h1 h2)
    clear hb1 h1 h2
    go_wp2_with fail
    refine CT.out.mono ?_
    rintro e w2 ⟨N, rfl, -, -, hb2⟩
    have HB2 := Lib.hid (below_step HB.out hb2)
    clear hb2
    go_wp2
    go_ret2
    exact ⟨HP.out _ _ _, HB2.out⟩
  | range =>
    rw [hp] at CI
    have HP := Lib.hid (fun z t p => puRet_bad (.inr hp) z t p)
    have CJ := Lib.hid CI
    unfold Lib.uintTupleM at CJ
    have CE := Lib.hid (fun (w' : World) (hb : Below w.heap.size w w') => (he.below hb).2)
    clear CI hp he
    go_enter Tryd.func40, Tryd.ntmps40
    go_wp2_with fail
    refine CJ.out.mono ?_
    rintro e w1 ⟨rfl, hb1⟩
    have HB := Lib.hid hb1
    obtain ⟨a, h1, h2⟩ := CE.out w1 hb1
    have CT := Lib.hid (Tryd.strconv_toError_range ⟨#[80, 97, 114, 115, 101, 85, 105, 110, 116]⟩ s 16 16 a w1 (by omega) h1 h2)
    clear hb1 h1 h2
    go_wp2_with fail
    refine CT.out.mono ?_
    rintro e w2 ⟨N, rfl, -, -, hb2⟩
    have HB2 := Lib.hid (below_step HB.out hb2)
    clear hb2
    go_wp2
    go_ret2
    exact ⟨HP.out _ _ _, HB2.out⟩
def bitsB (base : Nat) : Nat := if base = 10 then 8 else 16
theorem pu_any {base : Nat} (hb : base = 10 ∨ base = 16) (s : ByteArray) (hs : s.size ≤ 1000) (w : World) (he : Errs w) : Calls Tryd.prog 40 #[.string s, .int .i64 base, .int .i64 (bitsB base)] w fun e w' => PuRet base s.data.toList e ∧ Below w.heap.size w w' := by
  rcases hb with rfl | rfl
  · exact pu10_any s hs w he
  · exact pu16_any s hs w he
end Go.Proofs.YticikknfkkmoaaaDoor

namespace Go.Proofs.YticikknfkkmoaaaDoor
open Go.ChangeShapes Go.WideShapes Go.ChangeAt Go.RowKit

theorem infoStr : (Tryd.prog.info? 9).map (fun i => (i.zero, i.size, i.bytes)) = some (some (.string ⟨#[]⟩), 1, 16) := by kernel_rfl
def strV (l : List UInt8) : Value := .string ⟨l.toArray⟩
theorem join_tail (s : UInt8) : ∀ (x : List UInt8) (l : List (List UInt8)), joinT s (x :: l) = x ++ Lib.joinTail [s] l
  | x, [] => by simp [joinT, Lib.joinTail]
  | x, y :: l => by
    show x ++ [s] ++ joinT s (y :: l) = _
    rw [join_tail s y l]
    simp [Lib.joinTail]
theorem join_eq (s : UInt8) (l : List (List UInt8)) : Lib.join l [s] = joinT s l := by
  cases l with
  | nil => rfl
  | cons x l => rw [Lib.join_cons, join_tail]
theorem joinT_len (s : UInt8) (k : Nat) : ∀ (l : List (List UInt8)), (∀ x ∈ l, x.length ≤ k) → (joinT s l).length ≤ (k + 1) * l.length
  | [], _ => by simp [joinT]
  | [x], h => by have := h x (by simp); simp [joinT]; omega
  | x :: y :: l, h => by
    have h1 := h x (by simp)
    have h2 := joinT_len s k (y :: l) (fun z hz => h z (by simp at hz ⊢; right; exact hz))
    show (x ++ [s] ++ joinT s (y :: l)).length ≤ _
    rw [List.length_append, List.length_append, List.length_cons (a := x), Nat.mul_succ]
    simp only [List.length_cons, List.length_nil] at h2 ⊢
    omega
/-- strings.Join of a row of strings of the call's own. -/
theorem join_own {w : World} {base n : Nat} {v : Value} {l : List (List UInt8)} (s : UInt8) (h : w.ownsRow base 9 1 v n (l.map strV)) (hl : ∀ x ∈ l, x.length ≤ 100) (hn : l.length ≤ 100) :
    Calls Tryd.prog 23 #[v, .string ⟨#[s]⟩] w fun e w' => e = .returned (.string ⟨(joinT s l).toArray⟩) ∧ Below w.heap.size w w' := by
  have hlen : l.length = n := by have := h.1; simpa using this
  rcases h.2 with ⟨rfl, h0⟩ | ⟨g, cap, cur, rfl, hb, hh, hc, hm, hs, ht⟩
  · have : l = [] := by
      have : n = 0 := h0
      exact List.eq_nil_of_length_eq_zero (by omega)
    subst this
    refine (Tryd.strings_Join_none none 0 ⟨#[s]⟩ w).mono ?_
    rintro e w' ⟨rfl, rfl⟩
    exact ⟨rfl, Below.refl _ _⟩
  · have hx : (l.map fun x => (⟨x.toArray⟩ : ByteArray)).length = n := by rw [List.length_map]; exact hlen
    have hmap : (l.map fun x => (⟨x.toArray⟩ : ByteArray)).map (·.data.toList) = l := by rw [List.map_map]; simp [Function.comp_def]
    have hj := Tryd.strings_Join g 0 cap (l.map fun x => (⟨x.toArray⟩ : ByteArray)) ⟨#[s]⟩ w (fun j x hj => by
      rw [List.getElem?_map] at hj
      cases hl2 : l[j]? with
      | none => rw [hl2] at hj; cases hj
      | some y =>
        rw [hl2] at hj
        injection hj with hj
        subst hj
        have hjn : j < n := by have := (List.getElem?_eq_some_iff.1 hl2).1; omega
        have h2 : (cur.toList.take (n * 1))[j]? = (l.map strV)[j]? := by rw [ht]
        rw [List.getElem?_take_of_lt (by omega), List.getElem?_map, hl2, Array.getElem?_toList] at h2
        rw [Nat.zero_add, cell_of_row w g j cur _ (0, 0) hh, h2]
        rfl) (Array.getElem?_eq_some_iff.1 hh).1 (by rw [hx]; omega) (by rw [hx]; exact hc) (by
      rw [hmap]
      have e := join_eq s l
      have := joinT_len s 100 l hl
      rw [show (⟨#[s]⟩ : ByteArray).data.toList = [s] from rfl, e]
      have : 101 * l.length ≤ 101 * 100 := Nat.mul_le_mul_left _ hn
      omega)
    rw [hx, hmap, show (⟨#[s]⟩ : ByteArray).data.toList = [s] from rfl, join_eq] at hj
    exact hj

theorem num16_len (n : Nat) (h : n < 65536) : (numT 16 n).length ≤ 4 := by
  have := numT_length 16 (by omega) 4 n (by rw [show (16 : Nat) ^ 4 = 65536 by decide]; exact h)
  simpa using this
set_option maxRecDepth 100000 in
set_option maxHeartbeats 1600000 in
theorem hex_any {w : World} {n c : Nat} {A : Option Addr} {g : List Int} (hz : g.length = n) (hn : n ≤ 8) (hg : ∀ x ∈ g, 0 ≤ x ∧ x < 65536) (hr : Reads w w.heap.size 1 A n (g.map (Value.int .u64))) (ht : Tabs w) :
    Calls Tryd.prog 26 #[.slice A n c] w fun e w' => e = .returned (.string ⟨(hexT g).toArray⟩) ∧ Below w.heap.size w w' := by
  have HZ := Lib.hid hz
  have HG := Lib.hid hg
  have HR := Lib.hid hr
  have CF := Lib.hid (fun (u : Nat) (hu : u < 65536) (W : World) (hb : Below w.heap.size w W) => format_any 16 u (.inr rfl) hu W (ht.below hb))
  clear hz hg hr ht
  go_enter Tryd.func26, Tryd.ntmps26
  go_wp2
  go_loopw [8, 3] (fun i v wr => ∃ j : Nat, j ≤ n ∧ i = .int .i64 j ∧ Hid (wr.ownsRow w.heap.size 9 1 v j ((g.take j).map fun x => strV (numT 16 x.toNat))) ∧ Hid (Below w.heap.size w wr)) (fun i _ _ => n - (RowKit.intOf i).toNat)
  case atStart => exact ⟨0, by omega, rfl, World.ownsRow_nil _ _ _ _, Below.refl _ _⟩
  case round =>
    obtain ⟨j, hj, rfl, hrow, hb⟩ := hrel
    obtain ⟨wo, rfl⟩ : ∃ wo : World, wo = wr := ⟨_, rfl⟩
    have hs := hb.out.size
    by_cases hlt : j < n
    · obtain ⟨ad, x, rfl, hx, htk, -, hm⟩ := HR.out.at1 hlt
      have hbl : ad.block < w.heap.size := by
        obtain ⟨ad', e1, hb', _⟩ := HR.out.2 (by omega)
        injection e1 with e1
        rw [e1]; exact hb'
      have q0 := (hb.out.cell (p := ad.add j) (by rw [block_of_add]; exact hbl)).trans hx
      have hxr := HG.out x hm
      obtain ⟨u, rfl⟩ : ∃ u : Nat, x = u := ⟨x.toNat, by omega⟩
      have CC := Lib.hid (CF.out u (by omega) wo hb.out)
      have HTK : Hid ((g.take (j + 1)).map (fun x => strV (numT 16 x.toNat)) = (g.take j).map (fun x => strV (numT 16 x.toNat)) ++ [strV (numT 16 u)]) := by show _ = _; rw [htk, List.map_append]; rfl
      clear htk hm hx
      go_wp2_with fail
      refine CC.out.mono ?_
      rintro e w4 ⟨rfl, hb4⟩
      have HO4 := Lib.hid (own_below hrow.out hb4)
      have HB4 := Lib.hid (below_step hb.out hb4)
      have hs4 : w.heap.size ≤ w4.heap.size := by have := hb4.size; omega
      clear hb4 CC
      simp only
      go_wp2_with (at_builtin; go_loud (refine wpList_append_oneN (us := [strV (numT 16 u)]) rfl _ _ 58 rfl w.heap.size _ 1 16 Tryd.underlying58 infoStr rfl (by decide) _ _ _ rfl rfl rfl HO4.out hs4 rfl (by intro u hu; simp at hu; subst hu; rfl) (by unfold maxLen; omega) (by omega) ?_))
      intro v5 w5 hown5 hb5 hs5 hk5
      have HO5 : Hid (w5.ownsRow w.heap.size 9 1 v5 (j + 1) ((g.take (j + 1)).map fun x => strV (numT 16 x.toNat))) := by
        show World.ownsRow _ _ _ _ _ _ _
        rw [HTK.out]
        simpa only [List.map_take] using hown5
      have HB5 := Lib.hid (HB4.out.trans hb5)
      clear hown5 hb5 hk5
      go_wp2
      go_roundw
      case rel => exact ⟨j + 1, by omega, by go_num, HO5.out, HB5.out⟩
      case measure => simp [RowKit.intOf]; omega
    · obtain rfl : j = n := by omega
      have e0 : g.take j = g := List.take_of_length_le (by rw [HZ.out]; exact Nat.le_refl _)
      have hrow2 := hrow.out
      rw [e0] at hrow2
      have CJ := join_own (l := g.map fun x => numT 16 x.toNat) 58 (by rw [List.map_map]; exact hrow2) (fun x hx => by
        obtain ⟨y, hy, rfl⟩ := List.mem_map.1 hx
        have h1 := HG.out y hy
        have := num16_len y.toNat (by omega)
        omega) (by rw [List.length_map, HZ.out]; omega)
      have HCJ := Lib.hid CJ
      clear CJ hrow2 hrow e0
      go_wp2_with fail
      refine HCJ.out.mono ?_
      rintro e w6 ⟨rfl, hb6⟩
      have HB6 := Lib.hid (below_step hb.out hb6)
      clear hb6
      go_wp2
      go_ret
      exact ⟨rfl, HB6.out⟩

end Go.Proofs.YticikknfkkmoaaaDoor

namespace Go.Proofs.YticikknfkkmoaaaDoor
open Go.ChangeShapes Go.WideShapes Go.ChangeAt Go.RowKit

/-- What is laid of the library's variables. -/
def Glo (w : World) : Prop := (∃ m, w.cell? ⟨0, 0, none⟩ = some (.int .i64 m)) ∧ Errs w ∧ Tabs w
theorem Glo.below {w w' : World} (h : Glo w) (hb : Below w.heap.size w w') : Glo w' := by
  obtain ⟨⟨m, h1⟩, h2, h3⟩ := h
  exact ⟨⟨m, (hb.cell (Lib.lt_of_cell h1)).trans h1⟩, h2.below hb, h3.below hb⟩
theorem infoU64N : (Tryd.prog.info? 22).map (fun i => (i.zero, i.size, i.bytes)) = some (some (.int .u64 0), 1, 8) := by kernel_rfl
def u64V (n : Nat) : Value := .int .u64 (n : Int)
def NumsRet (w : World) (base : Nat) (c : UInt8) (s : List UInt8) (e : Ending) (w' : World) : Prop :=
  ∃ v l fine, e = .returned (.tuple #[v, .bool fine]) ∧ w'.ownsRow w.heap.size 22 1 v l.length (l.map u64V) ∧ l.length ≤ 1000 ∧ ((fine = true ∧ numsO base c s = some l) ∨ (fine = false ∧ numsO base c s = none ∧ l = [])) ∧ Below w.heap.size w w'
theorem allO_snoc {base : Nat} : ∀ {xs : List (List UInt8)} {ns : List Nat} {x : List UInt8} {n : Nat}, allO base xs = some ns → partO base x = some n → allO base (xs ++ [x]) = some (ns ++ [n])
  | [], ns, x, n, h, hx => by
    have : ns = [] := by simpa [allO] using h.symm
    subst this
    simp [allO, hx]
  | y :: xs, ns, x, n, h, hx => by
    rw [List.cons_append]
    unfold allO at h ⊢
    cases hp : partO base y with
    | none => rw [hp] at h; cases h
    | some m =>
      rw [hp] at h
      simp only at h ⊢
      cases ha : allO base xs with
      | none => rw [ha] at h; cases h
      | some ms =>
        rw [ha] at h
        have : ns = m :: ms := by simpa using h.symm
        subst this
        rw [allO_snoc ha hx]
        rfl
theorem allO_bad {base : Nat} : ∀ {xs : List (List UInt8)} {x : List UInt8}, x ∈ xs → partO base x = none → allO base xs = none
  | y :: xs, x, h, hx => by
    unfold allO
    rcases List.mem_cons.1 h with rfl | h
    · rw [hx]
    · cases hp : partO base y with
      | none => rfl
      | some m => simp only; rw [allO_bad h hx]; rfl
theorem splitL_len {c : UInt8} : ∀ (s : List UInt8), (splitL c s).length ≤ s.length + 1 ∧ ∀ x ∈ splitL c s, x.length ≤ s.length
  | [] => by simp [splitL]
  | b :: l => by
    obtain ⟨h1, h2⟩ := splitL_len (c := c) l
    by_cases hb : b = c
    · rw [splitL, if_pos hb]
      refine ⟨by simp; omega, fun x hx => ?_⟩
      rcases List.mem_cons.1 hx with rfl | hx
      · simp
      · have := h2 x hx
        simp
        omega
    · obtain ⟨y, ys, hy⟩ : ∃ y ys, splitL c l = y :: ys := by
        cases hs : splitL c l with
        | nil => exact absurd hs (splitL_ne c l)
        | cons y ys => exact ⟨y, ys, rfl⟩
      rw [splitL_other hb hy]
      rw [hy] at h1 h2
      refine ⟨by simp at h1 ⊢; omega, fun x hx => ?_⟩
      rcases List.mem_cons.1 hx with rfl | hx
      · have := h2 y (by simp)
        simp
        omega
      · have := h2 x (by simp [hx])
        simp
        omega

set_option maxRecDepth 100000 in
set_option maxHeartbeats 1600000 in
theorem numbers_empty (base : Nat) (c : UInt8) (w : World) : Calls Tryd.prog 21 #[.string ⟨#[]⟩, .string ⟨#[c]⟩, .int .i64 base, .int .i64 (bitsB base)] w (NumsRet w base c []) := by
  go_enter Tryd.func21, Tryd.ntmps21
  go_wp2
  go_ret2
  exact ⟨_, [], true, rfl, World.ownsRow_nil _ _ _ _, by simp, .inl ⟨rfl, rfl⟩, Below.refl _ _⟩
set_option maxRecDepth 100000 in
set_option maxHeartbeats 1600000 in
theorem numbers_some {base : Nat} (hb : base = 10 ∨ base = 16) (c : UInt8) (s : ByteArray) (hne : s.size ≠ 0) (hs : s.size ≤ 600) (w : World) (hg : Glo w) : Calls Tryd.prog 21 #[.string s, .string ⟨#[c]⟩, .int .i64 base, .int .i64 (bitsB base)] w (NumsRet w base c s.data.toList) := by
  obtain ⟨⟨m, hm⟩, he, -⟩ := hg
  have hemp : s.toList.isEmpty = false := by
    rw [← decide_eq_emptyBytes]
    exact decide_eq_false (fun h => hne (by rw [h]; rfl))
  have CS := Tryd.strings_Split s ⟨#[c]⟩ m w (by omega) hm (Nat.le_refl 1)
  have hlen := Lib.splitB_all ⟨#[c]⟩ (Nat.le_refl 1) 0 _ s rfl
  have hdat := split_one c s
  obtain ⟨h1, h2⟩ := splitL_len (c := c) s.data.toList
  have hsz : s.data.toList.length = s.size := (Lib.size_eq s).symm
  rw [← hdat, List.length_map] at h1
  rw [← hdat] at h2
  have hno : numsO base c s.data.toList = allO base (splitL c s.data.toList) := by
    unfold numsO
    rw [if_neg (fun h0 => hne (by rw [← hsz, h0]; rfl))]
  rw [← hdat] at hno
  generalize Lib.splitB ⟨#[c]⟩ 0 (Lib.countB s ⟨#[c]⟩) s = PB at *
  rw [← hlen] at CS
  obtain ⟨N, hN⟩ : ∃ N, PB.length = N := ⟨_, rfl⟩
  rw [hN] at CS h1
  have HN := Lib.hid hN
  have HNO := Lib.hid hno
  unfold NumsRet
  rw [HNO.out]
  have HE := Lib.hid he
  have HL : Hid (∀ x ∈ PB, x.size ≤ 1000) := fun x hx => by
    have := h2 _ (List.mem_map.2 ⟨x, hx, rfl⟩)
    rw [← Lib.size_eq] at this
    omega
  have CP := Lib.hid (fun (x : ByteArray) (hx : x ∈ PB) (W : World) (hW : Below w.heap.size w W) => pu_any hb x (HL.out x hx) W (HE.out.below hW))
  have CSS := Lib.hid CS
  have hN1 : N ≤ 601 := by omega
  clear hm he CS hlen hdat h1 h2 hsz hno hN hb
  go_enter Tryd.func21, Tryd.ntmps21
  go_wp2_with fail
  refine CSS.out.mono ?_
  rintro e w1 ⟨rfl, hw1⟩
  have HC : Hid (∀ j x, PB[j]? = some x → w1.cell? ⟨w.heap.size, j, none⟩ = some (.string x)) := fun j x hx => by
    rw [hw1]
    have hh : (w.alloc (.cells (PB.map Value.string).toArray 9)).heap[w.heap.size]? = some (.cells (PB.map Value.string).toArray 9) := heap_alloc_new w _
    unfold World.cell?
    simp only [hh]
    rw [List.getElem?_toArray, List.getElem?_map, hx]
    rfl
  have HB1 : Hid (Below w.heap.size w w1) := by rw [hw1]; exact (Below.refl _ _).alloc (Nat.le_refl _) _
  have hs1 : w.heap.size < w1.heap.size := by rw [hw1]; simp
  clear hw1 CSS
  go_wp2
  go_loopw [21, 10, 12, 13, 14] (fun i v _ _ _ wr => ∃ (k : Nat) (ns : List Nat), k ≤ N ∧ i = .int .i64 k ∧ Hid (allO base ((PB.take k).map (·.data.toList)) = some ns) ∧ Hid (ns.length = k) ∧ Hid (wr.ownsRow w1.heap.size 22 1 v ns.length (ns.map u64V)) ∧ Hid (Below w1.heap.size w1 wr)) (fun i _ _ _ _ _ => N - (RowKit.intOf i).toNat)
  case atStart => exact ⟨0, [], by omega, rfl, rfl, rfl, World.ownsRow_nil _ _ _ _, Below.refl _ _⟩
  case round =>
    obtain ⟨k, ns, hk, rfl, hall, hnk, hrow, hb⟩ := hrel
    obtain ⟨wo, rfl⟩ : ∃ wo : World, wo = wr := ⟨_, rfl⟩
    have hs := hb.out.size
    by_cases hlt : k < N
    · have hkP : k < PB.length := by rw [HN.out]; exact hlt
      obtain ⟨x, hx⟩ : ∃ x, PB[k]? = some x := ⟨PB[k], List.getElem?_eq_getElem hkP⟩
      have hmem : x ∈ PB := List.mem_of_getElem? hx
      have q0 := (hb.out.cell (p := ⟨w.heap.size, k, none⟩) hs1).trans (HC.out k x hx)
      have HTK : Hid ((PB.take (k + 1)).map (·.data.toList) = (PB.take k).map (·.data.toList) ++ [x.data.toList]) := by
        show _ = _
        rw [List.take_add_one, hx, List.map_append]
        rfl
      have HXM := Lib.hid hmem
      have CC := Lib.hid (CP.out x hmem wo (below_step HB1.out hb.out))
      have hnk2 := hnk.out
      clear hx hmem hkP
      unfold PuRet at CC
      cases hp : partO base x.data.toList with
      | none =>
        rw [hp] at CC
        simp only at CC
        have HBAD : Hid (allO base (PB.map (·.data.toList)) = none) := allO_bad (List.mem_map.2 ⟨x, HXM.out, rfl⟩) hp
        clear hp
        go_wp2_with fail
        refine CC.out.mono ?_
        rintro e w2 ⟨⟨z, t, p, rfl⟩, hb2⟩
        have HB2 := Lib.hid (below_step HB1.out (below_step hb.out hb2))
        clear hb2
        go_wp2
        go_ret2
        exact ⟨_, [], false, rfl, World.ownsRow_nil _ _ _ _, by simp, .inr ⟨rfl, HBAD.out, rfl⟩, HB2.out⟩
      | some n =>
        rw [hp] at CC
        simp only at CC
        have HALL : Hid (allO base ((PB.take (k + 1)).map (·.data.toList)) = some (ns ++ [n])) := by
          show _ = _
          rw [HTK.out]
          exact allO_snoc hall.out hp
        clear hp
        go_wp2_with fail
        refine CC.out.mono ?_
        rintro e w2 ⟨rfl, hb2⟩
        have HO2 := Lib.hid (own_below hrow.out hb2)
        have HB2 := Lib.hid (below_step hb.out hb2)
        have hs2 : w1.heap.size ≤ w2.heap.size := by have := hb2.size; omega
        clear hb2 CC
        go_wp2_with (at_builtin; go_loud (refine wpList_append_oneN (us := [u64V n]) rfl _ _ 53 rfl w1.heap.size _ 1 8 Tryd.underlying53 infoU64N rfl (by decide) _ _ _ rfl rfl rfl HO2.out hs2 rfl (by intro u hu; simp at hu; subst hu; rfl) (by unfold maxLen; omega) (by omega) ?_))
        intro v5 w5 hown5 hb5 hs5 hk5
        have HNK : Hid ((ns ++ [n]).length = k + 1) := by show _ = _; rw [List.length_append, hnk.out]; rfl
        have HO5 : Hid (w5.ownsRow w1.heap.size 22 1 v5 (ns ++ [n]).length ((ns ++ [n]).map u64V)) := by
          show World.ownsRow _ _ _ _ _ _ _
          rw [HNK.out, List.map_append]
          exact hown5
        have HB5 := Lib.hid (HB2.out.trans hb5)
        clear hown5 hb5 hk5
        go_wp2
        go_roundw
        case rel => exact ⟨k + 1, ns ++ [n], by omega, by go_num, HALL, HNK, HO5, HB5⟩
        case measure => simp [RowKit.intOf]; omega
    · obtain rfl : k = N := by omega
      have hall2 : Hid (allO base (PB.map (·.data.toList)) = some ns) := by
        show _ = _
        rw [← hall.out, List.take_of_length_le (by rw [HN.out]; exact Nat.le_refl _)]
      have hnk2 := hnk.out
      go_wp2
      go_ret2
      exact ⟨_, ns, true, rfl, own_mono hrow.out (by omega), by omega, .inl ⟨rfl, hall2.out⟩, below_step HB1.out hb.out⟩
theorem numbers_any {base : Nat} (hb : base = 10 ∨ base = 16) (c : UInt8) (s : ByteArray) (hs : s.size ≤ 600) (w : World) (hg : Glo w) : Calls Tryd.prog 21 #[.string s, .string ⟨#[c]⟩, .int .i64 base, .int .i64 (bitsB base)] w (NumsRet w base c s.data.toList) := by
  by_cases hz : s.size = 0
  · obtain rfl : s = ⟨#[]⟩ := by
      obtain ⟨d⟩ := s
      have : d.size = 0 := hz
      rw [Array.size_eq_zero_iff] at this
      rw [this]
    exact numbers_empty base c w
  · exact numbers_some hb c s hz hs w hg
end Go.Proofs.YticikknfkkmoaaaDoor
