/-
  
  
-/
import Derived.Test.YtpecpodchkglkaaDoorC4
import Derived.Test.YtpecpodchkglkaaDoorC2
import Derived.Test.YtpecpodchkglkaaDoorC3
import Derived.Lib.ItoaMem
import Derived.Test.YtpecpodchkglkaaDoorRows
import Derived.Test.YtpecpodchkglkaaDoorC1
namespace Go.Proofs.YtpecpodchkglkaaDoor
open Go.ChangeShapes Go.WideShapes Go.ChangeAt Go.RowKit

def preTxt (six : Bool) (hi lo n : Int) : List UInt8 := addrTxt six hi lo ++ [47] ++ numT 10 n.toNat
def ptxL (six : Bool) (hi lo n : Int) : List UInt8 := if chk six hi lo n = 0 then preTxt six hi lo n else []
theorem chk_nil {six : Bool} {hi lo n : Int} (h : chk six hi lo n = 0) : mayB six hi lo = true ∧ 0 ≤ n ∧ n ≤ 128 := by
  have hw := wideI_le six
  unfold chk at h
  split at h
  · cases h
  · split at h
    · cases h
    · refine ⟨by simpa using ‹¬ mayB six hi lo = false›, by omega, by omega⟩
theorem addrTxt_len (six : Bool) (hi lo : Int) (h1 : 0 ≤ hi) (h2 : 0 ≤ lo) : (addrTxt six hi lo).length ≤ 100 := by
  unfold addrTxt
  cases six
  · rw [if_neg (by decide)]
    refine Nat.le_trans (joinT_len 46 3 _ fun x hx => ?_) ?_
    · obtain ⟨y, hy, rfl⟩ := List.mem_map.1 hx
      have := octs4_lt _ y hy
      exact num10_len _ (by omega)
    · rw [List.length_map, show (octs4 _).length = 4 by simp [octs4]]; omega
  · rw [if_pos rfl, text_same _ (gps_len hi lo)]
    refine partT_len _ _ _ _ (fun x hx => ?_) (by rw [List.length_map]; rfl)
    obtain ⟨y, hy, rfl⟩ := List.mem_map.1 hx
    have := gps_lt hi lo h1 h2 y hy
    exact num16_len _ (by omega)
theorem addrOf_any {w : World} (six : Bool) (hi lo : Int) (h1 : 0 ≤ hi ∧ hi < 18446744073709551616) (h2 : 0 ≤ lo ∧ lo < 18446744073709551616) (ht : Tabs w) :
    Calls Tryd.prog 40 #[.agg #[.bool six, .int .u64 hi, .int .u64 lo]] w fun e w' => e = .returned (.string ⟨(addrTxt six hi lo).toArray⟩) ∧ Below w.heap.size w w' := by
  cases six
  · exact of4_any hi lo h2 ht
  · exact of6_any hi lo h1 h2 ht
theorem itoa_num (n : Nat) : Lib.itoa (n : Int) = numT 10 n := by rw [Lib.itoa_nonneg, dec_num]

set_option maxRecDepth 100000 in
set_option maxHeartbeats 1600000 in
theorem preOf_any {w : World} (six : Bool) (hi lo : Int) (n : Nat) (hn : n ≤ 128) (h1 : 0 ≤ hi ∧ hi < 18446744073709551616) (h2 : 0 ≤ lo ∧ lo < 18446744073709551616) (ht : Tabs w) :
    Calls Tryd.prog 49 #[.agg #[.bool six, .int .u64 hi, .int .u64 lo, .int .i64 n]] w fun e w' => e = .returned (.string ⟨(preTxt six hi lo n).toArray⟩) ∧ Below w.heap.size w w' := by
  have CO := Lib.hid (fun (W : World) (hb : Below w.heap.size w W) => addrOf_any six hi lo h1 h2 (ht.below hb))
  have CI : Hid (∀ W : World, Below w.heap.size w W → Calls Tryd.prog 79 #[.int .i64 n] W fun e w' => e = .returned (.string ⟨(numT 10 n).toArray⟩) ∧ Below W.heap.size W w') := by
    refine Lib.hid fun W hb => (Tryd.strconv_Itoa n (by omega) (by omega) W (ht.below hb).1).mono ?_
    rintro e w' ⟨rfl, k, os, rfl⟩
    exact ⟨by rw [itoa_num], below_regrown W (W.drawn + k) os⟩
  have hla := addrTxt_len six hi lo h1.1 h2.1
  have hlb : (numT 10 n).length ≤ 3 := num10_len n (by omega)
  have HX : Hid (preTxt six hi lo n = addrTxt six hi lo ++ [47] ++ numT 10 n) := by refine Lib.hid ?_; unfold preTxt; rw [Int.toNat_natCast]
  obtain ⟨ta, hta⟩ : ∃ ta, addrTxt six hi lo = ta := ⟨_, rfl⟩
  obtain ⟨tb, htb⟩ : ∃ tb, numT 10 n = tb := ⟨_, rfl⟩
  rw [hta] at CO HX hla
  rw [htb] at CI HX hlb
  have HB0 : Hid (Below w.heap.size w (w.alloc (.cells #[.bool six, .int .u64 hi, .int .u64 lo, .int .i64 n] 38))) := (Below.refl _ _).alloc (Nat.le_refl _) _
  obtain ⟨tc, htc⟩ : ∃ tc, ta ++ [47] = tc := ⟨_, rfl⟩
  have htl : tc.length ≤ 101 := by rw [← htc, List.length_append]; simp only [List.length_cons, List.length_nil]; omega
  have hs1 : ∀ W : World, (Op.stringOp .add ⟨ta.toArray⟩ ⟨#[47]⟩).run Tryd.prog W = .ok (.string ⟨tc.toArray⟩) W := fun W => by
    have := run_string_add_lists (P := Tryd.prog) W ta [47] (by omega) (by simp)
    rw [htc] at this
    exact this
  have hs2 : ∀ W : World, (Op.stringOp .add ⟨tc.toArray⟩ ⟨tb.toArray⟩).run Tryd.prog W = .ok (.string ⟨(tc ++ tb).toArray⟩) W := fun W => run_string_add_lists (P := Tryd.prog) W tc tb (by omega) (by omega)
  have HTC := Lib.hid htc
  obtain ⟨td, htd⟩ : ∃ td, tc ++ tb = td := ⟨_, rfl⟩
  rw [htd] at hs2
  have HTD := Lib.hid htd
  clear hta htb ht htc htd hla hlb htl
  go_enter Tryd.func49, Tryd.ntmps49
  go_wp2_with fail
  obtain ⟨wo, hwo⟩ : ∃ wo, wo = w.alloc (.cells #[.bool six, .int .u64 hi, .int .u64 lo, .int .i64 n] 38) := ⟨_, rfl⟩
  have hc0 : wo.cell? ⟨w.heap.size, 0, none⟩ = some (.bool six) := by rw [hwo]; simp [World.cell?_alloc_new]
  have hc1 : wo.cell? ⟨w.heap.size, 1, none⟩ = some (.int .u64 hi) := by rw [hwo]; simp [World.cell?_alloc_new]
  have hc2 : wo.cell? ⟨w.heap.size, 2, none⟩ = some (.int .u64 lo) := by rw [hwo]; simp [World.cell?_alloc_new]
  have hc3 : wo.cell? ⟨w.heap.size, 3, none⟩ = some (.int .i64 n) := by rw [hwo]; simp [World.cell?_alloc_new]
  have hsz : w.heap.size < wo.heap.size := by rw [hwo]; simp
  rw [← hwo] at HB0 ⊢
  clear hwo
  go_region_held3 (fun w' => (∀ b o, b < wo.heap.size → w'.cell? ⟨b, o, none⟩ = wo.cell? ⟨b, o, none⟩) ∧ wo.heap.size ≤ w'.heap.size ∧ Hid (Below wo.heap.size wo w'))
    ((first | assumption | exact keep0 _ | exact keep1 (by assumption) (by assumption) | exact keepD (by assumption) | exact keepB (by assumption) (by assumption) | exact keepA (by assumption) _ | exact ⟨fun _ _ _ => rfl, Nat.le_refl _, Below.refl _ _⟩))
    (first | (go_at_call 40; (with_reducible refine (CO.out _ ?hb1).mono ?_); (case hb1 => exact below_step HB0.out (keepBelow (by assumption))); rintro e w5 ⟨rfl, hb5⟩; obtain ⟨fc5, ff5⟩ := bcell hb5; have hz5 := hb5.size) | (go_at_call 79; (with_reducible refine (CI.out _ ?hb1).mono ?_); (case hb1 => exact below_step HB0.out (keepBelow (by assumption))); rintro e w6 ⟨rfl, hb6⟩; obtain ⟨fc6, ff6⟩ := bcell hb6; have hz6 := hb6.size))
  all_goals go_wp2
  all_goals go_ret
  all_goals (refine ⟨?_, below_step HB0.out (keepBelow (by assumption))⟩; rw [HX.out, HTC.out, HTD.out]; rfl)

set_option maxRecDepth 100000 in
set_option maxHeartbeats 800000 in
theorem preText_any {w : World} (six : Bool) (hi lo n : Int) (h1 : 0 ≤ hi ∧ hi < 18446744073709551616) (h2 : 0 ≤ lo ∧ lo < 18446744073709551616) (ht : Tabs w) :
    Calls Tryd.prog 20 #[.agg #[.bool six, .int .u64 hi, .int .u64 lo, .int .i64 n]] w (RetTxt w (ptxL six hi lo n) (chk six hi lo n)) := by
  have CC := Lib.hid (fun (W : World) => check_any six hi lo n W h1 h2)
  obtain ⟨post, hpost⟩ : ∃ post, RetTxt w (ptxL six hi lo n) (chk six hi lo n) = post := ⟨_, rfl⟩
  rw [hpost]
  unfold ptxL at hpost
  by_cases hz : chk six hi lo n = 0
  · have hr := chk_nil hz
    obtain ⟨m, rfl⟩ : ∃ m : Nat, n = m := ⟨n.toNat, by omega⟩
    rw [if_pos hz, hz] at hpost
    rw [hz] at CC
    have HP := Lib.hid hpost
    have CO := Lib.hid (fun (W : World) (hb : Below w.heap.size w W) => preOf_any six hi lo m (by omega) h1 h2 (ht.below hb))
    clear hpost hz hr ht
    go_enter Tryd.func20, Tryd.ntmps20
    go_wp2_with fail
    refine (CC.out _).mono ?_
    rintro e w1 ⟨rfl, hb1⟩
    obtain ⟨fc1, ff1⟩ := bcell hb1
    have s1 := bsize1 hb1
    have HB1 := Lib.hid (balloc1 hb1)
    clear hb1
    go_wp2_with fail
    refine (CO.out _ HB1.out).mono ?_
    rintro e w2 ⟨rfl, hb2⟩
    have HB2 := Lib.hid (below_step HB1.out hb2)
    clear hb2
    go_wp2
    rw [← HP.out]
    exact ⟨rfl, HB2.out⟩
  · rw [if_neg hz] at hpost
    obtain ⟨E, hE⟩ : ∃ E, chk six hi lo n = E := ⟨_, rfl⟩
    rw [hE] at hpost hz CC
    have HP := Lib.hid hpost
    have d0 : (E == 0) = false := by simpa using hz
    clear hpost hE ht
    go_enter Tryd.func20, Tryd.ntmps20
    go_wp2_with fail
    refine (CC.out _).mono ?_
    rintro e w1 ⟨rfl, hb1⟩
    have HB1 := Lib.hid (balloc1 hb1)
    clear hb1
    go_wp2
    rw [← HP.out]
    exact ⟨rfl, HB1.out⟩

set_option maxRecDepth 100000 in
set_option maxHeartbeats 800000 in
theorem refPreText_any {w : World} (six : Bool) (hi lo n : Int) (h1 : 0 ≤ hi ∧ hi < 18446744073709551616) (h2 : 0 ≤ lo ∧ lo < 18446744073709551616) :
    Calls Tryd.prog 21 #[.agg #[.bool six, .int .u64 hi, .int .u64 lo, .int .i64 n]] w (RetTxt w (ptxL six hi lo n) (chk six hi lo n)) := by
  have CC := Lib.hid (fun (W : World) => preFault_any six hi lo n W h1 h2)
  obtain ⟨post, hpost⟩ : ∃ post, RetTxt w (ptxL six hi lo n) (chk six hi lo n) = post := ⟨_, rfl⟩
  rw [hpost]
  unfold ptxL at hpost
  by_cases hz : chk six hi lo n = 0
  · have hr := chk_nil hz
    obtain ⟨m, rfl⟩ : ∃ m : Nat, n = m := ⟨n.toNat, by omega⟩
    rw [if_pos hz, hz] at hpost
    rw [hz] at CC
    have CA := Lib.hid (fun (W : World) => refText_any (w := W) six hi lo h1 h2)
    unfold RetTxt txtL txtE at CA
    rw [if_pos hr.1, if_pos hr.1] at CA
    have CN := Lib.hid (fun (W : World) => numText_any 10 (.inl rfl) m (by omega) W)
    have hla := addrTxt_len six hi lo h1.1 h2.1
    have hlb : (numT 10 m).length ≤ 3 := num10_len m (by omega)
    unfold preTxt at hpost
    rw [Int.toNat_natCast] at hpost
    obtain ⟨ta, hta⟩ : ∃ ta, addrTxt six hi lo = ta := ⟨_, rfl⟩
    obtain ⟨tb, htb⟩ : ∃ tb, numT 10 m = tb := ⟨_, rfl⟩
    rw [hta] at CA hpost hla
    rw [htb] at CN hpost hlb
    have HP := Lib.hid hpost
    clear hpost hz hr hta htb
    go_enter Tryd.func21, Tryd.ntmps21
    go_wp2_with fail
    refine (CC.out _).mono ?_
    rintro e w1 ⟨rfl, hb1⟩
    obtain ⟨fc1, ff1⟩ := bcell hb1
    have s1 := bsize1 hb1
    have HB1 := Lib.hid (balloc1 hb1)
    clear hb1
    go_wp2_with fail
    refine (CA.out _).mono ?_
    rintro e w2 ⟨rfl, hb2⟩
    obtain ⟨fc2, ff2⟩ := bcell hb2
    have s2 := hb2.size
    have HB2 := Lib.hid (below_step HB1.out hb2)
    clear hb2
    go_wp2_with fail
    refine (CN.out _).mono ?_
    rintro e w3 ⟨rfl, hb3⟩
    have HB3 := Lib.hid (below_step HB2.out hb3)
    clear hb3
    go_wp2
    rw [← HP.out]
    exact ⟨by simp [ByteArray.mk_append_mk], HB3.out⟩
  · rw [if_neg hz] at hpost
    obtain ⟨E, hE⟩ : ∃ E, chk six hi lo n = E := ⟨_, rfl⟩
    rw [hE] at hpost hz CC
    have HP := Lib.hid hpost
    have d0 : (E == 0) = false := by simpa using hz
    clear hpost hE
    go_enter Tryd.func21, Tryd.ntmps21
    go_wp2_with fail
    refine (CC.out _).mono ?_
    rintro e w1 ⟨rfl, hb1⟩
    have HB1 := Lib.hid (balloc1 hb1)
    clear hb1
    go_wp2
    rw [← HP.out]
    exact ⟨rfl, HB1.out⟩

end Go.Proofs.YtpecpodchkglkaaDoor

namespace Go.Proofs.YtpecpodchkglkaaDoor
open Go.ChangeShapes Go.WideShapes Go.ChangeAt Go.RowKit

set_option maxRecDepth 100000 in
set_option maxHeartbeats 800000 in
theorem preTexts_any {w : World} (six : Bool) (hi lo n : Int) (h1 : 0 ≤ hi ∧ hi < 18446744073709551616) (h2 : 0 ≤ lo ∧ lo < 18446744073709551616) (ht : Tabs w) :
    Calls Tryd.prog 6 #[.agg #[.bool six, .int .u64 hi, .int .u64 lo, .int .i64 n]] w fun e w' => e = .returned (.bool true) ∧ Below w.heap.size w w' := by
  have CT := Lib.hid (fun (W : World) (hb : Below w.heap.size w W) => preText_any six hi lo n h1 h2 (ht.below hb))
  have CR := Lib.hid (fun (W : World) => refPreText_any (w := W) six hi lo n h1 h2)
  have HB0 : Hid (Below w.heap.size w (w.alloc (.cells #[.bool six, .int .u64 hi, .int .u64 lo, .int .i64 n] 38))) := (Below.refl _ _).alloc (Nat.le_refl _) _
  obtain ⟨l, hl⟩ : ∃ l, ptxL six hi lo n = l := ⟨_, rfl⟩
  obtain ⟨E, hE⟩ : ∃ E, chk six hi lo n = E := ⟨_, rfl⟩
  rw [hl, hE] at CT CR
  unfold RetTxt at CT CR
  clear hl hE ht
  go_enter Tryd.func6, Tryd.ntmps6
  go_wp2_with fail
  refine (CT.out _ HB0.out).mono ?_
  rintro e w1 ⟨rfl, hb1⟩
  obtain ⟨fc1, ff1⟩ := bcell hb1
  have s1 := bsize1 hb1
  have HB1 := Lib.hid (balloc1 hb1)
  clear hb1
  go_wp2_with fail
  refine (CR.out _).mono ?_
  rintro e w2 ⟨rfl, hb2⟩
  have HB2 := Lib.hid (below_step HB1.out hb2)
  clear hb2
  go_wp2
  go_ret
  exact ⟨by simp, HB2.out⟩

theorem preTexts_pow : (Rows.preTextsRow.laid).filter (fun x => x.1 == "internal/strconv.uint64pow10") = [("internal/strconv.uint64pow10", Rows.laid_internal_strconv_uint64pow10)] := by
  unfold Rows.preTextsRow
  simp only [List.filter]
  rfl
theorem preTexts_bru : (Rows.preTextsRow.laid).filter (fun x => x.1 == "math/bits.deBruijn64tab") = [("math/bits.deBruijn64tab", Rows.laid_math_bits_deBruijn64tab)] := by
  unfold Rows.preTextsRow
  simp only [List.filter]
  rfl
set_option maxRecDepth 100000 in
theorem preTexts_walk {H : Type} {enc : TypeId × Value → H} (W : World) (vs : Array Value) (ds : List (DataW H)) (ps : List MemPlace)
    (h : ArgsOk Tryd.prog [38] H enc W vs.toList ds ps) (hL : laidMetH Tryd.prog Rows.preTextsRow.laid W) :
    Calls Tryd.prog 6 vs W fun e W' => e = .returned (.bool true) ∧ Below W.heap.size W W' := by
  obtain ⟨hA, ⟨base, hval⟩, _, _⟩ := h
  obtain ⟨v0, d0, e0, _, h0⟩ := trodAll_one hA
  obtain ⟨six, hi, lo, n, rfl, b1, b2, _⟩ := open_prefix (hval 0 _ v0 rfl (by rw [e0]; rfl)) h0
  obtain rfl : vs = #[.agg #[.bool six, .int .u64 hi, .int .u64 lo, .int .i64 n]] := by cases vs; simp_all
  exact preTexts_any six hi lo n b1 b2 (tabs_of_laid hL preTexts_pow preTexts_bru)

end Go.Proofs.YtpecpodchkglkaaDoor
