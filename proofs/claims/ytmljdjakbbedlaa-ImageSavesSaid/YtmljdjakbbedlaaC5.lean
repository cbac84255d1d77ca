/-
  
  
  
  
  
  
  
  
  
  
  
  
  
  
-/
import Derived.Test.YtmljdjakbbedlaaC3
import Derived.Test.YtmljdjakbbedlaaC4
import Derived.Test.YtmljdjakbbedlaaC2
import Derived.Deep.LoopGhost
import Derived.Deep.RegionHeld3
import Derived.Test.YtmljdjakbbedlaaC1
import Derived.Deep.RegionWith
import Derived.Deep.DeepCutAuto
namespace Go.Proofs.Ytmljdjakbbedlaa
open Go.ChangeShapes Go.WideShapes Go.ChangeAt Go.RowKit

theorem root_any (p : PV) (tb : Nat) (w : World) :
    Calls Try.prog 142 #[.pointer (some ⟨tb, 0, none⟩), p.val] w fun e w' => e = .returned (.pointer (some (slotOf tb p.six))) ∧ Below w.heap.size w w' := by
  obtain ⟨six, hi, lo, n⟩ := p
  unfold PV.val slotOf
  simp only
  cases six
  · go_enter Try.func142, Try.ntmps142
    go_wp2
    go_ret
    exact ⟨rfl, (Below.refl _ _).alloc (Nat.le_refl _) _⟩
  · go_enter Try.func142, Try.ntmps142
    go_wp2
    go_ret
    exact ⟨rfl, (Below.refl _ _).alloc (Nat.le_refl _) _⟩

def Stop (p : PV) : Tr → Prop
  | .nil => True
  | .node _ q _ _ _ => q = p ∨ q.over p = false
def PlaceAt (w : World) (tb : Nat) (R : Bool → Tr) (p : PV) (e : Ending) (w' : World) : Prop :=
  ∃ (C : Ctx) (cur : Tr), R p.six = C.plug cur ∧ C.OnPath p ∧ Stop p cur ∧ e = .returned (.pointer (some (C.slot tb p.six))) ∧ Below w.heap.size w w'
/-- Where the search stands. -/
def At (tb : Nat) (R : Bool → Tr) (p : PV) (k : Nat) (v : Value) : Prop :=
  ∃ (C : Ctx) (cur : Tr), R p.six = C.plug cur ∧ C.OnPath p ∧ cur.size ≤ k ∧ v = .pointer (some (C.slot tb p.six))

theorem inv_plug {six : Bool} : ∀ (C : Ctx) (t : Tr) (U : PV → Prop), Inv six U (C.plug t) → ∃ U', Inv six U' t
  | .top, t, U, h => ⟨U, h⟩
  | .left C g q h r, t, U, hi => by
    obtain ⟨U', h'⟩ := inv_plug C (.node g q h t r) U hi
    exact ⟨_, h'.2.2.2.2.1⟩
  | .right C g q h l, t, U, hi => by
    obtain ⟨U', h'⟩ := inv_plug C (.node g q h l t) U hi
    exact ⟨_, h'.2.2.2.2.2⟩

set_option maxRecDepth 100000 in
set_option maxHeartbeats 1600000 in
theorem place_any {w : World} {B tb : Nat} {R : Bool → Tr} {c : Int} (h : Tab w B tb R c) (p : PV) (hp : p.Ok) (hI : ∀ s, Inv s (fun _ => True) (R s)) :
    Calls Try.prog 106 #[.pointer (some ⟨tb, 0, none⟩), p.val, .nilFunc] w (PlaceAt w tb R p) := by
  have HT := Lib.hid h
  have HP := Lib.hid hp
  have HI := Lib.hid hI
  have hRt := Lib.hid (fun w => root_any p tb w)
  obtain ⟨six, hi, lo, n⟩ := p
  have hrng := hp
  unfold PV.Ok at hrng
  simp only at hrng
  have r1 := hrng.rhi
  have r2 := hrng.rlo
  have hm5 := Lib.hid (fun hs : six = false => by have := hrng.may; rw [hs] at this; exact (mayB_four this).2 : six = false → lo < 4294967296)
  have hlen := hrng.len
  have hwl := wideI_le six
  clear h hp hI hrng
  have hnf : ∀ w, (binOp .neq 194 .nilFunc .nilFunc).run Try.prog w = .ok (.bool false) w := fun _ => by kernel_rfl
  unfold PV.val at hRt ⊢
  simp only at hRt ⊢
  go_enter Try.func106, Try.ntmps106
  go_wp2_with fail
  refine (hRt.out _).mono ?_
  rintro e X ⟨rfl, hb⟩
  obtain ⟨HBX, hsx, hbx⟩ := box1 (cs := [.bool six, .int .u64 hi, .int .u64 lo, .int .i64 n]) hb
  have e0 := hbx 0 _ rfl
  have e1 := hbx 1 _ rfl
  have e2 := hbx 2 _ rfl
  have e3 := hbx 3 _ rfl
  have HTX := Lib.hid (HT.out.below HBX)
  have HB := Lib.hid HBX
  clear hb hbx HBX
  go_wp2
  go_loopg [7, 8] (R six).size (fun k at_ _ wr => At tb R ⟨six, hi, lo, n⟩ k at_ ∧ Below X.heap.size X wr)
  case atStart => exact ⟨⟨.top, R six, rfl, trivial, Nat.le_refl _, rfl⟩, Below.refl _ _⟩
  case round =>
    obtain ⟨⟨C, cur, hR, hon, hsz, rfl⟩, hb⟩ := hrel
    have hs := ((HTX.out.below hb).slot hR).1
    have q0 := (hb.cell (p := ⟨w.heap.size, 0, none⟩) hsx).trans e0
    have q1 := (hb.cell (p := ⟨w.heap.size, 1, none⟩) hsx).trans e1
    have q2 := (hb.cell (p := ⟨w.heap.size, 2, none⟩) hsx).trans e2
    have q3 := (hb.cell (p := ⟨w.heap.size, 3, none⟩) hsx).trans e3
    have HR := Lib.hid hR
    have HON := Lib.hid hon
    have HBW := Lib.hid hb
    have hsw := hb.size
    obtain ⟨U', hiv⟩ := inv_plug C cur _ (by rw [← hR]; exact HI.out six)
    cases cur with
    | nil =>
      clear hR hon hb hiv
      change wr.cell? (Ctx.slot tb six C) = some (.pointer none) at hs
      show Code.wp _ _ _ _ _
      simp only at hs ⊢
      generalize hsl : Ctx.slot tb six C = sl at *
      have HSL := Lib.hid hsl
      clear hsl
      go_wp2
      go_ret
      exact ⟨C, .nil, HR.out, HON.out, trivial, by rw [HSL.out]; rfl, HB.out.trans (HBW.out.mono HB.out.size)⟩
    | node g q h l r =>
      obtain ⟨hq, hq6, _, hh, _, _⟩ := hiv
      obtain ⟨hblk, hgm⟩ := (HTX.out.below hb).node hR
      have n0 := hblk.cell 0
      have n1 := hblk.cell 1
      have n2 := hblk.cell 2
      have n3 := hblk.cell 3
      have HQ := Lib.hid hq
      obtain ⟨qs, qh, ql, qn⟩ := q
      simp only [nodeCs] at n0 n1 n2 n3 hq6
      simp at n0 n1 n2 n3
      subst hq6
      have hgl := hblk.lt
      clear hR hon hb hblk hgm hq hh
      change wr.cell? (Ctx.slot tb qs C) = some (.pointer (some ⟨g, 0, none⟩)) at hs
      generalize hsl : Ctx.slot tb qs C = sl at *
      have HSL := Lib.hid hsl
      clear hsl
      by_cases he : qh = hi ∧ ql = lo ∧ qn = n
      · obtain ⟨rfl, rfl, rfl⟩ := he
        go_wp2_with fail
        go_quiet (fail)
        go_wp2
        go_ret
        exact ⟨C, _, HR.out, HON.out, .inl rfl, by rw [HSL.out]; rfl, below_drewN (HB.out.trans (HBW.out.mono HB.out.size)) _⟩
      · have CO := Lib.hid (fun w => over_any qs qh ql qn qs hi lo n w r1 r2 hm5.out (by have := ok_n HQ.out; simp only at this; have := wideI_le qs; omega) (by have := ok_n HQ.out; simp only at this; have := wideI_le qs; omega))
        have CA := Lib.hid (fun w h3 h4 => at_any qs hi lo qn w r1 r2 h3 h4)
        have HE := Lib.hid he
        have HNE : Hid (¬ (⟨qs, qh, ql, qn⟩ : PV) = ⟨qs, hi, lo, n⟩) := fun hx => by injection hx with _ e1 e2 e3; exact he ⟨e1, e2, e3⟩
        have hsxw : w.heap.size < wr.heap.size := by omega
        have key : (qh == hi) = false ∨ (qh = hi ∧ (ql == lo) = false) ∨ (qh = hi ∧ ql = lo ∧ (qn == n) = false) := by
          by_cases a : qh = hi
          · by_cases b : ql = lo
            · exact .inr (.inr ⟨a, b, by simpa using fun h => he ⟨a, b, h⟩⟩)
            · exact .inr (.inl ⟨a, by simpa using b⟩)
          · exact .inl (by simpa using a)
        clear he
        obtain ⟨ov, hov⟩ : ∃ ov : Bool, overB qs qh ql qn qs hi lo n = ov := ⟨_, rfl⟩
        rw [hov] at CO
        have HOV := Lib.hid hov
        clear hov
        cases ov with
        | false =>
          rcases key with k1 | ⟨rfl, k1⟩ | ⟨rfl, rfl, k1⟩
          all_goals
            go_wp2_with fail
            go_region_held3 (fun w' => (∀ b o, b < wr.heap.size → w'.cell? ⟨b, o, none⟩ = wr.cell? ⟨b, o, none⟩) ∧ wr.heap.size ≤ w'.heap.size ∧ Hid (Below wr.heap.size wr w'))
              ((first | assumption | exact keep0 _ | exact keep1 (by assumption) (by assumption) | exact keepD (by assumption) | exact keepB (by assumption) (by assumption) | exact keepA (by assumption) _ | exact ⟨fun _ _ _ => rfl, Nat.le_refl _, Below.refl _ _⟩))
              (first | (go_at_call 46; refine (CO.out _).mono ?_; rintro e w2 ⟨rfl, hb2⟩))
            go_wp2
            go_ret
            exact ⟨C, _, HR.out, HON.out, .inr HOV.out, by rw [HSL.out]; rfl, (HB.out.trans (HBW.out.mono HB.out.size)).trans ((keepBelow (by assumption)).mono (by omega))⟩
        | true =>
          have hnn := over_n HQ.out HP.out HOV.out
          simp only at hnn
          have hlt : qn < n := by
            rcases Int.lt_or_le qn n with hx | hx
            · exact hx
            · have := over_eq HQ.out HP.out HOV.out hx
              injection this with _ e1 e2 e3
              exact absurd ⟨e1, e2, e3⟩ HE.out
          have hq0 := (ok_n HQ.out).1
          simp only at hq0
          have CB := Lib.hid (fun w => CA.out w hq0 (by omega))
          obtain ⟨bv, hbv⟩ : ∃ bv, bitI qs hi lo qn = bv := ⟨_, rfl⟩
          have hb01 : bv = 0 ∨ bv = 1 := by rw [← hbv]; exact PV.bit01 ⟨qs, hi, lo, n⟩ qn
          rw [hbv] at CB
          have HBV : Hid (PV.bit ⟨qs, hi, lo, n⟩ qn = bv) := hbv
          clear hbv
          rcases key with k1 | ⟨rfl, k1⟩ | ⟨rfl, rfl, k1⟩
          all_goals
            go_wp2_with fail
            go_region_held3 (fun w' => (∀ b o, b < wr.heap.size → w'.cell? ⟨b, o, none⟩ = wr.cell? ⟨b, o, none⟩) ∧ wr.heap.size ≤ w'.heap.size ∧ Hid (Below wr.heap.size wr w'))
              ((first | assumption | exact keep0 _ | exact keep1 (by assumption) (by assumption) | exact keepD (by assumption) | exact keepB (by assumption) (by assumption) | exact keepA (by assumption) _ | exact ⟨fun _ _ _ => rfl, Nat.le_refl _, Below.refl _ _⟩))
              (first | (go_at_call 46; refine (CO.out _).mono ?_; rintro e w2 ⟨rfl, hb2⟩))
            obtain ⟨fc2, z2, H2⟩ : (∀ b o, b < wr.heap.size → w2.cell? ⟨b, o, none⟩ = wr.cell? ⟨b, o, none⟩) ∧ wr.heap.size ≤ w2.heap.size ∧ Hid (Below wr.heap.size wr w2) := by assumption
            have z3 : w.heap.size < w2.heap.size := by omega
            have z4 : g < w2.heap.size := by omega
            rcases hb01 with rfl | rfl
            all_goals
              go_wp2
              go_region_held3 (fun w' => (∀ b o, b < w2.heap.size → w'.cell? ⟨b, o, none⟩ = w2.cell? ⟨b, o, none⟩) ∧ w2.heap.size ≤ w'.heap.size ∧ Hid (Below w2.heap.size w2 w'))
                ((first | assumption | exact keep0 _ | exact keep1 (by assumption) (by assumption) | exact keepD (by assumption) | exact keepB (by assumption) (by assumption) | exact keepA (by assumption) _ | exact ⟨fun _ _ _ => rfl, Nat.le_refl _, Below.refl _ _⟩))
                (first | (go_at_call 132; refine (CB.out _).mono ?_; rintro e w3 ⟨rfl, hb3⟩))
              obtain ⟨fc3, z5, H3⟩ : (∀ b o, b < w2.heap.size → w3.cell? ⟨b, o, none⟩ = w2.cell? ⟨b, o, none⟩) ∧ w2.heap.size ≤ w3.heap.size ∧ Hid (Below w2.heap.size w2 w3) := by assumption
              go_wp2
              first
                | (go_roundg l.size
                   case measure => (simp [Tr.size] at hsz; omega)
                   case rel => exact ⟨⟨.left C g _ h r, l, HR.out, ⟨HNE.out, HOV.out, HBV.out, HON.out⟩, Nat.le_refl _, rfl⟩, below_step HBW.out (below_step H2.out H3.out)⟩)
                | (go_roundg r.size
                   case measure => (simp [Tr.size] at hsz; omega)
                   case rel => exact ⟨⟨.right C g _ h l, r, HR.out, ⟨HNE.out, HOV.out, by rw [HBV.out]; decide, HON.out⟩, Nat.le_refl _, rfl⟩, below_step HBW.out (below_step H2.out H3.out)⟩)

end Go.Proofs.Ytmljdjakbbedlaa

namespace Go.Proofs.Ytmljdjakbbedlaa
open Go.ChangeShapes Go.WideShapes Go.ChangeAt Go.RowKit

set_option maxHeartbeats 400000 in
theorem half_low (six : Bool) (hi lo n : Int) (w : World) (h3 : 0 ≤ n) (h4 : n ≤ 128) :
    Calls Try.prog 135 #[.agg #[.bool six, .int .u64 hi, .int .u64 lo, .int .i64 n], .int .i64 0] w fun e w' => e = .returned (.agg #[.bool six, .int .u64 hi, .int .u64 lo, .int .i64 (n + 1)]) ∧ Below w.heap.size w w' := by
  go_enter Try.func135, Try.ntmps135
  go_wp2
  exact bodyPost_ret (v := .agg #[.bool six, .int .u64 hi, .int .u64 lo, .int .i64 (n + 1)]) (by simp [results, Try.results135, go_sem]) rfl
    ⟨rfl, ((Below.refl _ _).alloc (Nat.le_refl _) _).alloc (by simp) _⟩

theorem or_set (x : Int) (k : Nat) (hx : 0 ≤ x ∧ x < 18446744073709551616) (hk : k < 64) : bits .or .u64 x (IntKind.u64.wrap (2 ^ k)) = (setN x k : Int) := by
  have e : (2 ^ 64 : Nat) = 18446744073709551616 := by decide
  have h1 : (2 : Nat) ^ k < 2 ^ 64 := Nat.pow_lt_pow_right (by omega) hk
  have h2 : IntKind.u64.wrap (2 ^ k) = ((2 ^ k : Nat) : Int) := by
    have h3 : ((2 ^ k : Nat) : Int) = (2 : Int) ^ k := by simp
    rw [← h3]
    generalize (2 ^ k : Nat) = m at *
    show (m : Int) % 2 ^ 64 = _
    have e2 : (2 : Int) ^ 64 = 18446744073709551616 := by decide
    rw [e2]
    omega
  rw [h2, u64_or x _ hx.1 hx.2 (Int.natCast_nonneg _) (by generalize (2 ^ k : Nat) = m at *; omega)]
  rfl

set_option maxHeartbeats 400000 in
theorem half_high (six : Bool) (hi lo : Int) (n : Nat) (w : World) (h1 : 0 ≤ hi ∧ hi < 18446744073709551616) (h2 : 0 ≤ lo ∧ lo < 18446744073709551616) (h4 : (n : Int) < wideI six) :
    Calls Try.prog 135 #[.agg #[.bool six, .int .u64 hi, .int .u64 lo, .int .i64 n], .int .i64 1] w fun e w' => e = .returned (.agg #[.bool six, .int .u64 (setHi six hi n), .int .u64 (setLo six lo n), .int .i64 (n + 1)]) ∧ Below w.heap.size w w' := by
  cases six
  · have h5 : n < 32 := by have : (n : Int) < 32 := h4; omega
    have e1 : setHi false hi n = hi := by simp [setHi]
    have e2 : setLo false lo n = bits .or .u64 lo (IntKind.u64.wrap (2 ^ (31 - n))) := by rw [or_set lo _ h2 (by omega)]; simp [setLo]
    rw [e1, e2]
    clear e1 e2 h4
    go_enter Try.func135, Try.ntmps135
    go_wp2
    go_region
    all_goals go_wp2
    all_goals exact bodyPost_ret (v := .agg #[.bool false, .int .u64 hi, .int .u64 (bits .or .u64 lo (IntKind.u64.wrap (2 ^ (31 - n)))), .int .i64 (n + 1)]) (by simp [results, Try.results135, go_sem]) rfl ⟨rfl, (((Below.refl _ _).alloc (Nat.le_refl _) _).alloc (by simp) _).drew⟩
  · have h5 : n < 128 := by have : (n : Int) < 128 := h4; omega
    by_cases h6 : n < 64
    · have e1 : setLo true lo n = lo := by simp [setLo, h6]
      have e2 : setHi true hi n = bits .or .u64 hi (IntKind.u64.wrap (2 ^ (63 - n))) := by rw [or_set hi _ h1 (by omega)]; simp [setHi, h6]
      rw [e1, e2]
      clear e1 e2 h4 h5
      go_enter Try.func135, Try.ntmps135
      go_wp2
      go_region
      all_goals go_wp2
      all_goals exact bodyPost_ret (v := .agg #[.bool true, .int .u64 (bits .or .u64 hi (IntKind.u64.wrap (2 ^ (63 - n)))), .int .u64 lo, .int .i64 (n + 1)]) (by simp [results, Try.results135, go_sem]) rfl ⟨rfl, (((Below.refl _ _).alloc (Nat.le_refl _) _).alloc (by simp) _).drew⟩
    · have e1 : setHi true hi n = hi := by simp [setHi, h6]
      have e2 : setLo true lo n = bits .or .u64 lo (IntKind.u64.wrap (2 ^ (127 - n))) := by rw [or_set lo _ h2 (by omega)]; simp [setLo, h6]
      rw [e1, e2]
      clear e1 e2 h4
      go_enter Try.func135, Try.ntmps135
      go_wp2
      go_region
      all_goals go_wp2
      all_goals exact bodyPost_ret (v := .agg #[.bool true, .int .u64 hi, .int .u64 (bits .or .u64 lo (IntKind.u64.wrap (2 ^ (127 - n)))), .int .i64 (n + 1)]) (by simp [results, Try.results135, go_sem]) rfl ⟨rfl, (((Below.refl _ _).alloc (Nat.le_refl _) _).alloc (by simp) _).drew⟩

end Go.Proofs.Ytmljdjakbbedlaa

namespace Go.Proofs.Ytmljdjakbbedlaa
open Go.ChangeShapes Go.WideShapes Go.ChangeAt Go.RowKit

def ZP : Value := .agg #[.bool false, .int .u64 0, .int .u64 0, .int .i64 0]

end Go.Proofs.Ytmljdjakbbedlaa

namespace Go.Proofs.Ytmljdjakbbedlaa
open Go.ChangeShapes Go.WideShapes Go.ChangeAt Go.RowKit

theorem zeros64 (x y : Int) (w : World) (hx : 0 ≤ x ∧ x < 18446744073709551616) (hy : 0 ≤ y ∧ y < 18446744073709551616) :
    Calls Try.prog 208 #[.int .u64 (bits .xor .u64 x y)] w fun e w' => e = .returned (.int .i64 (wordAlike 64 x y)) ∧ w = w' := by
  have e : (2 : Int) ^ 64 = 18446744073709551616 := by decide
  have hl := xor_lt 64 x y (by omega) (by omega)
  have e2 : (2 : Nat) ^ 64 = 18446744073709551616 := by decide
  rw [u64_xor x y hx.1 hx.2 hy.1 hy.2]
  refine (Try.bits_LeadingZeros64 _ w (by omega) (by omega)).mono ?_
  rintro e w' ⟨rfl, rfl⟩
  exact ⟨ret_int (by unfold wordAlike; simp), rfl⟩
theorem zeros32 (x y : Int) (w : World) (hx : 0 ≤ x ∧ x < 4294967296) (hy : 0 ≤ y ∧ y < 4294967296) :
    Calls Try.prog 207 #[.int .u32 (bits .xor .u64 x y % 4294967296)] w fun e w' => e = .returned (.int .i64 (wordAlike 32 x y)) ∧ w = w' := by
  have e : (2 : Int) ^ 32 = 4294967296 := by decide
  have hl := xor_lt 32 x y (by omega) (by omega)
  have e2 : (2 : Nat) ^ 32 = 4294967296 := by decide
  rw [u64_xor x y hx.1 (by omega) hy.1 (by omega), show ((x.toNat ^^^ y.toNat : Nat) : Int) % 4294967296 = ((x.toNat ^^^ y.toNat : Nat) : Int) from by omega]
  refine (Try.bits_LeadingZeros32 _ w (by omega) (by omega)).mono ?_
  rintro e w' ⟨rfl, rfl⟩
  exact ⟨ret_int (by unfold wordAlike; simp), rfl⟩

set_option maxRecDepth 100000 in
set_option maxHeartbeats 400000 in
theorem alike_any (six six' : Bool) (hi lo hi' lo' : Int) (w : World) (h1 : 0 ≤ hi ∧ hi < 18446744073709551616) (h2 : 0 ≤ lo ∧ lo < 18446744073709551616) (h3 : 0 ≤ hi' ∧ hi' < 18446744073709551616) (h4 : 0 ≤ lo' ∧ lo' < 18446744073709551616)
    (hm : mayB six hi lo = true) (hm' : mayB six hi' lo' = true) :
    Calls Try.prog 177 #[.agg #[.bool six, .int .u64 hi, .int .u64 lo], .agg #[.bool six', .int .u64 hi', .int .u64 lo']] w fun e w' => e = .returned (.int .i64 (alikeI six hi lo hi' lo')) ∧ Below w.heap.size w w' := by
  have e : (2 : Int) ^ 64 = 18446744073709551616 := by decide
  have e2 : (2 : Int) ^ 32 = 4294967296 := by decide
  cases six
  · have q := mayB_four hm
    have q' := mayB_four hm'
    have HE : Hid (alikeI false hi lo hi' lo' = wordAlike 32 lo lo') := rfl
    have HC := Lib.hid (fun w => zeros32 lo lo' w ⟨h2.1, q.2⟩ ⟨h4.1, q'.2⟩)
    clear q q' hm hm' e e2
    go_enter Try.func177, Try.ntmps177
    go_wp2_with fail
    refine (HC.out _).mono ?_
    rintro e w' ⟨rfl, rfl⟩
    go_wp2
    go_ret
    exact ⟨ret_int HE.out.symm, ((Below.refl _ _).alloc (Nat.le_refl _) _).alloc (by simp) _⟩
  · by_cases hh : hi = hi'
    · have HE : Hid (alikeI true hi lo hi' lo' = 64 + wordAlike 64 lo lo') := by show alikeI true hi lo hi' lo' = _; unfold alikeI; rw [if_neg (by simp), if_pos hh]
      have hr := wordAlike_range 64 lo lo' (by omega) (by omega) (by omega)
      have hb : (hi != hi') = false := by simpa using hh
      have HC := Lib.hid (fun w => zeros64 lo lo' w h2 h4)
      generalize wordAlike 64 lo lo' = x at *
      clear hm hm' e e2 hh
      go_enter Try.func177, Try.ntmps177
      go_wp2_with fail
      refine (HC.out _).mono ?_
      rintro e w' ⟨rfl, rfl⟩
      go_wp2
      go_ret
      exact ⟨ret_int HE.out.symm, ((Below.refl _ _).alloc (Nat.le_refl _) _).alloc (by simp) _⟩
    · have HE : Hid (alikeI true hi lo hi' lo' = wordAlike 64 hi hi') := by show alikeI true hi lo hi' lo' = _; unfold alikeI; rw [if_neg (by simp), if_neg hh]
      have HC := Lib.hid (fun w => zeros64 hi hi' w h1 h3)
      have hb : (hi != hi') = true := by simpa using hh
      clear hm hm' e e2 hh
      go_enter Try.func177, Try.ntmps177
      go_wp2_with fail
      refine (HC.out _).mono ?_
      rintro e w' ⟨rfl, rfl⟩
      go_wp2
      go_ret
      exact ⟨ret_int HE.out.symm, ((Below.refl _ _).alloc (Nat.le_refl _) _).alloc (by simp) _⟩

end Go.Proofs.Ytmljdjakbbedlaa

namespace Go.Proofs.Ytmljdjakbbedlaa
open Go.ChangeShapes Go.WideShapes Go.ChangeAt Go.RowKit

def comN (k k' a : Int) : Int := min (min k k') a

set_option maxRecDepth 100000 in
set_option maxHeartbeats 800000 in
theorem common_bad (six : Bool) (hi lo k : Int) (six' : Bool) (hi' lo' k' : Int) (w : World) (h1 : 0 ≤ hi ∧ hi < 18446744073709551616) (h2 : 0 ≤ lo ∧ lo < 18446744073709551616) (h3 : 0 ≤ hi' ∧ hi' < 18446744073709551616) (h4 : 0 ≤ lo' ∧ lo' < 18446744073709551616) (hz : ¬ bothE six hi lo k six' hi' lo' k' = 0) :
    Calls Try.prog 141 #[.agg #[.bool six, .int .u64 hi, .int .u64 lo, .int .i64 k], .agg #[.bool six', .int .u64 hi', .int .u64 lo', .int .i64 k']] w fun e w' => e = .returned (.tuple #[ZP, .int .i64 (bothE six hi lo k six' hi' lo' k')]) ∧ Below w.heap.size w w' := by
  have c := fun w => both_any six hi lo k six' hi' lo' k' w h1 h2 h3 h4
  generalize bothE six hi lo k six' hi' lo' k' = z at *
  have CC := Lib.hid c
  have hb1 : (z == 0) = false := by simpa using hz
  have hb2 : (z != 0) = true := by simpa using hz
  clear c
  go_enter Try.func141, Try.ntmps141
  go_wp2_with fail
  refine (CC.out _).mono ?_
  rintro e w1 ⟨rfl, hb⟩
  obtain ⟨fc, ff⟩ := bcell hb
  obtain ⟨s1, s2, s3⟩ := bsize3 hb
  have HB := Lib.hid (balloc3 hb)
  clear hb
  go_wp2
  refine bodyPost_ret (v := .tuple #[ZP, .int .i64 z]) (by simp [results, Try.results141, go_sem, fc, ZP]) rfl ⟨rfl, ?_⟩
  (repeat' first | with_reducible exact HB.out | with_reducible exact Below.refl _ _ | with_reducible refine Below.drew ?_ | with_reducible refine below_drewN ?_ _ | with_reducible refine Below.setCell ?_ ?_ _ | with_reducible refine Below.alloc ?_ ?_ _ | (simp; done) | (simp; omega) | omega)

set_option maxRecDepth 100000 in
set_option maxHeartbeats 1600000 in
theorem common_ok (six : Bool) (hi lo k hi' lo' k' : Int) (w : World) (hp : Pfx six hi lo k) (hq : Pfx six hi' lo' k') (hz : bothE six hi lo k six hi' lo' k' = 0) :
    Calls Try.prog 141 #[.agg #[.bool six, .int .u64 hi, .int .u64 lo, .int .i64 k], (.agg #[.bool six, .int .u64 hi', .int .u64 lo', .int .i64 k'])] w fun e w' => e = .returned (.tuple #[.agg #[.bool six, .int .u64 (cutHi six hi (comN k k' (alikeI six hi lo hi' lo'))), .int .u64 (cutLo six lo (comN k k' (alikeI six hi lo hi' lo'))), .int .i64 (comN k k' (alikeI six hi lo hi' lo'))], .int .i64 0]) ∧ Below w.heap.size w w' := by
  have c := fun w => both_any six hi lo k six hi' lo' k' w hp.rhi hp.rlo hq.rhi hq.rlo
  rw [hz] at c
  have CC := Lib.hid c
  have CA := Lib.hid (fun w => alike_any six six hi lo hi' lo' w hp.rhi hp.rlo hq.rhi hq.rlo hp.may hq.may)
  have ra := alike_range six hi lo hi' lo' hp.rhi hp.rlo hq.rhi hq.rlo hp.may hq.may
  have HU := Lib.hid (fun n w h3 h4 => cut_any six hi lo n w hp.rhi hp.rlo (fun h => by subst h; exact (mayB_four hp.may).2) h3 h4)
  have hwl := wideI_le six
  have hkl := hp.len
  have hkl' := hq.len
  generalize alikeI six hi lo hi' lo' = a at *
  have hc : 0 ≤ comN k k' a ∧ comN k k' a ≤ 128 := by unfold comN; omega
  have hcm : Hid (comN k k' a = min (min k k') a) := rfl
  generalize comN k k' a = m at *
  clear c hz hp hq
  go_enter Try.func141, Try.ntmps141
  go_wp2_with fail
  refine (CC.out _).mono ?_
  rintro e w1 ⟨rfl, hb⟩
  obtain ⟨fc, ff⟩ := bcell hb
  obtain ⟨s1, s2, s3⟩ := bsize3 hb
  have HB := Lib.hid (balloc3 hb)
  clear hb
  go_wp2_with fail
  go_region_held3 (fun w' => (∀ b o, b < w1.heap.size → w'.cell? ⟨b, o, none⟩ = w1.cell? ⟨b, o, none⟩) ∧ w1.heap.size ≤ w'.heap.size ∧ Hid (Below w1.heap.size w1 w'))
  ((first | assumption | exact keep0 _ | exact keep1 (by assumption) (by assumption) | exact keepD (by assumption) | exact ⟨fun _ _ _ => rfl, Nat.le_refl _, Below.refl _ _⟩))
  (first | (go_at_call 177; refine (CA.out _).mono ?_; rintro e w2 ⟨rfl, hb2⟩))
  obtain ⟨fc2, z2, HB2⟩ : (∀ b o, b < w1.heap.size → w2.cell? ⟨b, o, none⟩ = w1.cell? ⟨b, o, none⟩) ∧ w1.heap.size ≤ w2.heap.size ∧ Hid (Below w1.heap.size w1 w2) := by assumption
  have ff2 := (bcell HB2.out).2
  have s4 : w.heap.size < w2.heap.size := by omega
  have s5 : w.heap.size + 1 < w2.heap.size := by omega
  have s6 : w.heap.size + 1 + 1 < w2.heap.size := by omega
  have hmin : (if a < if k' < k then k' else k then a else if k' < k then k' else k) = m := by rw [hcm.out]; split <;> split at * <;> omega
  rw [hmin]
  have HB3 := Lib.hid (below_step HB.out HB2.out)
  clear hmin
  go_wp2_with fail
  refine (HU.out m _ (by omega) (by omega)).mono ?_
  rintro e w3 ⟨rfl, hb⟩
  obtain ⟨fc3, ff3⟩ := bcell hb
  have s7 : w.heap.size + 1 + 1 < w3.heap.size := by have := hb.size; omega
  have HB4 := Lib.hid (below_step HB3.out hb)
  clear hb
  go_wp2
  refine bodyPost_ret (v := .tuple #[.agg #[.bool six, .int .u64 (cutHi six hi m), .int .u64 (cutLo six lo m), .int .i64 m], .int .i64 0]) ?_ rfl ⟨rfl, ?_⟩
  · simp [results, Try.results141, go_sem, fc3, fc2, fc, s3, s6]
  · (repeat' first | with_reducible exact HB4.out | with_reducible exact Below.refl _ _ | with_reducible refine Below.drew ?_ | with_reducible refine below_drewN ?_ _ | with_reducible refine Below.setCell ?_ ?_ _ | with_reducible refine Below.alloc ?_ ?_ _ | (simp; done) | (simp; omega) | omega)

end Go.Proofs.Ytmljdjakbbedlaa

namespace Go.Proofs.Ytmljdjakbbedlaa
open Go.ChangeShapes Go.WideShapes Go.ChangeAt Go.RowKit

theorem Kept.alloc {S : List Nat} {w w' : World} (h : Kept S w w') (o : Obj) : Kept S w (w'.alloc o) :=
  ⟨h.os, h.tape, h.output, by simp; have := h.size; omega, fun k hk hn => (Below.heap_alloc _ _ _ (by have := h.size; omega)).trans (h.block k hk hn)⟩
theorem Kept.setCell {S : List Nat} {w w' : World} (h : Kept S w w') {p : Addr} (hp : p.block ∈ S ∨ w.heap.size ≤ p.block) (u : Value) : Kept S w (w'.setCell p u) :=
  ⟨h.os, h.tape, h.output, by simp; exact h.size, fun k hk hn => (Below.heap_setCell _ _ _ _ (fun e => by subst e; rcases hp with hp | hp; exact hn hp; omega)).trans (h.block k hk hn)⟩
theorem Kept.of_below {S : List Nat} {w w' : World} (h : Below w.heap.size w w') : Kept S w w' := ⟨h.os, h.tape, h.output, h.size, fun k hk _ => h.block k hk⟩
theorem Kept.then_below {S : List Nat} {w w1 w2 : World} (h : Kept S w w1) (hb : Below w1.heap.size w1 w2) : Kept S w w2 :=
  ⟨hb.os.trans h.os, hb.tape.trans h.tape, hb.output.trans h.output, Nat.le_trans h.size hb.size, fun k hk hn => (hb.block k (by have := h.size; omega)).trans (h.block k hk hn)⟩
theorem Kept.below {S : List Nat} {w w' : World} {B : Nat} (h : Kept S w w') (hS : ∀ k ∈ S, B ≤ k) (hB : B ≤ w.heap.size) : Below B w w' :=
  ⟨h.os, h.tape, h.output, h.size, fun k hk => h.block k (by omega) (fun hx => by have := hS k hx; omega)⟩

/-- What Put returns, and what it leaves. -/
def PutPost (w : World) (B tb : Nat) (R : Bool → Tr) (c : Int) (p : PV) (hop : Int) (e : Ending) (w' : World) : Prop :=
  e = .returned (.int .i64 (hopAt (R p.six) p)) ∧ (∃ G1 G2, Tab w' B tb (upd R p.six (putT p hop G1 G2 (R p.six))) (if hopAt (R p.six) p = 0 then c + 1 else c)) ∧ Kept (tabBlocks tb R) w w'

theorem chk_of {six : Bool} {hi lo n : Int} (h : Pfx six hi lo n) : chk six hi lo n = 0 := by
  unfold chk
  have := h.len
  rw [if_neg (by simp [h.may]), if_neg (by omega), if_pos h.clean]
theorem bothE_of {six : Bool} {hi lo n hi' lo' n' : Int} (h : Pfx six hi lo n) (h' : Pfx six hi' lo' n') : bothE six hi lo n six hi' lo' n' = 0 := by
  unfold bothE
  simp [chk_of h, chk_of h']
theorem keepF {w1 X : World} (hb : Below w1.heap.size w1 X) :
    (∀ b o, b < w1.heap.size → X.cell? ⟨b, o, none⟩ = w1.cell? ⟨b, o, none⟩) ∧ w1.heap.size ≤ X.heap.size ∧ Hid (Below w1.heap.size w1 X) :=
  ⟨fun b o h => hb.cell (p := ⟨b, o, none⟩) h, hb.size, hb⟩
theorem keepS {w1 X : World} (h : (∀ b o, b < w1.heap.size → X.cell? ⟨b, o, none⟩ = w1.cell? ⟨b, o, none⟩) ∧ w1.heap.size ≤ X.heap.size ∧ Hid (Below w1.heap.size w1 X)) {p : Addr} (hp : w1.heap.size ≤ p.block) (u : Value) :
    (∀ b o, b < w1.heap.size → (X.setCell p u).cell? ⟨b, o, none⟩ = w1.cell? ⟨b, o, none⟩) ∧ w1.heap.size ≤ (X.setCell p u).heap.size ∧ Hid (Below w1.heap.size w1 (X.setCell p u)) :=
  keepF (h.2.2.out.setCell hp u)
/-- A new block with a prefix. -/
def NewPfx (Y : World) (p : PV) (v : Value) (wc : World) : Prop :=
  ∃ b, v = .pointer (some ⟨b, 0, none⟩) ∧ b < wc.heap.size ∧ Blk wc b 42 #[.bool p.six, .int .u64 p.hi, .int .u64 p.lo, .int .i64 p.n] ∧ Below Y.heap.size Y wc
theorem newPfx_A {Y w3 : World} {six : Bool} {hi lo n : Int} (h : Below Y.heap.size Y w3) :
    NewPfx Y ⟨six, hi, lo, n⟩ (.pointer (some ⟨w3.heap.size, 0, none⟩)) (w3.alloc (.cells #[.bool six, .int .u64 hi, .int .u64 lo, .int .i64 n] 42)) :=
  ⟨_, rfl, by simp, Blk.new _ _ _, h.alloc h.size _⟩
theorem newPfx_B {Y Q w3 : World} {six : Bool} {hi lo n : Int} (hb : Below Q.heap.size Q w3) (hQ : Q.heap = (Y.alloc (.cells #[.bool false, .int .u64 0, .int .u64 0, .int .i64 0] 42)).heap) (h : Below Y.heap.size Y w3) :
    NewPfx Y ⟨six, hi, lo, n⟩ (.pointer (some ⟨Y.heap.size, 0, none⟩)) ((((w3.setCell ⟨Y.heap.size, 0, none⟩ (.bool six)).setCell ⟨Y.heap.size, 1, none⟩ (.int .u64 hi)).setCell ⟨Y.heap.size, 2, none⟩ (.int .u64 lo)).setCell ⟨Y.heap.size, 3, none⟩ (.int .i64 n)) := by
  have hs := hb.size
  rw [hQ] at hs
  simp at hs
  refine ⟨Y.heap.size, rfl, by simp; omega, ((((?_ : Blk w3 Y.heap.size _ #[.bool false, .int .u64 0, .int .u64 0, .int .i64 0]).set_ 0 _).set_ 1 _).set_ 2 _).set_ 3 _, ?_⟩
  · have := hb.block Y.heap.size (by rw [hQ]; simp)
    rw [hQ] at this
    exact this.trans (Blk.new Y _ _)
  · exact (((h.setCell (by simp) _).setCell (by simp) _).setCell (by simp) _).setCell (by simp) _
/-- A new node, and a block that leads to it. -/
def NewKid (wc : World) (G1 : Nat) (cs : Value → Array Value) (p : PV) (hop : Int) (wx : World) : Prop :=
  ∃ G2, wc.heap.size < G2 ∧ ¬ G1 = G2 ∧ Blk wx G2 193 (nodeCs p hop (.pointer none) (.pointer none)) ∧ Blk wx G1 193 (cs (.pointer (some ⟨G2, 0, none⟩))) ∧ Below wc.heap.size wc wx
theorem forkZ {wc Q w5 : World} {F : Array Value} (hb : Below Q.heap.size Q w5) (hQ : Q.heap = (wc.alloc (.cells F 193)).heap) (h : Below wc.heap.size wc w5) (i : Nat) (u : Value) :
    Blk (w5.setCell ⟨wc.heap.size, i, none⟩ u) wc.heap.size 193 (F.setIfInBounds i u) ∧ Below wc.heap.size wc (w5.setCell ⟨wc.heap.size, i, none⟩ u) := by
  refine ⟨Blk.set_ ?_ i u, h.setCell (Nat.le_refl _) _⟩
  have := hb.block wc.heap.size (by rw [hQ]; simp)
  rw [hQ] at this
  exact this.trans (Blk.new wc _ _)
theorem newKid_A {wc Z Q w6 : World} {G1 i : Nat} {F : Array Value} {p : PV} {hop : Int} {six : Bool} {hi lo n : Int} (hb : Below Q.heap.size Q w6) (hQ : Q.heap = Z.heap) (hp : p = ⟨six, hi, lo, n⟩) (hG : wc.heap.size = G1) (hz : wc.heap.size < Z.heap.size) (hk : Blk Z G1 193 F) (hb2 : Below wc.heap.size wc w6) :
    NewKid wc G1 (fun v => F.setIfInBounds i v) p hop ((w6.setCell ⟨G1, i, none⟩ (.pointer (some ⟨w6.heap.size, 0, none⟩))).alloc (.cells #[.bool six, .int .u64 hi, .int .u64 lo, .int .i64 n, .int .i64 hop, .pointer none, .pointer none] 193)) := by
  subst hp
  subst hG
  have hs := hb.size
  rw [hQ] at hs
  have k2 := hb.block wc.heap.size (by rw [hQ]; omega)
  rw [hQ] at k2
  have kn := Blk.new (w6.setCell ⟨wc.heap.size, i, none⟩ (.pointer (some ⟨w6.heap.size, 0, none⟩))) 193 #[.bool six, .int .u64 hi, .int .u64 lo, .int .i64 n, .int .i64 hop, .pointer none, .pointer none]
  rw [World.size_setCell] at kn
  refine ⟨w6.heap.size, by omega, by omega, kn, Blk.alloc (Blk.set_ (k2.trans hk) i _) _, ?_⟩
  exact (hb2.setCell (Nat.le_refl _) _).alloc (by simp; exact hb2.size) _
theorem newKid_B {wc Z Q w6 : World} {G1 i : Nat} {F : Array Value} {p : PV} {hop : Int} {six : Bool} {hi lo n : Int} (hb : Below Q.heap.size Q w6) (hQ : Q.heap = (Z.alloc (.cells #[.bool six, .int .u64 hi, .int .u64 lo, .int .i64 n, .int .i64 hop, .pointer none, .pointer none] 193)).heap) (hp : p = ⟨six, hi, lo, n⟩) (hG : wc.heap.size = G1) (hz : wc.heap.size < Z.heap.size) (hk : Blk Z G1 193 F) (_hwz : Below wc.heap.size wc Z) (hb2 : Below wc.heap.size wc w6) :
    NewKid wc G1 (fun v => F.setIfInBounds i v) p hop (w6.setCell ⟨G1, i, none⟩ (.pointer (some ⟨Z.heap.size, 0, none⟩))) := by
  subst hp
  subst hG
  have k1 := hb.block Z.heap.size (by rw [hQ]; simp)
  have k2 := hb.block wc.heap.size (by rw [hQ]; simp; omega)
  rw [hQ] at k1 k2
  refine ⟨Z.heap.size, hz, by omega, Blk.far (k1.trans (Blk.new Z _ _)) (p := ⟨wc.heap.size, i, none⟩) (by show ¬ _ = _; simp; omega) _, Blk.set_ (k2.trans (hk.alloc _)) i _, hb2.setCell (Nat.le_refl _) _⟩
theorem tab_fork {Y W : World} {B tb : Nat} {R : Bool → Tr} {c : Int} {s : Bool} {C : Ctx} {cur extra : Tr} {G1 : Nat} {p1 : PV} {h1 b : Int} (hT : Tab Y B tb R c) (hR : R s = C.plug cur) (hb : Below Y.heap.size Y W) (hG : Y.heap.size ≤ G1)
    (hblk : Blk W G1 193 (if b = 0 then nodeCs p1 h1 cur.ptr extra.ptr else nodeCs p1 h1 extra.ptr cur.ptr)) (hx : extra.Lies W B) (hxb : ∀ g ∈ extra.blocks, Y.heap.size ≤ g ∧ ¬ g = G1) (hxn : extra.blocks.Nodup) :
    Tab (W.setCell (C.slot tb s) (.pointer (some ⟨G1, 0, none⟩))) B tb (upd R s (C.plug (node2 G1 p1 h1 b cur extra))) c := by
  obtain ⟨n1, n2, n3, n4, n5, n6, n7, n8⟩ := nodup_parts hT hR
  have hcl := ((plug_lies C cur).1 (hR ▸ hT.lies s)).2
  have hlt := fun g hg => (hcl.lt g hg).2
  have hB := hT.base
  have htl := hT.blk.lt
  have hnotin : ∀ g, Y.heap.size ≤ g → g ∉ tabBlocks tb R := fun g hg hm => by have := (hT.lt g hm).2; omega
  have hcur := hcl.below hb
  have hptr : (node2 G1 p1 h1 b cur extra).ptr = .pointer (some ⟨G1, 0, none⟩) := by unfold node2; split <;> rfl
  rw [← hptr]
  refine Tab.store (hT.below hb) hR ?_ ?_ ?_
  · unfold node2
    by_cases h0 : b = 0
    · rw [if_pos h0] at hblk ⊢
      exact ⟨by omega, hblk, hcur, hx⟩
    · rw [if_neg h0] at hblk ⊢
      exact ⟨by omega, hblk, hx, hcur⟩
  · have hd1 : ∀ a ∈ cur.blocks, ∀ b ∈ extra.blocks, ¬ a = b := fun a ha b hb e => by subst e; have := hlt a ha; have := (hxb a hb).1; omega
    have hg1 : G1 ∉ cur.blocks := fun h => by have := hlt G1 h; omega
    have hg2 : G1 ∉ extra.blocks := fun h => (hxb G1 h).2 rfl
    unfold node2
    split
    · simp only [Tr.blocks, List.nodup_cons, List.mem_append, not_or, List.nodup_append]
      exact ⟨⟨hg1, hg2⟩, n4, hxn, hd1⟩
    · simp only [Tr.blocks, List.nodup_cons, List.mem_append, not_or, List.nodup_append]
      exact ⟨⟨hg2, hg1⟩, hxn, n4, fun a ha b hb e => hd1 b hb a ha e.symm⟩
  · intro g hg
    have : g = G1 ∨ g ∈ cur.blocks ∨ g ∈ extra.blocks := by
      unfold node2 at hg
      split at hg <;> simp only [Tr.blocks, List.mem_cons, List.mem_append] at hg
      · exact hg
      · rcases hg with h | h | h
        · exact .inl h
        · exact .inr (.inr h)
        · exact .inr (.inl h)
    rcases this with rfl | h | h
    · exact .inr (hnotin _ hG)
    · exact .inl h
    · exact .inr (hnotin _ (hxb g h).1)
theorem put_fin {W : World} {B tb : Nat} {R : Bool → Tr} {c : Int} {p : PV} {hop : Int} {C : Ctx} {cur : Tr} (G1 G2 : Nat) (hR : R p.six = C.plug cur) (hon : C.OnPath p)
    (ht : Tab W B tb (upd R p.six (C.plug (putT p hop G1 G2 cur))) (if hopAt cur p = 0 then c + 1 else c)) :
    ∃ G1 G2, Tab W B tb (upd R p.six (putT p hop G1 G2 (R p.six))) (if hopAt (R p.six) p = 0 then c + 1 else c) := by
  refine ⟨G1, G2, ?_⟩
  rw [hR, plug_hop C cur hon, plug_put C cur hon]
  exact ht

set_option maxRecDepth 100000 in
set_option maxHeartbeats 12800000 in
theorem put_any {w : World} {B tb : Nat} {R : Bool → Tr} {c : Int} (h : Tab w B tb R c) (p : PV) (hp : p.Ok) (hI : ∀ s, Inv s (fun _ => True) (R s)) (hop : Int) (hc : 0 ≤ c ∧ c ≤ 1000000) :
    Calls Try.prog 104 #[.pointer (some ⟨tb, 0, none⟩), p.val, .int .i64 hop] w (PutPost w B tb R c p hop) := by
  have HT := Lib.hid h
  have HP := Lib.hid hp
  have HI := Lib.hid hI
  have CP := Lib.hid (fun (Y : World) (hb : Below w.heap.size w Y) => place_any (h.below hb) p hp hI)
  obtain ⟨six, hi, lo, n⟩ := p
  clear h hp hI
  unfold PV.val at CP ⊢
  simp only at CP ⊢
  go_enter Try.func104, Try.ntmps104
  go_wp2_with fail
  refine (CP.out _ ((Below.refl _ _).alloc (Nat.le_refl _) _)).mono ?_
  rintro e X ⟨C, cur, hR, hon, hst, rfl, hb⟩
  obtain ⟨HBX, hsx, hbx⟩ := box1 (cs := [.bool six, .int .u64 hi, .int .u64 lo, .int .i64 n]) hb
  have e0 := hbx 0 _ rfl
  have e1 := hbx 1 _ rfl
  have e2 := hbx 2 _ rfl
  have e3 := hbx 3 _ rfl
  have hTX := HT.out.below HBX
  have hsl := hTX.slot hR
  have HTX := Lib.hid hTX
  have HB := Lib.hid HBX
  have HR := Lib.hid hR
  have HON := Lib.hid hon
  have hct : X.cell? ⟨tb, 2, none⟩ = some (.int .i64 c) := hTX.blk.cell 2
  have hcf : X.frozen? ⟨tb, 2, none⟩ = false := hTX.blk.frozen 2
  have htb := hTX.blk.lt
  obtain ⟨hs1, hs2, hs3⟩ := hsl
  have hslt := (hTX.lt _ hs3).2
  have HS3 := Lib.hid hs3
  have hne : ¬ Ctx.slot tb six C = ⟨tb, 2, none⟩ := by
    intro hx
    cases C with
    | top => simp only [Ctx.slot, slotOf] at hx; cases six <;> simp at hx
    | left C g q h r => simp [Ctx.slot] at hx
    | right C g q h r => simp [Ctx.slot] at hx
  have HNE := Lib.hid hne
  have hne' : ¬ (⟨tb, 2, none⟩ : Addr) = Ctx.slot tb six C := fun hx => HNE.out hx.symm
  obtain ⟨sl, hsl⟩ : ∃ sl, Ctx.slot tb six C = sl := ⟨_, rfl⟩
  have HSL := Lib.hid hsl
  rw [hsl] at hs1 hs2 hslt hne hne' ⊢
  clear hsl hb hbx HBX hTX hR hon hs3
  have hph := Lib.hid (plug_hop (p := ⟨six, hi, lo, n⟩) C cur HON.out)
  have HBA : ∀ o, Hid (Below X.heap.size X (X.alloc o)) := fun o => (Below.refl _ _).alloc (Nat.le_refl _) o
  have hsf : ∀ o, (X.alloc o).frozen? sl = false := fun o => ((HBA o).out.frozen hslt).trans hs2
  cases cur with
  | nil =>
    change X.cell? sl = some (.pointer none) at hs1
    go_wp2
    go_ret
    refine ⟨ret_int (by rw [HR.out, hph.out]; rfl), put_fin X.heap.size 0 HR.out HON.out ?_, ((((Kept.of_below HB.out).alloc _).setCell (.inl (by rw [← HSL.out]; exact HS3.out)) _).setCell (.inl (by simp [tabBlocks])) _)⟩
    rw [show hopAt Tr.nil ⟨six, hi, lo, n⟩ = 0 from rfl, if_pos rfl, ← HSL.out]
    refine Tab.count (Tab.store (HTX.out.below (HBA _).out) HR.out (new := .node X.heap.size ⟨six, hi, lo, n⟩ hop .nil .nil) ⟨?_, Blk.new _ _ _, trivial, trivial⟩ (by simp [Tr.blocks]) (fun g hg => ?_)) _
    · have := HTX.out.base; omega
    · simp [Tr.blocks] at hg
      subst hg
      exact .inr (fun hx => by have := (HTX.out.lt _ hx).2; omega)
  | node g q h l r =>
    obtain ⟨hblk, hgm⟩ := HTX.out.node HR.out
    obtain ⟨U', hiv⟩ := inv_plug C (.node g q h l r) _ (by rw [← HR.out]; exact HI.out six)
    obtain ⟨hq, hq6, _, hh, _, _⟩ := hiv
    have HQ := Lib.hid hq
    have n0 := hblk.cell 0
    have n1 := hblk.cell 1
    have n2 := hblk.cell 2
    have n3 := hblk.cell 3
    have n4 := hblk.cell 4
    have f4 := hblk.frozen 4
    have hgl := hblk.lt
    have HGM := Lib.hid hgm
    obtain ⟨qs, qh, ql, qn⟩ := q
    simp only [nodeCs] at n0 n1 n2 n3 n4 hq6
    simp at n0 n1 n2 n3 n4
    subst hq6
    change X.cell? sl = some (.pointer (some ⟨g, 0, none⟩)) at hs1
    clear hgm hblk hq
    have HEQ := Lib.hid (fun w => eqPV ⟨qs, qh, ql, qn⟩ ⟨qs, hi, lo, n⟩ w)
    by_cases he : (⟨qs, qh, ql, qn⟩ : PV) = ⟨qs, hi, lo, n⟩
    · injection he with _ a1 a2 a3
      subst a1
      subst a2
      subst a3
      have hop0 : Hid (hopAt (.node g ⟨qs, qh, ql, qn⟩ h l r) ⟨qs, qh, ql, qn⟩ = h) := by show _ = _; unfold hopAt; rw [if_pos rfl]
      have hput : Hid (putT ⟨qs, qh, ql, qn⟩ hop 0 0 (.node g ⟨qs, qh, ql, qn⟩ h l r) = .node g ⟨qs, qh, ql, qn⟩ hop l r) := by show _ = _; unfold putT; rw [if_pos rfl]
      by_cases h0 : h = 0
      · subst h0
        go_wp2
        go_quiet (fail)
        go_wp2
        go_ret
        refine ⟨ret_int (by rw [HR.out, hph.out, hop0.out]), put_fin 0 0 HR.out HON.out ?_, ((Kept.of_below (below_drewN HB.out _)).setCell (.inl HGM.out) _).setCell (.inl (by simp [tabBlocks])) _⟩
        rw [hop0.out, if_pos rfl, hput.out]
        exact (Tab.hop (HTX.out.below (below_drewN (Below.refl _ _) _)) HR.out hop).count _
      · have hn0 : (h == 0) = false := by simpa using h0
        have H0 := Lib.hid h0
        clear h0
        go_wp2
        go_quiet (fail)
        go_wp2
        go_ret
        refine ⟨ret_int (by rw [HR.out, hph.out, hop0.out]), put_fin 0 0 HR.out HON.out ?_, (Kept.of_below (below_drewN HB.out _)).setCell (.inl HGM.out) _⟩
        rw [hop0.out, if_neg H0.out, hput.out]
        exact Tab.hop (HTX.out.below (below_drewN (Below.refl _ _) _)) HR.out hop
    · have hov : PV.over ⟨qs, qh, ql, qn⟩ ⟨qs, hi, lo, n⟩ = false := by
        rcases hst with hx | hx
        · exact absurd hx he
        · exact hx
      have HNQ := Lib.hid he
      rw [decide_eq_false he] at HEQ
      unfold PV.val at HEQ
      simp only at HEQ
      have HEQ' := HEQ.out
      clear he hst
      have HCF := Lib.hid (com_facts HQ.out HP.out rfl)
      have HCL := Lib.hid (com_lt HQ.out HP.out rfl hov)
      have HCB := Lib.hid (com_bit HQ.out HP.out rfl)
      have HOV := Lib.hid hov
      have CC : Hid (∀ Z, Calls Try.prog 141 #[.agg #[.bool qs, .int .u64 qh, .int .u64 ql, .int .i64 qn], .agg #[.bool qs, .int .u64 hi, .int .u64 lo, .int .i64 n]] Z fun e w' => e = .returned (.tuple #[(PV.com ⟨qs, qh, ql, qn⟩ ⟨qs, hi, lo, n⟩).val, .int .i64 0]) ∧ Below Z.heap.size Z w') :=
        fun Z => common_ok qs qh ql qn hi lo n Z HQ.out HP.out (bothE_of HQ.out HP.out)
      have h6 : (PV.com ⟨qs, qh, ql, qn⟩ ⟨qs, hi, lo, n⟩).six = qs := rfl
      obtain ⟨cm, hcm⟩ : ∃ cm, PV.com ⟨qs, qh, ql, qn⟩ ⟨qs, hi, lo, n⟩ = cm := ⟨_, rfl⟩
      have HCM := Lib.hid hcm
      rw [hcm] at HCF HCL HCB CC h6
      obtain ⟨cs, ch, cl, cn⟩ := cm
      simp only at h6
      subst h6
      unfold PV.val at CC
      simp only at CC
      clear hcm hov
      go_wp2
      go_quiet (fail)
      obtain ⟨Y, hY⟩ : ∃ Y, X.drewN nq = Y := ⟨_, rfl⟩
      have HXY : Hid (Below X.heap.size X Y) := by show Below _ _ _; rw [← hY]; exact below_drewN (Below.refl _ _) _
      rw [hY]
      have HTY := Lib.hid (HTX.out.below HXY.out)
      have sy := HXY.out.size
      obtain ⟨cy, fy⟩ := bcell HXY.out
      have hs1y : Y.cell? sl = some (.pointer (some ⟨g, 0, none⟩)) := (HXY.out.cell hslt).trans hs1
      have hs2y : Y.frozen? sl = false := (HXY.out.frozen hslt).trans hs2
      have e0y := (cy w.heap.size 0 hsx).trans e0
      have e1y := (cy w.heap.size 1 hsx).trans e1
      have e2y := (cy w.heap.size 2 hsx).trans e2
      have e3y := (cy w.heap.size 3 hsx).trans e3
      have n0y := (cy g 0 hgl).trans n0
      have n1y := (cy g 1 hgl).trans n1
      have n2y := (cy g 2 hgl).trans n2
      have n3y := (cy g 3 hgl).trans n3
      have hcty := (cy tb 2 htb).trans hct
      have hcfy := (fy tb 2 htb).trans hcf
      have hsyw : w.heap.size < Y.heap.size := by omega
      have hsyg : g < Y.heap.size := by omega
      have hsyt : tb < Y.heap.size := by omega
      have hsys : sl.block < Y.heap.size := by omega
      have HBY := Lib.hid (below_step HB.out HXY.out)
      clear hY cy fy hs1 hs2 e0 e1 e2 e3 n0 n1 n2 n3 n4 f4 hct hcf hsf HBA hslt htb hsx hgl
      go_upto_region 3 with fail
      go_cut [10] (fun v wx => NewPfx Y ⟨cs, ch, cl, cn⟩ v wx)
      case first =>
        go_region_held3 (fun w' => (∀ b o, b < Y.heap.size → w'.cell? ⟨b, o, none⟩ = Y.cell? ⟨b, o, none⟩) ∧ Y.heap.size ≤ w'.heap.size ∧ Hid (Below Y.heap.size  Y w'))
          ((first | assumption | exact keep0 _ | (refine keepF ?_; (repeat' first | with_reducible exact HB3.out | with_reducible exact Below.refl _ _ | with_reducible refine Below.drew ?_ | with_reducible refine below_drewN ?_ _ | with_reducible refine Below.setCell ?_ ?_ _ | with_reducible refine Below.alloc ?_ ?_ _ | exact HB3.out.size | (simp; done) | (simp; have := HB3.out.size; omega) | (simp; omega)); done)))
          (first | (go_at_call 141; refine (CC.out _).mono ?_; rintro e w3 ⟨rfl, hb3⟩; obtain ⟨fc3, ff3⟩ := bcell hb3; have hz3 := hb3.size; have HB3 : Hid (Below Y.heap.size Y w3) := (keepBelow (by assumption)).trans (hb3.mono (keepSize (by assumption)))))
        all_goals
          go_wp2_with fail
          go_meet
          first
            | with_reducible exact newPfx_A HB3.out
            | exact newPfx_B hb3 rfl HB3.out
      case rest =>
        generalize wc = V at *
        obtain ⟨b1, rfl, hb1, hbk, hbw⟩ := hcut
        have c0 := hbk.cell 0
        have c1 := hbk.cell 1
        have c2 := hbk.cell 2
        have c3 := hbk.cell 3
        simp at c0 c1 c2 c3
        obtain ⟨cy, fy⟩ := bcell hbw
        have HTW := Lib.hid (HTY.out.below hbw)
        have HBW := Lib.hid hbw
        have sw := hbw.size
        have e0w := (cy w.heap.size 0 hsyw).trans e0y
        have e1w := (cy w.heap.size 1 hsyw).trans e1y
        have e2w := (cy w.heap.size 2 hsyw).trans e2y
        have e3w := (cy w.heap.size 3 hsyw).trans e3y
        have n0w := (cy g 0 hsyg).trans n0y
        have n1w := (cy g 1 hsyg).trans n1y
        have n2w := (cy g 2 hsyg).trans n2y
        have n3w := (cy g 3 hsyg).trans n3y
        have hctw := (cy tb 2 hsyt).trans hcty
        have hcfw := (fy tb 2 hsyt).trans hcfy
        have hs1w : V.cell? sl = some (.pointer (some ⟨g, 0, none⟩)) := (HBW.out.cell hsys).trans hs1y
        have hs2w : V.frozen? sl = false := (HBW.out.frozen hsys).trans hs2y
        have hwb : w.heap.size < V.heap.size := by omega
        have hwg : g < V.heap.size := by omega
        have hwt : tb < V.heap.size := by omega
        have hws : sl.block < V.heap.size := by omega
        have hrc := ok_n HCF.out.1
        try simp only at hrc
        have hcl := HCL.out
        try simp only at hcl
        have hcqn := (ok_n HQ.out).2
        try simp only at hcqn
        have rq1 := Pfx.rhi HQ.out
        have rq2 := Pfx.rlo HQ.out
        have rp1 := Pfx.rhi HP.out
        have rp2 := Pfx.rlo HP.out
        try simp only at rq1 rq2 rp1 rp2
        have CB0 := Lib.hid (fun w => at_any cs qh ql cn w rq1 rq2 hrc.1 (by omega))
        have CP0 := Lib.hid (fun w (h : cn < n) => at_any cs hi lo cn w rp1 rp2 hrc.1 (by have := (ok_n HP.out).2; simp only at this; omega))
        have HQB : Hid (PV.bit ⟨cs, qh, ql, qn⟩ cn = bitI cs qh ql cn) := Eq.refl _
        obtain ⟨bv, hbv⟩ : ∃ bv, bitI cs qh ql cn = bv := ⟨_, rfl⟩
        have hb01 : bv = 0 ∨ bv = 1 := by rw [← hbv]; exact PV.bit01 ⟨cs, qh, ql, qn⟩ cn
        rw [hbv] at CB0 HQB
        clear hbv hbk hbw cy fy rq1 rq2 rp1 rp2 hcqn hcl sw e0y e1y e2y e3y n0y n1y n2y n3y hcty hcfy hs1y hs2y hsyw hsyg hsyt hsys
        rcases hb01 with rfl | rfl
        · have CB := Lib.hid CB0.out
          have HZ : Hid (Below V.heap.size V V) := Below.refl _ _
          go_wp2
          go_region_held3 (fun w' => (∀ b o, b < V.heap.size → w'.cell? ⟨b, o, none⟩ = V.cell? ⟨b, o, none⟩) ∧ V.heap.size ≤ w'.heap.size ∧ Hid (Below V.heap.size V w'))
            ((first | assumption | exact keep0 _ | (refine keepF ?_; (repeat' first | with_reducible exact HB5.out | with_reducible exact HZ.out | with_reducible exact Below.refl _ _ | with_reducible refine Below.drew ?_ | with_reducible refine below_drewN ?_ _ | with_reducible refine Below.setCell ?_ ?_ _ | with_reducible refine Below.alloc ?_ ?_ _ | exact HB5.out.size | exact HZ.out.size | (simp; done) | (simp; have := HB5.out.size; omega) | (simp; have := HZ.out.size; omega) | (simp; omega)); done)))
            (first | (go_at_call 132; refine (CB.out _).mono ?_; rintro e w5 ⟨rfl, hb5⟩; obtain ⟨fc5, ff5⟩ := bcell hb5; have hz5 := hb5.size; have HB5 : Hid (Below V.heap.size V w5) := (keepBelow (by assumption)).trans (hb5.mono (keepSize (by assumption)))))
          obtain ⟨Z, hZ⟩ : ∃ Z, w5.setCell ⟨V.heap.size, 5, none⟩ (.pointer (some ⟨g, 0, none⟩)) = Z := ⟨_, rfl⟩
          have hfz := forkZ hb5 rfl HB5.out 5 (.pointer (some ⟨g, 0, none⟩))
          rw [hZ] at hfz
          rw [hZ]
          have hsz5 : V.heap.size < Z.heap.size := hfz.1.lt
          clear hZ fc5 ff5 hz5 hb5 HB5 HZ
          obtain ⟨hkz, hbz⟩ := hfz
          have hkz : Blk Z V.heap.size 193 (nodeCs ⟨cs, ch, cl, cn⟩ 0 (.pointer (some ⟨g, 0, none⟩)) (.pointer none)) := hkz
          have HKZ := Lib.hid hkz
          have HZ := Lib.hid hbz
          obtain ⟨cz, fz⟩ := bcell hbz
          have c0z := (cz b1 0 hb1).trans c0
          have c1z := (cz b1 1 hb1).trans c1
          have c2z := (cz b1 2 hb1).trans c2
          have c3z := (cz b1 3 hb1).trans c3
          have e0z := (cz w.heap.size 0 hwb).trans e0w
          have e1z := (cz w.heap.size 1 hwb).trans e1w
          have e2z := (cz w.heap.size 2 hwb).trans e2w
          have e3z := (cz w.heap.size 3 hwb).trans e3w
          have hctz := (cz tb 2 hwt).trans hctw
          have hcfz := (fz tb 2 hwt).trans hcfw
          have hs1z : Z.cell? sl = some (.pointer (some ⟨g, 0, none⟩)) := (HZ.out.cell hws).trans hs1w
          have hs2z : Z.frozen? sl = false := (HZ.out.frozen hws).trans hs2w
          have kz4 := hkz.cell 4
          have kf4 := hkz.frozen 4
          simp [nodeCs] at kz4
          have hsl4 : ¬ sl = ⟨V.heap.size, 4, none⟩ := fun hx => by rw [hx] at hws; simp at hws
          have hsl4' : ¬ (⟨V.heap.size, 4, none⟩ : Addr) = sl := fun hx => hsl4 hx.symm
          have hzz : Hid (Below Y.heap.size Y Z) := HBW.out.trans (HZ.out.mono HBW.out.size)
          clear cz fz hkz hbz
          have HCP := fun w => eqPV ⟨cs, ch, cl, cn⟩ ⟨cs, hi, lo, n⟩ w
          by_cases hcp : (⟨cs, ch, cl, cn⟩ : PV) = ⟨cs, hi, lo, n⟩
          · have hput : Hid (putT ⟨cs, hi, lo, n⟩ hop V.heap.size 0 (.node g ⟨cs, qh, ql, qn⟩ h l r) = node2 V.heap.size ⟨cs, hi, lo, n⟩ hop 0 (.node g ⟨cs, qh, ql, qn⟩ h l r) .nil) := by
              show _ = _
              unfold putT
              rw [if_neg HNQ.out, if_pos HOV.out]
              unfold forkT
              rw [HCM.out, if_pos hcp, HQB.out]
            have hop0 : Hid (hopAt (.node g ⟨cs, qh, ql, qn⟩ h l r) ⟨cs, hi, lo, n⟩ = 0) := by show _ = _; unfold hopAt; rw [if_neg HNQ.out, if_pos HOV.out]
            rw [decide_eq_true hcp] at HCP
            injection hcp with _ a1 a2 a3
            subst a1
            subst a2
            subst a3
            unfold PV.val at HCP
            simp only at HCP
            go_wp2
            go_ret
            refine ⟨ret_int (by rw [HR.out, hph.out, hop0.out]), put_fin V.heap.size 0 HR.out HON.out ?_, ((((Kept.of_below (HBY.out.trans (hzz.out.mono HBY.out.size))).setCell (.inr (by show _ ≤ _; simp; omega)) _).setCell (.inl (by rw [← HSL.out]; exact HS3.out)) _).setCell (.inl (by simp [tabBlocks])) _)⟩
            rw [hop0.out, if_pos rfl, hput.out, ← HSL.out]
            exact (tab_fork (extra := Tr.nil) HTY.out HR.out (hzz.out.setCell (HBW.out.size) _) HBW.out.size (HKZ.out.set_ 4 _) trivial (by simp [Tr.blocks]) (by simp [Tr.blocks])).count _
          · have hltn : cn < n := by
              rcases Int.lt_or_le cn n with hx | hx
              · exact hx
              · exact absurd (over_eq HCF.out.1 HP.out HCF.out.2.2.2.2.1 hx) hcp
            have hpb : Hid (bitI cs hi lo cn = 1) := by
              have h1 := HCB.out HCL.out hltn
              have h2 := PV.bit01 ⟨cs, hi, lo, n⟩ cn
              have h3 := HQB.out
              try simp only at h1
              show PV.bit ⟨cs, hi, lo, n⟩ cn = 1
              omega
            have CPB := Lib.hid (fun w => CP0.out w hltn)
            rw [hpb.out] at CPB
            rw [decide_eq_false hcp] at HCP
            have HNC := Lib.hid hcp
            unfold PV.val at HCP
            simp only at HCP
            clear hcp
            have kz6 := HKZ.out.cell 6
            have kf6 := HKZ.out.frozen 6
            simp [nodeCs] at kz6
            go_upto_region 8 with fail
            go_cut [60] (fun _ wx => NewKid V V.heap.size (fun v => (nodeCs ⟨cs, ch, cl, cn⟩ 0 (.pointer (some ⟨g, 0, none⟩)) (.pointer none)).setIfInBounds 6 v) ⟨cs, hi, lo, n⟩ hop wx)
            case first =>
              go_region_held3 (fun w' => (∀ b o, b < V.heap.size → w'.cell? ⟨b, o, none⟩ = V.cell? ⟨b, o, none⟩) ∧ V.heap.size ≤ w'.heap.size ∧ Hid (Below V.heap.size V w'))
                ((first | assumption | exact keep0 _ | (refine keepF ?_; (repeat' first | with_reducible exact HB6.out | with_reducible exact HZ.out | with_reducible exact Below.refl _ _ | with_reducible refine Below.drew ?_ | with_reducible refine below_drewN ?_ _ | with_reducible refine Below.setCell ?_ ?_ _ | with_reducible refine Below.alloc ?_ ?_ _ | exact HB6.out.size | exact HZ.out.size | (simp; done) | (simp; have := HB6.out.size; omega) | (simp; have := HZ.out.size; omega) | (simp; omega)); done)))
                (first | (go_at_call 132; refine (CPB.out _).mono ?_; rintro e w6 ⟨rfl, hb6⟩; obtain ⟨fc6, ff6⟩ := bcell hb6; have hz6 := hb6.size; have hg6 : V.heap.size < w6.heap.size := Nat.lt_of_lt_of_le hsz5 (Nat.le_trans (by simp) hb6.size); have hg7 : ¬ V.heap.size = w6.heap.size := Nat.ne_of_lt hg6; have hg8 : ¬ w6.heap.size = V.heap.size := fun hx => hg7 hx.symm; have kz7 : w6.cell? ⟨V.heap.size, 6, none⟩ = some (.pointer none) := (fc6 _ _ (Nat.lt_of_lt_of_le hsz5 (by simp))).trans (by first | exact kz6 | exact (((Below.refl Z.heap.size Z).alloc (Nat.le_refl _) _).cell (p := ⟨V.heap.size, 6, none⟩) hsz5).trans kz6); have kf7 : w6.frozen? ⟨V.heap.size, 6, none⟩ = false := (ff6 _ _ (Nat.lt_of_lt_of_le hsz5 (by simp))).trans (by first | exact kf6 | exact (((Below.refl Z.heap.size Z).alloc (Nat.le_refl _) _).frozen (p := ⟨V.heap.size, 6, none⟩) hsz5).trans kf6); have HB6 : Hid (Below V.heap.size V w6) := (keepBelow (by assumption)).trans (hb6.mono (keepSize (by assumption)))))
              all_goals
                go_wp2_with fail
                go_meet
                first
                  | ((with_reducible refine newKid_B hb6 ?_ rfl rfl hsz5 HKZ.out HZ.out HB6.out); rfl)
                  | ((with_reducible refine newKid_A hb6 ?_ rfl rfl hsz5 HKZ.out HB6.out); rfl)
            case rest =>
              obtain ⟨G2, hg2, hg12, hk2, hk1, hbx⟩ := hcut
              have HK2 := Lib.hid hk2
              have HK1 := Lib.hid hk1
              have HX := Lib.hid hbx
              obtain ⟨cx, fx⟩ := bcell hbx
              have hctx := (cx tb 2 hwt).trans hctw
              have hcfx := (fx tb 2 hwt).trans hcfw
              have hs1x : wc.cell? sl = some (.pointer (some ⟨g, 0, none⟩)) := (HX.out.cell hws).trans hs1w
              have hs2x : wc.frozen? sl = false := (HX.out.frozen hws).trans hs2w
              have hput : Hid (putT ⟨cs, hi, lo, n⟩ hop V.heap.size G2 (.node g ⟨cs, qh, ql, qn⟩ h l r) = node2 V.heap.size ⟨cs, ch, cl, cn⟩ 0 0 (.node g ⟨cs, qh, ql, qn⟩ h l r) (.node G2 ⟨cs, hi, lo, n⟩ hop .nil .nil)) := by
                show _ = _
                unfold putT
                rw [if_neg HNQ.out, if_pos HOV.out]
                unfold forkT
                rw [HCM.out, if_neg HNC.out, HQB.out]
              have hop0 : Hid (hopAt (.node g ⟨cs, qh, ql, qn⟩ h l r) ⟨cs, hi, lo, n⟩ = 0) := by show _ = _; unfold hopAt; rw [if_neg HNQ.out, if_pos HOV.out]
              have hyx : Hid (Below Y.heap.size Y wc) := HBW.out.trans (HX.out.mono HBW.out.size)
              have hbs := HBW.out.size
              clear hk2 hk1 hbx cx fx hs1z hs2z hctz hcfz hs1w hs2w hctw hcfw
              go_wp2
              go_ret
              refine ⟨ret_int (by rw [HR.out, hph.out, hop0.out]), put_fin V.heap.size G2 HR.out HON.out ?_, (((Kept.of_below (HBY.out.trans (hyx.out.mono HBY.out.size))).setCell (.inl (by rw [← HSL.out]; exact HS3.out)) _).setCell (.inl (by simp [tabBlocks])) _)⟩
              rw [hop0.out, if_pos rfl, hput.out, ← HSL.out]
              refine Tab.count (tab_fork (p1 := ⟨cs, ch, cl, cn⟩) (h1 := 0) (b := 0) (extra := Tr.node G2 ⟨cs, hi, lo, n⟩ hop .nil .nil) HTY.out HR.out hyx.out HBW.out.size HK1.out ⟨?_, HK2.out, trivial, trivial⟩ (fun g' hg' => ?_) (by simp [Tr.blocks])) _
              · have := HTY.out.base
                have := HTY.out.blk.lt
                omega
              · simp [Tr.blocks] at hg'
                subst hg'
                exact ⟨by omega, fun hx => hg12 hx.symm⟩
        · have CB := Lib.hid CB0.out
          have HZ : Hid (Below V.heap.size V V) := Below.refl _ _
          go_wp2
          go_region_held3 (fun w' => (∀ b o, b < V.heap.size → w'.cell? ⟨b, o, none⟩ = V.cell? ⟨b, o, none⟩) ∧ V.heap.size ≤ w'.heap.size ∧ Hid (Below V.heap.size V w'))
            ((first | assumption | exact keep0 _ | (refine keepF ?_; (repeat' first | with_reducible exact HB5.out | with_reducible exact HZ.out | with_reducible exact Below.refl _ _ | with_reducible refine Below.drew ?_ | with_reducible refine below_drewN ?_ _ | with_reducible refine Below.setCell ?_ ?_ _ | with_reducible refine Below.alloc ?_ ?_ _ | exact HB5.out.size | exact HZ.out.size | (simp; done) | (simp; have := HB5.out.size; omega) | (simp; have := HZ.out.size; omega) | (simp; omega)); done)))
            (first | (go_at_call 132; refine (CB.out _).mono ?_; rintro e w5 ⟨rfl, hb5⟩; obtain ⟨fc5, ff5⟩ := bcell hb5; have hz5 := hb5.size; have HB5 : Hid (Below V.heap.size V w5) := (keepBelow (by assumption)).trans (hb5.mono (keepSize (by assumption)))))
          obtain ⟨Z, hZ⟩ : ∃ Z, w5.setCell ⟨V.heap.size, 6, none⟩ (.pointer (some ⟨g, 0, none⟩)) = Z := ⟨_, rfl⟩
          have hfz := forkZ hb5 rfl HB5.out 6 (.pointer (some ⟨g, 0, none⟩))
          rw [hZ] at hfz
          rw [hZ]
          have hsz5 : V.heap.size < Z.heap.size := hfz.1.lt
          clear hZ fc5 ff5 hz5 hb5 HB5 HZ
          obtain ⟨hkz, hbz⟩ := hfz
          have hkz : Blk Z V.heap.size 193 (nodeCs ⟨cs, ch, cl, cn⟩ 0 (.pointer none) (.pointer (some ⟨g, 0, none⟩))) := hkz
          have HKZ := Lib.hid hkz
          have HZ := Lib.hid hbz
          obtain ⟨cz, fz⟩ := bcell hbz
          have c0z := (cz b1 0 hb1).trans c0
          have c1z := (cz b1 1 hb1).trans c1
          have c2z := (cz b1 2 hb1).trans c2
          have c3z := (cz b1 3 hb1).trans c3
          have e0z := (cz w.heap.size 0 hwb).trans e0w
          have e1z := (cz w.heap.size 1 hwb).trans e1w
          have e2z := (cz w.heap.size 2 hwb).trans e2w
          have e3z := (cz w.heap.size 3 hwb).trans e3w
          have hctz := (cz tb 2 hwt).trans hctw
          have hcfz := (fz tb 2 hwt).trans hcfw
          have hs1z : Z.cell? sl = some (.pointer (some ⟨g, 0, none⟩)) := (HZ.out.cell hws).trans hs1w
          have hs2z : Z.frozen? sl = false := (HZ.out.frozen hws).trans hs2w
          have kz4 := hkz.cell 4
          have kf4 := hkz.frozen 4
          simp [nodeCs] at kz4
          have hsl4 : ¬ sl = ⟨V.heap.size, 4, none⟩ := fun hx => by rw [hx] at hws; simp at hws
          have hsl4' : ¬ (⟨V.heap.size, 4, none⟩ : Addr) = sl := fun hx => hsl4 hx.symm
          have hzz : Hid (Below Y.heap.size Y Z) := HBW.out.trans (HZ.out.mono HBW.out.size)
          clear cz fz hkz hbz
          have HCP := fun w => eqPV ⟨cs, ch, cl, cn⟩ ⟨cs, hi, lo, n⟩ w
          by_cases hcp : (⟨cs, ch, cl, cn⟩ : PV) = ⟨cs, hi, lo, n⟩
          · have hput : Hid (putT ⟨cs, hi, lo, n⟩ hop V.heap.size 0 (.node g ⟨cs, qh, ql, qn⟩ h l r) = node2 V.heap.size ⟨cs, hi, lo, n⟩ hop 1 (.node g ⟨cs, qh, ql, qn⟩ h l r) .nil) := by
              show _ = _
              unfold putT
              rw [if_neg HNQ.out, if_pos HOV.out]
              unfold forkT
              rw [HCM.out, if_pos hcp, HQB.out]
            have hop0 : Hid (hopAt (.node g ⟨cs, qh, ql, qn⟩ h l r) ⟨cs, hi, lo, n⟩ = 0) := by show _ = _; unfold hopAt; rw [if_neg HNQ.out, if_pos HOV.out]
            rw [decide_eq_true hcp] at HCP
            injection hcp with _ a1 a2 a3
            subst a1
            subst a2
            subst a3
            unfold PV.val at HCP
            simp only at HCP
            go_wp2
            go_ret
            refine ⟨ret_int (by rw [HR.out, hph.out, hop0.out]), put_fin V.heap.size 0 HR.out HON.out ?_, ((((Kept.of_below (HBY.out.trans (hzz.out.mono HBY.out.size))).setCell (.inr (by show _ ≤ _; simp; omega)) _).setCell (.inl (by rw [← HSL.out]; exact HS3.out)) _).setCell (.inl (by simp [tabBlocks])) _)⟩
            rw [hop0.out, if_pos rfl, hput.out, ← HSL.out]
            exact (tab_fork (extra := Tr.nil) HTY.out HR.out (hzz.out.setCell (HBW.out.size) _) HBW.out.size (HKZ.out.set_ 4 _) trivial (by simp [Tr.blocks]) (by simp [Tr.blocks])).count _
          · have hltn : cn < n := by
              rcases Int.lt_or_le cn n with hx | hx
              · exact hx
              · exact absurd (over_eq HCF.out.1 HP.out HCF.out.2.2.2.2.1 hx) hcp
            have hpb : Hid (bitI cs hi lo cn = 0) := by
              have h1 := HCB.out HCL.out hltn
              have h2 := PV.bit01 ⟨cs, hi, lo, n⟩ cn
              have h3 := HQB.out
              try simp only at h1
              show PV.bit ⟨cs, hi, lo, n⟩ cn = 0
              omega
            have CPB := Lib.hid (fun w => CP0.out w hltn)
            rw [hpb.out] at CPB
            rw [decide_eq_false hcp] at HCP
            have HNC := Lib.hid hcp
            unfold PV.val at HCP
            simp only at HCP
            clear hcp
            have kz6 := HKZ.out.cell 5
            have kf6 := HKZ.out.frozen 5
            simp [nodeCs] at kz6
            go_upto_region 8 with fail
            go_cut [60] (fun _ wx => NewKid V V.heap.size (fun v => (nodeCs ⟨cs, ch, cl, cn⟩ 0 (.pointer none) (.pointer (some ⟨g, 0, none⟩))).setIfInBounds 5 v) ⟨cs, hi, lo, n⟩ hop wx)
            case first =>
              go_region_held3 (fun w' => (∀ b o, b < V.heap.size → w'.cell? ⟨b, o, none⟩ = V.cell? ⟨b, o, none⟩) ∧ V.heap.size ≤ w'.heap.size ∧ Hid (Below V.heap.size V w'))
                ((first | assumption | exact keep0 _ | (refine keepF ?_; (repeat' first | with_reducible exact HB6.out | with_reducible exact HZ.out | with_reducible exact Below.refl _ _ | with_reducible refine Below.drew ?_ | with_reducible refine below_drewN ?_ _ | with_reducible refine Below.setCell ?_ ?_ _ | with_reducible refine Below.alloc ?_ ?_ _ | exact HB6.out.size | exact HZ.out.size | (simp; done) | (simp; have := HB6.out.size; omega) | (simp; have := HZ.out.size; omega) | (simp; omega)); done)))
                (first | (go_at_call 132; refine (CPB.out _).mono ?_; rintro e w6 ⟨rfl, hb6⟩; obtain ⟨fc6, ff6⟩ := bcell hb6; have hz6 := hb6.size; have hg6 : V.heap.size < w6.heap.size := Nat.lt_of_lt_of_le hsz5 (Nat.le_trans (by simp) hb6.size); have hg7 : ¬ V.heap.size = w6.heap.size := Nat.ne_of_lt hg6; have hg8 : ¬ w6.heap.size = V.heap.size := fun hx => hg7 hx.symm; have kz7 : w6.cell? ⟨V.heap.size, 5, none⟩ = some (.pointer none) := (fc6 _ _ (Nat.lt_of_lt_of_le hsz5 (by simp))).trans (by first | exact kz6 | exact (((Below.refl Z.heap.size Z).alloc (Nat.le_refl _) _).cell (p := ⟨V.heap.size, 5, none⟩) hsz5).trans kz6); have kf7 : w6.frozen? ⟨V.heap.size, 5, none⟩ = false := (ff6 _ _ (Nat.lt_of_lt_of_le hsz5 (by simp))).trans (by first | exact kf6 | exact (((Below.refl Z.heap.size Z).alloc (Nat.le_refl _) _).frozen (p := ⟨V.heap.size, 5, none⟩) hsz5).trans kf6); have HB6 : Hid (Below V.heap.size V w6) := (keepBelow (by assumption)).trans (hb6.mono (keepSize (by assumption)))))
              all_goals
                go_wp2_with fail
                go_meet
                first
                  | ((with_reducible refine newKid_B hb6 ?_ rfl rfl hsz5 HKZ.out HZ.out HB6.out); rfl)
                  | ((with_reducible refine newKid_A hb6 ?_ rfl rfl hsz5 HKZ.out HB6.out); rfl)
            case rest =>
              obtain ⟨G2, hg2, hg12, hk2, hk1, hbx⟩ := hcut
              have HK2 := Lib.hid hk2
              have HK1 := Lib.hid hk1
              have HX := Lib.hid hbx
              obtain ⟨cx, fx⟩ := bcell hbx
              have hctx := (cx tb 2 hwt).trans hctw
              have hcfx := (fx tb 2 hwt).trans hcfw
              have hs1x : wc.cell? sl = some (.pointer (some ⟨g, 0, none⟩)) := (HX.out.cell hws).trans hs1w
              have hs2x : wc.frozen? sl = false := (HX.out.frozen hws).trans hs2w
              have hput : Hid (putT ⟨cs, hi, lo, n⟩ hop V.heap.size G2 (.node g ⟨cs, qh, ql, qn⟩ h l r) = node2 V.heap.size ⟨cs, ch, cl, cn⟩ 0 1 (.node g ⟨cs, qh, ql, qn⟩ h l r) (.node G2 ⟨cs, hi, lo, n⟩ hop .nil .nil)) := by
                show _ = _
                unfold putT
                rw [if_neg HNQ.out, if_pos HOV.out]
                unfold forkT
                rw [HCM.out, if_neg HNC.out, HQB.out]
              have hop0 : Hid (hopAt (.node g ⟨cs, qh, ql, qn⟩ h l r) ⟨cs, hi, lo, n⟩ = 0) := by show _ = _; unfold hopAt; rw [if_neg HNQ.out, if_pos HOV.out]
              have hyx : Hid (Below Y.heap.size Y wc) := HBW.out.trans (HX.out.mono HBW.out.size)
              have hbs := HBW.out.size
              clear hk2 hk1 hbx cx fx hs1z hs2z hctz hcfz hs1w hs2w hctw hcfw
              go_wp2
              go_ret
              refine ⟨ret_int (by rw [HR.out, hph.out, hop0.out]), put_fin V.heap.size G2 HR.out HON.out ?_, (((Kept.of_below (HBY.out.trans (hyx.out.mono HBY.out.size))).setCell (.inl (by rw [← HSL.out]; exact HS3.out)) _).setCell (.inl (by simp [tabBlocks])) _)⟩
              rw [hop0.out, if_pos rfl, hput.out, ← HSL.out]
              refine Tab.count (tab_fork (p1 := ⟨cs, ch, cl, cn⟩) (h1 := 0) (b := 1) (extra := Tr.node G2 ⟨cs, hi, lo, n⟩ hop .nil .nil) HTY.out HR.out hyx.out HBW.out.size HK1.out ⟨?_, HK2.out, trivial, trivial⟩ (fun g' hg' => ?_) (by simp [Tr.blocks])) _
              · have := HTY.out.base
                have := HTY.out.blk.lt
                omega
              · simp [Tr.blocks] at hg'
                subst hg'
                exact ⟨by omega, fun hx => hg12 hx.symm⟩

end Go.Proofs.Ytmljdjakbbedlaa

namespace Go.Proofs.Ytmljdjakbbedlaa
open Go.ChangeShapes Go.WideShapes Go.ChangeAt Go.RowKit

def NoteCs (a : Int × Int) : Array Value := #[.int .i64 0, .int .i64 a.1, .int .i64 a.2]

set_option maxHeartbeats 400000 in
theorem note_any (g ob : Nat) (q : PV) (h : Int) (a b : Value) (acc : Int × Int) (w : World) (hne1 : ¬ g = ob) (hg : Blk w g 193 (nodeCs q h a b)) (ho : Blk w ob 38 (NoteCs acc)) :
    Calls Try.prog 105 #[.pointer (some ⟨g, 0, none⟩), .pointer (some ⟨ob, 0, none⟩)] w fun e w' => e = .returned (.tuple #[]) ∧ Blk w' ob 38 (NoteCs (if h = 0 then acc else (h, q.n))) ∧ Kept [ob] w w' := by
  obtain ⟨qs, qh, ql, qn⟩ := q
  have n3 := hg.cell 3
  have n4 := hg.cell 4
  have o0 := ho.cell 0
  have o1 := ho.cell 1
  have o2 := ho.cell 2
  have f0 := ho.frozen 0
  have f1 := ho.frozen 1
  have f2 := ho.frozen 2
  simp [nodeCs, NoteCs] at n3 n4 o0 o1 o2
  have HO := Lib.hid ho
  clear hg ho
  by_cases h0 : h = 0
  · subst h0
    go_enter Try.func105, Try.ntmps105
    go_wp2
    refine bodyPost_end (results_none rfl _ _ _) rfl ?_
    exact ⟨rfl, HO.out, Kept.of_below (Below.refl _ _)⟩
  · have hne2 : ¬ ob = g := fun h => hne1 h.symm
    have hne : (h != 0) = true := by simpa using h0
    have HH := Lib.hid h0
    clear h0
    go_enter Try.func105, Try.ntmps105
    go_wp2
    go_region
    refine bodyPost_end (results_none rfl _ _ _) rfl ?_
    refine ⟨rfl, ?_, ?_⟩
    · rw [if_neg HH.out]
      have := (((((HO.out.set_ 0 (.int .i64 0)).set_ 1 (.int .i64 0)).set_ 2 (.int .i64 0)).set_ 1 (.int .i64 h)).set_ 2 (.int .i64 qn)).drew
      simpa [NoteCs] using this
    · exact (((((((Kept.of_below (Below.refl _ _)).setCell (.inl (by simp)) _).setCell (.inl (by simp)) _).setCell (.inl (by simp)) _).setCell (.inl (by simp)) _).setCell (.inl (by simp)) _).then_below (Below.refl _ _).drew)

theorem Kept.cellK {S : List Nat} {w w' : World} (h : Kept S w w') {p : Addr} (hp : p.block < w.heap.size) (hS : p.block ∉ S) : w'.cell? p = w.cell? p := World.cell?_of_block (h.block _ hp hS)
theorem Kept.trans {S : List Nat} {w w1 w2 : World} (h : Kept S w w1) (h' : Kept S w1 w2) : Kept S w w2 :=
  ⟨h'.os.trans h.os, h'.tape.trans h.tape, h'.output.trans h.output, Nat.le_trans h.size h'.size, fun k hk hS => (h'.block k (by have := h.size; omega) hS).trans (h.block k hk hS)⟩

def PlaceNote (w : World) (tb : Nat) (R : Bool → Tr) (p : PV) (ob : Nat) (e : Ending) (w' : World) : Prop :=
  ∃ (C : Ctx) (cur : Tr) (acc : Int × Int), R p.six = C.plug cur ∧ C.OnPath p ∧ Stop p cur ∧ e = .returned (.pointer (some (C.slot tb p.six))) ∧ Kept [ob] w w' ∧ Blk w' ob 38 (NoteCs acc) ∧ lookT p (R p.six) (0, 0) = lookT p cur acc
/-- Where the search stands, with what was noted. -/
def AtN (tb : Nat) (R : Bool → Tr) (p : PV) (ob k : Nat) (v : Value) (w : World) : Prop :=
  ∃ (C : Ctx) (cur : Tr) (acc : Int × Int), R p.six = C.plug cur ∧ C.OnPath p ∧ cur.size ≤ k ∧ v = .pointer (some (C.slot tb p.six)) ∧ Blk w ob 38 (NoteCs acc) ∧ lookT p (R p.six) (0, 0) = lookT p cur acc

theorem look_left {p q : PV} {g : Nat} {h : Int} {l r : Tr} {acc : Int × Int} (h1 : ¬ q = p) (h2 : q.over p = true) (h3 : p.bit q.n = 0) : lookT p (.node g q h l r) acc = lookT p l (if h = 0 then acc else (h, q.n)) := by
  conv => lhs; unfold lookT
  rw [if_neg (by simp [h2]), if_neg h1, if_pos h3]
theorem look_right {p q : PV} {g : Nat} {h : Int} {l r : Tr} {acc : Int × Int} (h1 : ¬ q = p) (h2 : q.over p = true) (h3 : ¬ p.bit q.n = 0) : lookT p (.node g q h l r) acc = lookT p r (if h = 0 then acc else (h, q.n)) := by
  conv => lhs; unfold lookT
  rw [if_neg (by simp [h2]), if_neg h1, if_neg h3]

set_option maxRecDepth 100000 in
set_option maxHeartbeats 1600000 in
theorem place_note {w : World} {B tb ob : Nat} {R : Bool → Tr} {c : Int} (h : Tab w B tb R c) (p : PV) (hp : p.Ok) (hI : ∀ s, Inv s (fun _ => True) (R s)) (hob : ob ∉ tabBlocks tb R) (hbo : Blk w ob 38 (NoteCs (0, 0))) :
    Calls Try.prog 106 #[.pointer (some ⟨tb, 0, none⟩), p.val, .func (.func 105) #[] #[.pointer (some ⟨ob, 0, none⟩)]] w (PlaceNote w tb R p ob) := by
  have HT := Lib.hid h
  have HP := Lib.hid hp
  have HI := Lib.hid hI
  have hRt := Lib.hid (fun w => root_any p tb w)
  obtain ⟨six, hi, lo, n⟩ := p
  have hrng := hp
  unfold PV.Ok at hrng
  simp only at hrng
  have r1 := hrng.rhi
  have r2 := hrng.rlo
  have hm5 := Lib.hid (fun hs : six = false => by have := hrng.may; rw [hs] at this; exact (mayB_four this).2 : six = false → lo < 4294967296)
  have hlen := hrng.len
  have hwl := wideI_le six
  clear h hp hI hrng
  have hnf : ∀ (caps : Array Value) (w : World), (binOp .neq 194 (.func (.func 105) #[] caps) .nilFunc).run Try.prog w = .ok (.bool true) w := fun _ _ => by kernel_rfl
  have hent : ∀ (args : Array Value) (w : World), (callFunc 105 args).run Try.prog w = .ok (.enter 105 args) w := fun args w => by kernel_rfl
  have HOB := Lib.hid hob
  have HBO0 := Lib.hid hbo
  have hobl := hbo.lt
  clear hob hbo
  unfold PV.val at hRt ⊢
  simp only at hRt ⊢
  go_enter Try.func106, Try.ntmps106
  go_wp2_with fail
  refine (hRt.out _).mono ?_
  rintro e X ⟨rfl, hb⟩
  obtain ⟨HBX, hsx, hbx⟩ := box1 (cs := [.bool six, .int .u64 hi, .int .u64 lo, .int .i64 n]) hb
  have e0 := hbx 0 _ rfl
  have e1 := hbx 1 _ rfl
  have e2 := hbx 2 _ rfl
  have e3 := hbx 3 _ rfl
  have HTX := Lib.hid (HT.out.below HBX)
  have HBO := Lib.hid (HBO0.out.below HBX hobl)
  have hobx : ob < X.heap.size := HBO.out.lt
  have hnob : w.heap.size ∉ [ob] := by simp; omega
  have HB := Lib.hid HBX
  clear hb hbx HBX
  go_wp2
  go_loopg [7, 8] (R six).size (fun k at_ _ wr => AtN tb R ⟨six, hi, lo, n⟩ ob k at_ wr ∧ Kept [ob] X wr)
  case atStart => exact ⟨⟨.top, R six, (0, 0), rfl, trivial, Nat.le_refl _, rfl, HBO.out, rfl⟩, Kept.of_below (Below.refl _ _)⟩
  case round =>
    obtain ⟨⟨C, cur, acc, hR, hon, hsz, rfl, hbn, hlk⟩, hb⟩ := hrel
    have hTW := HTX.out.keep (fun g hg => hb.block g (HTX.out.lt g hg).2 (by simp; intro he; subst he; exact HOB.out hg))
    have HTW := Lib.hid hTW
    have hs := (hTW.slot hR).1
    have HBN := Lib.hid hbn
    have HLK := Lib.hid hlk
    clear hbn hlk hTW
    have q0 := (hb.cellK (p := ⟨w.heap.size, 0, none⟩) hsx hnob).trans e0
    have q1 := (hb.cellK (p := ⟨w.heap.size, 1, none⟩) hsx hnob).trans e1
    have q2 := (hb.cellK (p := ⟨w.heap.size, 2, none⟩) hsx hnob).trans e2
    have q3 := (hb.cellK (p := ⟨w.heap.size, 3, none⟩) hsx hnob).trans e3
    have HR := Lib.hid hR
    have HON := Lib.hid hon
    have HBW := Lib.hid hb
    have hsw := hb.size
    obtain ⟨U', hiv⟩ := inv_plug C cur _ (by rw [← hR]; exact HI.out six)
    cases cur with
    | nil =>
      clear hR hon hb hiv
      change wr.cell? (Ctx.slot tb six C) = some (.pointer none) at hs
      show Code.wp _ _ _ _ _
      simp only at hs ⊢
      generalize hsl : Ctx.slot tb six C = sl at *
      have HSL := Lib.hid hsl
      clear hsl
      go_wp2
      go_ret
      exact ⟨C, .nil, acc, HR.out, HON.out, trivial, by rw [HSL.out]; rfl, (Kept.of_below HB.out).trans HBW.out, HBN.out, HLK.out⟩
    | node g q h l r =>
      obtain ⟨hq, hq6, _, hh, _, _⟩ := hiv
      obtain ⟨hblk, hgm⟩ := HTW.out.node hR
      have n0 := hblk.cell 0
      have n1 := hblk.cell 1
      have n2 := hblk.cell 2
      have n3 := hblk.cell 3
      have HQ := Lib.hid hq
      obtain ⟨qs, qh, ql, qn⟩ := q
      simp only [nodeCs] at n0 n1 n2 n3 hq6
      simp at n0 n1 n2 n3
      subst hq6
      have hgl := hblk.lt
      have HG := Lib.hid hblk
      have hgo : ¬ g = ob := by intro he; subst he; exact HOB.out hgm
      have hwo : ¬ w.heap.size = ob := by omega
      clear hR hon hb hblk hgm hq hh
      change wr.cell? (Ctx.slot tb qs C) = some (.pointer (some ⟨g, 0, none⟩)) at hs
      generalize hsl : Ctx.slot tb qs C = sl at *
      have HSL := Lib.hid hsl
      clear hsl
      by_cases he : qh = hi ∧ ql = lo ∧ qn = n
      · obtain ⟨rfl, rfl, rfl⟩ := he
        go_wp2_with fail
        go_quiet (fail)
        go_wp2
        go_ret
        exact ⟨C, _, acc, HR.out, HON.out, .inl rfl, by rw [HSL.out]; rfl, ((Kept.of_below HB.out).trans HBW.out).then_below (below_drewN (Below.refl _ _) _), HBN.out.drewN _, HLK.out⟩
      · have CO := Lib.hid (fun w => over_any qs qh ql qn qs hi lo n w r1 r2 hm5.out (by have := ok_n HQ.out; simp only at this; have := wideI_le qs; omega) (by have := ok_n HQ.out; simp only at this; have := wideI_le qs; omega))
        have CA := Lib.hid (fun w h3 h4 => at_any qs hi lo qn w r1 r2 h3 h4)
        have HE := Lib.hid he
        have HNE : Hid (¬ (⟨qs, qh, ql, qn⟩ : PV) = ⟨qs, hi, lo, n⟩) := fun hx => by injection hx with _ e1 e2 e3; exact he ⟨e1, e2, e3⟩
        have hsxw : w.heap.size < wr.heap.size := by omega
        have key : (qh == hi) = false ∨ (qh = hi ∧ (ql == lo) = false) ∨ (qh = hi ∧ ql = lo ∧ (qn == n) = false) := by
          by_cases a : qh = hi
          · by_cases b : ql = lo
            · exact .inr (.inr ⟨a, b, by simpa using fun h => he ⟨a, b, h⟩⟩)
            · exact .inr (.inl ⟨a, by simpa using b⟩)
          · exact .inl (by simpa using a)
        clear he
        obtain ⟨ov, hov⟩ : ∃ ov : Bool, overB qs qh ql qn qs hi lo n = ov := ⟨_, rfl⟩
        rw [hov] at CO
        have HOV := Lib.hid hov
        clear hov
        cases ov with
        | false =>
          rcases key with k1 | ⟨rfl, k1⟩ | ⟨rfl, rfl, k1⟩
          all_goals
            go_wp2_with fail
            go_region_held3 (fun w' => (∀ b o, b < wr.heap.size → w'.cell? ⟨b, o, none⟩ = wr.cell? ⟨b, o, none⟩) ∧ wr.heap.size ≤ w'.heap.size ∧ Hid (Below wr.heap.size wr w'))
              ((first | assumption | exact keep0 _ | exact keep1 (by assumption) (by assumption) | exact keepD (by assumption) | exact keepB (by assumption) (by assumption) | exact keepA (by assumption) _ | exact ⟨fun _ _ _ => rfl, Nat.le_refl _, Below.refl _ _⟩))
              (first | (go_at_call 46; refine (CO.out _).mono ?_; rintro e w2 ⟨rfl, hb2⟩))
            go_wp2
            go_ret
            exact ⟨C, _, acc, HR.out, HON.out, .inr HOV.out, by rw [HSL.out]; rfl, ((Kept.of_below HB.out).trans HBW.out).then_below (keepBelow (by assumption)), HBN.out.below (keepBelow (by assumption)) HBN.out.lt, HLK.out⟩
        | true =>
          have hnn := over_n HQ.out HP.out HOV.out
          simp only at hnn
          have hlt : qn < n := by
            rcases Int.lt_or_le qn n with hx | hx
            · exact hx
            · have := over_eq HQ.out HP.out HOV.out hx
              injection this with _ e1 e2 e3
              exact absurd ⟨e1, e2, e3⟩ HE.out
          have hq0 := (ok_n HQ.out).1
          simp only at hq0
          have CB := Lib.hid (fun w => CA.out w hq0 (by omega))
          obtain ⟨bv, hbv⟩ : ∃ bv, bitI qs hi lo qn = bv := ⟨_, rfl⟩
          have hb01 : bv = 0 ∨ bv = 1 := by rw [← hbv]; exact PV.bit01 ⟨qs, hi, lo, n⟩ qn
          rw [hbv] at CB
          have HBV : Hid (PV.bit ⟨qs, hi, lo, n⟩ qn = bv) := hbv
          clear hbv
          have CN := Lib.hid (fun (w2 : World) (hb : Below wr.heap.size wr w2) => note_any g ob ⟨qs, qh, ql, qn⟩ h l.ptr r.ptr acc w2 hgo (HG.out.below hb HG.out.lt) (HBN.out.below hb HBN.out.lt))
          rcases key with k1 | ⟨rfl, k1⟩ | ⟨rfl, rfl, k1⟩
          all_goals
            go_wp2_with fail
            go_region_held3 (fun w' => (∀ b o, b < wr.heap.size → w'.cell? ⟨b, o, none⟩ = wr.cell? ⟨b, o, none⟩) ∧ wr.heap.size ≤ w'.heap.size ∧ Hid (Below wr.heap.size wr w'))
              ((first | assumption | exact keep0 _ | exact keep1 (by assumption) (by assumption) | exact keepD (by assumption) | exact keepB (by assumption) (by assumption) | exact keepA (by assumption) _ | exact ⟨fun _ _ _ => rfl, Nat.le_refl _, Below.refl _ _⟩))
              (first | (go_at_call 46; refine (CO.out _).mono ?_; rintro e w2 ⟨rfl, hb2⟩))
            obtain ⟨fc2, z2, H2⟩ : (∀ b o, b < wr.heap.size → w2.cell? ⟨b, o, none⟩ = wr.cell? ⟨b, o, none⟩) ∧ wr.heap.size ≤ w2.heap.size ∧ Hid (Below wr.heap.size wr w2) := by assumption
            have z3 : w.heap.size < w2.heap.size := by omega
            have z4 : g < w2.heap.size := by omega
            go_wp2_with fail
            refine (CN.out w2 H2.out).mono ?_
            rintro e wn ⟨rfl, hbn, hkn⟩
            have kc : ∀ b o, b < w2.heap.size → ¬ b = ob → wn.cell? ⟨b, o, none⟩ = w2.cell? ⟨b, o, none⟩ := fun b o h1 h2 => hkn.cellK (p := ⟨b, o, none⟩) h1 (by simp; exact h2)
            have m0 := (kc g 0 z4 hgo).trans ((fc2 g 0 hgl).trans n0)
            have m1 := (kc g 1 z4 hgo).trans ((fc2 g 1 hgl).trans n1)
            have m2 := (kc g 2 z4 hgo).trans ((fc2 g 2 hgl).trans n2)
            have m3 := (kc g 3 z4 hgo).trans ((fc2 g 3 hgl).trans n3)
            have p0 := (kc w.heap.size 0 z3 hwo).trans ((fc2 w.heap.size 0 hsxw).trans q0)
            have p1 := (kc w.heap.size 1 z3 hwo).trans ((fc2 w.heap.size 1 hsxw).trans q1)
            have p2 := (kc w.heap.size 2 z3 hwo).trans ((fc2 w.heap.size 2 hsxw).trans q2)
            have p3 := (kc w.heap.size 3 z3 hwo).trans ((fc2 w.heap.size 3 hsxw).trans q3)
            have z6 : w.heap.size < wn.heap.size := by have := hkn.size; omega
            have z7 : g < wn.heap.size := by have := hkn.size; omega
            have HKN := Lib.hid hkn
            have HBN2 := Lib.hid hbn
            clear hkn hbn kc
            rcases hb01 with rfl | rfl
            all_goals
              go_wp2
              go_region_held3 (fun w' => (∀ b o, b < wn.heap.size → w'.cell? ⟨b, o, none⟩ = wn.cell? ⟨b, o, none⟩) ∧ wn.heap.size ≤ w'.heap.size ∧ Hid (Below wn.heap.size wn w'))
                ((first | assumption | exact keep0 _ | exact keep1 (by assumption) (by assumption) | exact keepD (by assumption) | exact keepB (by assumption) (by assumption) | exact keepA (by assumption) _ | exact ⟨fun _ _ _ => rfl, Nat.le_refl _, Below.refl _ _⟩))
                (first | (go_at_call 132; refine (CB.out _).mono ?_; rintro e w3 ⟨rfl, hb3⟩))
              obtain ⟨fc3, z5, H3⟩ : (∀ b o, b < wn.heap.size → w3.cell? ⟨b, o, none⟩ = wn.cell? ⟨b, o, none⟩) ∧ wn.heap.size ≤ w3.heap.size ∧ Hid (Below wn.heap.size wn w3) := by assumption
              go_wp2
              first
                | (go_roundg l.size
                   case measure => (simp [Tr.size] at hsz; omega)
                   case rel => exact ⟨⟨.left C g _ h r, l, _, HR.out, ⟨HNE.out, HOV.out, HBV.out, HON.out⟩, Nat.le_refl _, rfl, HBN2.out.below H3.out HBN2.out.lt, HLK.out.trans (look_left HNE.out HOV.out HBV.out)⟩, ((HBW.out.then_below H2.out).trans HKN.out).then_below H3.out⟩)
                | (go_roundg r.size
                   case measure => (simp [Tr.size] at hsz; omega)
                   case rel => exact ⟨⟨.right C g _ h l, r, _, HR.out, ⟨HNE.out, HOV.out, by rw [HBV.out]; decide, HON.out⟩, Nat.le_refl _, rfl, HBN2.out.below H3.out HBN2.out.lt, HLK.out.trans (look_right HNE.out HOV.out (by rw [HBV.out]; decide))⟩, ((HBW.out.then_below H2.out).trans HKN.out).then_below H3.out⟩)

end Go.Proofs.Ytmljdjakbbedlaa

namespace Go.Proofs.Ytmljdjakbbedlaa
open Go.ChangeShapes Go.WideShapes Go.ChangeAt Go.RowKit

theorem addr_pfx {a : AV} (h : a.Ok) : PV.Ok ⟨a.six, a.hi, a.lo, wideI a.six⟩ := by
  refine ⟨h.rhi, h.rlo, h.may, ⟨by have := wideI_le a.six; simp only; omega, Int.le_refl _⟩, ?_⟩
  have := (clean_num h (n := widN a.six) (Nat.le_refl _)).2 (by rw [Nat.sub_self]; exact Nat.one_dvd _)
  simp only [widN_eq]
  exact this

theorem stop_look {p : PV} {t : Tr} {acc : Int × Int} (h : Stop p t) : lookT p t acc = match t with
    | .nil => acc
    | .node _ q h _ _ => if q.over p = false then acc else if q = p then (if h = 0 then acc else (h, q.n)) else acc := by
  cases t with
  | nil => rfl
  | node g q h l r =>
    unfold lookT
    by_cases h1 : q.over p = false
    · rw [if_pos h1]; simp only; rw [if_pos h1]
    · rw [if_neg h1]
      by_cases h2 : q = p
      · rw [if_pos h2]; simp only; rw [if_neg h1, if_pos h2]
      · rcases h with h | h
        · exact absurd h h2
        · exact absurd h h1

theorem Kept.frozenK {S : List Nat} {w w' : World} (h : Kept S w w') {p : Addr} (hp : p.block < w.heap.size) (hS : p.block ∉ S) : w'.frozen? p = w.frozen? p := World.frozen?_of_block (h.block _ hp hS)
theorem below_drewN_left {w w' : World} {B k : Nat} (h : Below B (w.drewN k) w') : Below B w w' := (below_drewN (Below.refl _ _) k).trans h
theorem Blk.keep1 {S : List Nat} {w w' : World} {g : Nat} {t : TypeId} {cs : Array Value} (h : Blk w g t cs) (hk : Kept S w w') (hS : g ∉ S) : Blk w' g t cs := (hk.block g h.lt hS).trans h

set_option maxRecDepth 100000 in
set_option maxHeartbeats 1600000 in
theorem tlook_any {w : World} {B tb : Nat} {R : Bool → Tr} {c : Int} (h : Tab w B tb R c) (hI : ∀ s, Inv s (fun _ => True) (R s)) (six : Bool) (hi lo : Int) (ha : AV.Ok ⟨six, hi, lo⟩) :
    Calls Try.prog 52 #[.pointer (some ⟨tb, 0, none⟩), .agg #[.bool six, .int .u64 hi, .int .u64 lo]] w fun e w' =>
      e = .returned (.agg #[.int .i64 0, .int .i64 (lookT ⟨six, hi, lo, wideI six⟩ (R six) (0, 0)).1, .int .i64 (lookT ⟨six, hi, lo, wideI six⟩ (R six) (0, 0)).2]) ∧ Below w.heap.size w w' := by
  have HT := Lib.hid h
  have HI := Lib.hid hI
  have HP := Lib.hid (addr_pfx ha)
  have CW : Hid (∀ w, Calls Try.prog 100 #[.bool six] w fun e w' => e = .returned (.int .i64 (wideI six)) ∧ Below w.heap.size w w') := fun w => (wide_any six w).mono fun e w' h => ⟨h.1, by rw [← h.2]; exact Below.refl _ _⟩
  simp only at HP
  obtain ⟨wd, hwd⟩ : ∃ wd, wideI six = wd := ⟨_, rfl⟩
  rw [hwd] at HP CW
  rw [hwd]
  have htl := h.blk.lt
  clear h hI ha
  go_enter Try.func52, Try.ntmps52
  go_wp2_with fail
  obtain ⟨X, hX⟩ : ∃ X, (((w.alloc (.cells #[.bool six, .int .u64 hi, .int .u64 lo] 35)).alloc (.cells #[.int .i64 0, .int .i64 0, .int .i64 0] 38)).alloc (.cells #[.int .i64 0, .int .i64 0, .int .i64 0] 38)) = X := ⟨_, rfl⟩
  have kA : Blk X w.heap.size 35 #[.bool six, .int .u64 hi, .int .u64 lo] := by rw [← hX]; exact ((Blk.new _ _ _).alloc _).alloc _
  have kR : Blk X (w.heap.size + 1) 38 #[.int .i64 0, .int .i64 0, .int .i64 0] := by
    rw [← hX]
    have := (Blk.new (w.alloc (.cells #[.bool six, .int .u64 hi, .int .u64 lo] 35)) 38 #[.int .i64 0, .int .i64 0, .int .i64 0])
    simp only [World.size_alloc] at this
    exact this.alloc _
  have kO : Blk X (w.heap.size + 2) 38 (NoteCs (0, 0)) := by
    rw [← hX]
    have := (Blk.new ((w.alloc (.cells #[.bool six, .int .u64 hi, .int .u64 lo] 35)).alloc (.cells #[.int .i64 0, .int .i64 0, .int .i64 0] 38)) 38 #[.int .i64 0, .int .i64 0, .int .i64 0])
    simp only [World.size_alloc] at this
    exact this
  have hXs : X.heap.size = w.heap.size + 3 := by rw [← hX]; simp
  have hXb : Below w.heap.size w X := by rw [← hX]; exact ((((Below.refl _ _).alloc (Nat.le_refl _) _).alloc (by simp) _).alloc (by simp; omega) _)
  try simp only [World.size_alloc]
  rw [hX]
  have x0 := kA.cell 0
  have x1 := kA.cell 1
  have x2 := kA.cell 2
  simp at x0 x1 x2
  have hxl : w.heap.size < X.heap.size := by omega
  have hxl1 : w.heap.size + 1 < X.heap.size := by omega
  have hxl2 : w.heap.size + 1 + 1 < X.heap.size := by omega
  have HXS := Lib.hid hXs
  have HA := Lib.hid kA
  have HRR := Lib.hid kR
  have HOO := Lib.hid kO
  have HXB := Lib.hid hXb
  clear kA kR kO hXb hX hXs
  go_cut [6] (fun v wx => NewPfx X ⟨six, hi, lo, wd⟩ v wx)
  case first =>
    go_region_held3 (fun w' => (∀ b o, b < X.heap.size → w'.cell? ⟨b, o, none⟩ = X.cell? ⟨b, o, none⟩) ∧ X.heap.size ≤ w'.heap.size ∧ Hid (Below X.heap.size X w'))
      ((first | assumption | exact keep0 _ | (refine keepF ?_; (repeat' first | with_reducible exact HB3.out | with_reducible exact Below.refl _ _ | with_reducible refine Below.drew ?_ | with_reducible refine below_drewN ?_ _ | with_reducible refine Below.setCell ?_ ?_ _ | with_reducible refine Below.alloc ?_ ?_ _ | exact HB3.out.size | (simp; done) | (simp; have := HB3.out.size; omega) | (simp; omega)); done)))
      (first | (go_at_call 100; refine (CW.out _).mono ?_; rintro e w3 ⟨rfl, hb3⟩; obtain ⟨fc3, ff3⟩ := bcell hb3; have hz3 := hb3.size; have HB3 : Hid (Below X.heap.size X w3) := (keepBelow (by assumption)).trans (hb3.mono (keepSize (by assumption)))))
    all_goals
      go_wp2_with fail
      go_meet
      first
        | with_reducible exact newPfx_A HB3.out
        | exact newPfx_B hb3 rfl HB3.out
  case rest =>
    obtain ⟨G, rfl, hg, hk, hbx⟩ := hcut
    have g0 := hk.cell 0
    have g1 := hk.cell 1
    have g2 := hk.cell 2
    have g3 := hk.cell 3
    simp at g0 g1 g2 g3
    have HKG := Lib.hid hk
    have hTX : Tab wc B tb R c := HT.out.below (HXB.out.trans (hbx.mono (by omega)))
    have hXc := hbx.size
    have hno : (w.heap.size + 1 + 1) ∉ tabBlocks tb R := fun hx => by have := (HT.out.lt _ hx).2; omega
    have CP := Lib.hid (place_note hTX ⟨six, hi, lo, wd⟩ HP.out HI.out hno (HOO.out.below hbx (by omega)))
    have HTX := Lib.hid hTX
    have HBX := Lib.hid hbx
    unfold PV.val at CP
    simp only at CP
    clear hk hbx hTX hno
    go_wp2_with fail
    refine CP.out.mono ?_
    rintro e w2 ⟨C, cur, acc, hR, hon, hst, rfl, hkp, hbo, hlk⟩
    simp only at hR hon hst hlk
    have hgo : ¬ G = w.heap.size + 1 + 1 := HKG.out.ne_ (HOO.out.below HBX.out hxl2) (by decide)
    have hk2 : Blk w2 G 42 #[.bool six, .int .u64 hi, .int .u64 lo, .int .i64 wd] := (hkp.block G HKG.out.lt (by simp; exact hgo)).trans HKG.out
    have g0 := hk2.cell 0
    have g1 := hk2.cell 1
    have g2 := hk2.cell 2
    have g3 := hk2.cell 3
    simp at g0 g1 g2 g3
    have hT2 : Tab w2 B tb R c := HTX.out.keep (fun k hk => hkp.block k (HTX.out.lt k hk).2 (by simp; intro he; subst he; have := (HT.out.lt _ hk).2; omega))
    have hs := (hT2.slot hR).1
    have o0 := hbo.cell 0
    have o1 := hbo.cell 1
    have o2 := hbo.cell 2
    simp [NoteCs] at o0 o1 o2
    have hsz2 : X.heap.size ≤ w2.heap.size := by have := hkp.size; omega
    have f0 : w2.frozen? ⟨w.heap.size + 1, 0, none⟩ = false := ((HRR.out.below HBX.out hxl1).keep1 hkp (by simp)).frozen 0
    have f1 : w2.frozen? ⟨w.heap.size + 1, 1, none⟩ = false := ((HRR.out.below HBX.out hxl1).keep1 hkp (by simp)).frozen 1
    have f2 : w2.frozen? ⟨w.heap.size + 1, 2, none⟩ = false := ((HRR.out.below HBX.out hxl1).keep1 hkp (by simp)).frozen 2
    have r0 := ((HRR.out.below HBX.out hxl1).keep1 hkp (by simp)).cell 0
    have r1 := ((HRR.out.below HBX.out hxl1).keep1 hkp (by simp)).cell 1
    have r2 := ((HRR.out.below HBX.out hxl1).keep1 hkp (by simp)).cell 2
    simp at r0 r1 r2
    have HB2 : Hid (Below w.heap.size w w2) := HXB.out.trans ((HBX.out.mono (by omega)).trans (hkp.below (by simp; omega) (by omega)))
    have HBO := Lib.hid hbo
    have HL := Lib.hid hlk
    cases cur with
    | nil =>
      have HL2 : Hid (lookT ⟨six, hi, lo, wd⟩ (R six) (0, 0) = acc) := hlk.trans rfl
      change w2.cell? (Ctx.slot tb six C) = some (.pointer none) at hs
      generalize hsl : Ctx.slot tb six C = sl at *
      clear hsl hR hon hst hkp hbo hlk hT2 hk2
      simp only
      go_wp2
      go_quiet (fail)
      go_wp2
      refine bodyPost_ret (v := .agg #[.int .i64 0, .int .i64 acc.1, .int .i64 acc.2]) ?_ rfl ⟨by rw [HL2.out], ?_⟩
      · simp [results, Try.results52, go_sem, r0, r1, r2]
      · (repeat' first | with_reducible exact HB2.out | with_reducible refine Below.drew ?_ | with_reducible refine below_drewN ?_ _ | with_reducible refine Below.setCell ?_ ?_ _ | (simp; done) | (simp; omega) | omega)
    | node g q hv l r =>
      obtain ⟨hblk, hgm⟩ := hT2.node hR
      have n0 := hblk.cell 0
      have n1 := hblk.cell 1
      have n2 := hblk.cell 2
      have n3 := hblk.cell 3
      have hgo2 : ¬ g = w.heap.size + 1 + 1 := by intro he; rw [he] at hgm; have := (HT.out.lt _ hgm).2; omega
      have HG := Lib.hid hblk
      have HLK := Lib.hid (hlk.trans (stop_look hst))
      have HEQ := fun w => eqPV q ⟨six, hi, lo, wd⟩ w
      have hst' : q = ⟨six, hi, lo, wd⟩ ∨ PV.over q ⟨six, hi, lo, wd⟩ = false := hst
      change w2.cell? (Ctx.slot tb six C) = some (.pointer (some ⟨g, 0, none⟩)) at hs
      generalize hsl : Ctx.slot tb six C = sl at *
      by_cases he : q = ⟨six, hi, lo, wd⟩
      · have HL2 : Hid (lookT ⟨six, hi, lo, wd⟩ (R six) (0, 0) = if hv = 0 then acc else (hv, wd)) := by
          show _ = _
          have := HLK.out
          simp only at this
          rw [if_pos he, he, if_neg (by rw [over_refl HP.out]; simp)] at this
          exact this
        have CN := Lib.hid (fun (w3 : World) (hb : Below w2.heap.size w2 w3) => note_any g (w.heap.size + 1 + 1) q hv l.ptr r.ptr acc w3 hgo2 (HG.out.below hb HG.out.lt) (HBO.out.below hb HBO.out.lt))
        have HR0 := Lib.hid (show w.heap.size + 1 ∉ [w.heap.size + 1 + 1] by simp)
        rw [decide_eq_true he] at HEQ
        subst he
        unfold PV.val at HEQ
        simp only at HEQ CN
        obtain ⟨ac, hac⟩ : ∃ ac, (if hv = 0 then acc else (hv, wd)) = ac := ⟨_, rfl⟩
        rw [hac] at CN HL2
        clear hac
        simp [nodeCs] at n0 n1 n2 n3
        have hsz3 : w.heap.size + 1 < w2.heap.size := by omega
        clear HLK HL hsl hR hon hst hst' hkp hbo hlk hT2 hk2 hblk hgm
        simp only
        go_wp2
        go_quiet (fail)
        go_wp2_with fail
        refine (CN.out _ (below_drewN (Below.refl _ _) _)).mono ?_
        rintro e w4 ⟨rfl, hb4, hk4⟩
        have hk4 := hk4
        have o0 := hb4.cell 0
        have o1 := hb4.cell 1
        have o2 := hb4.cell 2
        simp [NoteCs] at o0 o1 o2
        have f0 : w4.frozen? ⟨w.heap.size + 1, 0, none⟩ = false := (hk4.frozenK (p := ⟨w.heap.size + 1, 0, none⟩) hsz3 HR0.out).trans f0
        have f1 : w4.frozen? ⟨w.heap.size + 1, 1, none⟩ = false := (hk4.frozenK (p := ⟨w.heap.size + 1, 1, none⟩) hsz3 HR0.out).trans f1
        have f2 : w4.frozen? ⟨w.heap.size + 1, 2, none⟩ = false := (hk4.frozenK (p := ⟨w.heap.size + 1, 2, none⟩) hsz3 HR0.out).trans f2
        have r0 := (hk4.cellK (p := ⟨w.heap.size + 1, 0, none⟩) hsz3 HR0.out).trans r0
        have r1 := (hk4.cellK (p := ⟨w.heap.size + 1, 1, none⟩) hsz3 HR0.out).trans r1
        have r2 := (hk4.cellK (p := ⟨w.heap.size + 1, 2, none⟩) hsz3 HR0.out).trans r2
        have HB4 : Hid (Below w.heap.size w w4) := HB2.out.trans (below_drewN_left (hk4.below (B := w.heap.size) (by simp; omega) (by simp; omega)))
        clear hk4 hb4
        go_wp2
        refine bodyPost_ret (v := .agg #[.int .i64 0, .int .i64 ac.1, .int .i64 ac.2]) ?_ rfl ⟨by rw [HL2.out], ?_⟩
        · simp [results, Try.results52, go_sem, r0, r1, r2]
        · (repeat' first | with_reducible exact HB4.out | with_reducible refine Below.drew ?_ | with_reducible refine below_drewN ?_ _ | with_reducible refine Below.setCell ?_ ?_ _ | (simp; done) | (simp; omega) | omega)
      · have HL2 : Hid (lookT ⟨six, hi, lo, wd⟩ (R six) (0, 0) = acc) := by
          show _ = _
          have := HLK.out
          simp only at this
          rw [if_neg he] at this
          rw [this]; split <;> rfl
        rw [decide_eq_false he] at HEQ
        obtain ⟨qs, qh, ql, qn⟩ := q
        unfold PV.val at HEQ
        simp only at HEQ
        simp [nodeCs] at n0 n1 n2 n3
        clear HLK HL hsl hR hon hst hst' hkp hbo hlk hT2 hk2 hblk hgm he
        simp only
        go_wp2
        go_quiet (fail)
        go_wp2
        refine bodyPost_ret (v := .agg #[.int .i64 0, .int .i64 acc.1, .int .i64 acc.2]) ?_ rfl ⟨by rw [HL2.out], ?_⟩
        · simp [results, Try.results52, go_sem, r0, r1, r2]
        · (repeat' first | with_reducible exact HB2.out | with_reducible refine Below.drew ?_ | with_reducible refine below_drewN ?_ _ | with_reducible refine Below.setCell ?_ ?_ _ | (simp; done) | (simp; omega) | omega)

end Go.Proofs.Ytmljdjakbbedlaa

namespace Go.Proofs.Ytmljdjakbbedlaa
open Go.ChangeShapes Go.WideShapes Go.ChangeAt Go.RowKit

theorem preIn_has (r : RouteV) (six' : Bool) (hi' lo' : Int) (w : World) (hp : r.p.Ok) (ha : AV.Ok ⟨six', hi', lo'⟩) :
    Calls Try.prog 117 #[.agg #[.bool r.p.six, .int .u64 r.p.hi, .int .u64 r.p.lo, .int .i64 r.p.n], .agg #[.bool six', .int .u64 hi', .int .u64 lo']] w fun e w' => e = .returned (.bool (hasB r six' hi' lo')) ∧ Below w.heap.size w w' := by
  obtain ⟨⟨six, hi, lo, n⟩, hop⟩ := r
  obtain ⟨m, rfl⟩ : ∃ m : Nat, n = m := ⟨n.toNat, by have := (ok_n hp).1; simp only at this; omega⟩
  exact preIn_any six hi lo m six' hi' lo' w hp ha.rhi ha.rlo ha.may

set_option maxRecDepth 100000 in
set_option maxHeartbeats 3200000 in
theorem goes_any (A : Option Addr) (n c : Nat) (l : List RouteV) (six : Bool) (hi lo : Int) (w : World) (h : IsRoutes w A n c l) (hv : Valid l) (ha : AV.Ok ⟨six, hi, lo⟩) (hn60 : n ≤ 60) :
    Calls Try.prog 64 #[.slice A n c, .agg #[.bool six, .int .u64 hi, .int .u64 lo]] w fun e w' => e = .returned (.agg #[.int .i64 0, .int .i64 (goesR l six hi lo).1, .int .i64 (goesR l six hi lo).2]) ∧ Below w.heap.size w w' := by
  have HR := Lib.hid h.2.2.2
  have HZ := Lib.hid h.1
  have HV := Lib.hid hv
  have HPI := Lib.hid (fun (r : RouteV) (w : World) (hr : r ∈ l) => preIn_has r six hi lo w (hv.1 r hr).1 ha)
  obtain ⟨res, hres⟩ : ∃ res, goesR l six hi lo = res := ⟨_, rfl⟩
  rw [hres]
  have HRES := Lib.hid hres
  clear h hv ha hres
  go_enter Try.func64, Try.ntmps64
  go_wp2_with fail
  obtain ⟨X, hX⟩ : ∃ X, (((w.alloc (.cells #[.bool six, .int .u64 hi, .int .u64 lo] 35)).alloc (.cells #[.int .i64 0, .int .i64 0, .int .i64 0] 38)).alloc (.cells #[.int .i64 0, .int .i64 0, .int .i64 (-1)] 38)) = X := ⟨_, rfl⟩
  have kA : Blk X w.heap.size 35 #[.bool six, .int .u64 hi, .int .u64 lo] := by rw [← hX]; exact ((Blk.new _ _ _).alloc _).alloc _
  have kR : Blk X (w.heap.size + 1) 38 #[.int .i64 0, .int .i64 0, .int .i64 0] := by
    rw [← hX]
    have := (Blk.new (w.alloc (.cells #[.bool six, .int .u64 hi, .int .u64 lo] 35)) 38 #[.int .i64 0, .int .i64 0, .int .i64 0])
    simp only [World.size_alloc] at this
    exact this.alloc _
  have kO : Blk X (w.heap.size + 1 + 1) 38 (NoteCs (0, -1)) := by
    rw [← hX]
    have := (Blk.new ((w.alloc (.cells #[.bool six, .int .u64 hi, .int .u64 lo] 35)).alloc (.cells #[.int .i64 0, .int .i64 0, .int .i64 0] 38)) 38 #[.int .i64 0, .int .i64 0, .int .i64 (-1)])
    simp only [World.size_alloc] at this
    exact this
  have hXs : X.heap.size = w.heap.size + 3 := by rw [← hX]; simp
  have hXb : Below w.heap.size w X := by rw [← hX]; exact ((((Below.refl _ _).alloc (Nat.le_refl _) _).alloc (by simp) _).alloc (by simp; omega) _)
  rw [hX]
  have HA := Lib.hid kA
  have HRR := Lib.hid kR
  have HOO := Lib.hid kO
  have HXB := Lib.hid hXb
  have HXS := Lib.hid hXs
  clear kA kR kO hXb hX hXs
  go_loopw [11, 7] (fun i _ wr => ∃ k : Nat, k ≤ n ∧ i = .int .i64 k ∧ Blk wr (w.heap.size + 1 + 1) 38 (NoteCs (bestTo (l.take k) six hi lo)) ∧ Kept [w.heap.size + 1 + 1] X wr) (fun i _ _ => n - (intOf i).toNat)
  case atStart => exact ⟨0, by omega, rfl, HOO.out, Kept.of_below (Below.refl _ _)⟩
  case round =>
    obtain ⟨k, hk, rfl, hbst, hkp⟩ := hrel
    have hxs := HXS.out
    have hsz := hkp.size
    have HB : Hid (Below w.heap.size w wr) := HXB.out.trans (hkp.below (by simp; omega) (by omega))
    have hb := HB.out
    have kA2 : Blk wr w.heap.size 35 _ := HA.out.keep1 hkp (by simp; omega)
    have kR2 : Blk wr (w.heap.size + 1) 38 _ := HRR.out.keep1 hkp (by simp)
    obtain ⟨bst, hbs⟩ : ∃ b, bestTo (l.take k) six hi lo = b := ⟨_, rfl⟩
    rw [hbs] at hbst
    have HBS := Lib.hid hbs
    have HBST := Lib.hid hbst
    have HKP := Lib.hid hkp
    have a0 := kA2.cell 0
    have a1 := kA2.cell 1
    have a2 := kA2.cell 2
    have b0 := hbst.cell 0
    have b1 := hbst.cell 1
    have b2 := hbst.cell 2
    have fb0 := hbst.frozen 0
    have fb1 := hbst.frozen 1
    have fb2 := hbst.frozen 2
    have r0 := kR2.cell 0
    have r1 := kR2.cell 1
    have r2 := kR2.cell 2
    have f0 := kR2.frozen 0
    have f1 := kR2.frozen 1
    have f2 := kR2.frozen 2
    simp [NoteCs] at a0 a1 a2 b0 b1 b2 r0 r1 r2
    have la : w.heap.size < wr.heap.size := by omega
    have lr : w.heap.size + 1 < wr.heap.size := by omega
    have lb : w.heap.size + 1 + 1 < wr.heap.size := by omega
    clear kA2 kR2 hbst hkp hbs hxs hsz
    by_cases hlt : k < n
    · obtain ⟨ad, ⟨⟨rsix, rhi, rlo, pn⟩, hop⟩, rfl, hlk, htk, hmem, hbk, hc0, hcj⟩ := HR.out.atS RouteV.cells_length HZ.out hlt
      have q0 := (hb.cell (p := ad.add (k * 5)) (by rw [block_of_add]; exact hbk)).trans (hc0 _ rfl)
      have q1 := (hb.cell (p := ⟨(ad.add (k * 5)).block, (ad.add (k * 5)).off + 1, none⟩) (by rw [block_of_add]; exact hbk)).trans (hcj 1 _ rfl)
      have q2 := (hb.cell (p := ⟨(ad.add (k * 5)).block, (ad.add (k * 5)).off + 2, none⟩) (by rw [block_of_add]; exact hbk)).trans (hcj 2 _ rfl)
      have q3 := (hb.cell (p := ⟨(ad.add (k * 5)).block, (ad.add (k * 5)).off + 3, none⟩) (by rw [block_of_add]; exact hbk)).trans (hcj 3 _ rfl)
      have q4 := (hb.cell (p := ⟨(ad.add (k * 5)).block, (ad.add (k * 5)).off + 4, none⟩) (by rw [block_of_add]; exact hbk)).trans (hcj 4 _ rfl)
      have CPI := Lib.hid (fun w => HPI.out _ w hmem)
      have HST : Hid (bestTo (l.take (k + 1)) six hi lo = bestStep six hi lo bst ⟨⟨rsix, rhi, rlo, pn⟩, hop⟩) := by show _ = _; rw [htk, bestTo_snoc, HBS.out]
      simp only at CPI
      obtain ⟨hv, hhv⟩ : ∃ hv, hasB ⟨⟨rsix, rhi, rlo, pn⟩, hop⟩ six hi lo = hv := ⟨_, rfl⟩
      unfold bestStep at HST
      rw [hhv] at CPI HST
      clear hlk htk hmem hbk hc0 hcj hb hhv
      by_cases hcase : hv = true ∧ bst.2 < pn
      · obtain ⟨rfl, hgt⟩ := hcase
        have HST2 : Hid (bestTo (l.take (k + 1)) six hi lo = (hop, pn)) := by show _ = _; rw [HST.out, if_pos ⟨rfl, hgt⟩]
        clear HST
        go_wp2_with fail
        refine (CPI.out _).mono ?_
        rintro e w2 ⟨rfl, hb2⟩
        obtain ⟨fc, ff⟩ := bcell hb2
        have hs2 := hb2.size
        simp at hs2
        have HB2 : Hid (Below wr.heap.size wr w2) := balloc1 hb2
        have l2 : wr.heap.size < w2.heap.size := by omega
        clear hb2
        go_wp2
        go_roundw
        case rel => exact ⟨k + 1, by omega, by go_num, by rw [HST2.out]; simpa [NoteCs] using ((((HBST.out.below HB2.out lb).set_ 0 (.int .i64 0)).set_ 1 (.int .i64 hop)).set_ 2 (.int .i64 pn)), ((((HKP.out.then_below HB2.out).setCell (.inl (by simp)) _).setCell (.inl (by simp)) _).setCell (.inl (by simp)) _)⟩
        case measure => simp [intOf]; omega
      · have HST2 : Hid (bestTo (l.take (k + 1)) six hi lo = bst) := by show _ = _; rw [HST.out, if_neg hcase]
        clear HST
        have hd : hv = false ∨ (hv = true ∧ pn ≤ bst.2) := by
          cases hv
          · exact .inl rfl
          · right
            refine ⟨rfl, ?_⟩
            rcases Int.lt_or_le bst.2 pn with hx | hx
            · exact absurd ⟨rfl, hx⟩ hcase
            · exact hx
        clear hcase
        rcases hd with rfl | ⟨rfl, hle⟩
        all_goals
          go_wp2_with fail
          refine (CPI.out _).mono ?_
          rintro e w2 ⟨rfl, hb2⟩
          obtain ⟨fc, ff⟩ := bcell hb2
          have hs2 := hb2.size
          simp at hs2
          have HB2 : Hid (Below wr.heap.size wr w2) := balloc1 hb2
          have l2 : wr.heap.size < w2.heap.size := by omega
          clear hb2
          go_wp2
          go_roundw
          case rel => exact ⟨k + 1, by omega, by go_num, by rw [HST2.out]; exact HBST.out.below HB2.out lb, HKP.out.then_below HB2.out⟩
          case measure => simp [intOf]; omega
    · obtain rfl : k = n := by omega
      have HB5 : Hid (res = if bst.2 < 0 then (bst.1, 0) else bst) := by
        show _ = _
        rw [← HRES.out]
        unfold goesR
        have := HBS.out
        rw [List.take_of_length_le (by rw [HZ.out]; omega)] at this
        rw [this]
      clear hb
      by_cases hneg : bst.2 < 0
      · have HB6 : Hid (res = (bst.1, 0)) := by show _ = _; rw [HB5.out, if_pos hneg]
        clear HB5
        go_wp2
        refine bodyPost_ret (v := .agg #[.int .i64 0, .int .i64 bst.1, .int .i64 0]) ?_ rfl ⟨by rw [HB6.out], ?_⟩
        · simp [results, Try.results64, go_sem, r0, r1, r2]
        · (repeat' first | with_reducible exact HB.out | with_reducible refine Below.drew ?_ | with_reducible refine below_drewN ?_ _ | with_reducible refine Below.setCell ?_ ?_ _ | (simp; done) | (simp; omega) | omega)
      · have HB6 : Hid (res = bst) := by show _ = _; rw [HB5.out, if_neg hneg]
        clear HB5
        go_wp2
        refine bodyPost_ret (v := .agg #[.int .i64 0, .int .i64 bst.1, .int .i64 bst.2]) ?_ rfl ⟨by rw [HB6.out], ?_⟩
        · simp [results, Try.results64, go_sem, r0, r1, r2]
        · (repeat' first | with_reducible exact HB.out | with_reducible refine Below.drew ?_ | with_reducible refine below_drewN ?_ _ | with_reducible refine Below.setCell ?_ ?_ _ | (simp; done) | (simp; omega) | omega)

end Go.Proofs.Ytmljdjakbbedlaa

namespace Go.Proofs.Ytmljdjakbbedlaa
open Go.ChangeShapes Go.WideShapes Go.ChangeAt Go.RowKit

theorem step_append_far {P : Program} {ops : Array Oper} {o : Oper} {a : Act} {w : World} {K : Act → World → Prop} {Q : Exit → Act → World → Prop} {E : Prop} (hgd : o.guard = none) (s x : Operand) (t : TypeId)
    (ho : o.op = .call { callee := .builtin .append, args := #[s, x], argTypes := #[t, t] })
    (base : Nat) (e : TypeId) (z : Value) (size bytes : Nat) (ht : P.underlying t = some (.slice e)) (hi : (P.info? e).map (fun i => (i.zero, i.size, i.bytes)) = some (some z, size, bytes))
    (hzs : z.cells.size = size) (hsz : 0 < size)
    (v : Value) (n : Nat) (xs : List Value) (hs : a.eval s = v) (hown : w.ownsRow base e size v n xs)
    (B : Nat) (A : Option Addr) (m c : Nat) (news : List Value) (hx : a.eval x = .slice A m c) (hr : Reads w B size A m news) (h1 : ∀ u ∈ news, u.oneCell' = true)
    (h63 : n + m ≤ maxLen) (hbytes : (n + m) * bytes ≤ 140737488355328) (hbase : base ≤ w.heap.size)
    (h : ∀ v' w', w'.ownsRow base e size v' (n + m) (xs ++ news) → Below base w w' → w.grownBy w' v.ownBlock → K (a.put o.dst v') w') :
    if Region.wanted o (yielded ops a.tmps) = true then Oper.wp P o a w K Q else E := by
  obtain ⟨i0, hi, hz0, hz1, hz2⟩ := info_parts hi
  refine step_append_any w hgd s x t ho base e i0 z size bytes ht hi hz0 hz1 hz2 hzs hsz v n xs hs hown B A m c news hx hr h1 h63 hbytes hbase fun v' w' h2 h3 _ => h v' w' h2 ((Below.refl _ _).grown h3 hbase ?_) h3
  intro k hk
  rcases hown.2 with ⟨rfl, _⟩ | ⟨g, cap, cur, rfl, hgb, _⟩
  · simp [Value.ownBlock] at hk
  · simp only [Value.ownBlock, Option.some.injEq] at hk
    omega
theorem step_append_farI {P : Program} {ops : Array Oper} {o : Oper} {a : Act} {w : World} {K : Act → World → Prop} {Q : Exit → Act → World → Prop} {E : Prop} {s x : Operand} (us : List Value) (m : Nat) (t : TypeId) (n : Nat) (xs : List Value) (hgd : o.guard = none)
    (ho : o.op = .call { callee := .builtin .append, args := #[s, x], argTypes := #[t, t] })
    (base : Nat) (e : TypeId) (z : Value) (size bytes : Nat) (ht : P.underlying t = some (.slice e)) (hi : (P.info? e).map (fun i => (i.zero, i.size, i.bytes)) = some (some z, size, bytes))
    (hzs : z.cells.size = size) (hsz : 0 < size)
    (hown : w.ownsRow base e size (a.eval s) n xs) (hx : ∃ A c, a.eval x = .slice A m c ∧ Reads w w.heap.size size A m us) (h1 : ∀ u ∈ us, u.oneCell' = true)
    (h63 : n + m ≤ maxLen) (hbytes : (n + m) * bytes ≤ 140737488355328) (hbase : base ≤ w.heap.size)
    (h : ∀ v' w', w'.ownsRow base e size v' (n + m) (xs ++ us) → Below base w w' → w.grownBy w' (a.eval s).ownBlock → K (a.put o.dst v') w') :
    if Region.wanted o (yielded ops a.tmps) = true then Oper.wp P o a w K Q else E := by
  obtain ⟨A, c, hx, hr⟩ := hx
  exact step_append_far hgd s x t ho base e z size bytes ht hi hzs hsz _ n xs rfl hown _ A m c us hx hr h1 h63 hbytes hbase h
theorem reads_new {w : World} {us : List Value} {e : TypeId} {fr : Nat × Nat} {size : Nat} (hl : us.length = size) :
    Reads (w.alloc (.cells us.toArray e fr)) (w.alloc (.cells us.toArray e fr)).heap.size size (some ⟨w.heap.size, 0, none⟩) 1 us := by
  refine ⟨by simp [hl], fun _ => ⟨_, rfl, by simp, fun j u hj => ?_⟩⟩
  have e1 : (⟨w.heap.size, 0, none⟩ : Addr).add j = ⟨w.heap.size, j, none⟩ := by unfold Addr.add; split <;> simp_all
  rw [e1]
  have : (w.alloc (.cells us.toArray e fr)).heap[w.heap.size]? = some (.cells us.toArray e fr) := heap_alloc_new w _
  unfold World.cell?
  simp only [this]
  simpa using hj

theorem reads_new_old {w w' : World} {us : List Value} {e : TypeId} {fr : Nat × Nat} {size : Nat} (hl : us.length = size) (hb : Below (w.alloc (.cells us.toArray e fr)).heap.size (w.alloc (.cells us.toArray e fr)) w') :
    Reads w' w'.heap.size size (some ⟨w.heap.size, 0, none⟩) 1 us := ((reads_new (w := w) (e := e) (fr := fr) hl).below hb).more hb.size
theorem reads_new_oldD {w w' : World} {us : List Value} {e : TypeId} {fr : Nat × Nat} {size : Nat} (hl : us.length = size) (hb : Below (w.alloc (.cells us.toArray e fr)).drew.heap.size (w.alloc (.cells us.toArray e fr)).drew w') :
    Reads w' w'.heap.size size (some ⟨w.heap.size, 0, none⟩) 1 us := reads_new_old hl (below_step ((Below.refl _ _).drew) hb)
theorem step_append_nilI {P : Program} {ops : Array Oper} {o : Oper} {a : Act} {w : World} {K : Act → World → Prop} {Q : Exit → Act → World → Prop} {E : Prop} {s x : Operand} (us : List Value) (m : Nat) (t : TypeId) (hgd : o.guard = none)
    (ho : o.op = .call { callee := .builtin .append, args := #[s, x], argTypes := #[t, t] })
    (base : Nat) (e : TypeId) (z : Value) (size bytes : Nat) (ht : P.underlying t = some (.slice e)) (hi : (P.info? e).map (fun i => (i.zero, i.size, i.bytes)) = some (some z, size, bytes))
    (hzs : z.cells.size = size) (hsz : 0 < size)
    (hs : a.eval s = .slice none 0 0) (hx : ∃ A c, a.eval x = .slice A m c ∧ Reads w w.heap.size size A m us) (h1 : ∀ u ∈ us, u.oneCell' = true)
    (h63 : m ≤ maxLen) (hbytes : m * bytes ≤ 140737488355328) (hbase : base ≤ w.heap.size)
    (h : ∀ v' w', w'.ownsRow base e size v' m us → Below w.heap.size w w' → K (a.put o.dst v') w') :
    if Region.wanted o (yielded ops a.tmps) = true then Oper.wp P o a w K Q else E := by
  obtain ⟨A, c, hx, hr⟩ := hx
  exact step_append_nil hgd s x t ho base e z size bytes ht hi hzs hsz hs _ A m c us hx hr h1 h63 hbytes hbase h

end Go.Proofs.Ytmljdjakbbedlaa

namespace Go.Proofs.Ytmljdjakbbedlaa
open Go.ChangeShapes Go.WideShapes Go.ChangeAt Go.RowKit

theorem Reads.front {w : World} {B size : Nat} {A : Option Addr} {n k : Nat} {α : Type} {f : α → List Value} {l : List α} (hf : ∀ x, (f x).length = size) (h : Reads w B size A n (l.flatMap f)) (hz : l.length = n) (hk : k ≤ n) : Reads w B size A k ((l.take k).flatMap f) := by
  have hlen : ∀ l : List α, (l.flatMap f).length = l.length * size := by
    intro l
    induction l with
    | nil => simp
    | cons x l ih => rw [List.flatMap_cons, List.length_append, hf, ih, List.length_cons, Nat.add_mul]; omega
  refine ⟨by rw [hlen, List.length_take, hz, Nat.min_eq_left hk], fun h0 => ?_⟩
  obtain ⟨ad, rfl, hb, hc⟩ := h.2 (by omega)
  refine ⟨ad, rfl, hb, fun j u hu => hc j u ?_⟩
  have e : l.flatMap f = (l.take k).flatMap f ++ (l.drop k).flatMap f := by rw [← List.flatMap_append, List.take_append_drop]
  rw [e]
  rw [List.getElem?_append_left]
  · exact hu
  · exact (List.getElem?_eq_some_iff.1 hu).1

end Go.Proofs.Ytmljdjakbbedlaa

namespace Go.Proofs.Ytmljdjakbbedlaa
open Go.ChangeShapes Go.WideShapes Go.ChangeAt Go.RowKit

theorem own_same {w w' : World} {base : Nat} {e : TypeId} {size n : Nat} {v : Value} {xs : List Value} (h : w.ownsRow base e size v n xs) (hk : ∀ k, v.ownBlock = some k → w'.heap[k]? = w.heap[k]?) : w'.ownsRow base e size v n xs := by
  obtain ⟨h1, h2⟩ := h
  refine ⟨h1, ?_⟩
  rcases h2 with ⟨rfl, h3⟩ | ⟨g, cap, cur, rfl, hg, hh, r⟩
  · exact .inl ⟨rfl, h3⟩
  · exact .inr ⟨g, cap, cur, rfl, hg, (hk g rfl).trans hh, r⟩
/-- Two rows of the call's own, in blocks apart. -/
structure Two (w : World) (base : Nat) (e : TypeId) (size : Nat) (v u : Value) (n m : Nat) (xs ys : List Value) : Prop where
  a : w.ownsRow base e size v n xs
  b : w.ownsRow base e size u m ys
  apart : ∀ k, v.ownBlock = some k → u.ownBlock ≠ some k
theorem Two.swap {w : World} {base : Nat} {e : TypeId} {size : Nat} {v u : Value} {n m : Nat} {xs ys : List Value} (h : Two w base e size v u n m xs ys) : Two w base e size u v m n ys xs :=
  ⟨h.b, h.a, fun k h1 h2 => h.apart k h2 h1⟩
theorem Two.step {w w' : World} {base : Nat} {e : TypeId} {size : Nat} {v u : Value} {n m : Nat} {xs ys : List Value} (h : Two w base e size v u n m xs ys) (hb : Below w.heap.size w w') : Two w' base e size v u n m xs ys :=
  ⟨own_below h.a hb, own_below h.b hb, h.apart⟩
theorem wpList_append_two {P : Program} {ops : Array Oper} {rest : List Oper} {o : Oper} {a : Act} {Q : Exit → Act → World → Prop} {w0 : World} {us : List Value} {fr : Nat × Nat} {e : TypeId} {g : Nat} (hgd : o.guard = none) (s x : Operand) (t : TypeId)
    (ho : o.op = .call { callee := .builtin .append, args := #[s, x], argTypes := #[t, t] })
    (base : Nat) (z : Value) (size bytes : Nat) (ht : P.underlying t = some (.slice e)) (hi : (P.info? e).map (fun i => (i.zero, i.size, i.bytes)) = some (some z, size, bytes))
    (hzs : z.cells.size = size) (hsz : 0 < size) (v u : Value) (n m : Nat) (xs ys : List Value) (hs : a.eval s = v)
    (hx : a.eval x = .slice (some ⟨g, 0, none⟩) 1 1) (hg : g = w0.heap.size) (htwo : Two w0 base e size v u n m xs ys) (hbase : base ≤ w0.heap.size)
    (hl : us.length = size) (h1 : ∀ u ∈ us, u.oneCell' = true) (h63 : n + 1 ≤ maxLen) (hbytes : (n + 1) * bytes ≤ 140737488355328)
    (h : ∀ v' w', Two w' base e size v' u (n + 1) m (xs ++ us) ys → Below base w0 w' → w0.heap.size < w'.heap.size → (∀ k, k < w0.heap.size → v.ownBlock ≠ some k → w'.heap[k]? = w0.heap[k]?) → wpList P ops Q rest (a.put o.dst v') w') :
    wpList P ops Q (o :: rest) a (w0.alloc (.cells us.toArray e fr)) := by
  subst hg
  obtain ⟨i0, hi, hz0, hz1, hz2⟩ := info_parts hi
  have hr : Reads (w0.alloc (.cells us.toArray e fr)) (w0.alloc (.cells us.toArray e fr)).heap.size size (some ⟨w0.heap.size, 0, none⟩) 1 us := by
    refine ⟨by simp [hl], fun _ => ⟨_, rfl, by simp, fun j u hj => ?_⟩⟩
    have e1 : (⟨w0.heap.size, 0, none⟩ : Addr).add j = ⟨w0.heap.size, j, none⟩ := by unfold Addr.add; split <;> simp_all
    rw [e1]
    have : (w0.alloc (.cells us.toArray e fr)).heap[w0.heap.size]? = some (.cells us.toArray e fr) := heap_alloc_new w0 _
    unfold World.cell?
    simp only [this]
    simpa using hj
  refine wpList_append_any _ hgd s x t ho base e i0 z size bytes ht hi hz0 hz1 hz2 hzs hsz v n xs hs (htwo.a.alloc _) _ _ 1 1 us hx hr h1 h63 hbytes (by simp; omega) ?_
  intro v' w' hown' hgr hblk
  have hsz' := hgr.size
  simp at hsz'
  have hkeep : ∀ k, k < w0.heap.size → v.ownBlock ≠ some k → w'.heap[k]? = w0.heap[k]? := fun k hk hne => by
    rw [hgr.block k (by simp; omega) (fun he => hne he.symm)]
    exact Below.heap_alloc _ _ _ hk
  have hub : ∀ k, u.ownBlock = some k → k < w0.heap.size := fun k hk => by
    apply Classical.byContradiction
    intro hc
    exact own_block_lt htwo.b (k := k) (by omega) hk
  have hb : Below base w0 (w0.alloc (.cells us.toArray e fr)) := (Below.refl _ _).alloc hbase _
  refine h v' w' ⟨hown', own_same htwo.b (fun k hk => hkeep k (hub k hk) (fun hh => htwo.apart k hh hk)), fun k hk hu => ?_⟩ (hb.grown hgr (by simp; omega) ?_) (by omega) hkeep
  · rcases hblk with hh | hh
    · rw [hh] at hk
      exact htwo.apart k hk hu
    · rw [hh] at hk
      injection hk with hk
      have := hub k hu
      simp at hk
      omega
  · intro k hk
    rcases htwo.a.2 with ⟨rfl, _⟩ | ⟨g, cap, cur, rfl, hgb, _⟩
    · simp [Value.ownBlock] at hk
    · simp only [Value.ownBlock, Option.some.injEq] at hk
      omega

/-- A store at a place of a row of one-cell elements. -/
theorem own_set {w : World} {base : Nat} {e : TypeId} {n : Nat} {ad : Addr} {c : Nat} {xs : List Value} (h : w.ownsRow base e 1 (.slice (some ad) n c) n xs) (i : Nat) (u : Value) (_hi : i < n) : (w.setCell (ad.add i) u).ownsRow base e 1 (.slice (some ad) n c) n (xs.set i u) := by
  obtain ⟨h1, h2⟩ := h
  refine ⟨by rw [List.length_set]; exact h1, ?_⟩
  rcases h2 with ⟨hv, _⟩ | ⟨g, cap, cur, hv, hg, hh, hn, hc, hs, ht⟩
  · injection hv with h0; cases h0
  · injection hv with h0 _ h2
    injection h0 with h0
    subst h0 h2
    have e1 : (⟨g, 0, none⟩ : Addr).add i = ⟨g, i, none⟩ := by unfold Addr.add; split <;> simp_all
    rw [e1]
    have hb : Blk w g e cur := hh
    have := hb.set_ i u
    refine .inr ⟨g, c, cur.setIfInBounds i u, rfl, hg, this, hn, hc, by simpa using hs, ?_⟩
    rw [Array.toList_setIfInBounds, List.take_set, ht]
theorem own_frozen {w : World} {base : Nat} {e : TypeId} {n size : Nat} {ad : Addr} {c : Nat} {xs : List Value} (h : w.ownsRow base e size (.slice (some ad) n c) n xs) (i : Nat) : w.frozen? (ad.add i) = false := by
  rcases h.2 with ⟨hv, _⟩ | ⟨g, cap, cur, hv, hg, hh, hn, hc, hs, ht⟩
  · injection hv with h0; cases h0
  · injection hv with h0 _ h2
    injection h0 with h0
    subst h0
    have e1 : (⟨g, 0, none⟩ : Addr).add i = ⟨g, i, none⟩ := by unfold Addr.add; split <;> simp_all
    rw [e1]
    have hb : Blk w g e cur := hh
    exact hb.frozen i
theorem own_at {w : World} {base : Nat} {e : TypeId} {n : Nat} {v : Value} {l : List Int} (h : w.ownsRow base e 1 v n (l.map (Value.int .i64))) (hn : 0 < n) : ∃ ad c, v = .slice (some ad) n c ∧ base ≤ ad.block ∧ ad.block < w.heap.size ∧ ∀ i, i < n → w.cell? (ad.add i) = some (.int .i64 (l[i]?.getD 0)) := by
  obtain ⟨A, c, rfl, hc, hr, hbase⟩ := own_reads_at h
  obtain ⟨ad, rfl, hb, hcell⟩ := hr.2 hn
  refine ⟨ad, c, rfl, hbase ad rfl, hb, fun i hi => ?_⟩
  have hl := hr.1
  rw [List.length_map] at hl
  have hx : l[i]? = some (l[i]'(by omega)) := List.getElem?_eq_getElem _
  rw [hx, Option.getD_some]
  exact hcell i _ (by rw [List.getElem?_map, hx]; rfl)

end Go.Proofs.Ytmljdjakbbedlaa

namespace Go.Proofs.Ytmljdjakbbedlaa
set_option linter.unusedVariables false

def ansL : List ActV → List RouteV → List AnsV
  | [], _ => []
  | a :: l, L => doA L a :: ansL l (doL L a)
def actL : List ActV → List RouteV → List RouteV
  | [], L => L
  | a :: l, L => actL l (doL L a)
theorem ansL_snoc (l : List ActV) (a : ActV) : ∀ L, ansL (l ++ [a]) L = ansL l L ++ [doA (actL l L) a] := by
  induction l with
  | nil => intro L; rfl
  | cons x l ih => intro L; simp only [List.cons_append, ansL, actL, ih]
theorem actL_snoc (l : List ActV) (a : ActV) : ∀ L, actL (l ++ [a]) L = doL (actL l L) a := by
  induction l with
  | nil => intro L; rfl
  | cons x l ih => intro L; exact ih _
theorem ansL_length (l : List ActV) : ∀ L, (ansL l L).length = l.length := by
  induction l with
  | nil => intro L; rfl
  | cons x l ih => intro L; show _ + 1 = _ + 1; rw [ih]

/-- What is known of an act that came in. -/
structure ActV.Ok (a : ActV) : Prop where
  phi : 0 ≤ a.p.hi ∧ a.p.hi < 18446744073709551616
  plo : 0 ≤ a.p.lo ∧ a.p.lo < 18446744073709551616
  ahi : 0 ≤ a.a.hi ∧ a.a.hi < 18446744073709551616
  alo : 0 ≤ a.a.lo ∧ a.a.lo < 18446744073709551616
def GoodL (L : List RouteV) : Prop := Valid L ∧ L.length ≤ 60
theorem goodL_nil : GoodL [] := ⟨⟨fun r h => by simp at h, by simp⟩, by simp⟩
theorem del_le (L : List RouteV) (p : PV) : (delR L p).length ≤ L.length := List.length_filter_le _ _
theorem goodL_do {L : List RouteV} (h : GoodL L) {a : ActV} (ha : a.Ok) : GoodL (doL L a) := by
  unfold doL
  by_cases h1 : ¬ (a.kind = 1 ∨ a.kind = 2)
  · rw [if_pos h1]; exact h
  rw [if_neg h1]
  by_cases h2 : ¬ a.p.chk = 0
  · rw [if_pos h2]; exact h
  rw [if_neg h2]
  by_cases h3 : a.kind = 2
  · rw [if_pos h3]; exact ⟨valid_del h.1 _, Nat.le_trans (del_le _ _) h.2⟩
  rw [if_neg h3]
  by_cases h4 : a.hop < 1 ∨ 999 < a.hop
  · rw [if_pos h4]; exact h
  rw [if_neg h4]
  by_cases h5 : L.length = 60 ∧ getR L a.p = 0
  · rw [if_pos h5]; exact h
  rw [if_neg h5]
  have hok : a.p.Ok := chk_zero ha.phi ha.plo (Classical.not_not.1 h2)
  refine ⟨valid_set h.1 hok (by omega), ?_⟩
  rw [set_length]
  have hh := hasR_get (l := L) (p := a.p) (fun r hr => (h.1.1 r hr).2.1)
  by_cases h6 : hasR L a.p = true
  · rw [if_pos h6]; exact h.2
  · rw [if_neg h6]
    have : getR L a.p = 0 := Classical.byContradiction fun hx => h6 (hh.2 hx)
    have := h.2
    by_cases h7 : L.length = 60
    · exact absurd ⟨h7, ‹getR L a.p = 0›⟩ h5
    · omega
theorem goodL_play {L : List RouteV} (h : GoodL L) : ∀ {l : List ActV}, (∀ a ∈ l, a.Ok) → GoodL (actL l L) := by
  intro l
  induction l generalizing L with
  | nil => intro _; exact h
  | cons a l ih => intro hl; exact ih (goodL_do h (hl a (by simp))) (fun x hx => hl x (by simp [hx]))

/-- Where a prefix stands among the first routes: the place, or -1. -/
def FoundAt (L : List RouteV) (p : PV) (t : Nat) (z : Int) : Prop :=
  (z = -1 ∧ ∀ (i : Nat) (x : RouteV), i < t → L[i]? = some x → ¬ x.p = p) ∨ ∃ (u : Nat) (x : RouteV), z = (u : Int) ∧ u < t ∧ L[u]? = some x ∧ x.p = p
theorem FoundAt.start (L : List RouteV) (p : PV) : FoundAt L p 0 (-1) := .inl ⟨rfl, fun i x h => by omega⟩
theorem FoundAt.hit {L : List RouteV} {p : PV} {t : Nat} {x : RouteV} (hx : L[t]? = some x) (hp : x.p = p) : FoundAt L p (t + 1) (t : Int) := .inr ⟨t, x, rfl, by omega, hx, hp⟩
theorem FoundAt.miss {L : List RouteV} {p : PV} {t : Nat} {z : Int} (h : FoundAt L p t z) {x : RouteV} (hx : L[t]? = some x) (hp : ¬ x.p = p) : FoundAt L p (t + 1) z := by
  rcases h with ⟨hz, hn⟩ | ⟨u, y, h1, h2, h3, h4⟩
  · refine .inl ⟨hz, fun i y hi hy => ?_⟩
    by_cases hit : i < t
    · exact hn i y hit hy
    · obtain rfl : i = t := by omega
      rw [hx] at hy
      injection hy with hy
      rw [← hy]
      exact hp
  · exact .inr ⟨u, y, h1, by omega, h3, h4⟩
theorem FoundAt.none {L : List RouteV} {p : PV} (hn : ∀ (i : Nat) (x : RouteV), i < L.length → L[i]? = some x → ¬ x.p = p) : hasR L p = false := by
  cases hh : hasR L p with
  | false => rfl
  | true =>
    obtain ⟨x, hx, hxp⟩ := hasR_iff.1 hh
    obtain ⟨i, hi, hx2⟩ := List.mem_iff_getElem.1 hx
    exact absurd hxp (hn i x hi (by rw [List.getElem?_eq_getElem hi, hx2]))
theorem nodup_at {L : List RouteV} (hn : (L.map RouteV.p).Nodup) {u v : Nat} {x y : RouteV} (hx : L[u]? = some x) (hy : L[v]? = some y) (he : x.p = y.p) : u = v := by
  have h1 : (L.map RouteV.p)[u]? = some x.p := by rw [List.getElem?_map, hx]; rfl
  have h2 : (L.map RouteV.p)[v]? = some y.p := by rw [List.getElem?_map, hy]; rfl
  have l1 := (List.getElem?_eq_some_iff.1 h1).1
  refine (List.getElem?_inj l1 hn).1 ?_
  rw [h1, h2, he]
theorem get_at : ∀ {L : List RouteV} (hn : (L.map RouteV.p).Nodup) {u : Nat} {x : RouteV} (hx : L[u]? = some x), getR L x.p = x.hop ∧ delR L x.p = L.take u ++ L.drop (u + 1) ∧ ∀ hop, (L.map fun r => if r.p = x.p then (⟨x.p, hop⟩ : RouteV) else r) = L.set u ⟨x.p, hop⟩ := by
  intro L
  induction L with
  | nil => intro _ u x hx; simp at hx
  | cons r L ih =>
    intro hn u x hx
    rw [List.map_cons, List.nodup_cons] at hn
    cases u with
    | zero =>
      simp at hx
      subst hx
      have hno : hasR L r.p = false := by
        cases hh : hasR L r.p with
        | false => rfl
        | true =>
          obtain ⟨y, hy, hy2⟩ := hasR_iff.1 hh
          exact absurd (List.mem_map.2 ⟨y, hy, hy2⟩) hn.1
      refine ⟨by unfold getR; rw [if_pos rfl], ?_, fun hop => ?_⟩
      · have := del_none hno
        unfold delR at this ⊢
        rw [List.filter_cons, if_neg (by simp), this]
        rfl
      · rw [List.map_cons, if_pos rfl, List.set_cons_zero]
        congr 1
        conv => rhs; rw [← List.map_id L]
        refine List.map_congr_left fun y hy => ?_
        unfold hasR at hno
        rw [List.any_eq_false] at hno
        rw [if_neg (by simpa using hno y hy)]
        rfl
    | succ u =>
      have hx' : L[u]? = some x := by simpa using hx
      obtain ⟨h1, h2, h3⟩ := ih hn.2 hx'
      have hne : ¬ r.p = x.p := fun e => hn.1 (List.mem_map.2 ⟨x, List.mem_of_getElem? hx', e.symm⟩)
      refine ⟨by unfold getR; rw [if_neg hne]; exact h1, ?_, fun hop => ?_⟩
      · unfold delR at h2 ⊢
        rw [List.filter_cons, if_pos (by simp [hne]), h2]
        rfl
      · rw [List.map_cons, if_neg hne, h3 hop, List.set_cons_succ]

end Go.Proofs.Ytmljdjakbbedlaa

namespace Go.Proofs.Ytmljdjakbbedlaa
set_option linter.unusedVariables false

/-- Puts and cuts one after the other; the first fault ends them. -/
def appl : List ActV → List RouteV → Int × List RouteV
  | [], L => (0, L)
  | a :: l, L => if ¬ (a.kind = 1 ∨ a.kind = 2) then (3, []) else if ¬ (doA L a).code = 0 then ((doA L a).code, []) else appl l (doL L a)
theorem appl_kind {a : ActV} {l : List ActV} {L : List RouteV} (h : ¬ (a.kind = 1 ∨ a.kind = 2)) : appl (a :: l) L = (3, []) := by unfold appl; rw [if_pos h]
theorem appl_code {a : ActV} {l : List ActV} {L : List RouteV} (h : a.kind = 1 ∨ a.kind = 2) (hc : ¬ (doA L a).code = 0) : appl (a :: l) L = ((doA L a).code, []) := by unfold appl; rw [if_neg (not_not_intro h), if_pos hc]
theorem appl_ok {a : ActV} {l : List ActV} {L : List RouteV} (h : a.kind = 1 ∨ a.kind = 2) (hc : (doA L a).code = 0) : appl (a :: l) L = appl l (doL L a) := by
  conv => lhs; unfold appl
  rw [if_neg (not_not_intro h), if_neg (not_not_intro hc)]
theorem appl_good : ∀ {l : List ActV} {L : List RouteV}, GoodL L → (∀ a ∈ l, a.Ok) → GoodL (appl l L).2 := by
  intro l
  induction l with
  | nil => intro L h _; exact h
  | cons a l ih =>
    intro L h hl
    by_cases h1 : a.kind = 1 ∨ a.kind = 2
    · by_cases h2 : (doA L a).code = 0
      · rw [appl_ok h1 h2]; exact ih (goodL_do h (hl a (by simp))) (fun x hx => hl x (by simp [hx]))
      · rw [appl_code h1 h2]; exact goodL_nil
    · rw [appl_kind h1]; exact goodL_nil
theorem drop_at {α : Type} {l : List α} {k : Nat} {x : α} (h : l[k]? = some x) : l.drop k = x :: l.drop (k + 1) := by
  obtain ⟨hk, h⟩ := List.getElem?_eq_some_iff.1 h
  rw [List.drop_eq_getElem_cons hk, h]
/-- What Apply says: code and routes (unsorted). -/
def applyR (l : List RouteV) (acts : List ActV) (f : Int) : Int × List RouteV := if ¬ f = 0 then (f, []) else if 120 < acts.length then (1, []) else appl acts l

/-- The sorted list with the same routes. -/
def SortedOf (l S : List RouteV) : Prop := S.Perm l ∧ S.Pairwise fun x y => ltP x.p y.p
theorem sortedOf_unique {l S S' : List RouteV} (hv : Valid l) (h : SortedOf l S) (h' : SortedOf l S') : S = S' :=
  sorted_unique h.2 h'.2 (fun r hr => (hv.1 r (h.1.mem_iff.1 hr)).1) fun _ => h.1.mem_iff.trans h'.1.mem_iff.symm
/-- The routes of an answer in order; none where there is a fault. -/
def SortedIf (bad : Bool) (l S : List RouteV) : Prop := if bad then S = [] else SortedOf l S
theorem sortedIf_unique {bad : Bool} {l S S' : List RouteV} (hv : bad = false → Valid l) (h : SortedIf bad l S) (h' : SortedIf bad l S') : S = S' := by
  unfold SortedIf at h h'
  cases bad with
  | true => exact h.trans h'.symm
  | false => exact sortedOf_unique (hv rfl) h h'
theorem sortedIf_len {bad : Bool} {l S : List RouteV} {N : Nat} (hl : bad = false → l.length ≤ N) (h : SortedIf bad l S) : S.length ≤ N := by
  unfold SortedIf at h
  cases bad with
  | true => rw [h]; exact Nat.zero_le _
  | false => rw [h.1.length_eq]; exact hl rfl

end Go.Proofs.Ytmljdjakbbedlaa
