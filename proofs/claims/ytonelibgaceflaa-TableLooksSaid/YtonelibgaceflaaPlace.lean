
/-
  Proved here: the contracts of Table.root and of Table.place without a function: the place of a prefix in a tree.
-/
import Derived.Test.YtonelibgaceflaaTrie
import Derived.Test.YtonelibgaceflaaCovers
import Derived.Test.YtonelibgaceflaaAddr
import Derived.Deep.LoopGhost
import Derived.Deep.RegionHeld3
namespace Go.Proofs.Ytonelibgaceflaa
open Go.ChangeShapes Go.WideShapes Go.ChangeAt Go.RowKit

theorem root_any (p : PV) (tb : Nat) (w : World) :
    Calls Try.prog 203 #[.pointer (some ⟨tb, 0, none⟩), p.val] w fun e w' => e = .returned (.pointer (some (slotOf tb p.six))) ∧ Below w.heap.size w w' := by
  obtain ⟨six, hi, lo, n⟩ := p
  unfold PV.val slotOf
  simp only
  cases six
  · go_enter Try.func203, Try.ntmps203
    go_wp2
    go_ret
    exact ⟨rfl, (Below.refl _ _).alloc (Nat.le_refl _) _⟩
  · go_enter Try.func203, Try.ntmps203
    go_wp2
    go_ret
    exact ⟨rfl, (Below.refl _ _).alloc (Nat.le_refl _) _⟩

def Stop (p : PV) : Tr → Prop
  | .nil => True
  | .node _ q _ _ _ => q = p ∨ q.over p = false
def PlaceAt (w : World) (tb : Nat) (R : Bool → Tr) (p : PV) (e : Ending) (w' : World) : Prop :=
  ∃ (C : Ctx) (cur : Tr), R p.six = C.plug cur ∧ C.OnPath p ∧ Stop p cur ∧ e = .returned (.pointer (some (C.slot tb p.six))) ∧ Below w.heap.size w w'
/-- Where the search stands. -/
def At (tb : Nat) (R : Bool → Tr) (p : PV) (k : Nat) (v : Value) : Prop :=
  ∃ (C : Ctx) (cur : Tr), R p.six = C.plug cur ∧ C.OnPath p ∧ cur.size ≤ k ∧ v = .pointer (some (C.slot tb p.six))

theorem inv_plug {six : Bool} : ∀ (C : Ctx) (t : Tr) (U : PV → Prop), Inv six U (C.plug t) → ∃ U', Inv six U' t
  | .top, t, U, h => ⟨U, h⟩
  | .left C g q h r, t, U, hi => by
    obtain ⟨U', h'⟩ := inv_plug C (.node g q h t r) U hi
    exact ⟨_, h'.2.2.2.2.1⟩
  | .right C g q h l, t, U, hi => by
    obtain ⟨U', h'⟩ := inv_plug C (.node g q h l t) U hi
    exact ⟨_, h'.2.2.2.2.2⟩

set_option maxRecDepth 100000 in
set_option maxHeartbeats 1600000 in
theorem place_any {w : World} {B tb : Nat} {R : Bool → Tr} {c : Int} (h : Tab w B tb R c) (p : PV) (hp : p.Ok) (hI : ∀ s, Inv s (fun _ => True) (R s)) :
    Calls Try.prog 154 #[.pointer (some ⟨tb, 0, none⟩), p.val, .nilFunc] w (PlaceAt w tb R p) := by
  have HT := Lib.hid h
  have HP := Lib.hid hp
  have HI := Lib.hid hI
  have hRt := Lib.hid (fun w => root_any p tb w)
  obtain ⟨six, hi, lo, n⟩ := p
  have hrng := hp
  unfold PV.Ok at hrng
  simp only at hrng
  have r1 := hrng.rhi
  have r2 := hrng.rlo
  have hm5 := Lib.hid (fun hs : six = false => by have := hrng.may; rw [hs] at this; exact (mayB_four this).2 : six = false → lo < 4294967296)
  have hlen := hrng.len
  have hwl := wideI_le six
  clear h hp hI hrng
  have hnf : ∀ w, (binOp .neq 245 .nilFunc .nilFunc).run Try.prog w = .ok (.bool false) w := fun _ => by kernel_rfl
  unfold PV.val at hRt ⊢
  simp only at hRt ⊢
  go_enter Try.func154, Try.ntmps154
  go_wp2_with fail
  refine (hRt.out _).mono ?_
  rintro e X ⟨rfl, hb⟩
  obtain ⟨HBX, hsx, hbx⟩ := box1 (cs := [.bool six, .int .u64 hi, .int .u64 lo, .int .i64 n]) hb
  have e0 := hbx 0 _ rfl
  have e1 := hbx 1 _ rfl
  have e2 := hbx 2 _ rfl
  have e3 := hbx 3 _ rfl
  have HTX := Lib.hid (HT.out.below HBX)
  have HB := Lib.hid HBX
  clear hb hbx HBX
  go_wp2
  go_loopg [7, 8] (R six).size (fun k at_ _ wr => At tb R ⟨six, hi, lo, n⟩ k at_ ∧ Below X.heap.size X wr)
  case atStart => exact ⟨⟨.top, R six, rfl, trivial, Nat.le_refl _, rfl⟩, Below.refl _ _⟩
  case round =>
    obtain ⟨⟨C, cur, hR, hon, hsz, rfl⟩, hb⟩ := hrel
    have hs := ((HTX.out.below hb).slot hR).1
    have q0 := (hb.cell (p := ⟨w.heap.size, 0, none⟩) hsx).trans e0
    have q1 := (hb.cell (p := ⟨w.heap.size, 1, none⟩) hsx).trans e1
    have q2 := (hb.cell (p := ⟨w.heap.size, 2, none⟩) hsx).trans e2
    have q3 := (hb.cell (p := ⟨w.heap.size, 3, none⟩) hsx).trans e3
    have HR := Lib.hid hR
    have HON := Lib.hid hon
    have HBW := Lib.hid hb
    have hsw := hb.size
    obtain ⟨U', hiv⟩ := inv_plug C cur _ (by rw [← hR]; exact HI.out six)
    cases cur with
    | nil =>
      clear hR hon hb hiv
      change wr.cell? (Ctx.slot tb six C) = some (.pointer none) at hs
      show Code.wp _ _ _ _ _
      simp only at hs ⊢
      generalize hsl : Ctx.slot tb six C = sl at *
      have HSL := Lib.hid hsl
      clear hsl
      go_wp2
      go_ret
      exact ⟨C, .nil, HR.out, HON.out, trivial, by rw [HSL.out]; rfl, HB.out.trans (HBW.out.mono HB.out.size)⟩
    | node g q h l r =>
      obtain ⟨hq, hq6, _, hh, _, _⟩ := hiv
      obtain ⟨hblk, hgm⟩ := (HTX.out.below hb).node hR
      have n0 := hblk.cell 0
      have n1 := hblk.cell 1
      have n2 := hblk.cell 2
      have n3 := hblk.cell 3
      have HQ := Lib.hid hq
      obtain ⟨qs, qh, ql, qn⟩ := q
      simp only [nodeCs] at n0 n1 n2 n3 hq6
      simp at n0 n1 n2 n3
      subst hq6
      have hgl := hblk.lt
      clear hR hon hb hblk hgm hq hh
      change wr.cell? (Ctx.slot tb qs C) = some (.pointer (some ⟨g, 0, none⟩)) at hs
      generalize hsl : Ctx.slot tb qs C = sl at *
      have HSL := Lib.hid hsl
      clear hsl
      by_cases he : qh = hi ∧ ql = lo ∧ qn = n
      · obtain ⟨rfl, rfl, rfl⟩ := he
        go_wp2_with fail
        go_quiet (fail)
        go_wp2
        go_ret
        exact ⟨C, _, HR.out, HON.out, .inl rfl, by rw [HSL.out]; rfl, below_drewN (HB.out.trans (HBW.out.mono HB.out.size)) _⟩
      · have CO := Lib.hid (fun w => over_any qs qh ql qn qs hi lo n w r1 r2 hm5.out (by have := ok_n HQ.out; simp only at this; have := wideI_le qs; omega) (by have := ok_n HQ.out; simp only at this; have := wideI_le qs; omega))
        have CA := Lib.hid (fun w h3 h4 => at_any qs hi lo qn w r1 r2 h3 h4)
        have HE := Lib.hid he
        have HNE : Hid (¬ (⟨qs, qh, ql, qn⟩ : PV) = ⟨qs, hi, lo, n⟩) := fun hx => by injection hx with _ e1 e2 e3; exact he ⟨e1, e2, e3⟩
        have hsxw : w.heap.size < wr.heap.size := by omega
        have key : (qh == hi) = false ∨ (qh = hi ∧ (ql == lo) = false) ∨ (qh = hi ∧ ql = lo ∧ (qn == n) = false) := by
          by_cases a : qh = hi
          · by_cases b : ql = lo
            · exact .inr (.inr ⟨a, b, by simpa using fun h => he ⟨a, b, h⟩⟩)
            · exact .inr (.inl ⟨a, by simpa using b⟩)
          · exact .inl (by simpa using a)
        clear he
        obtain ⟨ov, hov⟩ : ∃ ov : Bool, overB qs qh ql qn qs hi lo n = ov := ⟨_, rfl⟩
        rw [hov] at CO
        have HOV := Lib.hid hov
        clear hov
        cases ov with
        | false =>
          rcases key with k1 | ⟨rfl, k1⟩ | ⟨rfl, rfl, k1⟩
          all_goals
            go_wp2_with fail
            go_region_held3 (fun w' => (∀ b o, b < wr.heap.size → w'.cell? ⟨b, o, none⟩ = wr.cell? ⟨b, o, none⟩) ∧ wr.heap.size ≤ w'.heap.size ∧ Hid (Below wr.heap.size wr w'))
              ((first | assumption | exact keep0 _ | exact keep1 (by assumption) (by assumption) | exact keepD (by assumption) | exact keepB (by assumption) (by assumption) | exact keepA (by assumption) _ | exact ⟨fun _ _ _ => rfl, Nat.le_refl _, Below.refl _ _⟩))
              (first | (go_at_call 137; refine (CO.out _).mono ?_; rintro e w2 ⟨rfl, hb2⟩))
            go_wp2
            go_ret
            exact ⟨C, _, HR.out, HON.out, .inr HOV.out, by rw [HSL.out]; rfl, (HB.out.trans (HBW.out.mono HB.out.size)).trans ((keepBelow (by assumption)).mono (by omega))⟩
        | true =>
          have hnn := over_n HQ.out HP.out HOV.out
          simp only at hnn
          have hlt : qn < n := by
            rcases Int.lt_or_le qn n with hx | hx
            · exact hx
            · have := over_eq HQ.out HP.out HOV.out hx
              injection this with _ e1 e2 e3
              exact absurd ⟨e1, e2, e3⟩ HE.out
          have hq0 := (ok_n HQ.out).1
          simp only at hq0
          have CB := Lib.hid (fun w => CA.out w hq0 (by omega))
          obtain ⟨bv, hbv⟩ : ∃ bv, bitI qs hi lo qn = bv := ⟨_, rfl⟩
          have hb01 : bv = 0 ∨ bv = 1 := by rw [← hbv]; exact PV.bit01 ⟨qs, hi, lo, n⟩ qn
          rw [hbv] at CB
          have HBV : Hid (PV.bit ⟨qs, hi, lo, n⟩ qn = bv) := hbv
          clear hbv
          rcases key with k1 | ⟨rfl, k1⟩ | ⟨rfl, rfl, k1⟩
          all_goals
            go_wp2_with fail
            go_region_held3 (fun w' => (∀ b o, b < wr.heap.size → w'.cell? ⟨b, o, none⟩ = wr.cell? ⟨b, o, none⟩) ∧ wr.heap.size ≤ w'.heap.size ∧ Hid (Below wr.heap.size wr w'))
              ((first | assumption | exact keep0 _ | exact keep1 (by assumption) (by assumption) | exact keepD (by assumption) | exact keepB (by assumption) (by assumption) | exact keepA (by assumption) _ | exact ⟨fun _ _ _ => rfl, Nat.le_refl _, Below.refl _ _⟩))
              (first | (go_at_call 137; refine (CO.out _).mono ?_; rintro e w2 ⟨rfl, hb2⟩))
            obtain ⟨fc2, z2, H2⟩ : (∀ b o, b < wr.heap.size → w2.cell? ⟨b, o, none⟩ = wr.cell? ⟨b, o, none⟩) ∧ wr.heap.size ≤ w2.heap.size ∧ Hid (Below wr.heap.size wr w2) := by assumption
            have z3 : w.heap.size < w2.heap.size := by omega
            have z4 : g < w2.heap.size := by omega
            rcases hb01 with rfl | rfl
            all_goals
              go_wp2
              go_region_held3 (fun w' => (∀ b o, b < w2.heap.size → w'.cell? ⟨b, o, none⟩ = w2.cell? ⟨b, o, none⟩) ∧ w2.heap.size ≤ w'.heap.size ∧ Hid (Below w2.heap.size w2 w'))
                ((first | assumption | exact keep0 _ | exact keep1 (by assumption) (by assumption) | exact keepD (by assumption) | exact keepB (by assumption) (by assumption) | exact keepA (by assumption) _ | exact ⟨fun _ _ _ => rfl, Nat.le_refl _, Below.refl _ _⟩))
                (first | (go_at_call 165; refine (CB.out _).mono ?_; rintro e w3 ⟨rfl, hb3⟩))
              obtain ⟨fc3, z5, H3⟩ : (∀ b o, b < w2.heap.size → w3.cell? ⟨b, o, none⟩ = w2.cell? ⟨b, o, none⟩) ∧ w2.heap.size ≤ w3.heap.size ∧ Hid (Below w2.heap.size w2 w3) := by assumption
              go_wp2
              first
                | (go_roundg l.size
                   case measure => (simp [Tr.size] at hsz; omega)
                   case rel => exact ⟨⟨.left C g _ h r, l, HR.out, ⟨HNE.out, HOV.out, HBV.out, HON.out⟩, Nat.le_refl _, rfl⟩, below_step HBW.out (below_step H2.out H3.out)⟩)
                | (go_roundg r.size
                   case measure => (simp [Tr.size] at hsz; omega)
                   case rel => exact ⟨⟨.right C g _ h l, r, HR.out, ⟨HNE.out, HOV.out, by rw [HBV.out]; decide, HON.out⟩, Nat.le_refl _, rfl⟩, below_step HBW.out (below_step H2.out H3.out)⟩)

end Go.Proofs.Ytonelibgaceflaa
