
/-
  Proved here: the contract of the note that Table.Look hands to Table.place.
-/
import Derived.Test.YtonelibgaceflaaPlace
import Derived.Test.YtonelibgaceflaaPut
import Derived.Test.YtonelibgaceflaaLookPlain
namespace Go.Proofs.Ytonelibgaceflaa
open Go.ChangeShapes Go.WideShapes Go.ChangeAt Go.RowKit

def NoteCs (a : Int × Int) : Array Value := #[.int .i64 0, .int .i64 a.1, .int .i64 a.2]

set_option maxHeartbeats 400000 in
theorem note_any (g ob : Nat) (q : PV) (h : Int) (a b : Value) (acc : Int × Int) (w : World) (hne1 : ¬ g = ob) (hg : Blk w g 244 (nodeCs q h a b)) (ho : Blk w ob 39 (NoteCs acc)) :
    Calls Try.prog 153 #[.pointer (some ⟨g, 0, none⟩), .pointer (some ⟨ob, 0, none⟩)] w fun e w' => e = .returned (.tuple #[]) ∧ Blk w' ob 39 (NoteCs (if h = 0 then acc else (h, q.n))) ∧ Kept [ob] w w' := by
  obtain ⟨qs, qh, ql, qn⟩ := q
  have n3 := hg.cell 3
  have n4 := hg.cell 4
  have o0 := ho.cell 0
  have o1 := ho.cell 1
  have o2 := ho.cell 2
  have f0 := ho.frozen 0
  have f1 := ho.frozen 1
  have f2 := ho.frozen 2
  simp [nodeCs, NoteCs] at n3 n4 o0 o1 o2
  have HO := Lib.hid ho
  clear hg ho
  by_cases h0 : h = 0
  · subst h0
    go_enter Try.func153, Try.ntmps153
    go_wp2
    refine bodyPost_end (results_none rfl _ _ _) rfl ?_
    exact ⟨rfl, HO.out, Kept.of_below (Below.refl _ _)⟩
  · have hne2 : ¬ ob = g := fun h => hne1 h.symm
    have hne : (h != 0) = true := by simpa using h0
    have HH := Lib.hid h0
    clear h0
    go_enter Try.func153, Try.ntmps153
    go_wp2
    go_region
    refine bodyPost_end (results_none rfl _ _ _) rfl ?_
    refine ⟨rfl, ?_, ?_⟩
    · rw [if_neg HH.out]
      have := (((((HO.out.set_ 0 (.int .i64 0)).set_ 1 (.int .i64 0)).set_ 2 (.int .i64 0)).set_ 1 (.int .i64 h)).set_ 2 (.int .i64 qn)).drew
      simpa [NoteCs] using this
    · exact (((((((Kept.of_below (Below.refl _ _)).setCell (.inl (by simp)) _).setCell (.inl (by simp)) _).setCell (.inl (by simp)) _).setCell (.inl (by simp)) _).setCell (.inl (by simp)) _).then_below (Below.refl _ _).drew)

theorem Kept.cellK {S : List Nat} {w w' : World} (h : Kept S w w') {p : Addr} (hp : p.block < w.heap.size) (hS : p.block ∉ S) : w'.cell? p = w.cell? p := World.cell?_of_block (h.block _ hp hS)
theorem Kept.trans {S : List Nat} {w w1 w2 : World} (h : Kept S w w1) (h' : Kept S w1 w2) : Kept S w w2 :=
  ⟨h'.os.trans h.os, h'.tape.trans h.tape, h'.output.trans h.output, Nat.le_trans h.size h'.size, fun k hk hS => (h'.block k (by have := h.size; omega) hS).trans (h.block k hk hS)⟩

def PlaceNote (w : World) (tb : Nat) (R : Bool → Tr) (p : PV) (ob : Nat) (e : Ending) (w' : World) : Prop :=
  ∃ (C : Ctx) (cur : Tr) (acc : Int × Int), R p.six = C.plug cur ∧ C.OnPath p ∧ Stop p cur ∧ e = .returned (.pointer (some (C.slot tb p.six))) ∧ Kept [ob] w w' ∧ Blk w' ob 39 (NoteCs acc) ∧ lookT p (R p.six) (0, 0) = lookT p cur acc
/-- Where the search stands, with what was noted. -/
def AtN (tb : Nat) (R : Bool → Tr) (p : PV) (ob k : Nat) (v : Value) (w : World) : Prop :=
  ∃ (C : Ctx) (cur : Tr) (acc : Int × Int), R p.six = C.plug cur ∧ C.OnPath p ∧ cur.size ≤ k ∧ v = .pointer (some (C.slot tb p.six)) ∧ Blk w ob 39 (NoteCs acc) ∧ lookT p (R p.six) (0, 0) = lookT p cur acc

theorem look_left {p q : PV} {g : Nat} {h : Int} {l r : Tr} {acc : Int × Int} (h1 : ¬ q = p) (h2 : q.over p = true) (h3 : p.bit q.n = 0) : lookT p (.node g q h l r) acc = lookT p l (if h = 0 then acc else (h, q.n)) := by
  conv => lhs; unfold lookT
  rw [if_neg (by simp [h2]), if_neg h1, if_pos h3]
theorem look_right {p q : PV} {g : Nat} {h : Int} {l r : Tr} {acc : Int × Int} (h1 : ¬ q = p) (h2 : q.over p = true) (h3 : ¬ p.bit q.n = 0) : lookT p (.node g q h l r) acc = lookT p r (if h = 0 then acc else (h, q.n)) := by
  conv => lhs; unfold lookT
  rw [if_neg (by simp [h2]), if_neg h1, if_neg h3]

set_option maxRecDepth 100000 in
set_option maxHeartbeats 1600000 in
theorem place_note {w : World} {B tb ob : Nat} {R : Bool → Tr} {c : Int} (h : Tab w B tb R c) (p : PV) (hp : p.Ok) (hI : ∀ s, Inv s (fun _ => True) (R s)) (hob : ob ∉ tabBlocks tb R) (hbo : Blk w ob 39 (NoteCs (0, 0))) :
    Calls Try.prog 154 #[.pointer (some ⟨tb, 0, none⟩), p.val, .func (.func 153) #[] #[.pointer (some ⟨ob, 0, none⟩)]] w (PlaceNote w tb R p ob) := by
  have HT := Lib.hid h
  have HP := Lib.hid hp
  have HI := Lib.hid hI
  have hRt := Lib.hid (fun w => root_any p tb w)
  obtain ⟨six, hi, lo, n⟩ := p
  have hrng := hp
  unfold PV.Ok at hrng
  simp only at hrng
  have r1 := hrng.rhi
  have r2 := hrng.rlo
  have hm5 := Lib.hid (fun hs : six = false => by have := hrng.may; rw [hs] at this; exact (mayB_four this).2 : six = false → lo < 4294967296)
  have hlen := hrng.len
  have hwl := wideI_le six
  clear h hp hI hrng
  have hnf : ∀ (caps : Array Value) (w : World), (binOp .neq 245 (.func (.func 153) #[] caps) .nilFunc).run Try.prog w = .ok (.bool true) w := fun _ _ => by kernel_rfl
  have hent : ∀ (args : Array Value) (w : World), (callFunc 153 args).run Try.prog w = .ok (.enter 153 args) w := fun args w => by kernel_rfl
  have HOB := Lib.hid hob
  have HBO0 := Lib.hid hbo
  have hobl := hbo.lt
  clear hob hbo
  unfold PV.val at hRt ⊢
  simp only at hRt ⊢
  go_enter Try.func154, Try.ntmps154
  go_wp2_with fail
  refine (hRt.out _).mono ?_
  rintro e X ⟨rfl, hb⟩
  obtain ⟨HBX, hsx, hbx⟩ := box1 (cs := [.bool six, .int .u64 hi, .int .u64 lo, .int .i64 n]) hb
  have e0 := hbx 0 _ rfl
  have e1 := hbx 1 _ rfl
  have e2 := hbx 2 _ rfl
  have e3 := hbx 3 _ rfl
  have HTX := Lib.hid (HT.out.below HBX)
  have HBO := Lib.hid (HBO0.out.below HBX hobl)
  have hobx : ob < X.heap.size := HBO.out.lt
  have hnob : w.heap.size ∉ [ob] := by simp; omega
  have HB := Lib.hid HBX
  clear hb hbx HBX
  go_wp2
  go_loopg [7, 8] (R six).size (fun k at_ _ wr => AtN tb R ⟨six, hi, lo, n⟩ ob k at_ wr ∧ Kept [ob] X wr)
  case atStart => exact ⟨⟨.top, R six, (0, 0), rfl, trivial, Nat.le_refl _, rfl, HBO.out, rfl⟩, Kept.of_below (Below.refl _ _)⟩
  case round =>
    obtain ⟨⟨C, cur, acc, hR, hon, hsz, rfl, hbn, hlk⟩, hb⟩ := hrel
    have hTW := HTX.out.keep (fun g hg => hb.block g (HTX.out.lt g hg).2 (by simp; intro he; subst he; exact HOB.out hg))
    have HTW := Lib.hid hTW
    have hs := (hTW.slot hR).1
    have HBN := Lib.hid hbn
    have HLK := Lib.hid hlk
    clear hbn hlk hTW
    have q0 := (hb.cellK (p := ⟨w.heap.size, 0, none⟩) hsx hnob).trans e0
    have q1 := (hb.cellK (p := ⟨w.heap.size, 1, none⟩) hsx hnob).trans e1
    have q2 := (hb.cellK (p := ⟨w.heap.size, 2, none⟩) hsx hnob).trans e2
    have q3 := (hb.cellK (p := ⟨w.heap.size, 3, none⟩) hsx hnob).trans e3
    have HR := Lib.hid hR
    have HON := Lib.hid hon
    have HBW := Lib.hid hb
    have hsw := hb.size
    obtain ⟨U', hiv⟩ := inv_plug C cur _ (by rw [← hR]; exact HI.out six)
    cases cur with
    | nil =>
      clear hR hon hb hiv
      change wr.cell? (Ctx.slot tb six C) = some (.pointer none) at hs
      show Code.wp _ _ _ _ _
      simp only at hs ⊢
      generalize hsl : Ctx.slot tb six C = sl at *
      have HSL := Lib.hid hsl
      clear hsl
      go_wp2
      go_ret
      exact ⟨C, .nil, acc, HR.out, HON.out, trivial, by rw [HSL.out]; rfl, (Kept.of_below HB.out).trans HBW.out, HBN.out, HLK.out⟩
    | node g q h l r =>
      obtain ⟨hq, hq6, _, hh, _, _⟩ := hiv
      obtain ⟨hblk, hgm⟩ := HTW.out.node hR
      have n0 := hblk.cell 0
      have n1 := hblk.cell 1
      have n2 := hblk.cell 2
      have n3 := hblk.cell 3
      have HQ := Lib.hid hq
      obtain ⟨qs, qh, ql, qn⟩ := q
      simp only [nodeCs] at n0 n1 n2 n3 hq6
      simp at n0 n1 n2 n3
      subst hq6
      have hgl := hblk.lt
      have HG := Lib.hid hblk
      have hgo : ¬ g = ob := by intro he; subst he; exact HOB.out hgm
      have hwo : ¬ w.heap.size = ob := by omega
      clear hR hon hb hblk hgm hq hh
      change wr.cell? (Ctx.slot tb qs C) = some (.pointer (some ⟨g, 0, none⟩)) at hs
      generalize hsl : Ctx.slot tb qs C = sl at *
      have HSL := Lib.hid hsl
      clear hsl
      by_cases he : qh = hi ∧ ql = lo ∧ qn = n
      · obtain ⟨rfl, rfl, rfl⟩ := he
        go_wp2_with fail
        go_quiet (fail)
        go_wp2
        go_ret
        exact ⟨C, _, acc, HR.out, HON.out, .inl rfl, by rw [HSL.out]; rfl, ((Kept.of_below HB.out).trans HBW.out).then_below (below_drewN (Below.refl _ _) _), HBN.out.drewN _, HLK.out⟩
      · have CO := Lib.hid (fun w => over_any qs qh ql qn qs hi lo n w r1 r2 hm5.out (by have := ok_n HQ.out; simp only at this; have := wideI_le qs; omega) (by have := ok_n HQ.out; simp only at this; have := wideI_le qs; omega))
        have CA := Lib.hid (fun w h3 h4 => at_any qs hi lo qn w r1 r2 h3 h4)
        have HE := Lib.hid he
        have HNE : Hid (¬ (⟨qs, qh, ql, qn⟩ : PV) = ⟨qs, hi, lo, n⟩) := fun hx => by injection hx with _ e1 e2 e3; exact he ⟨e1, e2, e3⟩
        have hsxw : w.heap.size < wr.heap.size := by omega
        have key : (qh == hi) = false ∨ (qh = hi ∧ (ql == lo) = false) ∨ (qh = hi ∧ ql = lo ∧ (qn == n) = false) := by
          by_cases a : qh = hi
          · by_cases b : ql = lo
            · exact .inr (.inr ⟨a, b, by simpa using fun h => he ⟨a, b, h⟩⟩)
            · exact .inr (.inl ⟨a, by simpa using b⟩)
          · exact .inl (by simpa using a)
        clear he
        obtain ⟨ov, hov⟩ : ∃ ov : Bool, overB qs qh ql qn qs hi lo n = ov := ⟨_, rfl⟩
        rw [hov] at CO
        have HOV := Lib.hid hov
        clear hov
        cases ov with
        | false =>
          rcases key with k1 | ⟨rfl, k1⟩ | ⟨rfl, rfl, k1⟩
          all_goals
            go_wp2_with fail
            go_region_held3 (fun w' => (∀ b o, b < wr.heap.size → w'.cell? ⟨b, o, none⟩ = wr.cell? ⟨b, o, none⟩) ∧ wr.heap.size ≤ w'.heap.size ∧ Hid (Below wr.heap.size wr w'))
              ((first | assumption | exact keep0 _ | exact keep1 (by assumption) (by assumption) | exact keepD (by assumption) | exact keepB (by assumption) (by assumption) | exact keepA (by assumption) _ | exact ⟨fun _ _ _ => rfl, Nat.le_refl _, Below.refl _ _⟩))
              (first | (go_at_call 137; refine (CO.out _).mono ?_; rintro e w2 ⟨rfl, hb2⟩))
            go_wp2
            go_ret
            exact ⟨C, _, acc, HR.out, HON.out, .inr HOV.out, by rw [HSL.out]; rfl, ((Kept.of_below HB.out).trans HBW.out).then_below (keepBelow (by assumption)), HBN.out.below (keepBelow (by assumption)) HBN.out.lt, HLK.out⟩
        | true =>
          have hnn := over_n HQ.out HP.out HOV.out
          simp only at hnn
          have hlt : qn < n := by
            rcases Int.lt_or_le qn n with hx | hx
            · exact hx
            · have := over_eq HQ.out HP.out HOV.out hx
              injection this with _ e1 e2 e3
              exact absurd ⟨e1, e2, e3⟩ HE.out
          have hq0 := (ok_n HQ.out).1
          simp only at hq0
          have CB := Lib.hid (fun w => CA.out w hq0 (by omega))
          obtain ⟨bv, hbv⟩ : ∃ bv, bitI qs hi lo qn = bv := ⟨_, rfl⟩
          have hb01 : bv = 0 ∨ bv = 1 := by rw [← hbv]; exact PV.bit01 ⟨qs, hi, lo, n⟩ qn
          rw [hbv] at CB
          have HBV : Hid (PV.bit ⟨qs, hi, lo, n⟩ qn = bv) := hbv
          clear hbv
          have CN := Lib.hid (fun (w2 : World) (hb : Below wr.heap.size wr w2) => note_any g ob ⟨qs, qh, ql, qn⟩ h l.ptr r.ptr acc w2 hgo (HG.out.below hb HG.out.lt) (HBN.out.below hb HBN.out.lt))
          rcases key with k1 | ⟨rfl, k1⟩ | ⟨rfl, rfl, k1⟩
          all_goals
            go_wp2_with fail
            go_region_held3 (fun w' => (∀ b o, b < wr.heap.size → w'.cell? ⟨b, o, none⟩ = wr.cell? ⟨b, o, none⟩) ∧ wr.heap.size ≤ w'.heap.size ∧ Hid (Below wr.heap.size wr w'))
              ((first | assumption | exact keep0 _ | exact keep1 (by assumption) (by assumption) | exact keepD (by assumption) | exact keepB (by assumption) (by assumption) | exact keepA (by assumption) _ | exact ⟨fun _ _ _ => rfl, Nat.le_refl _, Below.refl _ _⟩))
              (first | (go_at_call 137; refine (CO.out _).mono ?_; rintro e w2 ⟨rfl, hb2⟩))
            obtain ⟨fc2, z2, H2⟩ : (∀ b o, b < wr.heap.size → w2.cell? ⟨b, o, none⟩ = wr.cell? ⟨b, o, none⟩) ∧ wr.heap.size ≤ w2.heap.size ∧ Hid (Below wr.heap.size wr w2) := by assumption
            have z3 : w.heap.size < w2.heap.size := by omega
            have z4 : g < w2.heap.size := by omega
            go_wp2_with fail
            refine (CN.out w2 H2.out).mono ?_
            rintro e wn ⟨rfl, hbn, hkn⟩
            have kc : ∀ b o, b < w2.heap.size → ¬ b = ob → wn.cell? ⟨b, o, none⟩ = w2.cell? ⟨b, o, none⟩ := fun b o h1 h2 => hkn.cellK (p := ⟨b, o, none⟩) h1 (by simp; exact h2)
            have m0 := (kc g 0 z4 hgo).trans ((fc2 g 0 hgl).trans n0)
            have m1 := (kc g 1 z4 hgo).trans ((fc2 g 1 hgl).trans n1)
            have m2 := (kc g 2 z4 hgo).trans ((fc2 g 2 hgl).trans n2)
            have m3 := (kc g 3 z4 hgo).trans ((fc2 g 3 hgl).trans n3)
            have p0 := (kc w.heap.size 0 z3 hwo).trans ((fc2 w.heap.size 0 hsxw).trans q0)
            have p1 := (kc w.heap.size 1 z3 hwo).trans ((fc2 w.heap.size 1 hsxw).trans q1)
            have p2 := (kc w.heap.size 2 z3 hwo).trans ((fc2 w.heap.size 2 hsxw).trans q2)
            have p3 := (kc w.heap.size 3 z3 hwo).trans ((fc2 w.heap.size 3 hsxw).trans q3)
            have z6 : w.heap.size < wn.heap.size := by have := hkn.size; omega
            have z7 : g < wn.heap.size := by have := hkn.size; omega
            have HKN := Lib.hid hkn
            have HBN2 := Lib.hid hbn
            clear hkn hbn kc
            rcases hb01 with rfl | rfl
            all_goals
              go_wp2
              go_region_held3 (fun w' => (∀ b o, b < wn.heap.size → w'.cell? ⟨b, o, none⟩ = wn.cell? ⟨b, o, none⟩) ∧ wn.heap.size ≤ w'.heap.size ∧ Hid (Below wn.heap.size wn w'))
                ((first | assumption | exact keep0 _ | exact keep1 (by assumption) (by assumption) | exact keepD (by assumption) | exact keepB (by assumption) (by assumption) | exact keepA (by assumption) _ | exact ⟨fun _ _ _ => rfl, Nat.le_refl _, Below.refl _ _⟩))
                (first | (go_at_call 165; refine (CB.out _).mono ?_; rintro e w3 ⟨rfl, hb3⟩))
              obtain ⟨fc3, z5, H3⟩ : (∀ b o, b < wn.heap.size → w3.cell? ⟨b, o, none⟩ = wn.cell? ⟨b, o, none⟩) ∧ wn.heap.size ≤ w3.heap.size ∧ Hid (Below wn.heap.size wn w3) := by assumption
              go_wp2
              first
                | (go_roundg l.size
                   case measure => (simp [Tr.size] at hsz; omega)
                   case rel => exact ⟨⟨.left C g _ h r, l, _, HR.out, ⟨HNE.out, HOV.out, HBV.out, HON.out⟩, Nat.le_refl _, rfl, HBN2.out.below H3.out HBN2.out.lt, HLK.out.trans (look_left HNE.out HOV.out HBV.out)⟩, ((HBW.out.then_below H2.out).trans HKN.out).then_below H3.out⟩)
                | (go_roundg r.size
                   case measure => (simp [Tr.size] at hsz; omega)
                   case rel => exact ⟨⟨.right C g _ h l, r, _, HR.out, ⟨HNE.out, HOV.out, by rw [HBV.out]; decide, HON.out⟩, Nat.le_refl _, rfl, HBN2.out.below H3.out HBN2.out.lt, HLK.out.trans (look_right HNE.out HOV.out (by rw [HBV.out]; decide))⟩, ((HBW.out.then_below H2.out).trans HKN.out).then_below H3.out⟩)

end Go.Proofs.Ytonelibgaceflaa
