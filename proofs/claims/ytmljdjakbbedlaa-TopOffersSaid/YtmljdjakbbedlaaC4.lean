/-
  
  
  
  Proved here: contracts of library functions, laid by the shelf at this dump. No conditions but those of each theorem.
  
  
-/
import Derived.Test.YtmljdjakbbedlaaC3
import Derived.StillTailTactics
import Derived.Deep.DeepCutAuto
import Derived.Deep.CutBlock
import Derived.Test.YtmljdjakbbedlaaC2
import Derived.Test.YtmljdjakbbedlaaC1
import Derived.Deep.RegionWith
import Derived.Shelf.Small.Bits
import Derived.Shelf.Small.Wraps
import Derived.Shelf.Slices.Turned
import Derived.Shelf.GgSortFunc.Tiny
import Derived.Test.YtmljdjakbbedlaaProg
import Derived.Deep.RegionHeld3
namespace Go.Proofs.Ytmljdjakbbedlaa
open Go.ChangeShapes Go.WideShapes Go.ChangeAt Go.RowKit

set_option maxHeartbeats 800000 in
theorem only_any {w : World} {g : Nat} {q : PV} {h : Int} {l r : Tr} (hk : Blk w g 193 (nodeCs q h l.ptr r.ptr)) :
    Calls Try.prog 233 #[.pointer (some ⟨g, 0, none⟩)] w fun e w' => e = .returned (onlyT (.node g q h l r)).ptr ∧ w' = w := by
  have n4 := hk.cell 4
  have n5 := hk.cell 5
  have n6 := hk.cell 6
  simp [nodeCs] at n4 n5 n6
  clear hk
  by_cases h0 : h = 0
  · subst h0
    cases l with
    | nil =>
      simp only [Tr.ptr] at n5
      obtain ⟨rp, hrp⟩ : ∃ rp, r.ptr = rp := ⟨_, rfl⟩
      rw [hrp] at n6
      have HV : Hid ((onlyT (.node g q 0 .nil r)).ptr = rp) := by show _ = _; rw [only_nil, hrp]
      clear hrp
      go_enter Try.func233, Try.ntmps233
      go_wp2
      go_ret
      exact ⟨(congrArg Ending.returned HV.out).symm, rfl⟩
    | node g1 q1 h1 l1 r1 =>
      simp only [Tr.ptr] at n5
      cases r with
      | nil =>
        simp only [Tr.ptr] at n6
        have HV : Hid ((onlyT (.node g q 0 (.node g1 q1 h1 l1 r1) .nil)).ptr = .pointer (some ⟨g1, 0, none⟩)) := by show _ = _; rw [only_left]; rfl
        go_enter Try.func233, Try.ntmps233
        go_wp2
        go_ret
        exact ⟨(congrArg Ending.returned HV.out).symm, rfl⟩
      | node g2 q2 h2 l2 r2 =>
        simp only [Tr.ptr] at n6
        have HV : Hid ((onlyT (.node g q 0 (.node g1 q1 h1 l1 r1) (.node g2 q2 h2 l2 r2))).ptr = .pointer (some ⟨g, 0, none⟩)) := by show _ = _; rw [only_two]; rfl
        go_enter Try.func233, Try.ntmps233
        go_wp2
        go_ret
        exact ⟨(congrArg Ending.returned HV.out).symm, rfl⟩
  · have HV : Hid ((onlyT (.node g q h l r)).ptr = .pointer (some ⟨g, 0, none⟩)) := by show _ = _; rw [only_keep h0]; rfl
    have hne : (h != 0) = true := by simpa using h0
    clear h0
    go_enter Try.func233, Try.ntmps233
    go_wp2
    go_ret
    exact ⟨(congrArg Ending.returned HV.out).symm, rfl⟩

theorem infoPP : (Try.prog.info? 195).map (fun i => (i.zero, i.size, i.bytes)) = some (some (.pointer none), 1, 8) := by kernel_rfl
theorem ctx_up {C : Ctx} (h : ¬ C = .top) (new : Tr) : ∃ (C' : Ctx) (g' : Nat) (q' : PV) (h' : Int) (l' r' : Tr), C.plug new = C'.plug (.node g' q' h' l' r') ∧ cutC new C = C'.plug (onlyT (.node g' q' h' l' r')) ∧ (∀ tb s, aboveL tb s C = aboveL tb s C' ++ [.pointer (some (C'.slot tb s))]) ∧ ∀ cur, ∃ l2 r2, C.plug cur = C'.plug (.node g' q' h' l2 r2) := by
  cases C with
  | top => exact absurd rfl h
  | left C g q hh r => exact ⟨C, g, q, hh, new, r, rfl, rfl, fun _ _ => rfl, fun cur => ⟨cur, r, rfl⟩⟩
  | right C g q hh l => exact ⟨C, g, q, hh, l, new, rfl, rfl, fun _ _ => rfl, fun cur => ⟨l, cur, rfl⟩⟩
theorem Kept.setCellS {S : List Nat} {w w' : World} (h : Kept S w w') {p : Addr} (hp : p.block ∈ S) (u : Value) : Kept S w (w'.setCell p u) :=
  ⟨h.os, h.tape, h.output, by simp; exact h.size, fun k hk hn => (Below.heap_setCell _ _ _ _ (fun e => by subst e; exact hn hp)).trans (h.block k hk hn)⟩
theorem Kept.drewS {S : List Nat} {w w' : World} (h : Kept S w w') : Kept S w w'.drew := by
  have hb : Below w'.heap.size w' w'.drew := (Below.refl _ _).drew
  exact ⟨hb.os.trans h.os, hb.tape.trans h.tape, hb.output.trans h.output, Nat.le_trans h.size hb.size, fun k hk hn => (hb.block k (by have := h.size; omega)).trans (h.block k hk hn)⟩
/-- Behind the first store: the node at the place is without a hop, and what is left of it stands there. -/
def CutMid (w : World) (B tb : Nat) (R : Bool → Tr) (c : Int) (p : PV) (C : Ctx) (g : Nat) (h : Int) (l r : Tr) (v5 v7 : Value) (wx : World) : Prop :=
  v7 = .int .i64 h ∧ Tab wx B tb (upd R p.six (C.plug (onlyT (.node g p 0 l r)))) c ∧ wx.ownsRow (w.heap.size + 1) 195 1 v5 (aboveL tb p.six C).length (aboveL tb p.six C) ∧ Kept (tabBlocks tb R) w wx
theorem cut_mid {w wo : World} {B tb : Nat} {R : Bool → Tr} {c : Int} {p : PV} {C : Ctx} {g : Nat} {h : Int} {l r : Tr} {v5 : Value} (hT : Tab w B tb R c) (hTo : Tab wo B tb R c) (hR : R p.six = C.plug (.node g p h l r)) (hb : Below w.heap.size w wo)
    (hown : wo.ownsRow (w.heap.size + 1) 195 1 v5 (aboveL tb p.six C).length (aboveL tb p.six C)) (d : Nat) :
    CutMid w B tb R c p C g h l r v5 (.int .i64 h) (((wo.drewN d).setCell ⟨g, 4, none⟩ (.int .i64 0)).setCell (C.slot tb p.six) (onlyT (.node g p 0 l r)).ptr) := by
  have hg := (hT.node hR).2
  have hs := (hT.slot hR).2.2
  have hgl := (hT.lt g hg).2
  have hsl := (hT.lt _ hs).2
  have t1 : Tab (wo.drewN d) B tb R c := hTo.below (below_drewN (Below.refl _ _) _)
  have t2 := t1.hop hR 0
  have t3 := t2.only (C := C) (cur := .node g p 0 l r) (s := p.six) (upd_same _ _ _)
  rw [upd_upd] at t3
  refine ⟨rfl, t3, ?_, ?_⟩
  · exact ownsRow_setCell_other (ownsRow_setCell_other (own_below hown (below_drewN (Below.refl _ _) _)) (fun he => by have h : w.heap.size + 1 ≤ g := (hown.lt _ he).1; omega) _) (fun he => by have h : w.heap.size + 1 ≤ (C.slot tb p.six).block := (hown.lt _ he).1; omega) _
  · have hk : Kept (tabBlocks tb R) w (wo.drewN d) := ⟨hb.os, hb.tape, hb.output, hb.size, fun k hk _ => hb.block k hk⟩
    refine ⟨hk.os, hk.tape, hk.output, by simpa using hk.size, fun k hkl hkn => ?_⟩
    rw [Below.heap_setCell _ _ _ _ (fun e => by rw [e] at hkn; exact hkn hs), Below.heap_setCell _ _ _ _ (fun e => by rw [e] at hkn; exact hkn hg)]
    exact hk.block k hkl hkn
theorem still_tailT {P : Program} {id : Nat} {Q : Exit → Act → World → Prop} {a : Act} {w : World} {l : List Oper} (n : Nat) (hm : P.follows .mixedOrders = true) (hB : Region.lexTailB .any l.toArray n = true)
    (h : wpStill P l.toArray w.drew (fun a' => wpList P l.toArray Q (l.drop n) a' w.drew) (l.take n) a) : (Code.region id l.toArray true).wp P Q a w := wp_region_still_tail n hm hB h
theorem tr_ptr (t : Tr) : ∃ o, t.ptr = .pointer o := by
  cases t with
  | nil => exact ⟨_, rfl⟩
  | node g q h l r => exact ⟨_, rfl⟩
/-- Where the search stands, with the places above. -/
def AtC (tb : Nat) (R : Bool → Tr) (p : PV) (k : Nat) (B1 : Nat) (va v : Value) (wr : World) : Prop :=
  ∃ (C : Ctx) (cur : Tr), R p.six = C.plug cur ∧ C.OnPath p ∧ cur.size ≤ k ∧ v = .pointer (some (C.slot tb p.six)) ∧ wr.ownsRow B1 195 1 va (aboveL tb p.six C).length (aboveL tb p.six C)
/-- What Cut returns, and what it leaves. -/
def CutPost (w : World) (B tb : Nat) (R : Bool → Tr) (c : Int) (p : PV) (e : Ending) (w' : World) : Prop :=
  e = .returned (.int .i64 (hopAt (R p.six) p)) ∧ (hopAt (R p.six) p = 0 → Below w.heap.size w w') ∧ Kept (tabBlocks tb R) w w' ∧
    (¬ hopAt (R p.six) p = 0 → ∃ (C : Ctx) (g : Nat) (h : Int) (lt rt : Tr), R p.six = C.plug (.node g p h lt rt) ∧ C.OnPath p ∧ ¬ h = 0 ∧ Tab w' B tb (upd R p.six (cutC (onlyT (.node g p 0 lt rt)) C)) (c - 1))
theorem cut_none {w w' : World} {B tb : Nat} {R : Bool → Tr} {c : Int} {p : PV} (h : hopAt (R p.six) p = 0) (hb : Below w.heap.size w w') : CutPost w B tb R c p (.returned (.int .i64 0)) w' :=
  ⟨by rw [h], fun _ => hb, ⟨hb.os, hb.tape, hb.output, hb.size, fun k hk _ => hb.block k hk⟩, fun hn => absurd h hn⟩
theorem slot_off {C : Ctx} {tb g : Nat} {six : Bool} : ¬ C.slot tb six = ⟨g, 4, none⟩ := by
  intro hx
  cases C with
  | top => simp only [Ctx.slot, slotOf] at hx; cases six <;> simp at hx
  | left C g q h r => simp [Ctx.slot] at hx
  | right C g q h r => simp [Ctx.slot] at hx
theorem slot_off2 {C : Ctx} {tb : Nat} {six : Bool} : ¬ C.slot tb six = ⟨tb, 2, none⟩ := by
  intro hx
  cases C with
  | top => simp only [Ctx.slot, slotOf] at hx; cases six <;> simp at hx
  | left C g q h r => simp [Ctx.slot] at hx
  | right C g q h r => simp [Ctx.slot] at hx

set_option maxRecDepth 100000 in
set_option maxHeartbeats 3200000 in
theorem tcut_any {w : World} {B tb : Nat} {R : Bool → Tr} {c : Int} (h : Tab w B tb R c) (p : PV) (hp : p.Ok) (hI : ∀ s, Inv s (fun _ => True) (R s)) (hc : 0 ≤ c ∧ c ≤ 1000000) :
    Calls Try.prog 227 #[.pointer (some ⟨tb, 0, none⟩), p.val] w (CutPost w B tb R c p) := by
  have HT := Lib.hid h
  have HP := Lib.hid hp
  have HI := Lib.hid hI
  have hRt := Lib.hid (fun w => root_any p tb w)
  obtain ⟨post, hpost⟩ : ∃ post, CutPost w B tb R c p = post := ⟨_, rfl⟩
  have HPO := Lib.hid hpost
  rw [hpost]
  clear hpost
  obtain ⟨six, hi, lo, n⟩ := p
  have hrng := hp
  unfold PV.Ok at hrng
  simp only at hrng
  have r1 := hrng.rhi
  have r2 := hrng.rlo
  have hm5 := Lib.hid (fun hs : six = false => by have := hrng.may; rw [hs] at this; exact (mayB_four this).2 : six = false → lo < 4294967296)
  have hlen := hrng.len
  have hwl := wideI_le six
  clear h hp hI hrng
  unfold PV.val at hRt ⊢
  simp only at hRt ⊢
  go_enter Try.func227, Try.ntmps227
  go_wp2_with fail
  refine (hRt.out _).mono ?_
  rintro e X ⟨rfl, hb⟩
  obtain ⟨HBX, hsx, hbx⟩ := box1 (cs := [.bool six, .int .u64 hi, .int .u64 lo, .int .i64 n]) hb
  have e0 := hbx 0 _ rfl
  have e1 := hbx 1 _ rfl
  have e2 := hbx 2 _ rfl
  have e3 := hbx 3 _ rfl
  have HTX := Lib.hid (HT.out.below HBX)
  have HB := Lib.hid HBX
  clear hb hbx HBX
  go_wp2
  go_loopg [5, 6] (R six).size (fun k va at_ wr => AtC tb R ⟨six, hi, lo, n⟩ k (w.heap.size + 1) va at_ wr ∧ Below (w.heap.size + 1) X wr)
  case atStart => exact ⟨⟨.top, R six, rfl, trivial, Nat.le_refl _, rfl, World.ownsRow_nil _ _ _ _⟩, Below.refl _ _⟩
  case round =>
    obtain ⟨⟨C, cur, hR, hon, hsz, rfl, hown⟩, hb⟩ := hrel
    obtain ⟨wo, rfl⟩ : ∃ wo : World, wo = wr := ⟨_, rfl⟩
    have hTW : Tab wo B tb R c := HTX.out.keep fun g hg => hb.block g (by have := (HT.out.lt g hg).2; omega)
    have HTW := Lib.hid hTW
    have hs := (hTW.slot hR).1
    have hsf := (hTW.slot hR).2.1
    have q0 := (hb.cell (p := ⟨w.heap.size, 0, none⟩) (by simp)).trans e0
    have q1 := (hb.cell (p := ⟨w.heap.size, 1, none⟩) (by simp)).trans e1
    have q2 := (hb.cell (p := ⟨w.heap.size, 2, none⟩) (by simp)).trans e2
    have q3 := (hb.cell (p := ⟨w.heap.size, 3, none⟩) (by simp)).trans e3
    have HR := Lib.hid hR
    have HON := Lib.hid hon
    have HBW := Lib.hid hb
    have HOWN := Lib.hid hown
    have hsw := hb.size
    have HBWW : Hid (Below w.heap.size w wo) := HB.out.trans (hb.mono (by omega))
    obtain ⟨U', hiv⟩ := inv_plug C cur _ (by rw [← hR]; exact HI.out six)
    have HVC : Hid (hopAt (R six) ⟨six, hi, lo, n⟩ = hopAt cur ⟨six, hi, lo, n⟩) := by show _ = _; rw [HR.out]; exact plug_hop (p := ⟨six, hi, lo, n⟩) C cur HON.out
    cases cur with
    | nil =>
      clear hR hon hb hiv hown hTW
      change wo.cell? (Ctx.slot tb six C) = some (.pointer none) at hs
      show Code.wp _ _ _ _ _
      simp only at hs hsf ⊢
      generalize hsl : Ctx.slot tb six C = sl at *
      clear hsl
      go_wp2_with fail
      go_quiet (fail)
      go_wp2_with fail
      go_quiet (fail)
      go_wp2
      rw [← HPO.out]
      exact cut_none (p := ⟨six, hi, lo, n⟩) (HVC.out.trans rfl) (by (repeat' first | with_reducible exact HBWW.out | with_reducible exact Below.refl _ _ | with_reducible refine Below.drew ?_ | with_reducible refine below_drewN ?_ _ | with_reducible refine Below.setCell ?_ ?_ _ | with_reducible refine Below.alloc ?_ ?_ _ | (simp; done) | (simp; omega) | omega))
    | node g q h l r =>
      obtain ⟨hq, hq6, _, hh, _, _⟩ := hiv
      obtain ⟨hblk, hgm⟩ := hTW.node hR
      have n0 := hblk.cell 0
      have n1 := hblk.cell 1
      have n2 := hblk.cell 2
      have n3 := hblk.cell 3
      have n4 := hblk.cell 4
      have f4 := hblk.frozen 4
      have HQ := Lib.hid hq
      obtain ⟨qs, qh, ql, qn⟩ := q
      simp only [nodeCs] at n0 n1 n2 n3 n4 hq6
      simp at n0 n1 n2 n3 n4
      subst hq6
      have hgl := hblk.lt
      have HGM := Lib.hid hgm
      have HBK := Lib.hid hblk
      have hcl := hTW.blk.cell 2
      have hcf := hTW.blk.frozen 2
      simp at hcl
      have HSLT := Lib.hid (hTW.slot hR).2.2
      clear hR hon hb hblk hgm hq hown hTW
      change wo.cell? (Ctx.slot tb qs C) = some (.pointer (some ⟨g, 0, none⟩)) at hs
      simp only at hsf HSLT ⊢
      have HSO : Hid (¬ Ctx.slot tb qs C = ⟨g, 4, none⟩) := slot_off
      have HSO2 : Hid (¬ Ctx.slot tb qs C = ⟨tb, 2, none⟩) := slot_off2
      generalize hsl : Ctx.slot tb qs C = sl at *
      have HSL := Lib.hid hsl
      clear hsl
      have HEQ := fun w => eqPV ⟨qs, qh, ql, qn⟩ ⟨qs, hi, lo, n⟩ w
      unfold PV.val at HEQ
      simp only at HEQ
      by_cases he : (⟨qs, qh, ql, qn⟩ : PV) = ⟨qs, hi, lo, n⟩
      · rw [decide_eq_true he] at HEQ
        injection he with _ a1 a2 a3
        subst a1 a2 a3
        have hv : hopAt (R qs) ⟨qs, qh, ql, qn⟩ = h := by rw [HVC.out]; unfold hopAt; rw [if_pos rfl]
        have HV := Lib.hid hv
        clear hv
        by_cases h0 : h = 0
        · subst h0
          go_wp2_with fail
          go_quiet (fail)
          go_wp2_with fail
          go_quiet (fail)
          go_wp2
          rw [← HPO.out]
          exact cut_none (p := ⟨qs, qh, ql, qn⟩) HV.out (by (repeat' first | with_reducible exact HBWW.out | with_reducible exact Below.refl _ _ | with_reducible refine Below.drew ?_ | with_reducible refine below_drewN ?_ _ | with_reducible refine Below.setCell ?_ ?_ _ | with_reducible refine Below.alloc ?_ ?_ _ | (simp; done) | (simp; omega) | omega))
        · have hn0 : (h == 0) = false := by simpa using h0
          have H0 := Lib.hid h0
          clear h0
          have hso := HSO.out
          have hso' : ¬ (⟨g, 4, none⟩ : Addr) = sl := fun e => HSO.out e.symm
          have con := fun d => only_any (w := (wo.drewN d).setCell ⟨g, 4, none⟩ (.int .i64 0)) (q := ⟨qs, qh, ql, qn⟩) (h := 0) (l := l) (r := r) (by simpa [nodeCs] using ((HBK.out.drewN d).set_ 4 (.int .i64 0)))
          obtain ⟨po, hpo⟩ := tr_ptr (onlyT (.node g ⟨qs, qh, ql, qn⟩ 0 l r))
          simp only [hpo] at con
          have CON := Lib.hid con
          have HPT := Lib.hid hpo
          clear con hpo
          go_wp2_with fail
          go_quiet (fail)
          go_wp2_with fail
          go_quiet (fail)
          go_upto_region 10 with fail
          go_cut [5, 7] (fun v5 v7 wx => CutMid w B tb R c ⟨qs, qh, ql, qn⟩ C g h l r v5 v7 wx)
          case first =>
            go_wp2_with fail
            refine (CON.out _).mono ?_
            rintro e w5 ⟨rfl, rfl⟩
            go_wp2
            go_meet
            case rel =>
              rw [← HSL.out, ← HPT.out]
              exact cut_mid HT.out HTW.out HR.out HBWW.out HOWN.out _
          case rest =>
            obtain ⟨rfl, ht, ho, hkp⟩ := hcut
            obtain ⟨W, rfl⟩ : ∃ W : World, W = wc := ⟨_, rfl⟩
            have hFIN : ∀ w', Tab w' B tb (upd R qs (cutC (onlyT (.node g ⟨qs, qh, ql, qn⟩ 0 l r)) C)) (c - 1) → Kept (tabBlocks tb R) w w' → CutPost w B tb R c ⟨qs, qh, ql, qn⟩ (.returned (.int .i64 h)) w' := fun w' h1 h2 =>
              ⟨by simp only; rw [HV.out], fun hx => absurd (HV.out.symm.trans hx) H0.out, h2, fun _ => ⟨C, g, h, l, r, HR.out, HON.out, H0.out, h1⟩⟩
            have HFIN := Lib.hid hFIN
            have hcl := ht.blk.cell 2
            have hcf := ht.blk.frozen 2
            simp at hcl
            simp only at ho
            obtain ⟨A5, c5, rfl, -, hrd⟩ := own_reads ho
            clear hFIN
            by_cases htop : C = .top
            · subst htop
              change Tab W B tb (upd R qs (onlyT (.node g ⟨qs, qh, ql, qn⟩ 0 l r))) c at ht
              have HTQ := Lib.hid ht
              have HKP := Lib.hid hkp
              have hl0 : (aboveL tb qs .top).length = 0 := rfl
              rw [hl0]
              clear ht ho hkp hrd hl0
              go_wp2
              rw [← HPO.out]
              exact HFIN.out _ (HTQ.out.count (c - 1)) (Kept.setCellS HKP.out (by simp [tabBlocks]) _)
            · obtain ⟨C', g', q', h', l', r', hpl, hcc, hab, hcu2⟩ := ctx_up htop (onlyT (.node g ⟨qs, qh, ql, qn⟩ 0 l r))
              rw [hcc] at HFIN
              have habq := hab tb qs
              obtain ⟨m, hm⟩ : ∃ m, (aboveL tb qs C').length = m := ⟨_, rfl⟩
              have hlen : (aboveL tb qs C).length = m + 1 := by rw [habq, List.length_append, hm]; rfl
              have hRR : upd R qs (C.plug (onlyT (.node g ⟨qs, qh, ql, qn⟩ 0 l r))) qs = C'.plug (.node g' q' h' l' r') := by rw [upd_same, hpl]
              simp only at ht
              have hs1 := (ht.slot hRR).1
              have hs2 := (ht.slot hRR).2.1
              have hsm := (ht.slot hRR).2.2
              have hnd := ht.node hRR
              obtain ⟨l2, r2, hp2⟩ := hcu2 (.node g ⟨qs, qh, ql, qn⟩ h l r)
              have hs2m := (HTW.out.slot (HR.out.trans hp2)).2.2
              have t4 := ht.only hRR
              rw [upd_upd] at t4
              have hml : (m : Int) ≤ 128 := by
                have := above_deep (tb := tb) (s := qs) C g ⟨qs, qh, ql, qn⟩ h l r _ (HR.out ▸ HI.out qs)
                rw [hlen] at this
                simp only at this
                omega
              rw [hlen] at hrd ⊢
              obtain ⟨ad, u, rfl, -, hxu, hcu⟩ := hrd.at_ (k := m) (by omega)
              have : u = .pointer (some (C'.slot tb qs)) := by
                rw [habq, List.getElem?_append_right (by omega), hm, Nat.sub_self] at hxu
                simpa using hxu.symm
              subst this
              obtain ⟨s2, hs2e⟩ : ∃ s2, C'.slot tb qs = s2 := ⟨_, rfl⟩
              have con := only_any (w := W.drew) (q := q') (h := h') (l := l') (r := r') hnd.1.drew
              obtain ⟨po2, hpo2⟩ := tr_ptr (onlyT (.node g' q' h' l' r'))
              rw [hpo2] at con
              rw [hpo2] at t4
              change W.cell? (C'.slot tb qs) = some (.pointer (some ⟨g', 0, none⟩)) at hs1
              have hoff : ¬ C'.slot tb qs = ⟨tb, 2, none⟩ := slot_off2
              have wm : IntKind.i64.wrap (m : Int) = (m : Int) := by rw [IntWalk.i64_in _ (by omega)]
              have hm0 : (0 : Int) ≤ (m : Int) := by omega
              have hm1 : (m : Int) < (m : Int) + 1 := by omega
              rw [hs2e] at hs1 hs2 hsm t4 hcu hoff hs2m
              have HS2 := Lib.hid hs2m
              have T4 := Lib.hid t4
              have CON2 := Lib.hid con
              have HKP := Lib.hid hkp
              have hoff' : ¬ (⟨tb, 2, none⟩ : Addr) = s2 := fun e => hoff e.symm
              have hsm' := True.intro
              clear hs2m hp2 hcu2 ht ho hkp hrd hpl hcc hab habq hm hlen hRR hsm hnd t4 con hpo2 hs2e hxu htop HEQ
              go_wp2_with fail
              refine still_tailT 14 (by kernel_rfl) (by kernel_rfl) ?_
              simp only [List.take_succ_cons, List.take_zero, List.drop_succ_cons, List.drop_zero]
              repeat still_step
              refine wpStill_step (fun K hK => ?_)
              go_simp
              refine ⟨_, CON2.out, hK _ ?_⟩
              clear hK K
              repeat still_step
              try refine wpStill_nil ?_
              go_wp2
              rw [← HPO.out]
              exact HFIN.out _ ((T4.out.count (c - 1)).keep fun _ _ => rfl) ((HKP.out.setCellS HS2.out _).setCellS (by simp [tabBlocks]) _).drewS
      · have CO := Lib.hid (fun w => over_any qs qh ql qn qs hi lo n w r1 r2 hm5.out (by have := ok_n HQ.out; simp only at this; have := wideI_le qs; omega) (by have := ok_n HQ.out; simp only at this; have := wideI_le qs; omega))
        have CA := Lib.hid (fun w h3 h4 => at_any qs hi lo qn w r1 r2 h3 h4)
        have HE := Lib.hid he
        have hsxw : w.heap.size < wo.heap.size := by omega
        rw [decide_eq_false he] at HEQ
        obtain ⟨sb, so, rfl⟩ : ∃ sb so, sl = ⟨sb, so, none⟩ := by rw [← HSL.out]; cases C <;> exact ⟨_, _, rfl⟩
        have hslt : sb < wo.heap.size := by have h : sb < w.heap.size := (HT.out.lt _ HSLT.out).2; omega
        obtain ⟨ov, hov⟩ : ∃ ov : Bool, overB qs qh ql qn qs hi lo n = ov := ⟨_, rfl⟩
        rw [hov] at CO
        have HOV := Lib.hid hov
        clear hov
        cases ov with
        | false =>
          have hv : hopAt (R qs) ⟨qs, hi, lo, n⟩ = 0 := by
            rw [HVC.out]
            unfold hopAt
            rw [if_neg HE.out, if_pos (show PV.over ⟨qs, qh, ql, qn⟩ ⟨qs, hi, lo, n⟩ = false from HOV.out)]
          have HV := Lib.hid hv
          clear hv he
          go_wp2_with fail
          go_region_held3 (fun w' => (∀ b o, b < wo.heap.size → w'.cell? ⟨b, o, none⟩ = wo.cell? ⟨b, o, none⟩) ∧ wo.heap.size ≤ w'.heap.size ∧ Hid (Below wo.heap.size wo w'))
            ((first | assumption | exact keep0 _ | exact keep1 (by assumption) (by assumption) | exact keepD (by assumption) | exact keepB (by assumption) (by assumption) | exact keepA (by assumption) _ | exact ⟨fun _ _ _ => rfl, Nat.le_refl _, Below.refl _ _⟩))
            (first | (go_at_call 46; refine (CO.out _).mono ?_; rintro e w2 ⟨rfl, hb2⟩))
          obtain ⟨fc2, z2, H2⟩ : (∀ b o, b < wo.heap.size → w2.cell? ⟨b, o, none⟩ = wo.cell? ⟨b, o, none⟩) ∧ wo.heap.size ≤ w2.heap.size ∧ Hid (Below wo.heap.size wo w2) := by assumption
          have HB2 : Hid (Below w.heap.size w w2) := HBWW.out.trans (H2.out.mono HBWW.out.size)
          go_wp2_with fail
          go_quiet (fail)
          go_wp2
          rw [← HPO.out]
          exact cut_none (p := ⟨qs, hi, lo, n⟩) HV.out (by (repeat' first | with_reducible exact HB2.out | with_reducible exact Below.refl _ _ | with_reducible refine Below.drew ?_ | with_reducible refine below_drewN ?_ _ | with_reducible refine Below.setCell ?_ ?_ _ | with_reducible refine Below.alloc ?_ ?_ _ | (simp; done) | (simp; omega) | omega))
        | true =>
          have hnn := over_n HQ.out HP.out HOV.out
          simp only at hnn
          have hlt : qn < n := by
            rcases Int.lt_or_le qn n with hx | hx
            · exact hx
            · exact absurd (over_eq HQ.out HP.out HOV.out hx) HE.out
          have hq0 := (ok_n HQ.out).1
          simp only at hq0
          have CB := Lib.hid (fun w => CA.out w hq0 (by omega))
          obtain ⟨bv, hbv⟩ : ∃ bv, bitI qs hi lo qn = bv := ⟨_, rfl⟩
          have hb01 : bv = 0 ∨ bv = 1 := by rw [← hbv]; exact PV.bit01 ⟨qs, hi, lo, n⟩ qn
          rw [hbv] at CB
          have HBV : Hid (PV.bit ⟨qs, hi, lo, n⟩ qn = bv) := hbv
          have hdeep : ((aboveL tb qs C).length : Int) ≤ 128 := by
            have := above_deep (tb := tb) (s := qs) C g ⟨qs, qh, ql, qn⟩ h l r _ (HR.out ▸ HI.out qs)
            simp only at this
            omega
          simp only at HOWN
          clear hbv he
          go_wp2_with fail
          go_region_held3 (fun w' => (∀ b o, b < wo.heap.size → w'.cell? ⟨b, o, none⟩ = wo.cell? ⟨b, o, none⟩) ∧ wo.heap.size ≤ w'.heap.size ∧ Hid (Below wo.heap.size wo w'))
            ((first | assumption | exact keep0 _ | exact keep1 (by assumption) (by assumption) | exact keepD (by assumption) | exact keepB (by assumption) (by assumption) | exact keepA (by assumption) _ | exact ⟨fun _ _ _ => rfl, Nat.le_refl _, Below.refl _ _⟩))
            (first | (go_at_call 46; refine (CO.out _).mono ?_; rintro e w2 ⟨rfl, hb2⟩))
          obtain ⟨fc2, z2, H2⟩ : (∀ b o, b < wo.heap.size → w2.cell? ⟨b, o, none⟩ = wo.cell? ⟨b, o, none⟩) ∧ wo.heap.size ≤ w2.heap.size ∧ Hid (Below wo.heap.size wo w2) := by assumption
          have HOW2 := Lib.hid (own_below HOWN.out H2.out)
          have hbz : w.heap.size + 1 ≤ w2.heap.size := by omega
          clear fc2
          go_wp2_with (at_builtin; go_loud (refine wpList_append_oneN (us := [.pointer (some ⟨sb, so, none⟩)]) rfl _ _ 329 rfl (w.heap.size + 1) _ 1 8 Try.underlying329 infoPP rfl (by decide) _ _ _ rfl rfl rfl HOW2.out ?c1 rfl ?c4 ?c2 ?c3 ?_))
          case c1 => exact hbz
          case c2 => unfold maxLen; omega
          case c3 => omega
          case c4 => intro u hu; simp at hu; subst hu; rfl
          intro v' w9 hown' hb9 hs9 hk9
          have hb92 : Below (w.heap.size + 1) wo w9 := (H2.out.mono (by omega)).trans hb9
          have HB9 := Lib.hid hb92
          have HB9X : Hid (Below (w.heap.size + 1) X w9) := HBW.out.trans hb92
          have HO9 := Lib.hid hown'
          have hgw := (HT.out.lt _ HGM.out).2
          have hsw9 : sb < w.heap.size := (HT.out.lt _ HSLT.out).2
          have s9 := (hb92.cell (p := ⟨sb, so, none⟩) (by show sb < _; omega)).trans hs
          have hs9' : sb < w9.heap.size := by have := hb92.size; omega
          have m0 := (hb92.cell (p := ⟨g, 0, none⟩) (by show g < _; omega)).trans n0
          have m1 := (hb92.cell (p := ⟨g, 1, none⟩) (by show g < _; omega)).trans n1
          have m2 := (hb92.cell (p := ⟨g, 2, none⟩) (by show g < _; omega)).trans n2
          have m3 := (hb92.cell (p := ⟨g, 3, none⟩) (by show g < _; omega)).trans n3
          have p0 := (hb92.cell (p := ⟨w.heap.size, 0, none⟩) (by simp)).trans q0
          have p1 := (hb92.cell (p := ⟨w.heap.size, 1, none⟩) (by simp)).trans q1
          have p2 := (hb92.cell (p := ⟨w.heap.size, 2, none⟩) (by simp)).trans q2
          have p3 := (hb92.cell (p := ⟨w.heap.size, 3, none⟩) (by simp)).trans q3
          have hg9 : g < w9.heap.size := by have := hb92.size; omega
          have hw9 : w.heap.size < w9.heap.size := by have := hb92.size; omega
          clear hown' hb9 hs9 hk9 hb92
          rcases hb01 with rfl | rfl
          all_goals
            go_wp2_with fail
            go_region_held3 (fun w' => (∀ b o, b < w9.heap.size → w'.cell? ⟨b, o, none⟩ = w9.cell? ⟨b, o, none⟩) ∧ w9.heap.size ≤ w'.heap.size ∧ Hid (Below w9.heap.size w9 w'))
              ((first | assumption | exact keep0 _ | exact keep1 (by assumption) (by assumption) | exact keepD (by assumption) | exact keepB (by assumption) (by assumption) | exact keepA (by assumption) _ | exact ⟨fun _ _ _ => rfl, Nat.le_refl _, Below.refl _ _⟩))
              (first | (go_at_call 132; refine (CB.out _).mono ?_; rintro e w3 ⟨rfl, hb3⟩))
            obtain ⟨fc3, z5, H3⟩ : (∀ b o, b < w9.heap.size → w3.cell? ⟨b, o, none⟩ = w9.cell? ⟨b, o, none⟩) ∧ w9.heap.size ≤ w3.heap.size ∧ Hid (Below w9.heap.size w9 w3) := by assumption
            have HB3 : Hid (Below (w.heap.size + 1) X w3) := HB9X.out.trans (H3.out.mono (by omega))
            have HO3 := Lib.hid (own_below HO9.out H3.out)
            go_wp2
            first
              | (go_roundg l.size
                 case measure => (simp [Tr.size] at hsz; omega)
                 case rel => exact ⟨⟨.left C g _ h r, l, HR.out, ⟨HE.out, HOV.out, HBV.out, HON.out⟩, Nat.le_refl _, rfl, by have := HO3.out; rw [← HSL.out] at this; simpa [aboveL] using this⟩, HB3.out⟩)
              | (go_roundg r.size
                 case measure => (simp [Tr.size] at hsz; omega)
                 case rel => exact ⟨⟨.right C g _ h l, r, HR.out, ⟨HE.out, HOV.out, by rw [HBV.out]; decide, HON.out⟩, Nat.le_refl _, rfl, by have := HO3.out; rw [← HSL.out] at this; simpa [aboveL] using this⟩, HB3.out⟩)

end Go.Proofs.Ytmljdjakbbedlaa

namespace Go.Proofs.Ytmljdjakbbedlaa
open Go.ChangeShapes Go.WideShapes Go.ChangeAt Go.RowKit

set_option maxHeartbeats 400000 in
theorem half_low (six : Bool) (hi lo n : Int) (w : World) (h3 : 0 ≤ n) (h4 : n ≤ 128) :
    Calls Try.prog 135 #[.agg #[.bool six, .int .u64 hi, .int .u64 lo, .int .i64 n], .int .i64 0] w fun e w' => e = .returned (.agg #[.bool six, .int .u64 hi, .int .u64 lo, .int .i64 (n + 1)]) ∧ Below w.heap.size w w' := by
  go_enter Try.func135, Try.ntmps135
  go_wp2
  exact bodyPost_ret (v := .agg #[.bool six, .int .u64 hi, .int .u64 lo, .int .i64 (n + 1)]) (by simp [results, Try.results135, go_sem]) rfl
    ⟨rfl, ((Below.refl _ _).alloc (Nat.le_refl _) _).alloc (by simp) _⟩

theorem or_set (x : Int) (k : Nat) (hx : 0 ≤ x ∧ x < 18446744073709551616) (hk : k < 64) : bits .or .u64 x (IntKind.u64.wrap (2 ^ k)) = (setN x k : Int) := by
  have e : (2 ^ 64 : Nat) = 18446744073709551616 := by decide
  have h1 : (2 : Nat) ^ k < 2 ^ 64 := Nat.pow_lt_pow_right (by omega) hk
  have h2 : IntKind.u64.wrap (2 ^ k) = ((2 ^ k : Nat) : Int) := by
    have h3 : ((2 ^ k : Nat) : Int) = (2 : Int) ^ k := by simp
    rw [← h3]
    generalize (2 ^ k : Nat) = m at *
    show (m : Int) % 2 ^ 64 = _
    have e2 : (2 : Int) ^ 64 = 18446744073709551616 := by decide
    rw [e2]
    omega
  rw [h2, u64_or x _ hx.1 hx.2 (Int.natCast_nonneg _) (by generalize (2 ^ k : Nat) = m at *; omega)]
  rfl

set_option maxHeartbeats 400000 in
theorem half_high (six : Bool) (hi lo : Int) (n : Nat) (w : World) (h1 : 0 ≤ hi ∧ hi < 18446744073709551616) (h2 : 0 ≤ lo ∧ lo < 18446744073709551616) (h4 : (n : Int) < wideI six) :
    Calls Try.prog 135 #[.agg #[.bool six, .int .u64 hi, .int .u64 lo, .int .i64 n], .int .i64 1] w fun e w' => e = .returned (.agg #[.bool six, .int .u64 (setHi six hi n), .int .u64 (setLo six lo n), .int .i64 (n + 1)]) ∧ Below w.heap.size w w' := by
  cases six
  · have h5 : n < 32 := by have : (n : Int) < 32 := h4; omega
    have e1 : setHi false hi n = hi := by simp [setHi]
    have e2 : setLo false lo n = bits .or .u64 lo (IntKind.u64.wrap (2 ^ (31 - n))) := by rw [or_set lo _ h2 (by omega)]; simp [setLo]
    rw [e1, e2]
    clear e1 e2 h4
    go_enter Try.func135, Try.ntmps135
    go_wp2
    go_region
    all_goals go_wp2
    all_goals exact bodyPost_ret (v := .agg #[.bool false, .int .u64 hi, .int .u64 (bits .or .u64 lo (IntKind.u64.wrap (2 ^ (31 - n)))), .int .i64 (n + 1)]) (by simp [results, Try.results135, go_sem]) rfl ⟨rfl, (((Below.refl _ _).alloc (Nat.le_refl _) _).alloc (by simp) _).drew⟩
  · have h5 : n < 128 := by have : (n : Int) < 128 := h4; omega
    by_cases h6 : n < 64
    · have e1 : setLo true lo n = lo := by simp [setLo, h6]
      have e2 : setHi true hi n = bits .or .u64 hi (IntKind.u64.wrap (2 ^ (63 - n))) := by rw [or_set hi _ h1 (by omega)]; simp [setHi, h6]
      rw [e1, e2]
      clear e1 e2 h4 h5
      go_enter Try.func135, Try.ntmps135
      go_wp2
      go_region
      all_goals go_wp2
      all_goals exact bodyPost_ret (v := .agg #[.bool true, .int .u64 (bits .or .u64 hi (IntKind.u64.wrap (2 ^ (63 - n)))), .int .u64 lo, .int .i64 (n + 1)]) (by simp [results, Try.results135, go_sem]) rfl ⟨rfl, (((Below.refl _ _).alloc (Nat.le_refl _) _).alloc (by simp) _).drew⟩
    · have e1 : setHi true hi n = hi := by simp [setHi, h6]
      have e2 : setLo true lo n = bits .or .u64 lo (IntKind.u64.wrap (2 ^ (127 - n))) := by rw [or_set lo _ h2 (by omega)]; simp [setLo, h6]
      rw [e1, e2]
      clear e1 e2 h4
      go_enter Try.func135, Try.ntmps135
      go_wp2
      go_region
      all_goals go_wp2
      all_goals exact bodyPost_ret (v := .agg #[.bool true, .int .u64 hi, .int .u64 (bits .or .u64 lo (IntKind.u64.wrap (2 ^ (127 - n)))), .int .i64 (n + 1)]) (by simp [results, Try.results135, go_sem]) rfl ⟨rfl, (((Below.refl _ _).alloc (Nat.le_refl _) _).alloc (by simp) _).drew⟩

end Go.Proofs.Ytmljdjakbbedlaa

namespace Go.Proofs.Ytmljdjakbbedlaa
open Go.ChangeShapes Go.WideShapes Go.ChangeAt Go.RowKit

def ZP : Value := .agg #[.bool false, .int .u64 0, .int .u64 0, .int .i64 0]

end Go.Proofs.Ytmljdjakbbedlaa

namespace Go.Proofs
open Go.Shelf
def Try.lays128_ren : Go.Shelf.Ren := ⟨fun | 128 => 158 | n => n, fun | 51 => 173 | 3 => 3 | 4 => 4 | 46 => 174 | 5 => 5 | 9 => 9 | n => n, fun | n => n⟩
theorem Try.lays128 : Go.Proofs.Lays.n128 Try.prog Try.lays128_ren := {
  mixed := by kernel_rfl
  f128 := Try.func158.trans (congrArg some (by kernel_rfl))
  t3 := Try.underlying3
  a3 := Try.isAgg3
  z3 := Try.sizeOf3
  v3 := Try.zeroValue3
  t4 := Try.underlying4
  a4 := Try.isAgg4
  z4 := Try.sizeOf4
  v4 := Try.zeroValue4
  t5 := Try.underlying5
  a5 := Try.isAgg5
  z5 := Try.sizeOf5
  v5 := Try.zeroValue5
  t9 := Try.underlying9
  a9 := Try.isAgg9
  z9 := Try.sizeOf9
  v9 := Try.zeroValue9
  t46 := Try.underlying174
  a46 := Try.isAgg174
  z46 := Try.sizeOf174
  v46 := Try.zeroValue174
  t51 := Try.underlying173
  a51 := Try.isAgg173
  z51 := Try.sizeOf173
  v51 := Try.zeroValue173 }
theorem Try.bits_Len32 (x : Int) (w : World) (h0 : 0 ≤ x) (h1 : x ≤ 4294967295) :
    Calls Try.prog 158 #[.int .u32 x] w fun e w' => e = .returned (.int .i64 (Lib.bitLen x.toNat)) ∧ w' = w := Any.bits_Len32 Try.lays128 x w h0 h1
def Try.lays125_ren : Go.Shelf.Ren := ⟨fun | 125 => 121 | 128 => 158 | 129 => 159 | n => n, fun | 46 => 174 | 3 => 3 | 51 => 173 | 53 => 33 | 4 => 4 | 5 => 5 | 9 => 9 | n => n, fun | n => n⟩
theorem Try.lays125 : Go.Proofs.Lays.n125 Try.prog Try.lays125_ren := {
  mixed := by kernel_rfl
  f125 := Try.func121.trans (congrArg some (by kernel_rfl))
  f128 := Try.func158.trans (congrArg some (by kernel_rfl))
  f129 := Try.func159.trans (congrArg some (by kernel_rfl))
  t3 := Try.underlying3
  a3 := Try.isAgg3
  z3 := Try.sizeOf3
  v3 := Try.zeroValue3
  t4 := Try.underlying4
  a4 := Try.isAgg4
  z4 := Try.sizeOf4
  v4 := Try.zeroValue4
  t5 := Try.underlying5
  a5 := Try.isAgg5
  z5 := Try.sizeOf5
  v5 := Try.zeroValue5
  t9 := Try.underlying9
  a9 := Try.isAgg9
  z9 := Try.sizeOf9
  v9 := Try.zeroValue9
  t46 := Try.underlying174
  a46 := Try.isAgg174
  z46 := Try.sizeOf174
  v46 := Try.zeroValue174
  t51 := Try.underlying173
  a51 := Try.isAgg173
  z51 := Try.sizeOf173
  v51 := Try.zeroValue173
  t53 := Try.underlying33
  a53 := Try.isAgg33
  z53 := Try.sizeOf33
  v53 := Try.zeroValue33 }
theorem Try.bits_Len (x : Int) (w : World) (h0 : 0 ≤ x) (h1 : x ≤ 18446744073709551615) :
    Calls Try.prog 121 #[.int .u64 x] w fun e w' => e = .returned (.int .i64 (Lib.bitLen x.toNat)) ∧ w' = w := Any.bits_Len Try.lays125 x w h0 h1
def Try.lays133_ren : Go.Shelf.Ren := ⟨fun | 133 => 207 | 128 => 158 | n => n, fun | 51 => 173 | 3 => 3 | 4 => 4 | 46 => 174 | 5 => 5 | 9 => 9 | n => n, fun | n => n⟩
theorem Try.lays133 : Go.Proofs.Lays.n133 Try.prog Try.lays133_ren := {
  mixed := by kernel_rfl
  f128 := Try.func158.trans (congrArg some (by kernel_rfl))
  f133 := Try.func207.trans (congrArg some (by kernel_rfl))
  t3 := Try.underlying3
  a3 := Try.isAgg3
  z3 := Try.sizeOf3
  v3 := Try.zeroValue3
  t4 := Try.underlying4
  a4 := Try.isAgg4
  z4 := Try.sizeOf4
  v4 := Try.zeroValue4
  t5 := Try.underlying5
  a5 := Try.isAgg5
  z5 := Try.sizeOf5
  v5 := Try.zeroValue5
  t9 := Try.underlying9
  a9 := Try.isAgg9
  z9 := Try.sizeOf9
  v9 := Try.zeroValue9
  t46 := Try.underlying174
  a46 := Try.isAgg174
  z46 := Try.sizeOf174
  v46 := Try.zeroValue174
  t51 := Try.underlying173
  a51 := Try.isAgg173
  z51 := Try.sizeOf173
  v51 := Try.zeroValue173 }
theorem Try.bits_LeadingZeros32 (x : Int) (w : World) (h0 : 0 ≤ x) (h1 : x ≤ 4294967295) :
    Calls Try.prog 207 #[.int .u32 x] w fun e w' => e = .returned (.int .i64 (32 - (Lib.bitLen x.toNat : Int))) ∧ w' = w := Any.bits_LeadingZeros32 Try.lays133 x w h0 h1
def Try.lays134_ren : Go.Shelf.Ren := ⟨fun | 134 => 208 | 129 => 159 | n => n, fun | 53 => 33 | 3 => 3 | 4 => 4 | 46 => 174 | 5 => 5 | 9 => 9 | n => n, fun | n => n⟩
theorem Try.lays134 : Go.Proofs.Lays.n134 Try.prog Try.lays134_ren := {
  mixed := by kernel_rfl
  f129 := Try.func159.trans (congrArg some (by kernel_rfl))
  f134 := Try.func208.trans (congrArg some (by kernel_rfl))
  t3 := Try.underlying3
  a3 := Try.isAgg3
  z3 := Try.sizeOf3
  v3 := Try.zeroValue3
  t4 := Try.underlying4
  a4 := Try.isAgg4
  z4 := Try.sizeOf4
  v4 := Try.zeroValue4
  t5 := Try.underlying5
  a5 := Try.isAgg5
  z5 := Try.sizeOf5
  v5 := Try.zeroValue5
  t9 := Try.underlying9
  a9 := Try.isAgg9
  z9 := Try.sizeOf9
  v9 := Try.zeroValue9
  t46 := Try.underlying174
  a46 := Try.isAgg174
  z46 := Try.sizeOf174
  v46 := Try.zeroValue174
  t53 := Try.underlying33
  a53 := Try.isAgg33
  z53 := Try.sizeOf33
  v53 := Try.zeroValue33 }
theorem Try.bits_LeadingZeros64 (x : Int) (w : World) (h0 : 0 ≤ x) (h1 : x ≤ 18446744073709551615) :
    Calls Try.prog 208 #[.int .u64 x] w fun e w' => e = .returned (.int .i64 (64 - (Lib.bitLen x.toNat : Int))) ∧ w' = w := Any.bits_LeadingZeros64 Try.lays134 x w h0 h1
def Try.lays129_ren : Go.Shelf.Ren := ⟨fun | 129 => 159 | n => n, fun | 53 => 33 | 3 => 3 | 4 => 4 | 46 => 174 | 5 => 5 | 9 => 9 | n => n, fun | n => n⟩
theorem Try.lays129 : Go.Proofs.Lays.n129 Try.prog Try.lays129_ren := {
  mixed := by kernel_rfl
  f129 := Try.func159.trans (congrArg some (by kernel_rfl))
  t3 := Try.underlying3
  a3 := Try.isAgg3
  z3 := Try.sizeOf3
  v3 := Try.zeroValue3
  t4 := Try.underlying4
  a4 := Try.isAgg4
  z4 := Try.sizeOf4
  v4 := Try.zeroValue4
  t5 := Try.underlying5
  a5 := Try.isAgg5
  z5 := Try.sizeOf5
  v5 := Try.zeroValue5
  t9 := Try.underlying9
  a9 := Try.isAgg9
  z9 := Try.sizeOf9
  v9 := Try.zeroValue9
  t46 := Try.underlying174
  a46 := Try.isAgg174
  z46 := Try.sizeOf174
  v46 := Try.zeroValue174
  t53 := Try.underlying33
  a53 := Try.isAgg33
  z53 := Try.sizeOf33
  v53 := Try.zeroValue33 }
theorem Try.bits_Len64 (x : Int) (w : World) (h0 : 0 ≤ x) (h1 : x ≤ 18446744073709551615) :
    Calls Try.prog 159 #[.int .u64 x] w fun e w' => e = .returned (.int .i64 (Lib.bitLen x.toNat)) ∧ w' = w := Any.bits_Len64 Try.lays129 x w h0 h1
def Try.lays122_ren : Go.Shelf.Ren := ⟨fun | 122 => 69 | 215 => 122 | n => n, fun | 3 => 3 | 4 => 4 | n => n, fun | n => n⟩
theorem Try.lays122 : Go.Proofs.Lays.n122 Try.prog Try.lays122_ren := {
  mixed := by kernel_rfl
  f122 := Try.func69.trans (congrArg some (by kernel_rfl))
  f215 := Try.func122.trans (congrArg some (by kernel_rfl))
  t3 := Try.underlying3
  a3 := Try.isAgg3
  z3 := Try.sizeOf3
  v3 := Try.zeroValue3
  t4 := Try.underlying4
  a4 := Try.isAgg4
  z4 := Try.sizeOf4
  v4 := Try.zeroValue4 }
theorem Try.cmp_Compare_int (x y : Int) (w : World) :
    Calls Try.prog 69 #[.int .i64 x, .int .i64 y] w fun e w' => e = .returned (.int .i64 (Lib.compareInt x y)) ∧ w' = w := Any.cmp_Compare_int Try.lays122 x y w
def Try.lays108_ren : Go.Shelf.Ren := ⟨fun | 108 => 149 | n => n, fun | 28 => 23 | 3 => 3 | 0 => 0 | 4 => 4 | n => n, fun | n => n⟩
theorem Try.lays108 : Go.Proofs.Lays.n108 Try.prog Try.lays108_ren := {
  mixed := by kernel_rfl
  f108 := Try.func149.trans (congrArg some (by kernel_rfl))
  t0 := Try.underlying0
  a0 := Try.isAgg0
  z0 := Try.sizeOf0
  v0 := Try.zeroValue0
  t3 := Try.underlying3
  a3 := Try.isAgg3
  z3 := Try.sizeOf3
  v3 := Try.zeroValue3
  t4 := Try.underlying4
  a4 := Try.isAgg4
  z4 := Try.sizeOf4
  v4 := Try.zeroValue4
  t28 := Try.underlying23
  a28 := Try.isAgg23
  z28 := Try.sizeOf23
  v28 := Try.zeroValue23 }
def Try.lays107_ren : Go.Shelf.Ren := ⟨fun | 107 => 119 | 108 => 149 | n => n, fun | 28 => 23 | 3 => 3 | 4 => 4 | 0 => 0 | n => n, fun | n => n⟩
theorem Try.lays107 : Go.Proofs.Lays.n107 Try.prog Try.lays107_ren := {
  mixed := by kernel_rfl
  f107 := Try.func119.trans (congrArg some (by kernel_rfl))
  f108 := Try.func149.trans (congrArg some (by kernel_rfl))
  t0 := Try.underlying0
  a0 := Try.isAgg0
  z0 := Try.sizeOf0
  v0 := Try.zeroValue0
  t3 := Try.underlying3
  a3 := Try.isAgg3
  z3 := Try.sizeOf3
  v3 := Try.zeroValue3
  t4 := Try.underlying4
  a4 := Try.isAgg4
  z4 := Try.sizeOf4
  v4 := Try.zeroValue4
  t28 := Try.underlying23
  a28 := Try.isAgg23
  z28 := Try.sizeOf23
  v28 := Try.zeroValue23 }
open Go.Lib in
theorem Try.slices_Contains_int (b off n c : Nat) (zs : List Int) (x : Int) (w : World) (hz : n ≤ zs.length) (hbig : n ≤ 9223372036854775807) (hc : ∀ j, j < zs.length → w.cell? ⟨b, off + j, none⟩ = some (.int .i64 (zs.getD j 0))) :
    Calls Try.prog 119 #[.slice (some ⟨b, off, none⟩) n c, .int .i64 x] w fun e w' => e = .returned (.bool ((zs.take n).contains x)) ∧ w' = w := Any.slices_Contains_int Try.lays107 b off n c zs x w hz hbig hc
open Go.Lib in
theorem Try.slices_Contains_int_empty (a : Option Addr) (c : Nat) (x : Int) (w : World) :
    Calls Try.prog 119 #[.slice a 0 c, .int .i64 x] w fun e w' => e = .returned (.bool false) ∧ w' = w := Any.slices_Contains_int_empty Try.lays107 a c x w
def Try.laysGg14_ren : Go.Shelf.Ren := ⟨fun | 14 => 175 | 26 => 199 | 27 => 200 | 28 => 201 | 29 => 202 | 30 => 203 | 31 => 204 | 32 => 205 | 33 => 206 | 34 => 220 | 35 => 221 | 36 => 222 | 37 => 223 | 38 => 224 | 13 => 121 | 39 => 232 | 24 => 158 | 25 => 159 | n => n, fun | 44 => 283 | 3 => 3 | 0 => 0 | 4 => 4 | 54 => 304 | 53 => 303 | 26 => 219 | 58 => 261 | 37 => 279 | 60 => 319 | 41 => 174 | 51 => 33 | 64 => 294 | 66 => 327 | 67 => 311 | 49 => 173 | 5 => 5 | 9 => 9 | n => n, fun | n => n⟩
theorem Try.laysGg14 : Go.Proofs.LaysGg.n14 Try.prog Try.laysGg14_ren := {
  mixed := by kernel_rfl
  f13 := Try.func121.trans (congrArg some (by kernel_rfl))
  f14 := Try.func175.trans (congrArg some (by kernel_rfl))
  f24 := Try.func158.trans (congrArg some (by kernel_rfl))
  f25 := Try.func159.trans (congrArg some (by kernel_rfl))
  f26 := Try.func199.trans (congrArg some (by kernel_rfl))
  f27 := Try.func200.trans (congrArg some (by kernel_rfl))
  f28 := Try.func201.trans (congrArg some (by kernel_rfl))
  f29 := Try.func202.trans (congrArg some (by kernel_rfl))
  f30 := Try.func203.trans (congrArg some (by kernel_rfl))
  f31 := Try.func204.trans (congrArg some (by kernel_rfl))
  f32 := Try.func205.trans (congrArg some (by kernel_rfl))
  f33 := Try.func206.trans (congrArg some (by kernel_rfl))
  f34 := Try.func220.trans (congrArg some (by kernel_rfl))
  f35 := Try.func221.trans (congrArg some (by kernel_rfl))
  f36 := Try.func222.trans (congrArg some (by kernel_rfl))
  f37 := Try.func223.trans (congrArg some (by kernel_rfl))
  f38 := Try.func224.trans (congrArg some (by kernel_rfl))
  f39 := Try.func232.trans (congrArg some (by kernel_rfl))
  t0 := Try.underlying0
  a0 := Try.isAgg0
  z0 := Try.sizeOf0
  v0 := Try.zeroValue0
  i0 := by kernel_rfl
  t3 := Try.underlying3
  a3 := Try.isAgg3
  z3 := Try.sizeOf3
  v3 := Try.zeroValue3
  i3 := by kernel_rfl
  t4 := Try.underlying4
  a4 := Try.isAgg4
  z4 := Try.sizeOf4
  v4 := Try.zeroValue4
  i4 := by kernel_rfl
  t5 := Try.underlying5
  a5 := Try.isAgg5
  z5 := Try.sizeOf5
  v5 := Try.zeroValue5
  i5 := by kernel_rfl
  t9 := Try.underlying9
  a9 := Try.isAgg9
  z9 := Try.sizeOf9
  v9 := Try.zeroValue9
  i9 := by kernel_rfl
  t26 := Try.underlying219
  a26 := Try.isAgg219
  z26 := Try.sizeOf219
  v26 := Try.zeroValue219
  i26 := by kernel_rfl
  t37 := Try.underlying279
  a37 := Try.isAgg279
  z37 := Try.sizeOf279
  v37 := Try.zeroValue279
  i37 := by kernel_rfl
  t41 := Try.underlying174
  a41 := Try.isAgg174
  z41 := Try.sizeOf174
  v41 := Try.zeroValue174
  i41 := by kernel_rfl
  t44 := Try.underlying283
  a44 := Try.isAgg283
  z44 := Try.sizeOf283
  v44 := Try.zeroValue283
  i44 := by kernel_rfl
  t49 := Try.underlying173
  a49 := Try.isAgg173
  z49 := Try.sizeOf173
  v49 := Try.zeroValue173
  i49 := by kernel_rfl
  t51 := Try.underlying33
  a51 := Try.isAgg33
  z51 := Try.sizeOf33
  v51 := Try.zeroValue33
  i51 := by kernel_rfl
  t53 := Try.underlying303
  a53 := Try.isAgg303
  z53 := Try.sizeOf303
  v53 := Try.zeroValue303
  i53 := by kernel_rfl
  t54 := Try.underlying304
  a54 := Try.isAgg304
  z54 := Try.sizeOf304
  v54 := Try.zeroValue304
  i54 := by kernel_rfl
  t58 := Try.underlying261
  a58 := Try.isAgg261
  z58 := Try.sizeOf261
  v58 := Try.zeroValue261
  i58 := by kernel_rfl
  t60 := Try.underlying319
  a60 := Try.isAgg319
  z60 := Try.sizeOf319
  v60 := Try.zeroValue319
  i60 := by kernel_rfl
  t64 := Try.underlying294
  a64 := Try.isAgg294
  z64 := Try.sizeOf294
  v64 := Try.zeroValue294
  i64 := by kernel_rfl
  t66 := Try.underlying327
  a66 := Try.isAgg327
  z66 := Try.sizeOf327
  v66 := Try.zeroValue327
  i66 := by kernel_rfl
  t67 := Try.underlying311
  a67 := Try.isAgg311
  z67 := Try.sizeOf311
  v67 := Try.zeroValue311
  i67 := by kernel_rfl }
def Try.laysGg6_ren : Go.Shelf.Ren := ⟨fun | 6 => 139 | 10 => 172 | 11 => 173 | 12 => 174 | 13 => 121 | 14 => 175 | 24 => 158 | 25 => 159 | 26 => 199 | 27 => 200 | 28 => 201 | 29 => 202 | 30 => 203 | 31 => 204 | 32 => 205 | 33 => 206 | 34 => 220 | 35 => 221 | 36 => 222 | 37 => 223 | 38 => 224 | 39 => 232 | n => n, fun | 20 => 20 | 26 => 219 | 35 => 277 | 0 => 0 | 37 => 279 | 3 => 3 | 41 => 174 | 44 => 283 | 49 => 173 | 51 => 33 | 4 => 4 | 54 => 304 | 53 => 303 | 58 => 261 | 5 => 5 | 9 => 9 | 60 => 319 | 64 => 294 | 66 => 327 | 67 => 311 | 17 => 17 | 32 => 274 | 33 => 275 | 82 => 345 | 12 => 12 | 75 => 338 | 76 => 339 | 77 => 340 | 78 => 341 | 79 => 342 | 80 => 343 | n => n, fun | n => n⟩
theorem Try.laysGg6 : Go.Proofs.LaysGg.n6 Try.prog Try.laysGg6_ren := {
  mixed := by kernel_rfl
  f6 := Try.func139.trans (congrArg some (by kernel_rfl))
  f10 := Try.func172.trans (congrArg some (by kernel_rfl))
  f11 := Try.func173.trans (congrArg some (by kernel_rfl))
  f12 := Try.func174.trans (congrArg some (by kernel_rfl))
  f13 := Try.func121.trans (congrArg some (by kernel_rfl))
  f14 := Try.func175.trans (congrArg some (by kernel_rfl))
  f24 := Try.func158.trans (congrArg some (by kernel_rfl))
  f25 := Try.func159.trans (congrArg some (by kernel_rfl))
  f26 := Try.func199.trans (congrArg some (by kernel_rfl))
  f27 := Try.func200.trans (congrArg some (by kernel_rfl))
  f28 := Try.func201.trans (congrArg some (by kernel_rfl))
  f29 := Try.func202.trans (congrArg some (by kernel_rfl))
  f30 := Try.func203.trans (congrArg some (by kernel_rfl))
  f31 := Try.func204.trans (congrArg some (by kernel_rfl))
  f32 := Try.func205.trans (congrArg some (by kernel_rfl))
  f33 := Try.func206.trans (congrArg some (by kernel_rfl))
  f34 := Try.func220.trans (congrArg some (by kernel_rfl))
  f35 := Try.func221.trans (congrArg some (by kernel_rfl))
  f36 := Try.func222.trans (congrArg some (by kernel_rfl))
  f37 := Try.func223.trans (congrArg some (by kernel_rfl))
  f38 := Try.func224.trans (congrArg some (by kernel_rfl))
  f39 := Try.func232.trans (congrArg some (by kernel_rfl))
  t0 := Try.underlying0
  a0 := Try.isAgg0
  z0 := Try.sizeOf0
  v0 := Try.zeroValue0
  i0 := by kernel_rfl
  t3 := Try.underlying3
  a3 := Try.isAgg3
  z3 := Try.sizeOf3
  v3 := Try.zeroValue3
  i3 := by kernel_rfl
  t4 := Try.underlying4
  a4 := Try.isAgg4
  z4 := Try.sizeOf4
  v4 := Try.zeroValue4
  i4 := by kernel_rfl
  t5 := Try.underlying5
  a5 := Try.isAgg5
  z5 := Try.sizeOf5
  v5 := Try.zeroValue5
  i5 := by kernel_rfl
  t9 := Try.underlying9
  a9 := Try.isAgg9
  z9 := Try.sizeOf9
  v9 := Try.zeroValue9
  i9 := by kernel_rfl
  t12 := Try.underlying12
  a12 := Try.isAgg12
  z12 := Try.sizeOf12
  v12 := Try.zeroValue12
  i12 := by kernel_rfl
  t17 := Try.underlying17
  a17 := Try.isAgg17
  z17 := Try.sizeOf17
  v17 := Try.zeroValue17
  i17 := by kernel_rfl
  t20 := Try.underlying20
  a20 := Try.isAgg20
  z20 := Try.sizeOf20
  v20 := Try.zeroValue20
  i20 := by kernel_rfl
  t26 := Try.underlying219
  a26 := Try.isAgg219
  z26 := Try.sizeOf219
  v26 := Try.zeroValue219
  i26 := by kernel_rfl
  t32 := Try.underlying274
  a32 := Try.isAgg274
  z32 := Try.sizeOf274
  v32 := Try.zeroValue274
  i32 := by kernel_rfl
  t33 := Try.underlying275
  a33 := Try.isAgg275
  z33 := Try.sizeOf275
  v33 := Try.zeroValue275
  i33 := by kernel_rfl
  t35 := Try.underlying277
  a35 := Try.isAgg277
  z35 := Try.sizeOf277
  v35 := Try.zeroValue277
  i35 := by kernel_rfl
  t37 := Try.underlying279
  a37 := Try.isAgg279
  z37 := Try.sizeOf279
  v37 := Try.zeroValue279
  i37 := by kernel_rfl
  t41 := Try.underlying174
  a41 := Try.isAgg174
  z41 := Try.sizeOf174
  v41 := Try.zeroValue174
  i41 := by kernel_rfl
  t44 := Try.underlying283
  a44 := Try.isAgg283
  z44 := Try.sizeOf283
  v44 := Try.zeroValue283
  i44 := by kernel_rfl
  t49 := Try.underlying173
  a49 := Try.isAgg173
  z49 := Try.sizeOf173
  v49 := Try.zeroValue173
  i49 := by kernel_rfl
  t51 := Try.underlying33
  a51 := Try.isAgg33
  z51 := Try.sizeOf33
  v51 := Try.zeroValue33
  i51 := by kernel_rfl
  t53 := Try.underlying303
  a53 := Try.isAgg303
  z53 := Try.sizeOf303
  v53 := Try.zeroValue303
  i53 := by kernel_rfl
  t54 := Try.underlying304
  a54 := Try.isAgg304
  z54 := Try.sizeOf304
  v54 := Try.zeroValue304
  i54 := by kernel_rfl
  t58 := Try.underlying261
  a58 := Try.isAgg261
  z58 := Try.sizeOf261
  v58 := Try.zeroValue261
  i58 := by kernel_rfl
  t60 := Try.underlying319
  a60 := Try.isAgg319
  z60 := Try.sizeOf319
  v60 := Try.zeroValue319
  i60 := by kernel_rfl
  t64 := Try.underlying294
  a64 := Try.isAgg294
  z64 := Try.sizeOf294
  v64 := Try.zeroValue294
  i64 := by kernel_rfl
  t66 := Try.underlying327
  a66 := Try.isAgg327
  z66 := Try.sizeOf327
  v66 := Try.zeroValue327
  i66 := by kernel_rfl
  t67 := Try.underlying311
  a67 := Try.isAgg311
  z67 := Try.sizeOf311
  v67 := Try.zeroValue311
  i67 := by kernel_rfl
  t75 := Try.underlying338
  a75 := Try.isAgg338
  z75 := Try.sizeOf338
  v75 := Try.zeroValue338
  i75 := by kernel_rfl
  t76 := Try.underlying339
  a76 := Try.isAgg339
  z76 := Try.sizeOf339
  v76 := Try.zeroValue339
  i76 := by kernel_rfl
  t77 := Try.underlying340
  a77 := Try.isAgg340
  z77 := Try.sizeOf340
  v77 := Try.zeroValue340
  i77 := by kernel_rfl
  t78 := Try.underlying341
  a78 := Try.isAgg341
  z78 := Try.sizeOf341
  v78 := Try.zeroValue341
  i78 := by kernel_rfl
  t79 := Try.underlying342
  a79 := Try.isAgg342
  z79 := Try.sizeOf342
  v79 := Try.zeroValue342
  i79 := by kernel_rfl
  t80 := Try.underlying343
  a80 := Try.isAgg343
  z80 := Try.sizeOf343
  v80 := Try.zeroValue343
  i80 := by kernel_rfl
  t82 := Try.underlying345
  a82 := Try.isAgg345
  z82 := Try.sizeOf345
  v82 := Try.zeroValue345
  i82 := by kernel_rfl }
end Go.Proofs

namespace Go.Proofs.Ytmljdjakbbedlaa
open Go.ChangeShapes Go.WideShapes Go.ChangeAt Go.RowKit

theorem zeros64 (x y : Int) (w : World) (hx : 0 ≤ x ∧ x < 18446744073709551616) (hy : 0 ≤ y ∧ y < 18446744073709551616) :
    Calls Try.prog 208 #[.int .u64 (bits .xor .u64 x y)] w fun e w' => e = .returned (.int .i64 (wordAlike 64 x y)) ∧ w = w' := by
  have e : (2 : Int) ^ 64 = 18446744073709551616 := by decide
  have hl := xor_lt 64 x y (by omega) (by omega)
  have e2 : (2 : Nat) ^ 64 = 18446744073709551616 := by decide
  rw [u64_xor x y hx.1 hx.2 hy.1 hy.2]
  refine (Try.bits_LeadingZeros64 _ w (by omega) (by omega)).mono ?_
  rintro e w' ⟨rfl, rfl⟩
  exact ⟨ret_int (by unfold wordAlike; simp), rfl⟩
theorem zeros32 (x y : Int) (w : World) (hx : 0 ≤ x ∧ x < 4294967296) (hy : 0 ≤ y ∧ y < 4294967296) :
    Calls Try.prog 207 #[.int .u32 (bits .xor .u64 x y % 4294967296)] w fun e w' => e = .returned (.int .i64 (wordAlike 32 x y)) ∧ w = w' := by
  have e : (2 : Int) ^ 32 = 4294967296 := by decide
  have hl := xor_lt 32 x y (by omega) (by omega)
  have e2 : (2 : Nat) ^ 32 = 4294967296 := by decide
  rw [u64_xor x y hx.1 (by omega) hy.1 (by omega), show ((x.toNat ^^^ y.toNat : Nat) : Int) % 4294967296 = ((x.toNat ^^^ y.toNat : Nat) : Int) from by omega]
  refine (Try.bits_LeadingZeros32 _ w (by omega) (by omega)).mono ?_
  rintro e w' ⟨rfl, rfl⟩
  exact ⟨ret_int (by unfold wordAlike; simp), rfl⟩

set_option maxRecDepth 100000 in
set_option maxHeartbeats 400000 in
theorem alike_any (six six' : Bool) (hi lo hi' lo' : Int) (w : World) (h1 : 0 ≤ hi ∧ hi < 18446744073709551616) (h2 : 0 ≤ lo ∧ lo < 18446744073709551616) (h3 : 0 ≤ hi' ∧ hi' < 18446744073709551616) (h4 : 0 ≤ lo' ∧ lo' < 18446744073709551616)
    (hm : mayB six hi lo = true) (hm' : mayB six hi' lo' = true) :
    Calls Try.prog 177 #[.agg #[.bool six, .int .u64 hi, .int .u64 lo], .agg #[.bool six', .int .u64 hi', .int .u64 lo']] w fun e w' => e = .returned (.int .i64 (alikeI six hi lo hi' lo')) ∧ Below w.heap.size w w' := by
  have e : (2 : Int) ^ 64 = 18446744073709551616 := by decide
  have e2 : (2 : Int) ^ 32 = 4294967296 := by decide
  cases six
  · have q := mayB_four hm
    have q' := mayB_four hm'
    have HE : Hid (alikeI false hi lo hi' lo' = wordAlike 32 lo lo') := rfl
    have HC := Lib.hid (fun w => zeros32 lo lo' w ⟨h2.1, q.2⟩ ⟨h4.1, q'.2⟩)
    clear q q' hm hm' e e2
    go_enter Try.func177, Try.ntmps177
    go_wp2_with fail
    refine (HC.out _).mono ?_
    rintro e w' ⟨rfl, rfl⟩
    go_wp2
    go_ret
    exact ⟨ret_int HE.out.symm, ((Below.refl _ _).alloc (Nat.le_refl _) _).alloc (by simp) _⟩
  · by_cases hh : hi = hi'
    · have HE : Hid (alikeI true hi lo hi' lo' = 64 + wordAlike 64 lo lo') := by show alikeI true hi lo hi' lo' = _; unfold alikeI; rw [if_neg (by simp), if_pos hh]
      have hr := wordAlike_range 64 lo lo' (by omega) (by omega) (by omega)
      have hb : (hi != hi') = false := by simpa using hh
      have HC := Lib.hid (fun w => zeros64 lo lo' w h2 h4)
      generalize wordAlike 64 lo lo' = x at *
      clear hm hm' e e2 hh
      go_enter Try.func177, Try.ntmps177
      go_wp2_with fail
      refine (HC.out _).mono ?_
      rintro e w' ⟨rfl, rfl⟩
      go_wp2
      go_ret
      exact ⟨ret_int HE.out.symm, ((Below.refl _ _).alloc (Nat.le_refl _) _).alloc (by simp) _⟩
    · have HE : Hid (alikeI true hi lo hi' lo' = wordAlike 64 hi hi') := by show alikeI true hi lo hi' lo' = _; unfold alikeI; rw [if_neg (by simp), if_neg hh]
      have HC := Lib.hid (fun w => zeros64 hi hi' w h1 h3)
      have hb : (hi != hi') = true := by simpa using hh
      clear hm hm' e e2 hh
      go_enter Try.func177, Try.ntmps177
      go_wp2_with fail
      refine (HC.out _).mono ?_
      rintro e w' ⟨rfl, rfl⟩
      go_wp2
      go_ret
      exact ⟨ret_int HE.out.symm, ((Below.refl _ _).alloc (Nat.le_refl _) _).alloc (by simp) _⟩

end Go.Proofs.Ytmljdjakbbedlaa

namespace Go.Proofs.Ytmljdjakbbedlaa
open Go.ChangeShapes Go.WideShapes Go.ChangeAt Go.RowKit

def comN (k k' a : Int) : Int := min (min k k') a

set_option maxRecDepth 100000 in
set_option maxHeartbeats 800000 in
theorem common_bad (six : Bool) (hi lo k : Int) (six' : Bool) (hi' lo' k' : Int) (w : World) (h1 : 0 ≤ hi ∧ hi < 18446744073709551616) (h2 : 0 ≤ lo ∧ lo < 18446744073709551616) (h3 : 0 ≤ hi' ∧ hi' < 18446744073709551616) (h4 : 0 ≤ lo' ∧ lo' < 18446744073709551616) (hz : ¬ bothE six hi lo k six' hi' lo' k' = 0) :
    Calls Try.prog 141 #[.agg #[.bool six, .int .u64 hi, .int .u64 lo, .int .i64 k], .agg #[.bool six', .int .u64 hi', .int .u64 lo', .int .i64 k']] w fun e w' => e = .returned (.tuple #[ZP, .int .i64 (bothE six hi lo k six' hi' lo' k')]) ∧ Below w.heap.size w w' := by
  have c := fun w => both_any six hi lo k six' hi' lo' k' w h1 h2 h3 h4
  generalize bothE six hi lo k six' hi' lo' k' = z at *
  have CC := Lib.hid c
  have hb1 : (z == 0) = false := by simpa using hz
  have hb2 : (z != 0) = true := by simpa using hz
  clear c
  go_enter Try.func141, Try.ntmps141
  go_wp2_with fail
  refine (CC.out _).mono ?_
  rintro e w1 ⟨rfl, hb⟩
  obtain ⟨fc, ff⟩ := bcell hb
  obtain ⟨s1, s2, s3⟩ := bsize3 hb
  have HB := Lib.hid (balloc3 hb)
  clear hb
  go_wp2
  refine bodyPost_ret (v := .tuple #[ZP, .int .i64 z]) (by simp [results, Try.results141, go_sem, fc, ZP]) rfl ⟨rfl, ?_⟩
  (repeat' first | with_reducible exact HB.out | with_reducible exact Below.refl _ _ | with_reducible refine Below.drew ?_ | with_reducible refine below_drewN ?_ _ | with_reducible refine Below.setCell ?_ ?_ _ | with_reducible refine Below.alloc ?_ ?_ _ | (simp; done) | (simp; omega) | omega)

set_option maxRecDepth 100000 in
set_option maxHeartbeats 1600000 in
theorem common_ok (six : Bool) (hi lo k hi' lo' k' : Int) (w : World) (hp : Pfx six hi lo k) (hq : Pfx six hi' lo' k') (hz : bothE six hi lo k six hi' lo' k' = 0) :
    Calls Try.prog 141 #[.agg #[.bool six, .int .u64 hi, .int .u64 lo, .int .i64 k], (.agg #[.bool six, .int .u64 hi', .int .u64 lo', .int .i64 k'])] w fun e w' => e = .returned (.tuple #[.agg #[.bool six, .int .u64 (cutHi six hi (comN k k' (alikeI six hi lo hi' lo'))), .int .u64 (cutLo six lo (comN k k' (alikeI six hi lo hi' lo'))), .int .i64 (comN k k' (alikeI six hi lo hi' lo'))], .int .i64 0]) ∧ Below w.heap.size w w' := by
  have c := fun w => both_any six hi lo k six hi' lo' k' w hp.rhi hp.rlo hq.rhi hq.rlo
  rw [hz] at c
  have CC := Lib.hid c
  have CA := Lib.hid (fun w => alike_any six six hi lo hi' lo' w hp.rhi hp.rlo hq.rhi hq.rlo hp.may hq.may)
  have ra := alike_range six hi lo hi' lo' hp.rhi hp.rlo hq.rhi hq.rlo hp.may hq.may
  have HU := Lib.hid (fun n w h3 h4 => cut_any six hi lo n w hp.rhi hp.rlo (fun h => by subst h; exact (mayB_four hp.may).2) h3 h4)
  have hwl := wideI_le six
  have hkl := hp.len
  have hkl' := hq.len
  generalize alikeI six hi lo hi' lo' = a at *
  have hc : 0 ≤ comN k k' a ∧ comN k k' a ≤ 128 := by unfold comN; omega
  have hcm : Hid (comN k k' a = min (min k k') a) := rfl
  generalize comN k k' a = m at *
  clear c hz hp hq
  go_enter Try.func141, Try.ntmps141
  go_wp2_with fail
  refine (CC.out _).mono ?_
  rintro e w1 ⟨rfl, hb⟩
  obtain ⟨fc, ff⟩ := bcell hb
  obtain ⟨s1, s2, s3⟩ := bsize3 hb
  have HB := Lib.hid (balloc3 hb)
  clear hb
  go_wp2_with fail
  go_region_held3 (fun w' => (∀ b o, b < w1.heap.size → w'.cell? ⟨b, o, none⟩ = w1.cell? ⟨b, o, none⟩) ∧ w1.heap.size ≤ w'.heap.size ∧ Hid (Below w1.heap.size w1 w'))
  ((first | assumption | exact keep0 _ | exact keep1 (by assumption) (by assumption) | exact keepD (by assumption) | exact ⟨fun _ _ _ => rfl, Nat.le_refl _, Below.refl _ _⟩))
  (first | (go_at_call 177; refine (CA.out _).mono ?_; rintro e w2 ⟨rfl, hb2⟩))
  obtain ⟨fc2, z2, HB2⟩ : (∀ b o, b < w1.heap.size → w2.cell? ⟨b, o, none⟩ = w1.cell? ⟨b, o, none⟩) ∧ w1.heap.size ≤ w2.heap.size ∧ Hid (Below w1.heap.size w1 w2) := by assumption
  have ff2 := (bcell HB2.out).2
  have s4 : w.heap.size < w2.heap.size := by omega
  have s5 : w.heap.size + 1 < w2.heap.size := by omega
  have s6 : w.heap.size + 1 + 1 < w2.heap.size := by omega
  have hmin : (if a < if k' < k then k' else k then a else if k' < k then k' else k) = m := by rw [hcm.out]; split <;> split at * <;> omega
  rw [hmin]
  have HB3 := Lib.hid (below_step HB.out HB2.out)
  clear hmin
  go_wp2_with fail
  refine (HU.out m _ (by omega) (by omega)).mono ?_
  rintro e w3 ⟨rfl, hb⟩
  obtain ⟨fc3, ff3⟩ := bcell hb
  have s7 : w.heap.size + 1 + 1 < w3.heap.size := by have := hb.size; omega
  have HB4 := Lib.hid (below_step HB3.out hb)
  clear hb
  go_wp2
  refine bodyPost_ret (v := .tuple #[.agg #[.bool six, .int .u64 (cutHi six hi m), .int .u64 (cutLo six lo m), .int .i64 m], .int .i64 0]) ?_ rfl ⟨rfl, ?_⟩
  · simp [results, Try.results141, go_sem, fc3, fc2, fc, s3, s6]
  · (repeat' first | with_reducible exact HB4.out | with_reducible exact Below.refl _ _ | with_reducible refine Below.drew ?_ | with_reducible refine below_drewN ?_ _ | with_reducible refine Below.setCell ?_ ?_ _ | with_reducible refine Below.alloc ?_ ?_ _ | (simp; done) | (simp; omega) | omega)

end Go.Proofs.Ytmljdjakbbedlaa
