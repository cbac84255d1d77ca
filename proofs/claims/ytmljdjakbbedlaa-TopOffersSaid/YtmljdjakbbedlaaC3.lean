/-
  
  
  
  
  
  
  
  
  
  
  
  
  
  
  
-/
import Derived.Test.YtmljdjakbbedlaaC2
import Derived.Deep.LoopGhost
import Derived.Deep.RegionHeld3
import Derived.Test.YtmljdjakbbedlaaC1
import Derived.Test.YtmljdjakbbedlaaChecked
import Derived.Laws.StructEq
namespace Go.Proofs.Ytmljdjakbbedlaa
open Go.ChangeShapes Go.WideShapes Go.ChangeAt Go.RowKit

theorem root_any (p : PV) (tb : Nat) (w : World) :
    Calls Try.prog 142 #[.pointer (some ⟨tb, 0, none⟩), p.val] w fun e w' => e = .returned (.pointer (some (slotOf tb p.six))) ∧ Below w.heap.size w w' := by
  obtain ⟨six, hi, lo, n⟩ := p
  unfold PV.val slotOf
  simp only
  cases six
  · go_enter Try.func142, Try.ntmps142
    go_wp2
    go_ret
    exact ⟨rfl, (Below.refl _ _).alloc (Nat.le_refl _) _⟩
  · go_enter Try.func142, Try.ntmps142
    go_wp2
    go_ret
    exact ⟨rfl, (Below.refl _ _).alloc (Nat.le_refl _) _⟩

def Stop (p : PV) : Tr → Prop
  | .nil => True
  | .node _ q _ _ _ => q = p ∨ q.over p = false
def PlaceAt (w : World) (tb : Nat) (R : Bool → Tr) (p : PV) (e : Ending) (w' : World) : Prop :=
  ∃ (C : Ctx) (cur : Tr), R p.six = C.plug cur ∧ C.OnPath p ∧ Stop p cur ∧ e = .returned (.pointer (some (C.slot tb p.six))) ∧ Below w.heap.size w w'
/-- Where the search stands. -/
def At (tb : Nat) (R : Bool → Tr) (p : PV) (k : Nat) (v : Value) : Prop :=
  ∃ (C : Ctx) (cur : Tr), R p.six = C.plug cur ∧ C.OnPath p ∧ cur.size ≤ k ∧ v = .pointer (some (C.slot tb p.six))

theorem inv_plug {six : Bool} : ∀ (C : Ctx) (t : Tr) (U : PV → Prop), Inv six U (C.plug t) → ∃ U', Inv six U' t
  | .top, t, U, h => ⟨U, h⟩
  | .left C g q h r, t, U, hi => by
    obtain ⟨U', h'⟩ := inv_plug C (.node g q h t r) U hi
    exact ⟨_, h'.2.2.2.2.1⟩
  | .right C g q h l, t, U, hi => by
    obtain ⟨U', h'⟩ := inv_plug C (.node g q h l t) U hi
    exact ⟨_, h'.2.2.2.2.2⟩

set_option maxRecDepth 100000 in
set_option maxHeartbeats 1600000 in
theorem place_any {w : World} {B tb : Nat} {R : Bool → Tr} {c : Int} (h : Tab w B tb R c) (p : PV) (hp : p.Ok) (hI : ∀ s, Inv s (fun _ => True) (R s)) :
    Calls Try.prog 106 #[.pointer (some ⟨tb, 0, none⟩), p.val, .nilFunc] w (PlaceAt w tb R p) := by
  have HT := Lib.hid h
  have HP := Lib.hid hp
  have HI := Lib.hid hI
  have hRt := Lib.hid (fun w => root_any p tb w)
  obtain ⟨six, hi, lo, n⟩ := p
  have hrng := hp
  unfold PV.Ok at hrng
  simp only at hrng
  have r1 := hrng.rhi
  have r2 := hrng.rlo
  have hm5 := Lib.hid (fun hs : six = false => by have := hrng.may; rw [hs] at this; exact (mayB_four this).2 : six = false → lo < 4294967296)
  have hlen := hrng.len
  have hwl := wideI_le six
  clear h hp hI hrng
  have hnf : ∀ w, (binOp .neq 194 .nilFunc .nilFunc).run Try.prog w = .ok (.bool false) w := fun _ => by kernel_rfl
  unfold PV.val at hRt ⊢
  simp only at hRt ⊢
  go_enter Try.func106, Try.ntmps106
  go_wp2_with fail
  refine (hRt.out _).mono ?_
  rintro e X ⟨rfl, hb⟩
  obtain ⟨HBX, hsx, hbx⟩ := box1 (cs := [.bool six, .int .u64 hi, .int .u64 lo, .int .i64 n]) hb
  have e0 := hbx 0 _ rfl
  have e1 := hbx 1 _ rfl
  have e2 := hbx 2 _ rfl
  have e3 := hbx 3 _ rfl
  have HTX := Lib.hid (HT.out.below HBX)
  have HB := Lib.hid HBX
  clear hb hbx HBX
  go_wp2
  go_loopg [7, 8] (R six).size (fun k at_ _ wr => At tb R ⟨six, hi, lo, n⟩ k at_ ∧ Below X.heap.size X wr)
  case atStart => exact ⟨⟨.top, R six, rfl, trivial, Nat.le_refl _, rfl⟩, Below.refl _ _⟩
  case round =>
    obtain ⟨⟨C, cur, hR, hon, hsz, rfl⟩, hb⟩ := hrel
    have hs := ((HTX.out.below hb).slot hR).1
    have q0 := (hb.cell (p := ⟨w.heap.size, 0, none⟩) hsx).trans e0
    have q1 := (hb.cell (p := ⟨w.heap.size, 1, none⟩) hsx).trans e1
    have q2 := (hb.cell (p := ⟨w.heap.size, 2, none⟩) hsx).trans e2
    have q3 := (hb.cell (p := ⟨w.heap.size, 3, none⟩) hsx).trans e3
    have HR := Lib.hid hR
    have HON := Lib.hid hon
    have HBW := Lib.hid hb
    have hsw := hb.size
    obtain ⟨U', hiv⟩ := inv_plug C cur _ (by rw [← hR]; exact HI.out six)
    cases cur with
    | nil =>
      clear hR hon hb hiv
      change wr.cell? (Ctx.slot tb six C) = some (.pointer none) at hs
      show Code.wp _ _ _ _ _
      simp only at hs ⊢
      generalize hsl : Ctx.slot tb six C = sl at *
      have HSL := Lib.hid hsl
      clear hsl
      go_wp2
      go_ret
      exact ⟨C, .nil, HR.out, HON.out, trivial, by rw [HSL.out]; rfl, HB.out.trans (HBW.out.mono HB.out.size)⟩
    | node g q h l r =>
      obtain ⟨hq, hq6, _, hh, _, _⟩ := hiv
      obtain ⟨hblk, hgm⟩ := (HTX.out.below hb).node hR
      have n0 := hblk.cell 0
      have n1 := hblk.cell 1
      have n2 := hblk.cell 2
      have n3 := hblk.cell 3
      have HQ := Lib.hid hq
      obtain ⟨qs, qh, ql, qn⟩ := q
      simp only [nodeCs] at n0 n1 n2 n3 hq6
      simp at n0 n1 n2 n3
      subst hq6
      have hgl := hblk.lt
      clear hR hon hb hblk hgm hq hh
      change wr.cell? (Ctx.slot tb qs C) = some (.pointer (some ⟨g, 0, none⟩)) at hs
      generalize hsl : Ctx.slot tb qs C = sl at *
      have HSL := Lib.hid hsl
      clear hsl
      by_cases he : qh = hi ∧ ql = lo ∧ qn = n
      · obtain ⟨rfl, rfl, rfl⟩ := he
        go_wp2_with fail
        go_quiet (fail)
        go_wp2
        go_ret
        exact ⟨C, _, HR.out, HON.out, .inl rfl, by rw [HSL.out]; rfl, below_drewN (HB.out.trans (HBW.out.mono HB.out.size)) _⟩
      · have CO := Lib.hid (fun w => over_any qs qh ql qn qs hi lo n w r1 r2 hm5.out (by have := ok_n HQ.out; simp only at this; have := wideI_le qs; omega) (by have := ok_n HQ.out; simp only at this; have := wideI_le qs; omega))
        have CA := Lib.hid (fun w h3 h4 => at_any qs hi lo qn w r1 r2 h3 h4)
        have HE := Lib.hid he
        have HNE : Hid (¬ (⟨qs, qh, ql, qn⟩ : PV) = ⟨qs, hi, lo, n⟩) := fun hx => by injection hx with _ e1 e2 e3; exact he ⟨e1, e2, e3⟩
        have hsxw : w.heap.size < wr.heap.size := by omega
        have key : (qh == hi) = false ∨ (qh = hi ∧ (ql == lo) = false) ∨ (qh = hi ∧ ql = lo ∧ (qn == n) = false) := by
          by_cases a : qh = hi
          · by_cases b : ql = lo
            · exact .inr (.inr ⟨a, b, by simpa using fun h => he ⟨a, b, h⟩⟩)
            · exact .inr (.inl ⟨a, by simpa using b⟩)
          · exact .inl (by simpa using a)
        clear he
        obtain ⟨ov, hov⟩ : ∃ ov : Bool, overB qs qh ql qn qs hi lo n = ov := ⟨_, rfl⟩
        rw [hov] at CO
        have HOV := Lib.hid hov
        clear hov
        cases ov with
        | false =>
          rcases key with k1 | ⟨rfl, k1⟩ | ⟨rfl, rfl, k1⟩
          all_goals
            go_wp2_with fail
            go_region_held3 (fun w' => (∀ b o, b < wr.heap.size → w'.cell? ⟨b, o, none⟩ = wr.cell? ⟨b, o, none⟩) ∧ wr.heap.size ≤ w'.heap.size ∧ Hid (Below wr.heap.size wr w'))
              ((first | assumption | exact keep0 _ | exact keep1 (by assumption) (by assumption) | exact keepD (by assumption) | exact keepB (by assumption) (by assumption) | exact keepA (by assumption) _ | exact ⟨fun _ _ _ => rfl, Nat.le_refl _, Below.refl _ _⟩))
              (first | (go_at_call 46; refine (CO.out _).mono ?_; rintro e w2 ⟨rfl, hb2⟩))
            go_wp2
            go_ret
            exact ⟨C, _, HR.out, HON.out, .inr HOV.out, by rw [HSL.out]; rfl, (HB.out.trans (HBW.out.mono HB.out.size)).trans ((keepBelow (by assumption)).mono (by omega))⟩
        | true =>
          have hnn := over_n HQ.out HP.out HOV.out
          simp only at hnn
          have hlt : qn < n := by
            rcases Int.lt_or_le qn n with hx | hx
            · exact hx
            · have := over_eq HQ.out HP.out HOV.out hx
              injection this with _ e1 e2 e3
              exact absurd ⟨e1, e2, e3⟩ HE.out
          have hq0 := (ok_n HQ.out).1
          simp only at hq0
          have CB := Lib.hid (fun w => CA.out w hq0 (by omega))
          obtain ⟨bv, hbv⟩ : ∃ bv, bitI qs hi lo qn = bv := ⟨_, rfl⟩
          have hb01 : bv = 0 ∨ bv = 1 := by rw [← hbv]; exact PV.bit01 ⟨qs, hi, lo, n⟩ qn
          rw [hbv] at CB
          have HBV : Hid (PV.bit ⟨qs, hi, lo, n⟩ qn = bv) := hbv
          clear hbv
          rcases key with k1 | ⟨rfl, k1⟩ | ⟨rfl, rfl, k1⟩
          all_goals
            go_wp2_with fail
            go_region_held3 (fun w' => (∀ b o, b < wr.heap.size → w'.cell? ⟨b, o, none⟩ = wr.cell? ⟨b, o, none⟩) ∧ wr.heap.size ≤ w'.heap.size ∧ Hid (Below wr.heap.size wr w'))
              ((first | assumption | exact keep0 _ | exact keep1 (by assumption) (by assumption) | exact keepD (by assumption) | exact keepB (by assumption) (by assumption) | exact keepA (by assumption) _ | exact ⟨fun _ _ _ => rfl, Nat.le_refl _, Below.refl _ _⟩))
              (first | (go_at_call 46; refine (CO.out _).mono ?_; rintro e w2 ⟨rfl, hb2⟩))
            obtain ⟨fc2, z2, H2⟩ : (∀ b o, b < wr.heap.size → w2.cell? ⟨b, o, none⟩ = wr.cell? ⟨b, o, none⟩) ∧ wr.heap.size ≤ w2.heap.size ∧ Hid (Below wr.heap.size wr w2) := by assumption
            have z3 : w.heap.size < w2.heap.size := by omega
            have z4 : g < w2.heap.size := by omega
            rcases hb01 with rfl | rfl
            all_goals
              go_wp2
              go_region_held3 (fun w' => (∀ b o, b < w2.heap.size → w'.cell? ⟨b, o, none⟩ = w2.cell? ⟨b, o, none⟩) ∧ w2.heap.size ≤ w'.heap.size ∧ Hid (Below w2.heap.size w2 w'))
                ((first | assumption | exact keep0 _ | exact keep1 (by assumption) (by assumption) | exact keepD (by assumption) | exact keepB (by assumption) (by assumption) | exact keepA (by assumption) _ | exact ⟨fun _ _ _ => rfl, Nat.le_refl _, Below.refl _ _⟩))
                (first | (go_at_call 132; refine (CB.out _).mono ?_; rintro e w3 ⟨rfl, hb3⟩))
              obtain ⟨fc3, z5, H3⟩ : (∀ b o, b < w2.heap.size → w3.cell? ⟨b, o, none⟩ = w2.cell? ⟨b, o, none⟩) ∧ w2.heap.size ≤ w3.heap.size ∧ Hid (Below w2.heap.size w2 w3) := by assumption
              go_wp2
              first
                | (go_roundg l.size
                   case measure => (simp [Tr.size] at hsz; omega)
                   case rel => exact ⟨⟨.left C g _ h r, l, HR.out, ⟨HNE.out, HOV.out, HBV.out, HON.out⟩, Nat.le_refl _, rfl⟩, below_step HBW.out (below_step H2.out H3.out)⟩)
                | (go_roundg r.size
                   case measure => (simp [Tr.size] at hsz; omega)
                   case rel => exact ⟨⟨.right C g _ h l, r, HR.out, ⟨HNE.out, HOV.out, by rw [HBV.out]; decide, HON.out⟩, Nat.le_refl _, rfl⟩, below_step HBW.out (below_step H2.out H3.out)⟩)

end Go.Proofs.Ytmljdjakbbedlaa

namespace Go.Proofs.Ytmljdjakbbedlaa

/-- The first fault of a list, each element having one (0: none). -/
def firstF {α : Type} (f : α → Int) : List α → Int
  | [] => 0
  | r :: l => if f r = 0 then firstF f l else f r
def NoneTo {α : Type} (f : α → Int) (l : List α) (k : Nat) : Prop := firstF f (l.take k) = 0

theorem firstF_append {α : Type} (f : α → Int) : ∀ (a b : List α), firstF f a = 0 → firstF f (a ++ b) = firstF f b
  | [], _, _ => rfl
  | r :: a, b, h => by
    unfold firstF at h
    by_cases hf : f r = 0
    · rw [if_pos hf] at h
      rw [List.cons_append, show firstF f (r :: (a ++ b)) = if f r = 0 then firstF f (a ++ b) else f r from rfl, if_pos hf]
      exact firstF_append f a b h
    · rw [if_neg hf] at h
      exact absurd h hf
theorem firstF_at {α : Type} {f : α → Int} {l : List α} {k : Nat} {r : α} (h : NoneTo f l k) (hk : l[k]? = some r) (hf : ¬ f r = 0) : firstF f l = f r := by
  have e : l = l.take k ++ l.drop k := (List.take_append_drop k l).symm
  have hl : k < l.length := (List.getElem?_eq_some_iff.1 hk).1
  have e2 : l.drop k = r :: l.drop (k + 1) := by
    rw [List.drop_eq_getElem_cons hl]
    rw [List.getElem?_eq_getElem hl] at hk
    injection hk with hk
    rw [hk]
  rw [e, firstF_append _ _ _ h, e2]
  unfold firstF
  rw [if_neg hf]
theorem noneTo_succ {α : Type} {f : α → Int} {l : List α} {k : Nat} {r : α} (h : NoneTo f l k) (hk : l.take (k + 1) = l.take k ++ [r]) (hf : f r = 0) : NoneTo f l (k + 1) := by
  unfold NoneTo
  rw [hk, firstF_append _ _ _ h]
  unfold firstF
  rw [if_pos hf]
  rfl
theorem firstF_end {α : Type} {f : α → Int} {l : List α} {k : Nat} (h : NoneTo f l k) (hl : l.length = k) : firstF f l = 0 := by
  unfold NoneTo at h
  rwa [← hl, List.take_length] at h

theorem fault_here {α : Type} {f : α → Int} {l : List α} {k : Nat} {x : α} {v u r : Int} (h : NoneTo f l k) (hk : l[k]? = some x) (hf : f x = u) (hr : r = firstF f l) (hu : u = v) (hv : ¬ v = 0) : v = r := by
  rw [hr, firstF_at h hk (by rw [hf, hu]; exact hv), hf, hu]

/-! The same by places. -/
theorem range_at {n k : Nat} (h : k < n) : (List.range n)[k]? = some k := List.getElem?_range h
theorem range_take {n k : Nat} (h : k < n) : (List.range n).take (k + 1) = (List.range n).take k ++ [k] := by
  rw [List.take_add_one, range_at h]
  rfl
end Go.Proofs.Ytmljdjakbbedlaa

namespace Go.Proofs.Ytmljdjakbbedlaa

structure RouteV where
  p : PV
  hop : Int

structure RouteV.Ok (r : RouteV) : Prop where
  a : 0 ≤ r.p.hi ∧ r.p.hi < 18446744073709551616
  b : 0 ≤ r.p.lo ∧ r.p.lo < 18446744073709551616
  c : -9223372036854775808 ≤ r.p.n ∧ r.p.n ≤ 9223372036854775807
  d : -9223372036854775808 ≤ r.hop ∧ r.hop ≤ 9223372036854775807

def PV.chk (p : PV) : Int := Go.Proofs.Ytmljdjakbbedlaa.chk p.six p.hi p.lo p.n
def hasR (l : List RouteV) (p : PV) : Bool := l.any (fun r => decide (r.p = p))
/-- The fault of a route behind some others. -/
def routeF (before : List RouteV) (p : PV) (hop : Int) : Int :=
  if ¬ p.chk = 0 then p.chk else if hop < 1 ∨ 999 < hop then 2 else if hasR before p = true then 8 else 0
def routeAt (l : List RouteV) (i : Nat) : Int := match l[i]? with
  | some s => routeF (l.take i) s.p s.hop
  | none => 0
/-- The first fault of a list of routes. -/
def routesE (l : List RouteV) : Int := firstF (routeAt l) (List.range l.length)
def routesF (l : List RouteV) : Int := if 60 < l.length then 1 else routesE l

/-- The hop of a prefix. -/
def getR : List RouteV → PV → Int
  | [], _ => 0
  | r :: l, p => if r.p = p then r.hop else getR l p
/-- Routes that may be, no prefix twice. -/
def Valid (l : List RouteV) : Prop := (∀ r ∈ l, r.p.Ok ∧ 1 ≤ r.hop ∧ r.hop ≤ 999) ∧ (l.map RouteV.p).Nodup

theorem getR_none {l : List RouteV} {p : PV} (h : hasR l p = false) : getR l p = 0 := by
  induction l with
  | nil => rfl
  | cons r l ih =>
    unfold hasR at h
    simp only [List.any_cons, Bool.or_eq_false_iff, decide_eq_false_iff_not] at h
    unfold getR
    rw [if_neg h.1]
    exact ih h.2
theorem getR_some {l : List RouteV} {p : PV} (hv : ∀ r ∈ l, 1 ≤ r.hop) (h : hasR l p = true) : ¬ getR l p = 0 := by
  induction l with
  | nil => simp [hasR] at h
  | cons r l ih =>
    unfold getR
    by_cases hp : r.p = p
    · rw [if_pos hp]; have := hv r (by simp); omega
    · rw [if_neg hp]
      unfold hasR at h
      simp only [List.any_cons, Bool.or_eq_true, decide_eq_true_eq] at h
      rcases h with h | h
      · exact absurd h hp
      · exact ih (fun r hr => hv r (by simp [hr])) h
theorem getR_snoc {l : List RouteV} {p p' : PV} {hop : Int} (h : hasR l p = false) : getR (l ++ [⟨p, hop⟩]) p' = if p' = p then hop else getR l p' := by
  induction l with
  | nil =>
    show (if p = p' then hop else getR [] p') = _
    by_cases e : p' = p
    · rw [if_pos e, if_pos e.symm]
    · have e' : ¬ p = p' := fun h => e h.symm
      rw [if_neg e, if_neg e']
  | cons r l ih =>
    unfold hasR at h
    simp only [List.any_cons, Bool.or_eq_false_iff, decide_eq_false_iff_not] at h
    show (if r.p = p' then r.hop else getR (l ++ [⟨p, hop⟩]) p') = _
    rw [ih h.2]
    conv => rhs; unfold getR
    by_cases e : r.p = p'
    · have : ¬ p' = p := fun h' => h.1 (e.trans h')
      rw [if_pos e, if_neg this, if_pos e]
    · rw [if_neg e, if_neg e]
theorem valid_snoc {l : List RouteV} {p : PV} {hop : Int} (hv : Valid l) (hp : p.Ok) (hh : 1 ≤ hop ∧ hop ≤ 999) (h : hasR l p = false) : Valid (l ++ [⟨p, hop⟩]) := by
  refine ⟨fun r hr => ?_, ?_⟩
  · rcases List.mem_append.1 hr with hr | hr
    · exact hv.1 r hr
    · simp at hr; subst hr; exact ⟨hp, hh.1, hh.2⟩
  · rw [List.map_append, List.nodup_append]
    refine ⟨hv.2, by simp, fun a ha b hb e => ?_⟩
    simp at hb
    subst hb
    subst e
    obtain ⟨r, hr, he⟩ := List.mem_map.1 ha
    unfold hasR at h
    rw [List.any_eq_false] at h
    exact h r hr (by simpa using he)

end Go.Proofs.Ytmljdjakbbedlaa

namespace Go.Proofs.Ytmljdjakbbedlaa

/-- The first place of a list where a test holds; -1: there is none. -/
def firstAt {α : Type} (f : α → Bool) : List α → Int
  | [] => -1
  | x :: l => if f x = true then 0 else if firstAt f l < 0 then -1 else firstAt f l + 1
def NoneYet {α : Type} (f : α → Bool) (l : List α) (k : Nat) : Prop := ∀ x ∈ l.take k, f x = false

theorem noneYet_zero {α : Type} (f : α → Bool) (l : List α) : NoneYet f l 0 := fun x hx => by simp at hx
theorem noneYet_succ {α : Type} {f : α → Bool} {l : List α} {k : Nat} {x : α} (h : NoneYet f l k) (hk : l.take (k + 1) = l.take k ++ [x]) (hf : f x = false) : NoneYet f l (k + 1) := by
  intro y hy
  rw [hk, List.mem_append] at hy
  rcases hy with hy | hy
  · exact h y hy
  · rw [List.mem_singleton.1 hy]; exact hf
theorem firstAt_at {α : Type} {f : α → Bool} : ∀ {l : List α} {k : Nat} {x : α}, NoneYet f l k → l[k]? = some x → f x = true → firstAt f l = k
  | [], k, x, _, h, _ => by simp at h
  | y :: l, 0, x, _, h, hf => by
    simp at h
    subst h
    unfold firstAt
    rw [if_pos hf]
    rfl
  | y :: l, k + 1, x, hn, h, hf => by
    have hy : f y = false := hn y (by simp)
    have ih : firstAt f l = k := firstAt_at (fun z hz => hn z (by simp [hz])) (by simpa using h) hf
    unfold firstAt
    rw [if_neg (by rw [hy]; simp), ih, if_neg (by omega)]
    omega
theorem firstAt_none {α : Type} {f : α → Bool} : ∀ {l : List α}, (∀ x ∈ l, f x = false) → firstAt f l = -1
  | [], _ => rfl
  | y :: l, h => by
    unfold firstAt
    rw [if_neg (by rw [h y (by simp)]; simp), firstAt_none (l := l) (fun x hx => h x (by simp [hx]))]
    rfl
theorem firstAt_end {α : Type} {f : α → Bool} {l : List α} {k : Nat} (h : NoneYet f l k) (hl : l.length = k) : firstAt f l = -1 := by
  unfold NoneYet at h
  rw [← hl, List.take_length] at h
  exact firstAt_none h
/-- Either there is none, or it is a place, and the test holds there. -/
theorem firstAt_cases {α : Type} (f : α → Bool) : ∀ (l : List α), (firstAt f l = -1 ∧ ∀ x ∈ l, f x = false) ∨ ∃ (k : Nat) (x : α), firstAt f l = k ∧ l[k]? = some x ∧ f x = true
  | [] => .inl ⟨rfl, by simp⟩
  | y :: l => by
    by_cases hy : f y = true
    · exact .inr ⟨0, y, by unfold firstAt; rw [if_pos hy]; rfl, rfl, hy⟩
    · rcases firstAt_cases f l with ⟨h1, h2⟩ | ⟨k, x, h1, h2, h3⟩
      · refine .inl ⟨by unfold firstAt; rw [if_neg hy, h1]; rfl, fun x hx => ?_⟩
        rcases List.mem_cons.1 hx with rfl | hx
        · simpa using hy
        · exact h2 x hx
      · exact .inr ⟨k + 1, x, by unfold firstAt; rw [if_neg hy, h1, if_neg (by omega)]; omega, by simpa using h2, h3⟩

end Go.Proofs.Ytmljdjakbbedlaa

namespace Go.Proofs.Ytmljdjakbbedlaa
open Go.ChangeShapes Go.WideShapes Go.ChangeAt Go.RowKit

def RouteV.cells (r : RouteV) : List Value := [.bool r.p.six, .int .u64 r.p.hi, .int .u64 r.p.lo, .int .i64 r.p.n, .int .i64 r.hop]
theorem RouteV.cells_length (r : RouteV) : r.cells.length = 5 := rfl
/-- What is known of a slice of routes. -/
def IsRoutes (w : World) (A : Option Addr) (n c : Nat) (l : List RouteV) : Prop :=
  l.length = n ∧ (n ≤ c ∧ c ≤ maxLen) ∧ (∀ r ∈ l, r.Ok) ∧ Reads w w.heap.size 5 A n (l.flatMap RouteV.cells)
theorem IsRoutes.below {w w' : World} {A : Option Addr} {n c : Nat} {l : List RouteV} (h : IsRoutes w A n c l) (hb : Below w.heap.size w w') : IsRoutes w' A n c l :=
  ⟨h.1, h.2.1, h.2.2.1, (h.2.2.2.below hb).more hb.size⟩

set_option maxRecDepth 100000 in
theorem open_routes {H : Type} {enc : TypeId × Value → H} {W : World} {base : Nat} {sp : Nat → Bool} {held : Bool} {a0 : Option Addr} {len0 cap0 : Nat} {d : DataW H} {p : List MemPlace}
    (h : DataW.Trod enc Try.prog W base sp held 26 (.slice a0 len0 cap0) d p) : ∃ l : List RouteV, IsRoutes W a0 len0 cap0 l := by
  have hk : flat Try.prog 9 48 = some [none, some .u64, some .u64, some .i64, some .i64] := by kernel_rfl
  obtain ⟨css, hcl, hfit, hr, hl, hm⟩ := open_flats Try.underlying26 hk (by kernel_rfl) (by simp) h
  obtain ⟨l, rfl, hz⟩ := choose_list (f := RouteV.cells) (Q := RouteV.Ok) css (fun cs hc => by
    have hf := hfit cs hc
    clear hr hcl hfit
    obtain ⟨six, _, rfl, hf0⟩ := hf.bool_inv
    obtain ⟨hi, _, rfl, w1, hf1⟩ := hf0.int_inv
    obtain ⟨lo, _, rfl, w2, hf2⟩ := hf1.int_inv
    obtain ⟨n, _, rfl, w3, hf3⟩ := hf2.int_inv
    obtain ⟨hop, _, rfl, w4, hf4⟩ := hf3.int_inv
    obtain rfl := hf4.nil_inv
    exact ⟨⟨⟨six, hi, lo, n⟩, hop⟩, ⟨range_u64 w1, range_u64 w2, bounds_i64 w3, bounds_i64 w4⟩, rfl⟩)
  exact ⟨l, by simpa using hcl, ⟨hl, hm⟩, hz, by rw [List.flatMap_def]; exact hr⟩

/-- The table holds the routes. -/
def Holds (w : World) (B tb : Nat) (l : List RouteV) : Prop :=
  ∃ R c, Tab w B tb R c ∧ (∀ s, Inv s (fun _ => True) (R s)) ∧ (∀ p : PV, p.Ok → hopAt (R p.six) p = getR l p) ∧ c = l.length
theorem Holds.below {w w' : World} {B tb : Nat} {l : List RouteV} (h : Holds w B tb l) (hb : Below w.heap.size w w') : Holds w' B tb l := by
  obtain ⟨R, c, h1, h2⟩ := h
  exact ⟨R, c, h1.below hb, h2⟩
theorem holds_new (w : World) : Holds (w.alloc (.cells #[.pointer none, .pointer none, .int .i64 0] 190)) w.heap.size w.heap.size [] := by
  refine ⟨fun _ => .nil, 0, ⟨Blk.new _ _ _, Nat.le_refl _, fun _ => trivial, by simp [Tr.blocks]⟩, fun _ => trivial, fun _ _ => rfl, rfl⟩

theorem holds_put {w' : World} {B tb G1 G2 : Nat} {R : Bool → Tr} {c : Int} {l : List RouteV} {p : PV} {hop : Int} (hI : ∀ s, Inv s (fun _ => True) (R s)) (hm : ∀ p : PV, p.Ok → hopAt (R p.six) p = getR l p) (hc : c = l.length)
    (hp : p.Ok) (hh : 1 ≤ hop ∧ hop ≤ 999) (hn : hasR l p = false) (hT : Tab w' B tb (upd R p.six (putT p hop G1 G2 (R p.six))) (if hopAt (R p.six) p = 0 then c + 1 else c)) : Holds w' B tb (l ++ [⟨p, hop⟩]) := by
  rw [hm p hp, getR_none hn, if_pos rfl] at hT
  refine ⟨_, _, hT, fun s => ?_, fun p' hp' => ?_, by rw [hc]; simp⟩
  · unfold upd
    split
    · rename_i e; subst e
      exact inv_put hp rfl (by omega) _ _ (hI p.six) trivial (fun _ _ _ _ _ _ _ _ => trivial)
    · exact hI s
  · rw [getR_snoc hn]
    unfold upd
    by_cases e : p'.six = p.six
    · rw [if_pos e]
      have := hopAt_put (hop := hop) (G1 := G1) (G2 := G2) hp rfl p' hp' (R p.six) _ (hI p.six)
      rw [this, ← e, hm p' hp']
    · have e2 : ¬ p' = p := fun h => e (by rw [h])
      rw [if_neg e, if_neg e2]
      exact hm p' hp'

end Go.Proofs.Ytmljdjakbbedlaa

namespace Go.Proofs.Ytmljdjakbbedlaa
open Go.ChangeShapes Go.WideShapes Go.ChangeAt Go.RowKit

set_option maxRecDepth 100000 in
/-- '==' on addresses. -/
theorem eqAV (d : Nat) (six : Bool) (hi lo : Int) (six' : Bool) (hi' lo' : Int) (w : World) : (Op.equalIn (d + 1 + 1) 35 (.agg #[.bool six, .int .u64 hi, .int .u64 lo]) (.agg #[.bool six', .int .u64 hi', .int .u64 lo'])).run Try.prog w = .ok (six == six' && (hi == hi' && lo == lo')) w := by
  have hS : Try.prog.underlying 35 = some (.struct (Try.prog.fieldsOf 35)) := by kernel_rfl
  have hp : Try.prog.stoodInHeld 35 = false := by kernel_rfl
  rw [run_equalIn_agg w (d + 1) 35 _ _ hS hp]
  clear hS hp
  have a1 := Try.isAgg33
  have z1 := Try.sizeOf33
  have a2 := Try.isAgg4
  have z2 := Try.sizeOf4
  simp only [Program.fieldsOf, Try.underlying35]
  go_simp
  by_cases h1 : six = six' <;> by_cases h2 : hi = hi' <;> by_cases h3 : lo = lo' <;> simp [h1, h2, h3]

set_option maxRecDepth 100000 in
/-- '==' on prefixes. -/
theorem eqPVd (d : Nat) (p q : PV) (w : World) : (Op.equalIn (d + 1 + 1 + 1) 42 p.val q.val).run Try.prog w = .ok (decide (p = q)) w := by
  obtain ⟨six, hi, lo, n⟩ := p
  obtain ⟨six', hi', lo', n'⟩ := q
  have hS : Try.prog.underlying 42 = some (.struct (Try.prog.fieldsOf 42)) := by kernel_rfl
  have hp : Try.prog.stoodInHeld 42 = false := by kernel_rfl
  have inner := fun w => eqAV d six hi lo six' hi' lo' w
  have e : (decide ((⟨six, hi, lo, n⟩ : PV) = ⟨six', hi', lo', n'⟩)) = ((six == six' && (hi == hi' && lo == lo')) && n == n') := by
    rw [Bool.eq_iff_iff]
    simp
    constructor
    · rintro ⟨a, b, c, d⟩; exact ⟨⟨a, b, c⟩, d⟩
    · rintro ⟨⟨a, b, c⟩, d⟩; exact ⟨a, b, c, d⟩
  rw [e]
  unfold PV.val
  simp only
  rw [run_equalIn_agg w (d + 1 + 1) 42 _ _ hS hp]
  clear hS hp e
  generalize (six == six' && (hi == hi' && lo == lo')) = b at *
  have a1 := Try.isAgg35
  have z1 := Try.sizeOf35
  have a2 := Try.isAgg3
  have z2 := Try.sizeOf3
  simp only [Program.fieldsOf, Try.underlying42]
  go_simp
  cases b <;> by_cases h4 : n = n' <;> simp [h4]
theorem eqPV (p q : PV) (w : World) : (Op.equalIn 10000 42 p.val q.val).run Try.prog w = .ok (decide (p = q)) w := eqPVd 9997 p q w

def RouteV.val (r : RouteV) : Value := .agg #[.bool r.p.six, .int .u64 r.p.hi, .int .u64 r.p.lo, .int .i64 r.p.n, .int .i64 r.hop]
theorem RouteV.ext' {r r' : RouteV} (h1 : r.p = r'.p) (h2 : r.hop = r'.hop) : r = r' := by cases r; cases r'; simp_all
instance : DecidableEq RouteV := fun a b => decidable_of_iff (a.p = b.p ∧ a.hop = b.hop) ⟨fun h => RouteV.ext' h.1 h.2, fun h => by subst h; exact ⟨rfl, rfl⟩⟩
set_option maxRecDepth 100000 in
/-- '==' on routes. -/
theorem eqRV (r r' : RouteV) (w : World) : (Op.equalIn 10000 48 r.val r'.val).run Try.prog w = .ok (decide (r = r')) w := by
  obtain ⟨⟨six, hi, lo, n⟩, h⟩ := r
  obtain ⟨⟨six', hi', lo', n'⟩, h'⟩ := r'
  have hS : Try.prog.underlying 48 = some (.struct (Try.prog.fieldsOf 48)) := by kernel_rfl
  have hp : Try.prog.stoodInHeld 48 = false := by kernel_rfl
  have inner := fun w => eqPVd 9996 ⟨six, hi, lo, n⟩ ⟨six', hi', lo', n'⟩ w
  have e : (decide ((⟨⟨six, hi, lo, n⟩, h⟩ : RouteV) = ⟨⟨six', hi', lo', n'⟩, h'⟩)) = (decide ((⟨six, hi, lo, n⟩ : PV) = ⟨six', hi', lo', n'⟩) && h == h') := by
    rw [Bool.eq_iff_iff]
    simp
  rw [e]
  unfold RouteV.val
  unfold PV.val at inner
  simp only at inner ⊢
  rw [show (10000 : Nat) = 9999 + 1 from rfl, run_equalIn_agg w 9999 48 _ _ hS hp]
  clear hS hp e
  generalize decide ((⟨six, hi, lo, n⟩ : PV) = ⟨six', hi', lo', n'⟩) = b at *
  have a1 := Try.isAgg42
  have z1 := Try.sizeOf42
  have a2 := Try.isAgg3
  have z2 := Try.sizeOf3
  simp only [Program.fieldsOf, Try.underlying48]
  go_simp
  cases b <;> by_cases h4 : h = h' <;> simp [h4]

end Go.Proofs.Ytmljdjakbbedlaa

namespace Go.Proofs.Ytmljdjakbbedlaa
open Go.ChangeShapes Go.WideShapes Go.ChangeAt Go.RowKit

theorem hopAt_over {g : Nat} {q p : PV} {h : Int} {l r : Tr} (hne : ¬ q = p) (ho : q.over p = false) : hopAt (.node g q h l r) p = 0 := by
  unfold hopAt
  rw [if_neg hne, if_pos ho]

set_option maxRecDepth 100000 in
set_option maxHeartbeats 1600000 in
theorem get_any {w : World} {B tb : Nat} {R : Bool → Tr} {c : Int} (h : Tab w B tb R c) (p : PV) (hp : p.Ok) (hI : ∀ s, Inv s (fun _ => True) (R s)) :
    Calls Try.prog 228 #[.pointer (some ⟨tb, 0, none⟩), p.val] w fun e w' => e = .returned (.int .i64 (hopAt (R p.six) p)) ∧ Below w.heap.size w w' := by
  have HT := Lib.hid h
  have HI := Lib.hid hI
  have CP := Lib.hid (fun (Y : World) (hb : Below w.heap.size w Y) => place_any (h.below hb) p hp hI)
  obtain ⟨V, hV⟩ : ∃ V, hopAt (R p.six) p = V := ⟨_, rfl⟩
  have HV := Lib.hid hV
  rw [hV]
  obtain ⟨six, hi, lo, n⟩ := p
  clear h hp hI hV
  unfold PV.val at CP ⊢
  simp only at CP ⊢
  go_enter Try.func228, Try.ntmps228
  go_wp2_with fail
  refine (CP.out _ ((Below.refl _ _).alloc (Nat.le_refl _) _)).mono ?_
  rintro e X ⟨C, cur, hR, hon, hst, rfl, hb⟩
  obtain ⟨HBX, hsx, hbx⟩ := box1 (cs := [.bool six, .int .u64 hi, .int .u64 lo, .int .i64 n]) hb
  have e0 := hbx 0 _ rfl
  have e1 := hbx 1 _ rfl
  have e2 := hbx 2 _ rfl
  have e3 := hbx 3 _ rfl
  have hTX := HT.out.below HBX
  have hs1 := (hTX.slot hR).1
  have HTX := Lib.hid hTX
  have HB := Lib.hid HBX
  have HR := Lib.hid hR
  have HV2 : Hid (V = hopAt cur ⟨six, hi, lo, n⟩) := by show _ = _; rw [← HV.out, hR]; exact plug_hop (p := ⟨six, hi, lo, n⟩) C cur hon
  obtain ⟨sl, hsl⟩ : ∃ sl, Ctx.slot tb six C = sl := ⟨_, rfl⟩
  simp only at hs1
  rw [hsl] at hs1 ⊢
  clear hsl hb hbx HBX hTX hR hon
  cases cur with
  | nil =>
    change X.cell? sl = some (.pointer none) at hs1
    have HV3 : Hid (V = 0) := HV2.out
    go_wp2
    try go_quiet (fail)
    try go_wp2
    go_ret
    exact ⟨ret_int HV3.out.symm, by (repeat' first | with_reducible exact HB.out | with_reducible exact Below.refl _ _ | with_reducible refine Below.drew ?_ | with_reducible refine below_drewN ?_ _ | with_reducible refine Below.setCell ?_ ?_ _ | with_reducible refine Below.alloc ?_ ?_ _ | (simp; done) | (simp; omega) | omega)⟩
  | node g q h l r =>
    obtain ⟨hblk, hgm⟩ := HTX.out.node HR.out
    have n0 := hblk.cell 0
    have n1 := hblk.cell 1
    have n2 := hblk.cell 2
    have n3 := hblk.cell 3
    have n4 := hblk.cell 4
    have hgl := hblk.lt
    obtain ⟨qs, qh, ql, qn⟩ := q
    simp only [nodeCs] at n0 n1 n2 n3 n4
    simp at n0 n1 n2 n3 n4
    change X.cell? sl = some (.pointer (some ⟨g, 0, none⟩)) at hs1
    have HEQ := fun w => eqPV ⟨qs, qh, ql, qn⟩ ⟨six, hi, lo, n⟩ w
    unfold PV.val at HEQ
    simp only at HEQ
    clear hgm hblk
    by_cases he : (⟨qs, qh, ql, qn⟩ : PV) = ⟨six, hi, lo, n⟩
    · have HV3 : Hid (V = h) := by show _ = _; rw [HV2.out]; unfold hopAt; rw [if_pos he]
      rw [decide_eq_true he] at HEQ
      clear he hst
      go_wp2
      go_quiet (fail)
      go_wp2
      try go_quiet (fail)
      try go_wp2
      go_ret
      exact ⟨ret_int HV3.out.symm, by (repeat' first | with_reducible exact HB.out | with_reducible exact Below.refl _ _ | with_reducible refine Below.drew ?_ | with_reducible refine below_drewN ?_ _ | with_reducible refine Below.setCell ?_ ?_ _ | with_reducible refine Below.alloc ?_ ?_ _ | (simp; done) | (simp; omega) | omega)⟩
    · have HV3 : Hid (V = 0) := by
        show _ = _
        rw [HV2.out]
        exact hopAt_over he (by rcases hst with hx | hx; exact absurd hx he; exact hx)
      rw [decide_eq_false he] at HEQ
      clear he hst
      go_wp2
      go_quiet (fail)
      go_wp2
      try go_quiet (fail)
      try go_wp2
      go_ret
      exact ⟨ret_int HV3.out.symm, by (repeat' first | with_reducible exact HB.out | with_reducible exact Below.refl _ _ | with_reducible refine Below.drew ?_ | with_reducible refine below_drewN ?_ _ | with_reducible refine Below.setCell ?_ ?_ _ | with_reducible refine Below.alloc ?_ ?_ _ | (simp; done) | (simp; omega) | omega)⟩

end Go.Proofs.Ytmljdjakbbedlaa

namespace Go.Proofs.Ytmljdjakbbedlaa
open Classical
set_option linter.unusedVariables false

/-- What is left of a node without a hop. -/
def onlyZ (g : Nat) (q : PV) : Tr → Tr → Tr
  | .nil, r => r
  | .node g1 q1 h1 l1 r1, .nil => .node g1 q1 h1 l1 r1
  | .node g1 q1 h1 l1 r1, .node g2 q2 h2 l2 r2 => .node g q 0 (.node g1 q1 h1 l1 r1) (.node g2 q2 h2 l2 r2)
/-- What is left of a node. -/
def onlyT : Tr → Tr
  | .nil => .nil
  | .node g q h l r => if h = 0 then onlyZ g q l r else .node g q h l r

theorem only_keep {g : Nat} {q : PV} {h : Int} {l r : Tr} (hh : ¬ h = 0) : onlyT (.node g q h l r) = .node g q h l r := by
  simp [onlyT, hh]
theorem only_nil {g : Nat} {q : PV} {r : Tr} : onlyT (.node g q 0 .nil r) = r := by
  simp [onlyT, onlyZ]
theorem only_left {g : Nat} {q : PV} {l : Tr} : onlyT (.node g q 0 l .nil) = l := by
  cases l <;> simp [onlyT, onlyZ]
theorem only_two {g g1 g2 : Nat} {q q1 q2 : PV} {h1 h2 : Int} {l1 r1 l2 r2 : Tr} :
    onlyT (.node g q 0 (.node g1 q1 h1 l1 r1) (.node g2 q2 h2 l2 r2)) = .node g q 0 (.node g1 q1 h1 l1 r1) (.node g2 q2 h2 l2 r2) := by
  simp [onlyT, onlyZ]

/-- The four ways. -/
theorem only_ways (g : Nat) (q : PV) (h : Int) (l r : Tr) :
    onlyT (.node g q h l r) = .node g q h l r ∨ (h = 0 ∧ l = .nil ∧ onlyT (.node g q h l r) = r) ∨ (h = 0 ∧ r = .nil ∧ onlyT (.node g q h l r) = l) := by
  by_cases hh : h = 0
  · subst hh
    cases l with
    | nil => exact .inr (.inl ⟨rfl, rfl, only_nil⟩)
    | node g1 q1 h1 l1 r1 =>
      cases r with
      | nil => exact .inr (.inr ⟨rfl, rfl, only_left⟩)
      | node g2 q2 h2 l2 r2 => exact .inl only_two
  · exact .inl (only_keep hh)

theorem hopAt_only {six : Bool} {U : PV → Prop} {t : Tr} (hi : Inv six U t) {p : PV} (hp : p.Ok) : hopAt (onlyT t) p = hopAt t p := by
  cases t with
  | nil => rfl
  | node g q h l r =>
    obtain ⟨hq, h6, _, _, hl, hr⟩ := hi
    rcases only_ways g q h l r with e | ⟨rfl, rfl, e⟩ | ⟨rfl, rfl, e⟩
    · rw [e]
    · rw [e]
      show _ = if q = p then (0 : Int) else if q.over p = false then 0 else if p.bit q.n = 0 then hopAt .nil p else hopAt r p
      by_cases h0 : hopAt r p = 0
      · rw [h0]
        split
        · rfl
        · split
          · rfl
          · split <;> rfl
      · obtain ⟨u1, u2, u3⟩ := hopAt_under hq hp hr h0
        rw [if_neg (by rintro rfl; omega), if_neg (by rw [u2]; simp), if_neg (by simpa using u3)]
    · rw [e]
      show _ = if q = p then (0 : Int) else if q.over p = false then 0 else if p.bit q.n = 0 then hopAt l p else hopAt .nil p
      by_cases h0 : hopAt l p = 0
      · rw [h0]
        split
        · rfl
        · split
          · rfl
          · split <;> rfl
      · obtain ⟨u1, u2, u3⟩ := hopAt_under hq hp hl h0
        rw [if_neg (by rintro rfl; omega), if_neg (by rw [u2]; simp), if_pos (by simpa using u3)]

/-- What is asked of all below a place is asked of all below those. -/
def Closed (U : PV → Prop) : Prop := ∀ x y b, x.Ok → y.Ok → U x → Under x b y → U y
theorem closed_true : Closed fun _ => True := fun _ _ _ _ _ _ _ => trivial
theorem closed_under {q : PV} (hq : q.Ok) (b : Bool) : Closed (Under q b) := by
  intro x y b' hx hy hU hV
  refine ⟨by have := hU.1; have := hV.1; omega, over_trans hq hx hy hU.2.1 hV.2.1, ?_⟩
  rw [← over_bit hx hy hV.2.1 (ok_n hq).1 hU.1]
  exact hU.2.2

theorem inv_only {six : Bool} {U : PV → Prop} (hc : Closed U) {t : Tr} (hi : Inv six U t) : Inv six U (onlyT t) := by
  cases t with
  | nil => trivial
  | node g q h l r =>
    rcases only_ways g q h l r with e | ⟨_, _, e⟩ | ⟨_, _, e⟩
    · rw [e]; exact hi
    · rw [e]; exact hi.2.2.2.2.2.weak fun p hp hu => hc q p _ hi.1 hp hi.2.2.1 hu
    · rw [e]; exact hi.2.2.2.2.1.weak fun p hp hu => hc q p _ hi.1 hp hi.2.2.1 hu

theorem only_blocks {t : Tr} : (onlyT t).blocks.Sublist t.blocks := by
  cases t with
  | nil => exact List.Sublist.refl _
  | node g q h l r =>
    rcases only_ways g q h l r with e | ⟨_, rfl, e⟩ | ⟨_, rfl, e⟩
    · rw [e]; exact List.Sublist.refl _
    · rw [e]; exact List.Sublist.cons _ (List.sublist_append_right _ _)
    · rw [e]; exact List.Sublist.cons _ (List.sublist_append_left _ _)
theorem only_lies {w : World} {B : Nat} {t : Tr} (h : t.Lies w B) : (onlyT t).Lies w B := by
  cases t with
  | nil => trivial
  | node g q hh l r =>
    rcases only_ways g q hh l r with e | ⟨_, rfl, e⟩ | ⟨_, rfl, e⟩
    · rw [e]; exact h
    · rw [e]; exact h.2.2.2
    · rw [e]; exact h.2.2.1

theorem plug_congr {p : PV} : ∀ (C : Ctx) (t t' : Tr), hopAt t p = hopAt t' p → hopAt (C.plug t) p = hopAt (C.plug t') p
  | .top, _, _, h => h
  | .left C g q hh r, t, t', h => plug_congr C _ _ (by
      show (if q = p then hh else if q.over p = false then 0 else if p.bit q.n = 0 then hopAt t p else hopAt r p) = if q = p then hh else if q.over p = false then 0 else if p.bit q.n = 0 then hopAt t' p else hopAt r p
      rw [h])
  | .right C g q hh l, t, t', h => plug_congr C _ _ (by
      show (if q = p then hh else if q.over p = false then 0 else if p.bit q.n = 0 then hopAt l p else hopAt t p) = if q = p then hh else if q.over p = false then 0 else if p.bit q.n = 0 then hopAt l p else hopAt t' p
      rw [h])
theorem plug_set {six : Bool} : ∀ (C : Ctx) (t t' : Tr) (U : PV → Prop), Closed U → Inv six U (C.plug t) → (∀ U', Closed U' → Inv six U' t → Inv six U' t') → Inv six U (C.plug t')
  | .top, _, _, U, hc, hi, h => h U hc hi
  | .left C g q hh r, t, t', U, hc, hi, h => plug_set C (.node g q hh t r) (.node g q hh t' r) U hc hi fun U' hc' hi' =>
      ⟨hi'.1, hi'.2.1, hi'.2.2.1, hi'.2.2.2.1, h _ (closed_under hi'.1 true) hi'.2.2.2.2.1, hi'.2.2.2.2.2⟩
  | .right C g q hh l, t, t', U, hc, hi, h => plug_set C (.node g q hh l t) (.node g q hh l t') U hc hi fun U' hc' hi' =>
      ⟨hi'.1, hi'.2.1, hi'.2.2.1, hi'.2.2.2.1, hi'.2.2.2.2.1, h _ (closed_under hi'.1 false) hi'.2.2.2.2.2⟩

/-- The tree behind a cut, at its place: with the node above, if there is one. -/
def cutC (new : Tr) : Ctx → Tr
  | .top => new
  | .left C g q h r => C.plug (onlyT (.node g q h new r))
  | .right C g q h l => C.plug (onlyT (.node g q h l new))

theorem cut_hops {six : Bool} {C : Ctx} {g : Nat} {p : PV} {h : Int} {l r : Tr} (hi : Inv six (fun _ => True) (C.plug (.node g p h l r))) (hon : C.OnPath p) {x : PV} (hx : x.Ok) :
    hopAt (cutC (onlyT (.node g p 0 l r)) C) x = if x = p then 0 else hopAt (C.plug (.node g p h l r)) x := by
  have h0 : hopAt (C.plug (.node g p 0 l r)) x = if x = p then 0 else hopAt (C.plug (.node g p h l r)) x := by
    by_cases e : x = p
    · subst e
      rw [if_pos rfl, plug_hop C _ hon]
      show (if x = x then (0 : Int) else _) = 0
      rw [if_pos rfl]
    · rw [if_neg e]
      refine plug_congr C _ _ ?_
      have e2 : ¬ p = x := fun e' => e e'.symm
      simp only [hopAt, if_neg e2]
  have hi0 : Inv six (fun _ => True) (C.plug (.node g p 0 l r)) := plug_set C _ _ _ closed_true hi fun U' _ h' => ⟨h'.1, h'.2.1, h'.2.2.1, ⟨Int.le_refl _, by omega⟩, h'.2.2.2.2⟩
  obtain ⟨U', hi1⟩ := inv_plug C _ _ hi0
  have h1 : hopAt (C.plug (onlyT (.node g p 0 l r))) x = hopAt (C.plug (.node g p 0 l r)) x := plug_congr C _ _ (hopAt_only hi1 hx)
  have hi2 : Inv six (fun _ => True) (C.plug (onlyT (.node g p 0 l r))) := plug_set C _ _ _ closed_true hi0 fun U' hc h' => inv_only hc h'
  rw [← h0, ← h1]
  cases C with
  | top => rfl
  | left C g' q' h' r' =>
    obtain ⟨U'', hi3⟩ := inv_plug C _ _ hi2
    exact plug_congr C _ _ (hopAt_only hi3 hx)
  | right C g' q' h' l' =>
    obtain ⟨U'', hi3⟩ := inv_plug C _ _ hi2
    exact plug_congr C _ _ (hopAt_only hi3 hx)
theorem cut_inv {six : Bool} {C : Ctx} {g : Nat} {p : PV} {h : Int} {l r : Tr} (hi : Inv six (fun _ => True) (C.plug (.node g p h l r))) :
    Inv six (fun _ => True) (cutC (onlyT (.node g p 0 l r)) C) := by
  have hi0 : Inv six (fun _ => True) (C.plug (.node g p 0 l r)) := plug_set C _ _ _ closed_true hi fun U' _ h' => ⟨h'.1, h'.2.1, h'.2.2.1, ⟨Int.le_refl _, by omega⟩, h'.2.2.2.2⟩
  have hi2 : Inv six (fun _ => True) (C.plug (onlyT (.node g p 0 l r))) := plug_set C _ _ _ closed_true hi0 fun U' hc h' => inv_only hc h'
  cases C with
  | top => exact hi2
  | left C g' q' h' r' => exact plug_set C _ _ _ closed_true hi2 fun U' hc h' => inv_only hc h'
  | right C g' q' h' l' => exact plug_set C _ _ _ closed_true hi2 fun U' hc h' => inv_only hc h'

end Go.Proofs.Ytmljdjakbbedlaa

namespace Go.Proofs.Ytmljdjakbbedlaa

def hasB (r : RouteV) (six : Bool) (hi lo : Int) : Bool := inB r.p.six r.p.hi r.p.lo r.p.n six hi lo
/-- The hop and the length of the longest prefix so far. -/
def bestStep (six : Bool) (hi lo : Int) (b : Int × Int) (r : RouteV) : Int × Int := if hasB r six hi lo = true ∧ b.2 < r.p.n then (r.hop, r.p.n) else b
def bestTo (l : List RouteV) (six : Bool) (hi lo : Int) : Int × Int := l.foldl (bestStep six hi lo) (0, -1)
def goesR (l : List RouteV) (six : Bool) (hi lo : Int) : Int × Int := if (bestTo l six hi lo).2 < 0 then ((bestTo l six hi lo).1, 0) else bestTo l six hi lo
theorem bestTo_snoc (l : List RouteV) (r : RouteV) (six : Bool) (hi lo : Int) : bestTo (l ++ [r]) six hi lo = bestStep six hi lo (bestTo l six hi lo) r := by
  unfold bestTo; rw [List.foldl_append]; rfl

theorem bestTo_cases (six : Bool) (hi lo : Int) : ∀ (l : List RouteV), (∀ r ∈ l, 0 ≤ r.p.n) →
    (bestTo l six hi lo = (0, -1) ∧ ∀ r ∈ l, hasB r six hi lo = false) ∨ ∃ r ∈ l, hasB r six hi lo = true ∧ bestTo l six hi lo = (r.hop, r.p.n) ∧ ∀ r' ∈ l, hasB r' six hi lo = true → r'.p.n ≤ r.p.n := by
  intro l
  induction hn : l.length generalizing l with
  | zero =>
    intro _
    have : l = [] := List.eq_nil_of_length_eq_zero hn
    subst this
    exact .inl ⟨rfl, by simp⟩
  | succ n ih =>
    intro hpos
    rcases List.eq_nil_or_concat l with rfl | ⟨l', r, rfl⟩
    · simp at hn
    rw [List.concat_eq_append] at *
    have hl' : l'.length = n := by simpa using hn
    have hrn := hpos r (by simp)
    rw [bestTo_snoc]
    unfold bestStep
    rcases ih l' hl' (fun r hr => hpos r (by simp [hr])) with ⟨h1, h2⟩ | ⟨x, hx, h1, h2, h3⟩
    · rw [h1]
      by_cases hb : hasB r six hi lo = true
      · rw [if_pos ⟨hb, by simp only; omega⟩]
        refine .inr ⟨r, by simp, hb, rfl, fun r' hr' hb' => ?_⟩
        rcases List.mem_append.1 hr' with h | h
        · rw [h2 r' h] at hb'; cases hb'
        · simp at h; subst h; exact Int.le_refl _
      · rw [if_neg (fun h => hb h.1)]
        refine .inl ⟨rfl, fun r' hr' => ?_⟩
        rcases List.mem_append.1 hr' with h | h
        · exact h2 r' h
        · simp at h; subst h; simpa using hb
    · rw [h2]
      by_cases hb : hasB r six hi lo = true ∧ x.p.n < r.p.n
      · rw [if_pos hb]
        refine .inr ⟨r, by simp, hb.1, rfl, fun r' hr' hb' => ?_⟩
        rcases List.mem_append.1 hr' with h | h
        · have := h3 r' h hb'; omega
        · simp at h; subst h; exact Int.le_refl _
      · rw [if_neg hb]
        refine .inr ⟨x, by simp [hx], h1, rfl, fun r' hr' hb' => ?_⟩
        rcases List.mem_append.1 hr' with h | h
        · exact h3 r' h hb'
        · simp at h
          subst h
          apply Classical.byContradiction
          intro hc
          exact hb ⟨hb', by omega⟩

theorem getR_mem {l : List RouteV} (hv : Valid l) : ∀ r ∈ l, getR l r.p = r.hop := by
  obtain ⟨hv1, hv2⟩ := hv
  induction l with
  | nil => simp
  | cons x l ih =>
    intro r hr
    simp only [List.map_cons, List.nodup_cons] at hv2
    unfold getR
    rcases List.mem_cons.1 hr with rfl | hr
    · rw [if_pos rfl]
    · rw [if_neg (fun he => hv2.1 (by rw [he]; exact List.mem_map.2 ⟨r, hr, rfl⟩))]
      exact ih (fun r hr => hv1 r (by simp [hr])) hv2.2 r hr
theorem getR_ne {l : List RouteV} {p : PV} (h : ¬ getR l p = 0) : ∃ r ∈ l, r.p = p := by
  induction l with
  | nil => exact absurd rfl h
  | cons x l ih =>
    unfold getR at h
    by_cases hx : x.p = p
    · exact ⟨x, by simp, hx⟩
    · rw [if_neg hx] at h
      obtain ⟨r, hr, he⟩ := ih h
      exact ⟨r, by simp [hr], he⟩

theorem over_addr {q : PV} (hq : q.Ok) (six : Bool) (hi lo : Int) : q.over ⟨six, hi, lo, wideI six⟩ = inB q.six q.hi q.lo q.n six hi lo := by
  unfold PV.over overB
  simp only
  by_cases h : inB q.six q.hi q.lo q.n six hi lo = true
  · rw [h]
    have h6 : q.six = six := by
      unfold inB at h
      simp at h
      exact h.1.symm
    have := (ok_n hq).2
    rw [h6] at this
    simp [this]
  · rw [Bool.not_eq_true] at h
    rw [h]; simp

/-- What the tree finds is what the list says. -/
theorem look_goes {l : List RouteV} {t : Tr} {six : Bool} {hi lo : Int} (hv : Valid l) (hp : PV.Ok ⟨six, hi, lo, wideI six⟩) (hI : Inv six (fun _ => True) t) (hm : ∀ p : PV, p.Ok → p.six = six → hopAt t p = getR l p) :
    lookT ⟨six, hi, lo, wideI six⟩ t (0, 0) = goesR l six hi lo := by
  have hb := look_best hp rfl t _ (0, 0) hI
  have hc := bestTo_cases six hi lo l (fun r hr => (ok_n (hv.1 r hr).1).1)
  unfold goesR
  rcases hb with ⟨hres, hall⟩ | ⟨q, hq, hov, hne, hres, hmax⟩
  · rw [hres]
    rcases hc with ⟨h1, h2⟩ | ⟨r, hr, h1, h2, h3⟩
    · rw [h1, if_pos (by simp only; omega)]
    · exfalso
      have hrv := hv.1 r hr
      have ho := over_addr hrv.1 six hi lo
      have ho2 : r.p.over ⟨six, hi, lo, wideI six⟩ = true := by rw [ho]; exact h1
      have := hall r.p hrv.1 ho2
      rw [hm r.p hrv.1 (over_six hrv.1 hp ho2), getR_mem hv r hr] at this
      omega
  · rw [hres]
    rw [hm q hq (over_six hq hp hov)] at hne
    rw [hm q hq (over_six hq hp hov)]
    obtain ⟨x, hx, rfl⟩ := getR_ne hne
    have hxb : hasB x six hi lo = true := by unfold hasB; rw [← over_addr hq]; exact hov
    rcases hc with ⟨h1, h2⟩ | ⟨r, hr, h1, h2, h3⟩
    · rw [h2 x hx] at hxb; cases hxb
    · have hrv := hv.1 r hr
      have ho2 : r.p.over ⟨six, hi, lo, wideI six⟩ = true := by rw [over_addr hrv.1]; exact h1
      have hr0 := (ok_n hrv.1).1
      have n1 := h3 x hx hxb
      have n2 := hmax r.p hrv.1 ho2 (by rw [hm r.p hrv.1 (over_six hrv.1 hp ho2), getR_mem hv r hr]; omega)
      have he : x.p = r.p := over_eq hq hrv.1 (over_two hq hrv.1 hp hov ho2 n1) (by omega)
      rw [h2, if_neg (by simp only; omega), he, getR_mem hv r hr]

end Go.Proofs.Ytmljdjakbbedlaa

namespace Go.Proofs.Ytmljdjakbbedlaa
set_option linter.unusedVariables false

/-- The sum, as a number of any size. -/
def sumI (hi lo by' : Int) : Int := hi * 18446744073709551616 + lo + by'
def plusHi (hi lo by' : Int) : Int := sumI hi lo by' / 18446744073709551616 % 18446744073709551616
def plusLo (hi lo by' : Int) : Int := sumI hi lo by' % 18446744073709551616
/-- Does the sum not go over the end? -/
def plusOk (six : Bool) (hi lo by' : Int) : Bool := decide (0 ≤ sumI hi lo by' ∧ sumI hi lo by' < 340282366920938463463374607431768211456) && mayB six (plusHi hi lo by') (plusLo hi lo by')

theorem plus_range (hi lo by' : Int) : (0 ≤ plusHi hi lo by' ∧ plusHi hi lo by' < 18446744073709551616) ∧ (0 ≤ plusLo hi lo by' ∧ plusLo hi lo by' < 18446744073709551616) := by
  unfold plusHi plusLo
  omega

/-- The number of an address. -/
def valI (six : Bool) (hi lo : Int) : Int := if six then hi * 18446744073709551616 + lo else lo
def topI (six : Bool) : Int := if six then 340282366920938463463374607431768211456 else 4294967296

theorem valI_range (six : Bool) (hi lo : Int) (h1 : 0 ≤ hi ∧ hi < 18446744073709551616) (h2 : 0 ≤ lo ∧ lo < 18446744073709551616) (hm : mayB six hi lo = true) : 0 ≤ valI six hi lo ∧ valI six hi lo < topI six := by
  unfold valI topI
  cases six
  · have := mayB_four hm
    simp only [Bool.false_eq_true, ↓reduceIte]
    omega
  · simp only [↓reduceIte]
    omega

theorem sum_val (six : Bool) (hi lo by' : Int) (hm : mayB six hi lo = true) : sumI hi lo by' = valI six hi lo + by' := by
  unfold sumI valI
  cases six
  · have := mayB_four hm
    simp only [Bool.false_eq_true, ↓reduceIte]
    omega
  · simp only [↓reduceIte]

/-- It does not go over the end just if the number stays one of an address. -/
theorem plusOk_iff (six : Bool) (hi lo by' : Int) (h1 : 0 ≤ hi ∧ hi < 18446744073709551616) (h2 : 0 ≤ lo ∧ lo < 18446744073709551616) (hm : mayB six hi lo = true) (hb : -1099511627776 ≤ by' ∧ by' ≤ 1099511627776) :
    plusOk six hi lo by' = true ↔ 0 ≤ valI six hi lo + by' ∧ valI six hi lo + by' < topI six := by
  have hs := sum_val six hi lo by' hm
  unfold plusOk
  rw [Bool.and_eq_true, decide_eq_true_eq, ← hs]
  unfold topI
  cases six
  · have := mayB_four hm
    have e : sumI hi lo by' = lo + by' := by unfold sumI; omega
    simp only [mayB, Bool.false_eq_true, ↓reduceIte, Bool.false_or, Bool.and_eq_true, beq_iff_eq, decide_eq_true_eq]
    unfold plusHi plusLo
    rw [e]
    omega
  · simp only [mayB, Bool.true_or, ↓reduceIte, and_true]

theorem valI_bit (six : Bool) (hi lo : Int) (i : Nat) (h1 : 0 ≤ hi ∧ hi < 18446744073709551616) (h2 : 0 ≤ lo ∧ lo < 18446744073709551616) {m : Nat} (hw : wideI six = m) (hi' : i < m) :
    bitI six hi lo i = valI six hi lo / 2 ^ (m - 1 - i) % 2 := by
  cases six
  · have hm : (32 : Int) = m := hw
    unfold bitI valI
    simp only [Bool.false_eq_true, ↓reduceIte]
    rw [show (31 - (i : Int)).toNat = m - 1 - i from by omega]
  · have hm : (128 : Int) = m := hw
    unfold bitI valI
    simp only [↓reduceIte]
    by_cases h64 : (i : Int) < 64
    · rw [if_pos h64, show (63 - (i : Int)).toNat = 63 - i from by omega, show m - 1 - i = 64 + (63 - i) from by omega, Int.pow_add, ← Int.ediv_ediv_of_nonneg (by decide)]
      have e : (2 : Int) ^ 64 = 18446744073709551616 := by decide
      rw [e, show (hi * 18446744073709551616 + lo) / 18446744073709551616 = hi from by omega]
    · rw [if_neg h64, show (127 - (i : Int)).toNat = m - 1 - i from by omega]
      obtain ⟨j, hj⟩ : ∃ j, m - 1 - i = j := ⟨_, rfl⟩
      have hj64 : j < 64 := by omega
      rw [hj]
      have e : (18446744073709551616 : Int) = 2 ^ j * (2 * 2 ^ (63 - j)) := by
        rw [show (2 : Int) * 2 ^ (63 - j) = 2 ^ (64 - j) from by rw [show 64 - j = (63 - j) + 1 from by omega, Int.pow_succ, Int.mul_comm], ← Int.pow_add, show j + (64 - j) = 64 from by omega]
        decide
      have hp : (0 : Int) < 2 ^ j := Int.pow_pos (by omega)
      rw [e, show hi * (2 ^ j * (2 * 2 ^ (63 - j))) + lo = lo + 2 ^ j * (hi * (2 * 2 ^ (63 - j))) from by rw [← Int.mul_assoc, Int.mul_comm hi, Int.mul_assoc, Int.add_comm], Int.add_mul_ediv_left _ _ (by omega)]
      rw [show hi * (2 * 2 ^ (63 - j)) = 2 * (hi * 2 ^ (63 - j)) from by rw [← Int.mul_assoc, Int.mul_comm hi 2, Int.mul_assoc]]
      omega

/-- The words of the sum are those of an address whose number is the sum. -/
theorem plus_val (six : Bool) (hi lo by' : Int) (h1 : 0 ≤ hi ∧ hi < 18446744073709551616) (h2 : 0 ≤ lo ∧ lo < 18446744073709551616) (hm : mayB six hi lo = true) (hok : plusOk six hi lo by' = true) :
    valI six (plusHi hi lo by') (plusLo hi lo by') = valI six hi lo + by' ∧ mayB six (plusHi hi lo by') (plusLo hi lo by') = true := by
  unfold plusOk at hok
  rw [Bool.and_eq_true, decide_eq_true_eq] at hok
  obtain ⟨h3, h4⟩ := hok
  refine ⟨?_, h4⟩
  have e1 := sum_val six (plusHi hi lo by') (plusLo hi lo by') 0 h4
  have e2 := sum_val six hi lo by' hm
  rw [← e2]
  have e3 : sumI (plusHi hi lo by') (plusLo hi lo by') 0 = plusHi hi lo by' * 18446744073709551616 + plusLo hi lo by' + 0 := rfl
  have e4 : plusHi hi lo by' = sumI hi lo by' / 18446744073709551616 % 18446744073709551616 := rfl
  have e5 : plusLo hi lo by' = sumI hi lo by' % 18446744073709551616 := rfl
  rw [e3] at e1
  generalize plusHi hi lo by' = a at *
  generalize plusLo hi lo by' = b at *
  generalize sumI hi lo by' = s at *
  omega

/-! Bit by bit, from the lowest on. -/
/-- What is carried behind the lowest r bits. -/
def carryI (v by' : Int) (r : Nat) : Int := (v % 2 ^ r + by') / 2 ^ r
theorem carry_zero (v by' : Int) : carryI v by' 0 = by' := by unfold carryI; simp [Int.emod_one]
theorem carry_bit (v by' : Int) (r : Nat) : (v / 2 ^ r % 2 + carryI v by' r) % 2 = (v + by') / 2 ^ r % 2 := by
  unfold carryI
  have hp : (0 : Int) < 2 ^ r := Int.pow_pos (by omega)
  have e : v + by' = (v % 2 ^ r + by') + 2 ^ r * (v / 2 ^ r) := by
    have := Int.mul_ediv_add_emod v (2 ^ r)
    omega
  rw [show (v + by') / 2 ^ r = (v % 2 ^ r + by') / 2 ^ r + v / 2 ^ r from by
    conv => lhs; rw [e]
    rw [Int.add_mul_ediv_left _ _ (by omega)]]
  omega
theorem carry_succ (v by' : Int) (r : Nat) : carryI v by' (r + 1) = (v / 2 ^ r % 2 + carryI v by' r) / 2 := by
  unfold carryI
  have hp : (0 : Int) < 2 ^ r := Int.pow_pos (by omega)
  rw [mod_succ, show v % 2 ^ r + 2 ^ r * (v / 2 ^ r % 2) + by' = (v % 2 ^ r + by') + 2 ^ r * (v / 2 ^ r % 2) from by omega, Int.pow_succ, ← Int.ediv_ediv_of_nonneg (by omega), Int.add_mul_ediv_left _ _ (by omega)]
  congr 1
  omega
theorem carry_range (v by' : Int) (r : Nat) (hb : -1099511627776 ≤ by' ∧ by' ≤ 1099511627776) : -1099511627776 ≤ carryI v by' r ∧ carryI v by' r ≤ 1099511627777 := by
  induction r with
  | zero => rw [carry_zero]; omega
  | succ r ih =>
    rw [carry_succ]
    omega
theorem carry_end (v by' top : Int) (r : Nat) (ht : top = 2 ^ r) (hv : 0 ≤ v ∧ v < top) : carryI v by' r = 0 ↔ 0 ≤ v + by' ∧ v + by' < top := by
  unfold carryI
  have hp : (0 : Int) < 2 ^ r := Int.pow_pos (by omega)
  rw [Int.emod_eq_of_lt hv.1 (by omega)]
  constructor
  · intro h
    have := Int.mul_ediv_add_emod (v + by') (2 ^ r)
    have h3 := Int.emod_lt_of_pos (v + by') hp
    have h4 := Int.emod_nonneg (v + by') (by omega : (2 : Int) ^ r ≠ 0)
    rw [h] at this
    omega
  · rintro ⟨h1, h2⟩
    exact Int.ediv_eq_zero_of_lt h1 (by omega)

/-- The bits, the lowest r of them those of the sum. -/
def nextTo (six : Bool) (hi lo by' : Int) (m r : Nat) : List Int := (List.range m).map fun (j : Nat) => if j < m - r then bitI six hi lo j else (valI six hi lo + by') / 2 ^ (m - 1 - j) % 2
theorem nextTo_length (six : Bool) (hi lo by' : Int) (m r : Nat) : (nextTo six hi lo by' m r).length = m := by simp [nextTo]
theorem nextTo_zero {six : Bool} {hi lo by' : Int} {m : Nat} (hm : wideI six = m) : nextTo six hi lo by' m 0 = bitsL six hi lo := by
  unfold nextTo bitsL
  rw [hm]
  apply List.map_congr_left
  intro j hj
  have : j < m := by simpa using hj
  rw [if_pos (by omega)]
theorem nextTo_at {six : Bool} {hi lo by' : Int} {m r : Nat} (hr : r < m) : (nextTo six hi lo by' m r)[m - 1 - r]? = some (bitI six hi lo ((m - 1 - r : Nat) : Int)) := by
  unfold nextTo
  rw [List.getElem?_map, List.getElem?_range (by omega)]
  simp only [Option.map_some, Option.some.injEq]
  rw [if_pos (by omega)]
theorem nextTo_set {six : Bool} {hi lo by' : Int} {m r : Nat} (hr : r < m) : (nextTo six hi lo by' m r).set (m - 1 - r) ((valI six hi lo + by') / 2 ^ r % 2) = nextTo six hi lo by' m (r + 1) := by
  apply List.ext_getElem?
  intro j
  unfold nextTo
  rw [List.getElem?_set]
  by_cases h : m - 1 - r = j
  · subst h
    rw [if_pos rfl, if_pos (by simp; omega), List.getElem?_map, List.getElem?_range (by omega)]
    simp only [Option.map_some, Option.some.injEq]
    rw [if_neg (by omega), show m - 1 - (m - 1 - r) = r from by omega]
  · rw [if_neg h, List.getElem?_map, List.getElem?_map]
    rcases Nat.lt_or_ge j m with hj | hj
    · rw [List.getElem?_range hj]
      simp only [Option.map_some, Option.some.injEq]
      by_cases h1 : j < m - r
      · rw [if_pos h1, if_pos (by omega)]
      · rw [if_neg h1, if_neg (by omega)]
    · rw [List.getElem?_eq_none (by simpa using hj)]
      rfl
theorem nextTo_bits (six : Bool) (hi lo by' : Int) (m r : Nat) : Bits (nextTo six hi lo by' m r) := by
  intro b hb
  unfold nextTo at hb
  obtain ⟨i, _, rfl⟩ := List.mem_map.1 hb
  have := bitI_01 six hi lo i
  split <;> omega
theorem nextTo_words {six : Bool} {hi lo by' : Int} {m : Nat} (hm : wideI six = m) (h1 : 0 ≤ hi ∧ hi < 18446744073709551616) (h2 : 0 ≤ lo ∧ lo < 18446744073709551616) (hmay : mayB six hi lo = true) (hok : plusOk six hi lo by' = true) :
    hiOf six (nextTo six hi lo by' m m) = plusHi hi lo by' ∧ loOf six (nextTo six hi lo by' m m) = plusLo hi lo by' := by
  have hr := plus_range hi lo by'
  have hv := plus_val six hi lo by' h1 h2 hmay hok
  refine of_unique six _ (nextTo_bits six hi lo by' m m) (by rw [nextTo_length, hm]) _ _ hr.1 hr.2 hv.2 fun i hi' => ?_
  rw [valI_bit six _ _ i hr.1 hr.2 hm (by omega), hv.1]
  unfold nextTo
  rw [List.getElem?_map, List.getElem?_range (by omega)]
  simp only [Option.map_some, Option.some.injEq]
  rw [if_neg (by omega)]

end Go.Proofs.Ytmljdjakbbedlaa

namespace Go.Proofs.Ytmljdjakbbedlaa
open Classical
set_option linter.unusedVariables false

/-- The aligned blocks of a set within the block of 2^k numbers at v: (start, exponent). -/
noncomputable def canon (S : Nat → Prop) : Nat → Nat → List (Nat × Nat)
  | 0, v => if S v then [(v, 0)] else []
  | k + 1, v => if ∀ x, v ≤ x → x < v + 2 ^ (k + 1) → S x then [(v, k + 1)] else canon S k v ++ canon S k (v + 2 ^ k)

theorem canon_full {S : Nat → Prop} {k v : Nat} (h : ∀ x, v ≤ x → x < v + 2 ^ k → S x) : canon S k v = [(v, k)] := by
  cases k with
  | zero => unfold canon; rw [if_pos (h v (Nat.le_refl _) (by simp))]
  | succ k => unfold canon; rw [if_pos h]
theorem canon_none {S : Nat → Prop} : ∀ {k v : Nat}, (∀ x, v ≤ x → x < v + 2 ^ k → ¬ S x) → canon S k v = []
  | 0, v, h => by unfold canon; rw [if_neg (h v (Nat.le_refl _) (by simp))]
  | k + 1, v, h => by
    have hp := Nat.two_pow_pos k
    have he : 2 ^ (k + 1) = 2 ^ k + 2 ^ k := by rw [Nat.pow_succ]; omega
    unfold canon
    rw [if_neg (fun hx => h v (Nat.le_refl _) (by omega) (hx v (Nat.le_refl _) (by omega))), canon_none (fun x h1 h2 => h x h1 (by omega)), canon_none (fun x h1 h2 => h x (by omega) (by omega))]
    rfl
theorem canon_split {S : Nat → Prop} {k v : Nat} (h : ¬ ∀ x, v ≤ x → x < v + 2 ^ (k + 1) → S x) : canon S (k + 1) v = canon S k v ++ canon S k (v + 2 ^ k) := by
  conv => lhs; unfold canon
  rw [if_neg h]
theorem canon_congr {S T : Nat → Prop} : ∀ {k v : Nat}, (∀ x, v ≤ x → x < v + 2 ^ k → (S x ↔ T x)) → canon S k v = canon T k v
  | 0, v, h => by unfold canon; rw [show S v = T v from propext (h v (Nat.le_refl _) (by simp))]
  | k + 1, v, h => by
    have hp := Nat.two_pow_pos k
    have he : 2 ^ (k + 1) = 2 ^ k + 2 ^ k := by rw [Nat.pow_succ]; omega
    unfold canon
    rw [canon_congr (S := S) (T := T) (k := k) (v := v) (fun x h1 h2 => h x h1 (by omega)), canon_congr (S := S) (T := T) (k := k) (v := v + 2 ^ k) (fun x h1 h2 => h x (by omega) (by omega))]
    have : (∀ x, v ≤ x → x < v + 2 ^ (k + 1) → S x) = (∀ x, v ≤ x → x < v + 2 ^ (k + 1) → T x) := propext ⟨fun hx x h1 h2 => (h x h1 h2).1 (hx x h1 h2), fun hx x h1 h2 => (h x h1 h2).2 (hx x h1 h2)⟩
    simp only [this]
/-- A single block comes of the whole alone. -/
theorem canon_single {S : Nat → Prop} : ∀ {k v : Nat}, canon S k v = [(v, k)] → ∀ x, v ≤ x → x < v + 2 ^ k → S x
  | 0, v, h, x, h1, h2 => by
    unfold canon at h
    obtain rfl : x = v := by simp at h2; omega
    by_cases hx : S x
    · exact hx
    · rw [if_neg hx] at h; cases h
  | k + 1, v, h, x, h1, h2 => by
    unfold canon at h
    by_cases hx : ∀ x, v ≤ x → x < v + 2 ^ (k + 1) → S x
    · exact hx x h1 h2
    · rw [if_neg hx] at h
      exfalso
      have key : ∀ (S : Nat → Prop) (k v : Nat), ∀ b ∈ canon S k v, b.2 ≤ k := by
        intro S k
        induction k with
        | zero => intro v b hb; unfold canon at hb; split at hb <;> simp at hb; subst hb; simp
        | succ k ih =>
          intro v b hb
          unfold canon at hb
          split at hb
          · simp at hb; subst hb; simp
          · rcases List.mem_append.1 hb with hb | hb
            · exact Nat.le_succ_of_le (ih _ _ hb)
            · exact Nat.le_succ_of_le (ih _ _ hb)
      have hm : (v, k + 1) ∈ canon S k v ++ canon S k (v + 2 ^ k) := by rw [h]; simp
      rcases List.mem_append.1 hm with hm | hm
      · have := key _ _ _ _ hm; simp only at this; omega
      · have := key _ _ _ _ hm; simp only at this; omega

theorem aligned_eq {K a v : Nat} (ha : 2 ^ K ∣ a) (hv : 2 ^ K ∣ v) (h1 : v ≤ a) (h2 : a < v + 2 ^ K) : a = v := by
  obtain ⟨x, rfl⟩ := ha
  obtain ⟨y, rfl⟩ := hv
  have hp := Nat.two_pow_pos K
  have : y ≤ x := Nat.le_of_mul_le_mul_left h1 hp
  have : x < y + 1 := by
    have h3 : 2 ^ K * x < 2 ^ K * (y + 1) := by rw [Nat.mul_succ]; exact h2
    exact Nat.lt_of_mul_lt_mul_left h3
  have : x = y := by omega
  rw [this]
theorem pow_dvd_le {i j a : Nat} (h : 2 ^ j ∣ a) (hij : i ≤ j) : 2 ^ i ∣ a := Nat.dvd_trans (Nat.pow_dvd_pow 2 hij) h
/-- An aligned block at a below m stays below m, where m is aligned as well or better. -/
theorem aligned_below {k K a m : Nat} (ha : 2 ^ k ∣ a) (hm : 2 ^ K ∣ m) (hk : k ≤ K) (h : a < m) : a + 2 ^ k ≤ m := by
  obtain ⟨x, rfl⟩ := ha
  obtain ⟨y, rfl⟩ := pow_dvd_le hm hk
  have hp := Nat.two_pow_pos k
  have : x < y := Nat.lt_of_mul_lt_mul_left h
  calc 2 ^ k * x + 2 ^ k = 2 ^ k * (x + 1) := by rw [Nat.mul_succ]
    _ ≤ 2 ^ k * y := Nat.mul_le_mul_left _ this

def InI (a b : Nat) : Nat → Prop := fun x => a ≤ x ∧ x ≤ b

/-- The greatest aligned block at an interval's start is the first of its blocks. -/
theorem canon_step : ∀ (K : Nat) {v a b k : Nat}, 2 ^ K ∣ v → v ≤ a → a < v + 2 ^ K → a ≤ b → k ≤ K → 2 ^ k ∣ a → a + 2 ^ k ≤ b + 1 → (k = K ∨ ¬ (2 ^ (k + 1) ∣ a ∧ a + 2 ^ (k + 1) ≤ b + 1)) →
    canon (InI a b) K v = (a, k) :: canon (InI (a + 2 ^ k) b) K v := by
  intro K
  induction K with
  | zero =>
    intro v a b k hv h1 h2 hab hk ha hb hmax
    obtain rfl : k = 0 := by omega
    obtain rfl : a = v := by simp at h2; omega
    unfold canon
    rw [if_pos ⟨Nat.le_refl _, hab⟩, if_neg (fun h => by have := h.1; simp at this; omega)]
  | succ K ih =>
    intro v a b k hv h1 h2 hab hk ha hb hmax
    have hp := Nat.two_pow_pos K
    have he : 2 ^ (K + 1) = 2 ^ K + 2 ^ K := by rw [Nat.pow_succ]; omega
    have hpk := Nat.two_pow_pos k
    by_cases hin : ∀ x, v ≤ x → x < v + 2 ^ (K + 1) → InI a b x
    · obtain rfl : a = v := by have := (hin v (Nat.le_refl _) (by omega)).1; omega
      have hend := (hin (a + 2 ^ (K + 1) - 1) (by omega) (by omega)).2
      have hkK : k = K + 1 := by
        rcases hmax with h | h
        · exact h
        · apply Classical.byContradiction
          intro hne
          exact h ⟨pow_dvd_le hv (by omega), by have := Nat.pow_le_pow_right (n := 2) (by omega) (show k + 1 ≤ K + 1 by omega); omega⟩
      subst hkK
      rw [canon_full hin, canon_none (fun x hx1 hx2 hx => by have := hx.1; omega)]
    · have hne : k ≤ K := by
        apply Classical.byContradiction
        intro hgt
        obtain rfl : k = K + 1 := by omega
        obtain rfl := aligned_eq ha hv h1 h2
        exact hin fun x hx1 hx2 => ⟨hx1, by omega⟩
      have hmax' : k = K ∨ ¬ (2 ^ (k + 1) ∣ a ∧ a + 2 ^ (k + 1) ≤ b + 1) := by
        rcases hmax with h | h
        · omega
        · exact .inr h
      have hin2 : ¬ ∀ x, v ≤ x → x < v + 2 ^ (K + 1) → InI (a + 2 ^ k) b x := fun h => by have := (h v (Nat.le_refl _) (by omega)).1; omega
      rw [canon_split hin, canon_split hin2]
      have hm : 2 ^ K ∣ v + 2 ^ K := Nat.dvd_add (pow_dvd_le hv (by omega)) (Nat.dvd_refl _)
      by_cases ham : a < v + 2 ^ K
      · have hle := aligned_below ha hm hne ham
        rw [ih (pow_dvd_le hv (by omega)) h1 ham hab hne ha hb hmax', List.cons_append]
        congr 2
        exact canon_congr fun x hx1 hx2 => ⟨fun h => ⟨by omega, h.2⟩, fun h => ⟨by have := h.1; omega, h.2⟩⟩
      · rw [canon_none (S := InI a b) (k := K) (v := v) (fun x hx1 hx2 h => by have := h.1; omega), canon_none (S := InI (a + 2 ^ k) b) (k := K) (v := v) (fun x hx1 hx2 h => by have := h.1; omega),
          ih hm (by omega) (by omega) hab hne ha hb hmax']
        rfl

/-- Intervals in order, with a gap between each and the next. -/
def Apart : List (Nat × Nat) → Prop
  | [] => True
  | s :: l => s.1 ≤ s.2 ∧ (∀ t ∈ l, s.2 + 1 < t.1) ∧ Apart l
def InL (l : List (Nat × Nat)) : Nat → Prop := fun x => ∃ s ∈ l, InI s.1 s.2 x

theorem apart_one : ∀ {l : List (Nat × Nat)} {v m : Nat}, Apart l → 0 < m → (∀ x, v ≤ x → x < v + m → InL l x) → ∃ s ∈ l, ∀ x, v ≤ x → x < v + m → InI s.1 s.2 x
  | [], v, m, _, hm, h => by obtain ⟨s, hs, _⟩ := h v (Nat.le_refl _) (by omega); cases hs
  | s :: l, v, m, ⟨h1, h2, h3⟩, hm, h => by
    by_cases hv : v ≤ s.2
    · refine ⟨s, by simp, fun x hx1 hx2 => ?_⟩
      have hlow : s.1 ≤ v := by
        obtain ⟨t, ht, hi⟩ := h v (Nat.le_refl _) (by omega)
        rcases List.mem_cons.1 ht with rfl | ht
        · exact hi.1
        · have := h2 t ht; have := hi.1; omega
      refine ⟨by omega, ?_⟩
      apply Classical.byContradiction
      intro hgt
      obtain ⟨t, ht, hi⟩ := h (s.2 + 1) (by omega) (by omega)
      rcases List.mem_cons.1 ht with rfl | ht
      · have := hi.2; omega
      · have := h2 t ht; have := hi.1; omega
    · obtain ⟨t, ht, hi⟩ := apart_one (l := l) (v := v) (m := m) h3 hm (fun x hx1 hx2 => by
        obtain ⟨t, ht, hi⟩ := h x hx1 hx2
        rcases List.mem_cons.1 ht with rfl | ht
        · have := hi.2; omega
        · exact ⟨t, ht, hi⟩)
      exact ⟨t, by simp [ht], hi⟩
theorem apart_tail {s : Nat × Nat} {l : List (Nat × Nat)} (h : Apart (s :: l)) : Apart l := h.2.2
theorem inL_cons {s : Nat × Nat} {l : List (Nat × Nat)} {x : Nat} : InL (s :: l) x ↔ InI s.1 s.2 x ∨ InL l x := by
  unfold InL; simp

/-- The blocks of intervals that lie apart are those of each, one behind another. -/
theorem canon_apart : ∀ (K v : Nat) (l : List (Nat × Nat)), Apart l → canon (InL l) K v = l.flatMap fun s => canon (InI s.1 s.2) K v := by
  intro K
  induction K with
  | zero =>
    intro v l hl
    induction l with
    | nil => unfold canon; rw [if_neg (fun h => by obtain ⟨s, hs, _⟩ := h; cases hs)]; rfl
    | cons s l ih =>
      rw [List.flatMap_cons, ← ih hl.2.2]
      unfold canon
      by_cases hs : InI s.1 s.2 v
      · rw [if_pos (inL_cons.2 (.inl hs)), if_pos hs, if_neg (fun h => by obtain ⟨t, ht, hi⟩ := h; have := hl.2.1 t ht; have := hi.1; have := hs.2; omega)]
        rfl
      · rw [if_neg hs]
        by_cases hl' : InL l v
        · rw [if_pos (inL_cons.2 (.inr hl')), if_pos hl']; rfl
        · rw [if_neg (fun h => (inL_cons.1 h).elim hs hl'), if_neg hl']; rfl
  | succ K ihK =>
    intro v l hl
    have hp := Nat.two_pow_pos K
    have he : 2 ^ (K + 1) = 2 ^ K + 2 ^ K := by rw [Nat.pow_succ]; omega
    by_cases hall : ∀ x, v ≤ x → x < v + 2 ^ (K + 1) → InL l x
    · rw [canon_full hall]
      have key : ∀ l : List (Nat × Nat), Apart l → (∃ s ∈ l, ∀ x, v ≤ x → x < v + 2 ^ (K + 1) → InI s.1 s.2 x) → (l.flatMap fun s => canon (InI s.1 s.2) (K + 1) v) = [(v, K + 1)] := by
        intro l
        induction l with
        | nil => intro _ h; obtain ⟨s, hs, _⟩ := h; cases hs
        | cons s l ih =>
          rintro ⟨h1, h2, h3⟩ ⟨t, ht, hi⟩
          rw [List.flatMap_cons]
          rcases List.mem_cons.1 ht with rfl | ht'
          · rw [canon_full hi]
            have : (l.flatMap fun s => canon (InI s.1 s.2) (K + 1) v) = [] := by
              rw [List.flatMap_eq_nil_iff]
              intro u hu
              refine canon_none fun x hx1 hx2 hx => ?_
              have a1 := h2 u hu
              have a2 := hx.1
              have a3 := (hi x hx1 hx2).2
              omega
            rw [this]; rfl
          · rw [canon_none (S := InI s.1 s.2) (k := K + 1) (v := v) (fun x hx1 hx2 hx => by
              have a1 := h2 t ht'
              have a2 := hx.2
              have a3 := (hi x hx1 hx2).1
              omega), ih h3 ⟨t, ht', hi⟩]
            rfl
      exact (key l hl (apart_one hl (by omega) hall)).symm
    · rw [canon_split hall, ihK v l hl, ihK (v + 2 ^ K) l hl]
      have hone : ∀ s ∈ l, canon (InI s.1 s.2) (K + 1) v = canon (InI s.1 s.2) K v ++ canon (InI s.1 s.2) K (v + 2 ^ K) := by
        intro s hs
        exact canon_split fun h => hall fun x h1 h2 => ⟨s, hs, h x h1 h2⟩
      have key : ∀ l : List (Nat × Nat), Apart l → (l.flatMap fun s => canon (InI s.1 s.2) K v) ++ (l.flatMap fun s => canon (InI s.1 s.2) K (v + 2 ^ K)) = l.flatMap fun s => canon (InI s.1 s.2) K v ++ canon (InI s.1 s.2) K (v + 2 ^ K) := by
        intro l
        induction l with
        | nil => intro _; rfl
        | cons s l ih =>
          rintro ⟨h1, h2, h3⟩
          rw [List.flatMap_cons, List.flatMap_cons, List.flatMap_cons, ← ih h3]
          by_cases hs : s.2 < v + 2 ^ K
          · rw [canon_none (S := InI s.1 s.2) (k := K) (v := v + 2 ^ K) (fun x hx1 hx2 hx => by have := hx.2; omega)]
            simp
          · have : (l.flatMap fun s => canon (InI s.1 s.2) K v) = [] := by
              rw [List.flatMap_eq_nil_iff]
              intro u hu
              refine canon_none fun x hx1 hx2 hx => ?_
              have a1 := h2 u hu
              have a2 := hx.1
              omega
            rw [this]
            simp
      rw [key l hl]
      have : ∀ l' : List (Nat × Nat), (∀ s ∈ l', canon (InI s.1 s.2) (K + 1) v = canon (InI s.1 s.2) K v ++ canon (InI s.1 s.2) K (v + 2 ^ K)) → (l'.flatMap fun s => canon (InI s.1 s.2) K v ++ canon (InI s.1 s.2) K (v + 2 ^ K)) = l'.flatMap fun s => canon (InI s.1 s.2) (K + 1) v := by
        intro l' h
        induction l' with
        | nil => rfl
        | cons s l' ih => rw [List.flatMap_cons, List.flatMap_cons, h s (by simp), ih (fun s hs => h s (by simp [hs]))]
      exact this l hone

end Go.Proofs.Ytmljdjakbbedlaa

namespace Go.Proofs.Ytmljdjakbbedlaa
set_option linter.unusedVariables false

/-- An address. -/
structure AV where
  six : Bool
  hi : Int
  lo : Int
structure AV.Ok (a : AV) : Prop where
  rhi : 0 ≤ a.hi ∧ a.hi < 18446744073709551616
  rlo : 0 ≤ a.lo ∧ a.lo < 18446744073709551616
  may : mayB a.six a.hi a.lo = true
def AV.v (a : AV) : Nat := (valI a.six a.hi a.lo).toNat
def widN (six : Bool) : Nat := if six then 128 else 32
theorem widN_eq (six : Bool) : wideI six = (widN six : Int) := by cases six <;> rfl
theorem topI_eq (six : Bool) : topI six = ((2 ^ widN six : Nat) : Int) := by cases six <;> decide

def PV.a (p : PV) : AV := ⟨p.six, p.hi, p.lo⟩
def PV.v (p : PV) : Nat := p.a.v
def PV.k (p : PV) : Nat := (wideI p.six - p.n).toNat
theorem PV.Ok.addr {p : PV} (h : p.Ok) : p.a.Ok := ⟨Pfx.rhi h, Pfx.rlo h, Pfx.may h⟩
theorem PV.k_le {p : PV} (h : p.Ok) : p.k ≤ widN p.six ∧ p.n = (widN p.six : Int) - p.k := by
  have := ok_n h
  unfold PV.k
  rw [widN_eq] at *
  omega

theorem AV.v_val {a : AV} (h : a.Ok) : (a.v : Int) = valI a.six a.hi a.lo := by
  have := (valI_range a.six a.hi a.lo h.rhi h.rlo h.may).1
  unfold AV.v
  omega
theorem AV.v_lt {a : AV} (h : a.Ok) : a.v < 2 ^ widN a.six := by
  have := (valI_range a.six a.hi a.lo h.rhi h.rlo h.may).2
  rw [← AV.v_val h, topI_eq] at this
  omega
theorem AV.bitN {a : AV} (h : a.Ok) {i : Nat} (hi : i < widN a.six) : bitI a.six a.hi a.lo i = ((a.v / 2 ^ (widN a.six - 1 - i) % 2 : Nat) : Int) := by
  rw [valI_bit a.six a.hi a.lo i h.rhi h.rlo (widN_eq a.six) hi, ← AV.v_val h]
  simp
theorem AV.ext' {a b : AV} (h1 : a.six = b.six) (h2 : a.hi = b.hi) (h3 : a.lo = b.lo) : a = b := by cases a; cases b; simp_all
instance : DecidableEq AV := fun a b => decidable_of_iff (a.six = b.six ∧ a.hi = b.hi ∧ a.lo = b.lo)
  ⟨fun h => AV.ext' h.1 h.2.1 h.2.2, fun h => by subst h; exact ⟨rfl, rfl, rfl⟩⟩
theorem AV.v_inj {a b : AV} (ha : a.Ok) (hb : b.Ok) (h6 : a.six = b.six) (h : a.v = b.v) : a = b := by
  have h1 := AV.v_val ha
  have h2 := AV.v_val hb
  rw [h, h2] at h1
  obtain ⟨s, x, y⟩ := a
  obtain ⟨s', x', y'⟩ := b
  simp only at h6
  subst h6
  have r1 := ha.rhi
  have r2 := ha.rlo
  have r3 := hb.rhi
  have r4 := hb.rlo
  simp only at r1 r2 r3 r4 h1
  unfold valI at h1
  cases s
  · simp only [Bool.false_eq_true, ↓reduceIte] at h1
    have m1 := mayB_four ha.may
    have m2 := mayB_four hb.may
    simp only at m1 m2
    rw [h1, m1.1, m2.1]
  · simp only [↓reduceIte] at h1
    have : x = x' := by omega
    have : y = y' := by omega
    simp_all

theorem nat_div_ext {x y m k : Nat} (hx : x < 2 ^ m) (hy : y < 2 ^ m) (h : ∀ j, k ≤ j → j < m → x / 2 ^ j % 2 = y / 2 ^ j % 2) : x / 2 ^ k = y / 2 ^ k := by
  apply Nat.eq_of_testBit_eq
  intro i
  rw [Nat.testBit_div_two_pow, Nat.testBit_div_two_pow]
  by_cases hi : i + k < m
  · have := h (i + k) (by omega) hi
    rw [Nat.testBit_eq_decide_div_mod_eq, Nat.testBit_eq_decide_div_mod_eq]
    try rw [Nat.add_comm k i]
    rw [this]
  · have hm : 2 ^ m ≤ 2 ^ (k + i) := Nat.pow_le_pow_right (by omega) (by omega)
    have e1 : x.testBit (k + i) = false := Nat.testBit_lt_two_pow (by omega)
    have e2 : y.testBit (k + i) = false := Nat.testBit_lt_two_pow (by omega)
    simp only [Nat.add_comm k i] at e1 e2
    first | rw [e1, e2] | (rw [Nat.add_comm i k] at e1 e2; rw [e1, e2])
theorem div_block {x y k : Nat} (hx : 2 ^ k ∣ x) : x / 2 ^ k = y / 2 ^ k ↔ x ≤ y ∧ y < x + 2 ^ k := by
  obtain ⟨c, rfl⟩ := hx
  have hp := Nat.two_pow_pos k
  rw [Nat.mul_div_cancel_left c hp]
  have h1 := Nat.div_add_mod y (2 ^ k)
  have h2 := Nat.mod_lt y hp
  constructor
  · intro h
    rw [← h] at h1
    omega
  · rintro ⟨a, b⟩
    have h3 : 2 ^ k * c < 2 ^ k * (y / 2 ^ k + 1) := by rw [Nat.mul_succ]; omega
    have h4 : 2 ^ k * (y / 2 ^ k) < 2 ^ k * (c + 1) := by rw [Nat.mul_succ]; omega
    have := Nat.lt_of_mul_lt_mul_left h3
    have := Nat.lt_of_mul_lt_mul_left h4
    omega

/-- No bit behind n: the number is a multiple. -/
theorem clean_num {a : AV} (h : a.Ok) {n : Nat} (hn : n ≤ widN a.six) : cleanB a.six a.hi a.lo n = true ↔ 2 ^ (widN a.six - n) ∣ a.v := by
  rw [clean_iff a.six a.hi a.lo n h.rhi h.rlo h.may (by rw [widN_eq]; omega)]
  constructor
  · intro hc
    rw [Nat.dvd_iff_mod_eq_zero]
    have h0 : a.v % 2 ^ (widN a.six - n) = 0 := by
      apply Nat.eq_of_testBit_eq
      intro j
      rw [Nat.testBit_mod_two_pow, Nat.zero_testBit]
      by_cases hj : j < widN a.six - n
      · have := hc (widN a.six - 1 - j) (by omega) (by rw [widN_eq]; omega)
        rw [AV.bitN h (by omega), show widN a.six - 1 - (widN a.six - 1 - j) = j from by omega] at this
        rw [Nat.testBit_eq_decide_div_mod_eq]
        simp only [Bool.and_eq_false_iff, decide_eq_false_iff_not]
        right
        omega
      · simp [hj]
    exact h0
  · rintro ⟨c, hc⟩ i h1 h2
    rw [widN_eq] at h2
    have h2' : i < widN a.six := by omega
    rw [AV.bitN h h2', hc]
    have : widN a.six - n = (widN a.six - 1 - i) + (i - n + 1) := by omega
    rw [this, Nat.pow_add, Nat.mul_assoc, Nat.mul_div_cancel_left _ (Nat.two_pow_pos _), Nat.pow_succ, Nat.mul_comm (2 ^ (i - n)) 2, Nat.mul_assoc]
    omega
theorem chk_num {p : PV} (h : p.a.Ok) (hn : 0 ≤ p.n ∧ p.n ≤ wideI p.six) : Go.Proofs.Ytmljdjakbbedlaa.chk p.six p.hi p.lo p.n = 0 ↔ 2 ^ p.k ∣ p.v := by
  obtain ⟨n, hn'⟩ : ∃ n : Nat, p.n = n := ⟨p.n.toNat, by omega⟩
  have hm := h.may
  have hw := widN_eq p.six
  have he : p.k = widN p.six - n := by unfold PV.k; omega
  have hc := clean_num h (n := n) (by show n ≤ widN p.six; omega)
  unfold chk
  simp only [PV.a] at hm
  rw [if_neg (by rw [hm]; simp), if_neg (by omega), he, hn']
  simp only [PV.a] at hc
  constructor
  · intro hx
    by_cases hcl : cleanB p.six p.hi p.lo n = true
    · exact hc.1 hcl
    · rw [if_neg hcl] at hx; omega
  · intro hx
    rw [if_pos (hc.2 hx)]
theorem PV.dvd {p : PV} (h : p.Ok) : 2 ^ p.k ∣ p.v := by
  have hk := PV.k_le h
  have hn := ok_n h
  obtain ⟨n, hn'⟩ : ∃ n : Nat, p.n = n := ⟨p.n.toNat, by omega⟩
  have hc := Pfx.clean h
  have he : p.k = widN p.six - n := by have := widN_eq p.six; unfold PV.k; omega
  rw [he]
  refine (clean_num h.addr (n := n) (by have := widN_eq p.six; show n ≤ widN p.six; omega)).1 ?_
  rw [← hn']
  exact hc
theorem PV.end_le {p : PV} (h : p.Ok) : p.v + 2 ^ p.k ≤ 2 ^ widN p.six :=
  aligned_below (PV.dvd h) (Nat.dvd_refl _) (PV.k_le h).1 (AV.v_lt h.addr)

/-- An address of a prefix is a number of its block. -/
theorem in_num {p : PV} {a : AV} (hp : p.Ok) (ha : a.Ok) : inB p.six p.hi p.lo p.n a.six a.hi a.lo = true ↔ p.six = a.six ∧ p.v ≤ a.v ∧ a.v < p.v + 2 ^ p.k := by
  have hn := ok_n hp
  have hd := PV.dvd hp
  have hk := PV.k_le hp
  have hpv := AV.v_lt hp.addr
  have hav := AV.v_lt ha
  obtain ⟨n, hn'⟩ : ∃ n : Nat, p.n = n := ⟨p.n.toNat, by omega⟩
  have hw := widN_eq p.six
  by_cases h6 : p.six = a.six
  · have hp' : Pfx p.six p.hi p.lo n := by rw [← hn']; exact hp
    have key := inB_iff (hi' := a.hi) (lo' := a.lo) hp' ha.rhi ha.rlo (by rw [h6]; exact ha.may)
    rw [hn', ← h6, key, ← div_block hd]
    simp only [true_and]
    have b1 := fun i (hi : i < widN p.six) => AV.bitN hp.addr (i := i) hi
    have b2 := fun i (hi : i < widN a.six) => AV.bitN ha (i := i) hi
    rw [← h6] at b2 hav
    simp only [PV.a] at b1 hpv
    have he : p.k = widN p.six - n := by unfold PV.k; omega
    constructor
    · intro h
      rw [he]
      refine nat_div_ext hpv hav fun j h1 h2 => ?_
      have := h (widN p.six - 1 - j) (by omega)
      rw [b1 _ (by omega), b2 _ (by omega), show widN p.six - 1 - (widN p.six - 1 - j) = j from by omega] at this
      have e : (AV.mk p.six p.hi p.lo).v = p.v := rfl
      rw [e] at this
      exact_mod_cast this
    · intro h i hi
      rw [b1 _ (by omega), b2 _ (by omega)]
      have e : (AV.mk p.six p.hi p.lo).v = p.v := rfl
      rw [e]
      have e2 : ∀ x : Nat, x / 2 ^ (widN p.six - 1 - i) = x / 2 ^ p.k / 2 ^ (n - 1 - i) := by
        intro x
        rw [Nat.div_div_eq_div_mul, ← Nat.pow_add]
        congr 2
        omega
      rw [e2, e2, h]
  · constructor
    · intro h
      unfold inB at h
      simp at h
      exact absurd h.1.symm h6
    · rintro ⟨h, _⟩
      exact absurd h h6

theorem over_num {p q : PV} (hp : p.Ok) (hq : q.Ok) : p.over q = true ↔ p.six = q.six ∧ p.v ≤ q.v ∧ q.v + 2 ^ q.k ≤ p.v + 2 ^ p.k := by
  unfold PV.over overB
  rw [Bool.and_eq_true, decide_eq_true_eq]
  have hi := in_num hp hq.addr
  have e : q.a.v = q.v := rfl
  simp only [PV.a] at hi
  rw [hi]
  show p.n ≤ q.n ∧ p.six = q.six ∧ p.v ≤ q.v ∧ q.v < p.v + 2 ^ p.k ↔ _
  have k1 := PV.k_le hp
  have k2 := PV.k_le hq
  have d1 := PV.dvd hp
  have d2 := PV.dvd hq
  have pk := Nat.two_pow_pos q.k
  constructor
  · rintro ⟨hn, h6, h1, h2⟩
    refine ⟨h6, h1, ?_⟩
    have hkk : q.k ≤ p.k := by rw [h6] at k1; omega
    exact aligned_below d2 (Nat.dvd_add d1 (Nat.dvd_refl _)) hkk h2
  · rintro ⟨h6, h1, h2⟩
    refine ⟨?_, h6, h1, by omega⟩
    rw [h6] at k1
    have : q.k ≤ p.k := by
      apply Classical.byContradiction
      intro hc
      have := Nat.pow_lt_pow_right (a := 2) (by omega) (show p.k < q.k by omega)
      omega
    omega

def PV.last (p : PV) : AV := ⟨p.six, lastHi p.six p.hi p.lo p.n, lastLo p.six p.hi p.lo p.n⟩
theorem PV.last_ok (p : PV) : p.last.Ok := ⟨(last_range p.six p.hi p.lo p.n).1, (last_range p.six p.hi p.lo p.n).2.1, (last_range p.six p.hi p.lo p.n).2.2⟩
theorem last_num {p : PV} (hp : p.Ok) : p.last.v = p.v + 2 ^ p.k - 1 := by
  have hl := PV.last_ok p
  have hn := ok_n hp
  have hk := PV.k_le hp
  have hw := widN_eq p.six
  have hd := PV.dvd hp
  obtain ⟨n, hn'⟩ : ∃ n : Nat, p.n = n := ⟨p.n.toNat, by omega⟩
  have he : p.k = widN p.six - n := by unfold PV.k; omega
  have hlv := AV.v_lt hl
  have hpv := AV.v_lt hp.addr
  have bl := fun i (hi : i < widN p.six) => AV.bitN hl (i := i) hi
  have bp := fun i (hi : i < widN p.six) => AV.bitN hp.addr (i := i) hi
  simp only [PV.last] at bl
  simp only [PV.a] at bp
  have e0 : (AV.mk p.six p.hi p.lo).v = p.v := rfl
  have e1 : (AV.mk p.six (lastHi p.six p.hi p.lo p.n) (lastLo p.six p.hi p.lo p.n)).v = p.last.v := rfl
  have hpp := Nat.two_pow_pos p.k
  -- the upper parts are alike
  have hup : p.v / 2 ^ p.k = p.last.v / 2 ^ p.k := by
    refine nat_div_ext hpv hlv fun j h1 h2 => ?_
    have h2 : j < widN p.six := h2
    have hb := last_bit p.six p.hi p.lo p.n (widN p.six - 1 - j) (by omega)
    rw [if_pos (by omega), bl _ (by omega), bp _ (by omega), show widN p.six - 1 - (widN p.six - 1 - j) = j from by omega, e0, e1] at hb
    omega
  -- the lower parts are all ones
  have hlo : p.last.v % 2 ^ p.k = 2 ^ p.k - 1 := by
    apply Nat.eq_of_testBit_eq
    intro j
    rw [Nat.testBit_mod_two_pow, Nat.testBit_two_pow_sub_one]
    by_cases hj : j < p.k
    · have hb := last_bit p.six p.hi p.lo p.n (widN p.six - 1 - j) (by omega)
      rw [if_neg (by omega), bl _ (by omega), show widN p.six - 1 - (widN p.six - 1 - j) = j from by omega, e1] at hb
      rw [Nat.testBit_eq_decide_div_mod_eq]
      simp [hj]
      omega
    · simp [hj]
  have h1 := Nat.div_add_mod p.last.v (2 ^ p.k)
  rw [← hup, hlo, Nat.mul_div_cancel' hd] at h1
  omega

def PV.low (p : PV) : PV := ⟨p.six, p.hi, p.lo, p.n + 1⟩
def PV.high (p : PV) : PV := ⟨p.six, setHi p.six p.hi p.n.toNat, setLo p.six p.lo p.n.toNat, p.n + 1⟩
theorem low_num {p : PV} (hp : p.Ok) (hn : p.n < wideI p.six) : p.low.Ok ∧ p.low.v = p.v ∧ p.k = p.low.k + 1 := by
  have h := ok_n hp
  have hk : p.k = p.low.k + 1 := by unfold PV.k PV.low; simp only; omega
  refine ⟨?_, rfl, hk⟩
  have : Go.Proofs.Ytmljdjakbbedlaa.chk p.low.six p.low.hi p.low.lo p.low.n = 0 := (chk_num (p := p.low) hp.addr ⟨by show 0 ≤ p.n + 1; omega, by show p.n + 1 ≤ wideI p.six; omega⟩).2 (pow_dvd_le (j := p.k) (PV.dvd hp) (by omega))
  exact chk_zero (Pfx.rhi hp) (Pfx.rlo hp) this
theorem high_num {p : PV} (hp : p.Ok) (hn : p.n < wideI p.six) : p.high.Ok ∧ p.high.v = p.v + 2 ^ p.high.k ∧ p.k = p.high.k + 1 := by
  have h := ok_n hp
  have hk : p.k = p.high.k + 1 := by unfold PV.k PV.high; simp only; omega
  have hw := widN_eq p.six
  obtain ⟨n, hn'⟩ : ∃ n : Nat, p.n = n := ⟨p.n.toNat, by omega⟩
  have hr := set_range p.six p.hi p.lo n (Pfx.rhi hp) (Pfx.rlo hp) (Pfx.may hp) (by omega)
  have ha : p.high.a.Ok := by
    have e : p.n.toNat = n := by omega
    unfold PV.high PV.a
    simp only [e]
    exact ⟨hr.1, hr.2.1, hr.2.2⟩
  have hd := PV.dvd hp
  have hpv := AV.v_lt hp.addr
  have hhv := AV.v_lt ha
  have bp := fun i (hi : i < widN p.six) => AV.bitN hp.addr (i := i) hi
  have bh := fun i (hi : i < widN p.six) => AV.bitN ha (i := i) hi
  have hs : ∀ i : Nat, i < widN p.six → p.high.v / 2 ^ (widN p.six - 1 - i) % 2 = if i = n then 1 else p.v / 2 ^ (widN p.six - 1 - i) % 2 := by
    intro i hi
    have hb := set_bit p.six p.hi p.lo n i (Pfx.rhi hp) (Pfx.rlo hp) (by omega) (by omega)
    have h1 := bp i hi
    have h2 := bh i hi
    have e : p.n.toNat = n := by omega
    simp only [PV.high, PV.a, e] at h2
    simp only [PV.a] at h1
    rw [h1, h2] at hb
    have e1 : (AV.mk p.six (setHi p.six p.hi n) (setLo p.six p.lo n)).v = p.high.v := by unfold PV.high PV.v PV.a; simp only [e]
    have e0 : (AV.mk p.six p.hi p.lo).v = p.v := rfl
    rw [e0, e1] at hb
    by_cases hin : i = n
    · rw [if_pos hin] at hb ⊢; omega
    · rw [if_neg hin] at hb ⊢; omega
  have hk2 : p.high.k = widN p.six - 1 - n := by unfold PV.k PV.high; simp only; omega
  have hval : p.high.v = p.v + 2 ^ p.high.k := by
    have hlt : p.v + 2 ^ p.k ≤ 2 ^ widN p.six := PV.end_le hp
    have he : 2 ^ p.k = 2 ^ p.high.k + 2 ^ p.high.k := by rw [hk, Nat.pow_succ]; omega
    have hpp := Nat.two_pow_pos p.high.k
    have hsum : p.v + 2 ^ p.high.k = p.v ||| 2 ^ p.high.k := by
      obtain ⟨c, hc⟩ := hd
      rw [hk] at hc
      have : 2 ^ p.high.k < 2 ^ (p.high.k + 1) := by rw [Nat.pow_succ]; omega
      rw [hc, Nat.two_pow_add_eq_or_of_lt this c]
    rw [hsum]
    apply Nat.eq_of_testBit_eq
    intro j
    rw [Nat.testBit_or, Nat.testBit_two_pow]
    by_cases hj : j < widN p.six
    · have hb := hs (widN p.six - 1 - j) (by omega)
      rw [show widN p.six - 1 - (widN p.six - 1 - j) = j from by omega] at hb
      rw [Nat.testBit_eq_decide_div_mod_eq, Nat.testBit_eq_decide_div_mod_eq, hb]
      by_cases hjk : p.high.k = j
      · rw [if_pos (by omega)]; simp [hjk]
      · rw [if_neg (by omega)]; simp [hjk]
    · have hm : 2 ^ widN p.six ≤ 2 ^ j := Nat.pow_le_pow_right (by omega) (by omega)
      have e1 : p.high.v.testBit j = false := Nat.testBit_lt_two_pow (Nat.lt_of_lt_of_le hhv hm)
      have e2 : p.v.testBit j = false := Nat.testBit_lt_two_pow (Nat.lt_of_lt_of_le hpv hm)
      rw [e1, e2]
      have : ¬ p.high.k = j := by omega
      simp [this]
  refine ⟨?_, hval, hk⟩
  have : Go.Proofs.Ytmljdjakbbedlaa.chk p.high.six p.high.hi p.high.lo p.high.n = 0 := by
    refine (chk_num (p := p.high) ha ⟨by show 0 ≤ p.n + 1; omega, by show p.n + 1 ≤ wideI p.six; omega⟩).2 ?_
    rw [hval]
    exact Nat.dvd_add (pow_dvd_le hd (by omega)) (Nat.dvd_refl _)
  exact chk_zero ha.rhi ha.rlo this

/-- The prefix of an aligned block. -/
def ofBlk (six : Bool) (b : Nat × Nat) : PV := ⟨six, if six then ((b.1 / 18446744073709551616 : Nat) : Int) else 0, if six then ((b.1 % 18446744073709551616 : Nat) : Int) else (b.1 : Int), (widN six : Int) - b.2⟩
theorem ofBlk_self {p : PV} (hp : p.Ok) : ofBlk p.six (p.v, p.k) = p := by
  have hk := PV.k_le hp
  have hv := AV.v_val hp.addr
  have r1 := Pfx.rhi hp
  have r2 := Pfx.rlo hp
  have hm := Pfx.may hp
  have e : (p.a.v : Int) = (p.v : Int) := rfl
  rw [e] at hv
  obtain ⟨six, hi, lo, n⟩ := p
  unfold ofBlk
  simp only [PV.a] at hv hk r1 r2 hm ⊢
  unfold valI at hv
  cases six
  · have := mayB_four hm
    simp only [Bool.false_eq_true, ↓reduceIte] at hv ⊢
    exact PV.ext' rfl this.1.symm hv (by simp only; omega)
  · simp only [↓reduceIte] at hv ⊢
    exact PV.ext' rfl (by simp only; omega) (by simp only; omega) (by simp only; omega)

/-- One stands ahead of another of its family by its number. -/
def lessB (a b : AV) : Bool := if a.six = b.six then decide (a.hi < b.hi) || (decide (a.hi = b.hi) && decide (a.lo < b.lo)) else b.six
theorem less_num {a b : AV} (ha : a.Ok) (hb : b.Ok) (h6 : a.six = b.six) : lessB a b = true ↔ a.v < b.v := by
  have h1 := AV.v_val ha
  have h2 := AV.v_val hb
  have r1 := ha.rhi
  have r2 := ha.rlo
  have r3 := hb.rhi
  have r4 := hb.rlo
  have m1 := ha.may
  have m2 := hb.may
  unfold lessB
  rw [if_pos h6]
  simp only [Bool.or_eq_true, Bool.and_eq_true, decide_eq_true_eq]
  obtain ⟨s, x, y⟩ := a
  obtain ⟨s', x', y'⟩ := b
  simp only at *
  subst h6
  unfold valI at h1 h2
  cases s
  · have := mayB_four m1
    have := mayB_four m2
    simp only [Bool.false_eq_true, ↓reduceIte] at h1 h2
    omega
  · simp only [↓reduceIte] at h1 h2
    omega

def AV.plus (a : AV) (by' : Int) : AV := ⟨a.six, plusHi a.hi a.lo by', plusLo a.hi a.lo by'⟩
theorem up_num {a : AV} (ha : a.Ok) : (plusOk a.six a.hi a.lo 1 = true ↔ a.v + 1 < 2 ^ widN a.six) ∧ (plusOk a.six a.hi a.lo 1 = true → (a.plus 1).Ok ∧ (a.plus 1).v = a.v + 1) := by
  have h := plusOk_iff a.six a.hi a.lo 1 ha.rhi ha.rlo ha.may (by omega)
  have hv := AV.v_val ha
  rw [topI_eq, ← hv] at h
  constructor
  · rw [h]; omega
  · intro hok
    have hp := plus_val a.six a.hi a.lo 1 ha.rhi ha.rlo ha.may hok
    have hr := plus_range a.hi a.lo 1
    have hok2 : (a.plus 1).Ok := ⟨hr.1, hr.2, hp.2⟩
    refine ⟨hok2, ?_⟩
    have := AV.v_val hok2
    simp only [AV.plus] at this ⊢
    rw [hp.1] at this
    omega
theorem down_num {a : AV} (ha : a.Ok) (hv0 : 0 < a.v) : (a.plus (-1)).Ok ∧ (a.plus (-1)).v = a.v - 1 := by
  have h := plusOk_iff a.six a.hi a.lo (-1) ha.rhi ha.rlo ha.may (by omega)
  have hv := AV.v_val ha
  have hlt := AV.v_lt ha
  rw [topI_eq, ← hv] at h
  have hok := h.2 (by omega)
  have hp := plus_val a.six a.hi a.lo (-1) ha.rhi ha.rlo ha.may hok
  have hr := plus_range a.hi a.lo (-1)
  have hok2 : (a.plus (-1)).Ok := ⟨hr.1, hr.2, hp.2⟩
  refine ⟨hok2, ?_⟩
  have := AV.v_val hok2
  simp only [AV.plus] at this ⊢
  rw [hp.1] at this
  omega

end Go.Proofs.Ytmljdjakbbedlaa

namespace Go.Proofs.Ytmljdjakbbedlaa

structure ActV where
  kind : Int
  p : PV
  hop : Int
  a : AV
structure AnsV where
  code : Int
  hop : Int
  len : Int

def delR (l : List RouteV) (p : PV) : List RouteV := l.filter fun r => decide (¬ r.p = p)
def setR (l : List RouteV) (p : PV) (hop : Int) : List RouteV := if hasR l p = true then l.map (fun r => if r.p = p then ⟨p, hop⟩ else r) else l ++ [⟨p, hop⟩]

theorem hasR_iff {l : List RouteV} {p : PV} : hasR l p = true ↔ ∃ r ∈ l, r.p = p := by
  unfold hasR
  simp [List.any_eq_true]
theorem hasR_get {l : List RouteV} {p : PV} (hv : ∀ r ∈ l, 1 ≤ r.hop) : hasR l p = true ↔ ¬ getR l p = 0 := by
  constructor
  · exact getR_some hv
  · intro h
    cases hh : hasR l p with
    | true => rfl
    | false => exact absurd (getR_none hh) h

theorem getR_del (l : List RouteV) (p p' : PV) : getR (delR l p) p' = if p' = p then 0 else getR l p' := by
  induction l with
  | nil => unfold delR getR; simp
  | cons r l ih =>
    unfold delR at ih ⊢
    rw [List.filter_cons]
    by_cases h : r.p = p
    · rw [if_neg (by simp [h]), ih]
      conv => rhs; rhs; unfold getR
      by_cases e : p' = p
      · rw [if_pos e, if_pos e]
      · rw [if_neg e, if_neg e, if_neg (fun h' => e (h'.symm.trans h))]
    · rw [if_pos (by simp [h])]
      show (if r.p = p' then r.hop else getR (l.filter _) p') = _
      rw [ih]
      conv => rhs; rhs; unfold getR
      by_cases e : r.p = p'
      · rw [if_pos e, if_neg (fun h' => h (e.trans h')), if_pos e]
      · rw [if_neg e, if_neg e]
theorem del_none {l : List RouteV} {p : PV} (h : hasR l p = false) : delR l p = l := by
  unfold delR
  refine List.filter_eq_self.2 fun r hr => ?_
  unfold hasR at h
  rw [List.any_eq_false] at h
  simpa using h r hr
theorem del_length {l : List RouteV} {p : PV} (hn : (l.map RouteV.p).Nodup) (h : hasR l p = true) : (delR l p).length + 1 = l.length := by
  induction l with
  | nil => simp [hasR] at h
  | cons r l ih =>
    rw [List.map_cons, List.nodup_cons] at hn
    by_cases e : r.p = p
    · have : hasR l p = false := by
        cases hh : hasR l p with
        | false => rfl
        | true =>
          obtain ⟨x, hx, hx2⟩ := hasR_iff.1 hh
          exact absurd (List.mem_map.2 ⟨x, hx, hx2.trans e.symm⟩) hn.1
      have hd := del_none this
      unfold delR at hd ⊢
      rw [List.filter_cons, if_neg (by simp [e]), hd, List.length_cons]
    · have h2 : hasR l p = true := by
        obtain ⟨x, hx, hx2⟩ := hasR_iff.1 h
        rcases List.mem_cons.1 hx with rfl | hx
        · exact absurd hx2 e
        · exact hasR_iff.2 ⟨x, hx, hx2⟩
      have := ih hn.2 h2
      unfold delR at this ⊢
      rw [List.filter_cons, if_pos (by simp [e]), List.length_cons, List.length_cons]
      omega
theorem valid_del {l : List RouteV} (hv : Valid l) (p : PV) : Valid (delR l p) :=
  ⟨fun r hr => hv.1 r (List.mem_filter.1 hr).1, hv.2.sublist (List.filter_sublist.map _)⟩

theorem getR_map {l : List RouteV} {p : PV} {hop : Int} (h : hasR l p = true) (p' : PV) : getR (l.map fun r => if r.p = p then ⟨p, hop⟩ else r) p' = if p' = p then hop else getR l p' := by
  induction l with
  | nil => simp [hasR] at h
  | cons r l ih =>
    rw [List.map_cons]
    by_cases e : r.p = p
    · rw [if_pos e]
      show (if p = p' then hop else getR _ p') = _
      by_cases e' : p' = p
      · rw [if_pos e', if_pos e'.symm]
      · rw [if_neg e', if_neg (fun x => e' x.symm)]
        conv => rhs; unfold getR
        rw [if_neg (fun x => e' (x.symm.trans e))]
        cases hh : hasR l p with
        | true => rw [ih hh, if_neg e']
        | false =>
          congr 1
          conv => rhs; rw [← List.map_id l]
          refine List.map_congr_left fun x hx => ?_
          unfold hasR at hh
          rw [List.any_eq_false] at hh
          rw [if_neg (by simpa using hh x hx)]
          rfl
    · rw [if_neg e]
      show (if r.p = p' then r.hop else getR _ p') = _
      have h2 : hasR l p = true := by
        obtain ⟨x, hx, hx2⟩ := hasR_iff.1 h
        rcases List.mem_cons.1 hx with rfl | hx
        · exact absurd hx2 e
        · exact hasR_iff.2 ⟨x, hx, hx2⟩
      rw [ih h2]
      conv => rhs; rhs; unfold getR
      by_cases e' : r.p = p'
      · rw [if_pos e', if_neg (fun x => e (e'.trans x)), if_pos e']
      · rw [if_neg e', if_neg e']
theorem getR_set (l : List RouteV) (p : PV) (hop : Int) (p' : PV) : getR (setR l p hop) p' = if p' = p then hop else getR l p' := by
  unfold setR
  by_cases h : hasR l p = true
  · rw [if_pos h]; exact getR_map h p'
  · rw [if_neg h]; exact getR_snoc (by simpa using h)
theorem map_p (l : List RouteV) (p : PV) (hop : Int) : (l.map fun r => if r.p = p then (⟨p, hop⟩ : RouteV) else r).map RouteV.p = l.map RouteV.p := by
  rw [List.map_map]
  refine List.map_congr_left fun r _ => ?_
  by_cases e : r.p = p
  · simp [e]
  · simp [e]
theorem valid_set {l : List RouteV} (hv : Valid l) {p : PV} {hop : Int} (hp : p.Ok) (hh : 1 ≤ hop ∧ hop ≤ 999) : Valid (setR l p hop) := by
  unfold setR
  by_cases h : hasR l p = true
  · rw [if_pos h]
    refine ⟨fun r hr => ?_, by rw [map_p]; exact hv.2⟩
    obtain ⟨x, hx, rfl⟩ := List.mem_map.1 hr
    by_cases e : x.p = p
    · rw [if_pos e]; exact ⟨hp, hh.1, hh.2⟩
    · rw [if_neg e]; exact hv.1 x hx
  · rw [if_neg h]; exact valid_snoc hv hp hh (by simpa using h)
theorem set_length (l : List RouteV) (p : PV) (hop : Int) : (setR l p hop).length = if hasR l p = true then l.length else l.length + 1 := by
  unfold setR
  split <;> simp

/-- What an act comes to. -/
def doA (l : List RouteV) (a : ActV) : AnsV :=
  if a.kind < 1 ∨ 4 < a.kind then ⟨3, 0, 0⟩
  else if a.kind = 3 then (if mayB a.a.six a.a.hi a.a.lo = false then ⟨4, 0, 0⟩ else ⟨0, (goesR l a.a.six a.a.hi a.a.lo).1, (goesR l a.a.six a.a.hi a.a.lo).2⟩)
  else if ¬ a.p.chk = 0 then ⟨a.p.chk, 0, 0⟩
  else if a.kind = 2 then (if getR l a.p = 0 then ⟨7, 0, 0⟩ else ⟨0, getR l a.p, 0⟩)
  else if a.kind = 4 then (if getR l a.p = 0 then ⟨7, 0, 0⟩ else ⟨0, getR l a.p, a.p.n⟩)
  else if a.hop < 1 ∨ 999 < a.hop then ⟨2, 0, 0⟩
  else if l.length = 60 ∧ getR l a.p = 0 then ⟨9, 0, 0⟩
  else ⟨0, getR l a.p, 0⟩
/-- The routes behind an act. -/
def doL (l : List RouteV) (a : ActV) : List RouteV :=
  if ¬ (a.kind = 1 ∨ a.kind = 2) then l
  else if ¬ a.p.chk = 0 then l
  else if a.kind = 2 then delR l a.p
  else if a.hop < 1 ∨ 999 < a.hop then l
  else if l.length = 60 ∧ getR l a.p = 0 then l
  else setR l a.p a.hop

end Go.Proofs.Ytmljdjakbbedlaa

namespace Go.Proofs.Ytmljdjakbbedlaa
open Go.ChangeShapes Go.WideShapes Go.ChangeAt Go.RowKit

theorem upd_upd (R : Bool → Tr) (s : Bool) (t t' : Tr) : upd (upd R s t) s t' = upd R s t' := by
  funext s'
  unfold upd
  by_cases h : s' = s
  · rw [if_pos h, if_pos h]
  · rw [if_neg h, if_neg h, if_neg h]

/-- What is left of the node at a place is stored at the place. -/
theorem Tab.only {w : World} {B tb : Nat} {R : Bool → Tr} {c : Int} {s : Bool} {C : Ctx} {cur : Tr} (h : Tab w B tb R c) (hR : R s = C.plug cur) :
    Tab (w.setCell (C.slot tb s) (onlyT cur).ptr) B tb (upd R s (C.plug (onlyT cur))) c := by
  have hl := ((plug_lies C cur).1 (hR ▸ h.lies s)).2
  have hn := (nodup_parts h hR).2.2.2.1
  exact h.store hR (only_lies hl) (hn.sublist only_blocks) fun g hg => .inl (only_blocks.subset hg)

/-- The places above, from the top on. -/
def aboveL (tb : Nat) (six : Bool) : Ctx → List Value
  | .top => []
  | .left C _ _ _ _ => aboveL tb six C ++ [.pointer (some (C.slot tb six))]
  | .right C _ _ _ _ => aboveL tb six C ++ [.pointer (some (C.slot tb six))]
theorem above_deep {six s : Bool} {tb : Nat} : ∀ (C : Ctx) (g : Nat) (q : PV) (h : Int) (l r : Tr) (U : PV → Prop), Inv six U (C.plug (.node g q h l r)) → ((aboveL tb s C).length : Int) ≤ q.n
  | .top, g, q, h, l, r, U, hi => (ok_n hi.1).1
  | .left C g' q' h' r', g, q, h, l, r, U, hi => by
    obtain ⟨U', hi'⟩ := inv_plug C _ _ hi
    have := above_deep (tb := tb) (s := s) C g' q' h' (.node g q h l r) r' U hi
    have hu := hi'.2.2.2.2.1.2.2.1.1
    unfold aboveL
    rw [List.length_append]
    simp
    omega
  | .right C g' q' h' l', g, q, h, l, r, U, hi => by
    obtain ⟨U', hi'⟩ := inv_plug C _ _ hi
    have := above_deep (tb := tb) (s := s) C g' q' h' l' (.node g q h l r) U hi
    have hu := hi'.2.2.2.2.2.2.2.1.1
    unfold aboveL
    rw [List.length_append]
    simp
    omega

theorem holds_cut {w' : World} {B tb : Nat} {R : Bool → Tr} {c : Int} {l : List RouteV} {p : PV} {C : Ctx} {g : Nat} {h : Int} {lt rt : Tr} (hI : ∀ s, Inv s (fun _ => True) (R s)) (hm : ∀ p : PV, p.Ok → hopAt (R p.six) p = getR l p) (hc : c = l.length)
    (hv : Valid l) (hp : p.Ok) (hR : R p.six = C.plug (.node g p h lt rt)) (hon : C.OnPath p) (hh : ¬ h = 0) (hT : Tab w' B tb (upd R p.six (cutC (onlyT (.node g p 0 lt rt)) C)) (c - 1)) : Holds w' B tb (delR l p) := by
  have hget : getR l p = h := by
    rw [← hm p hp, hR, plug_hop C _ hon]
    show (if p = p then h else _) = h
    rw [if_pos rfl]
  have hhas : hasR l p = true := (hasR_get fun r hr => (hv.1 r hr).2.1).2 (by rw [hget]; exact hh)
  have hi := hI p.six
  rw [hR] at hi
  refine ⟨_, _, hT, fun s => ?_, fun p' hp' => ?_, ?_⟩
  · unfold upd
    split
    · rename_i e; subst e
      exact cut_inv hi
    · exact hI s
  · rw [getR_del]
    unfold upd
    by_cases e : p'.six = p.six
    · rw [if_pos e, cut_hops hi hon hp', ← hR, ← hm p' hp', e]
    · rw [if_neg e, if_neg (fun h => e (by rw [h]))]
      exact hm p' hp'
  · have := del_length hv.2 hhas
    omega
theorem holds_set {w' : World} {B tb G1 G2 : Nat} {R : Bool → Tr} {c : Int} {l : List RouteV} {p : PV} {hop : Int} (hI : ∀ s, Inv s (fun _ => True) (R s)) (hm : ∀ p : PV, p.Ok → hopAt (R p.six) p = getR l p) (hc : c = l.length)
    (hv : Valid l) (hp : p.Ok) (hh : 1 ≤ hop ∧ hop ≤ 999) (hT : Tab w' B tb (upd R p.six (putT p hop G1 G2 (R p.six))) (if hopAt (R p.six) p = 0 then c + 1 else c)) : Holds w' B tb (setR l p hop) := by
  have hg : hasR l p = true ↔ ¬ getR l p = 0 := hasR_get fun r hr => (hv.1 r hr).2.1
  refine ⟨_, _, hT, fun s => ?_, fun p' hp' => ?_, ?_⟩
  · unfold upd
    split
    · rename_i e; subst e
      exact inv_put hp rfl (by omega) _ _ (hI p.six) trivial (fun _ _ _ _ _ _ _ _ => trivial)
    · exact hI s
  · rw [getR_set]
    unfold upd
    by_cases e : p'.six = p.six
    · rw [if_pos e]
      have := hopAt_put (hop := hop) (G1 := G1) (G2 := G2) hp rfl p' hp' (R p.six) _ (hI p.six)
      rw [this, ← e, hm p' hp']
    · have e2 : ¬ p' = p := fun h => e (by rw [h])
      rw [if_neg e, if_neg e2]
      exact hm p' hp'
  · rw [set_length, hm p hp]
    by_cases h0 : getR l p = 0
    · rw [if_pos h0, if_neg (fun x => hg.1 x h0)]; omega
    · rw [if_neg h0, if_pos (hg.2 h0)]; exact hc

end Go.Proofs.Ytmljdjakbbedlaa

namespace Go.Proofs.Ytmljdjakbbedlaa
open Go.ChangeShapes Go.WideShapes Go.ChangeAt Go.RowKit

theorem own_reads {w : World} {base : Nat} {e : TypeId} {size n : Nat} {v : Value} {xs : List Value} (h : w.ownsRow base e size v n xs) : ∃ A c, v = .slice A n c ∧ (n ≤ c ∧ c ≤ maxLen) ∧ Reads w w.heap.size size A n xs := by
  rcases h.2 with ⟨rfl, rfl⟩ | ⟨g, cap, cur, rfl, _, _, h1, h2, _⟩
  · exact ⟨none, 0, rfl, ⟨Nat.le_refl _, by unfold maxLen; omega⟩, Reads.of_own h⟩
  · exact ⟨_, cap, rfl, ⟨h1, h2⟩, Reads.of_own h⟩

/-- append(own, s...) in a list of operations. -/
theorem wpList_append_reads {P : Program} {ops : Array Oper} {rest : List Oper} {o : Oper} {a : Act} {w : World} {Q : Exit → Act → World → Prop} (hgd : o.guard = none) (s x : Operand) (t : TypeId)
    (ho : o.op = .call { callee := .builtin .append, args := #[s, x], argTypes := #[t, t] })
    (base : Nat) (e : TypeId) (z : Value) (size bytes : Nat) (ht : P.underlying t = some (.slice e)) (hi : (P.info? e).map (fun i => (i.zero, i.size, i.bytes)) = some (some z, size, bytes))
    (hzs : z.cells.size = size) (hsz : 0 < size)
    (v : Value) (n : Nat) (xs : List Value) (hs : a.eval s = v) (A : Option Addr) (m c : Nat) (hx : a.eval x = .slice A m c) (hown : w.ownsRow base e size v n xs)
    (B : Nat) (news : List Value) (hr : Reads w B size A m news) (h1 : ∀ u ∈ news, u.oneCell' = true)
    (h63 : n + m ≤ maxLen) (hbytes : (n + m) * bytes ≤ 140737488355328) (hbase : base ≤ w.heap.size)
    (h : ∀ v' w', w'.ownsRow base e size v' (n + m) (xs ++ news) → Below base w w' → wpList P ops Q rest (a.put o.dst v') w') : wpList P ops Q (o :: rest) a w := by
  obtain ⟨i0, hi, hz0, hz1, hz2⟩ := info_parts hi
  refine wpList_append_any w hgd s x t ho base e i0 z size bytes ht hi hz0 hz1 hz2 hzs hsz v n xs hs hown B A m c news hx hr h1 h63 hbytes hbase fun v' w' h2 h3 _ => h v' w' h2 ((Below.refl _ _).grown h3 hbase ?_)
  intro k hk
  rcases hown.2 with ⟨rfl, _⟩ | ⟨g, cap, cur, rfl, hgb, _⟩
  · simp [Value.ownBlock] at hk
  · simp only [Value.ownBlock, Option.some.injEq] at hk
    omega

theorem own_reads_at {w : World} {base : Nat} {e : TypeId} {size n : Nat} {v : Value} {xs : List Value} (h : w.ownsRow base e size v n xs) : ∃ A c, v = .slice A n c ∧ (n ≤ c ∧ c ≤ maxLen) ∧ Reads w w.heap.size size A n xs ∧ ∀ ad, A = some ad → base ≤ ad.block := by
  rcases h.2 with ⟨rfl, rfl⟩ | ⟨g, cap, cur, rfl, hg, _, h1, h2, _⟩
  · exact ⟨none, 0, rfl, ⟨Nat.le_refl _, by unfold maxLen; omega⟩, Reads.of_own h, fun ad h => by cases h⟩
  · exact ⟨_, cap, rfl, ⟨h1, h2⟩, Reads.of_own h, fun ad h => by injection h with h; subst h; exact hg⟩

/-- A row that grows in a loop, while all that was there before the loop stays, but for the row's own first block. -/
structure RowAt (w3 : World) (G base : Nat) (e : TypeId) (size : Nat) (wr : World) (v : Value) (n : Nat) (xs : List Value) : Prop where
  own : wr.ownsRow base e size v n xs
  blk : ∀ k, v.ownBlock = some k → k = G ∨ w3.heap.size ≤ k
  below : Below base w3 wr
  kept : ∀ k, k < w3.heap.size → k ≠ G → wr.heap[k]? = w3.heap[k]?
  le : base ≤ w3.heap.size
theorem RowAt.step {w3 wr w' : World} {G base : Nat} {e : TypeId} {size n : Nat} {v : Value} {xs : List Value} (h : RowAt w3 G base e size wr v n xs) (hb : Below wr.heap.size wr w') : RowAt w3 G base e size w' v n xs :=
  ⟨own_below h.own hb, h.blk, h.below.trans (hb.mono (Nat.le_trans h.le h.below.size)), fun k hk hne => (hb.block k (by have := h.below.size; omega)).trans (h.kept k hk hne), h.le⟩
theorem RowAt.alloc {w3 wr : World} {G base : Nat} {e : TypeId} {size n : Nat} {v : Value} {xs : List Value} (h : RowAt w3 G base e size wr v n xs) (o : Obj) : RowAt w3 G base e size (wr.alloc o) v n xs := h.step ((Below.refl _ _).alloc (Nat.le_refl _) _)

theorem wpList_append_row {P : Program} {ops : Array Oper} {rest : List Oper} {o : Oper} {a : Act} {Q : Exit → Act → World → Prop} {w0 : World} {us : List Value} {fr : Nat × Nat} {e : TypeId} {g : Nat} (hgd : o.guard = none) (s x : Operand) (t : TypeId)
    (ho : o.op = .call { callee := .builtin .append, args := #[s, x], argTypes := #[t, t] })
    (w3 : World) (G base : Nat) (z : Value) (size bytes : Nat) (ht : P.underlying t = some (.slice e)) (hi : (P.info? e).map (fun i => (i.zero, i.size, i.bytes)) = some (some z, size, bytes))
    (hzs : z.cells.size = size) (hsz : 0 < size) (v : Value) (n : Nat) (xs : List Value) (hs : a.eval s = v)
    (hx : a.eval x = .slice (some ⟨g, 0, none⟩) 1 1) (hg : g = w0.heap.size) (hrow : RowAt w3 G base e size w0 v n xs)
    (hl : us.length = size) (h1 : ∀ u ∈ us, u.oneCell' = true) (h63 : n + 1 ≤ maxLen) (hbytes : (n + 1) * bytes ≤ 140737488355328)
    (h : ∀ v' w', RowAt w3 G base e size w' v' (n + 1) (xs ++ us) → w0.heap.size < w'.heap.size → (∀ k, k < w0.heap.size → v.ownBlock ≠ some k → w'.heap[k]? = w0.heap[k]?) → wpList P ops Q rest (a.put o.dst v') w') :
    wpList P ops Q (o :: rest) a (w0.alloc (.cells us.toArray e fr)) := by
  subst hg
  obtain ⟨i0, hi, hz0, hz1, hz2⟩ := info_parts hi
  have hbase : base ≤ w0.heap.size := Nat.le_trans hrow.le hrow.below.size
  have hr : Reads (w0.alloc (.cells us.toArray e fr)) (w0.alloc (.cells us.toArray e fr)).heap.size size (some ⟨w0.heap.size, 0, none⟩) 1 us := by
    refine ⟨by simp [hl], fun _ => ⟨_, rfl, by simp, fun j u hj => ?_⟩⟩
    have e1 : (⟨w0.heap.size, 0, none⟩ : Addr).add j = ⟨w0.heap.size, j, none⟩ := by unfold Addr.add; split <;> simp_all
    rw [e1]
    have : (w0.alloc (.cells us.toArray e fr)).heap[w0.heap.size]? = some (.cells us.toArray e fr) := heap_alloc_new w0 _
    unfold World.cell?
    simp only [this]
    simpa using hj
  refine wpList_append_any _ hgd s x t ho base e i0 z size bytes ht hi hz0 hz1 hz2 hzs hsz v n xs hs (hrow.own.alloc _) _ _ 1 1 us hx hr h1 h63 hbytes (by simp; omega) ?_
  intro v' w' hown' hgr hblk
  have hne : ∀ k, k < w3.heap.size → k ≠ G → v.ownBlock ≠ some k := by
    intro k hk hne he
    rcases hrow.blk k he with h | h <;> omega
  have hb : Below base w0 (w0.alloc (.cells us.toArray e fr)) := (Below.refl _ _).alloc hbase _
  have hsz' := hgr.size
  simp at hsz'
  refine h v' w' ⟨hown', ?_, hrow.below.trans (hb.grown hgr (by simp; omega) ?_), ?_, hrow.le⟩ (by omega) ?_
  · intro k hk
    rcases hblk with hh | hh
    · rw [hh] at hk
      exact hrow.blk k hk
    · rw [hh] at hk
      injection hk with hk
      have := hrow.below.size
      simp at hk
      omega
  · intro k hk
    rcases hrow.own.2 with ⟨rfl, _⟩ | ⟨g, cap, cur, rfl, hgb, _⟩
    · simp [Value.ownBlock] at hk
    · simp only [Value.ownBlock, Option.some.injEq] at hk
      omega
  · intro k hk hkG
    have := hrow.below.size
    rw [hgr.block k (by simp; omega) (fun he => hne k hk hkG he.symm)]
    exact (Below.heap_alloc _ _ _ (by omega)).trans (hrow.kept k hk hkG)
  · intro k hk hne
    rw [hgr.block k (by simp; omega) (fun he => hne he.symm)]
    exact Below.heap_alloc _ _ _ hk

end Go.Proofs.Ytmljdjakbbedlaa
