/-
  
  
  
-/
import Derived.Test.YtonelibgaceflaaC15
import Derived.Test.YtonelibgaceflaaC14
import Derived.Test.YtonelibgaceflaaC7
namespace Go.Proofs.Ytonelibgaceflaa
open Classical

/-- A list as sorted joined spans: what is known of it. -/
structure Spans (l : List PV) (s : List SV) : Prop where
  joined : Joined s
  has : ∀ six x, hasS s six x ↔ hasL l six x
  len : s.length ≤ l.length
theorem joinL_len (l : List PV) : (joinL l).length ≤ l.length := by
  induction hn : l.length generalizing l with
  | zero => have : l = [] := List.eq_nil_of_length_eq_zero hn; subst this; exact Nat.le_refl _
  | succ k ih =>
    rcases List.eq_nil_or_concat l with rfl | ⟨i, p, rfl⟩
    · cases hn
    · rw [List.concat_eq_append] at *
      rw [joinL_snoc]
      have h1 := ih i (by simp at hn; exact hn)
      have : ∀ (out : List SV) (s : SV), (joinStep out s).length ≤ out.length + 1 := by
        intro out s
        unfold joinStep
        split
        · simp
        · rename_i t ht
          have hne : out ≠ [] := by rintro rfl; cases ht
          have := List.length_pos_iff.2 hne
          split
          · split
            · simp
            · omega
          · simp
      have := this (joinL i) (spanP p)
      omega
theorem spans_law {l l' : List PV} (hok : ∀ p ∈ l, p.Ok) (hsort : l'.Pairwise leP) (hperm : l'.length = l.length) (hmem : ∀ p, p ∈ l' ↔ p ∈ l) : Spans l (joinL l') := by
  obtain ⟨j1, j2, _⟩ := joinL_law l' (fun p hp => hok p ((hmem p).1 hp)) hsort
  refine ⟨j1, fun six x => ?_, hperm ▸ joinL_len l'⟩
  rw [j2]
  constructor
  · rintro ⟨q, hq, hx⟩; exact ⟨q, (hmem q).1 hq, hx⟩
  · rintro ⟨q, hq, hx⟩; exact ⟨q, (hmem q).2 hq, hx⟩
/-- The prefixes of the set that a rule makes of two lists. -/
noncomputable def setW (f : Bool → Bool → Bool) (l m : List PV) : List PV := walkL f l m ⟨false, 0, 0, 0⟩ ++ walkL f l m ⟨true, 0, 0, 0⟩
theorem merge_set {l : List PV} {s : List SV} (h : Spans l s) : prefixesL s = setW (fun a _ => a) l [] := by
  refine joined_set h.joined (S := fun six => setOf (fun a _ => a) l [] six) fun six x _ => ?_
  rw [h.has]
  unfold setOf
  rw [decide_eq_true_iff]
theorem both_set {l m : List PV} {s t : List SV} (h : Spans l s) (h' : Spans m t) : prefixesL (meetL s t) = setW (fun a b => a && b) l m := by
  obtain ⟨j1, j2, _, _⟩ := meet_law s t h.joined h'.joined
  refine joined_set j1 (S := fun six => setOf (fun a b => a && b) l m six) fun six x _ => ?_
  rw [j2, h.has, h'.has]
  unfold setOf
  rw [Bool.and_eq_true, decide_eq_true_iff, decide_eq_true_iff]
theorem minus_set {l m : List PV} {s t : List SV} (h : Spans l s) (h' : Spans m t) : prefixesL (meetL s (restL t)) = setW (fun a b => a && !b) l m := by
  obtain ⟨r1, r2, _⟩ := rest_law h'.joined
  obtain ⟨j1, j2, _, _⟩ := meet_law s (restL t) h.joined r1
  refine joined_set j1 (S := fun six => setOf (fun a b => a && !b) l m six) fun six x hx => ?_
  rw [j2, h.has, r2 six x hx, h'.has]
  unfold setOf
  rw [Bool.and_eq_true, Bool.not_eq_true', decide_eq_true_iff, decide_eq_false_iff_not]

end Go.Proofs.Ytonelibgaceflaa

namespace Go.Proofs.Ytonelibgaceflaa
open Go.ChangeShapes Go.WideShapes Go.ChangeAt Go.RowKit

theorem infoSpan : (Try.prog.info? 117).map (fun i => (i.zero, i.size, i.bytes)) = some (some (.agg #[.bool false, .int .u64 0, .int .u64 0, .bool false, .int .u64 0, .int .u64 0]), 6, 48) := by kernel_rfl

/-- A new box of a span. -/
def NewSpan (Y : World) (s : SV) (v : Value) (wx : World) : Prop :=
  ∃ b, v = .pointer (some ⟨b, 0, none⟩) ∧ Y.heap.size ≤ b ∧ Blk wx b 117 #[.bool s.f.six, .int .u64 s.f.hi, .int .u64 s.f.lo, .bool s.l.six, .int .u64 s.l.hi, .int .u64 s.l.lo] ∧ Below Y.heap.size Y wx
theorem newSpan_A {Y w3 : World} {s1 s2 : Bool} {h1 l1 h2 l2 : Int} (h : Below Y.heap.size Y w3) :
    NewSpan Y ⟨⟨s1, h1, l1⟩, ⟨s2, h2, l2⟩⟩ (.pointer (some ⟨w3.heap.size, 0, none⟩)) (w3.alloc (.cells #[.bool s1, .int .u64 h1, .int .u64 l1, .bool s2, .int .u64 h2, .int .u64 l2] 117)) :=
  ⟨_, rfl, h.size, Blk.new _ _ _, h.alloc h.size _⟩
theorem newSpan_B {Y Q w3 : World} {s1 s2 : Bool} {h1 l1 h2 l2 : Int} (hb : Below Q.heap.size Q w3) (hQ : Q.heap = (Y.alloc (.cells #[.bool false, .int .u64 0, .int .u64 0, .bool false, .int .u64 0, .int .u64 0] 117)).heap) (h : Below Y.heap.size Y w3) :
    NewSpan Y ⟨⟨s1, h1, l1⟩, ⟨s2, h2, l2⟩⟩ (.pointer (some ⟨Y.heap.size, 0, none⟩)) ((((((w3.setCell ⟨Y.heap.size, 0, none⟩ (.bool s1)).setCell ⟨Y.heap.size, 1, none⟩ (.int .u64 h1)).setCell ⟨Y.heap.size, 2, none⟩ (.int .u64 l1)).setCell ⟨Y.heap.size, 3, none⟩ (.bool s2)).setCell ⟨Y.heap.size, 4, none⟩ (.int .u64 h2)).setCell ⟨Y.heap.size, 5, none⟩ (.int .u64 l2)) := by
  refine ⟨Y.heap.size, rfl, Nat.le_refl _, ((((((?_ : Blk w3 Y.heap.size _ #[.bool false, .int .u64 0, .int .u64 0, .bool false, .int .u64 0, .int .u64 0]).set_ 0 _).set_ 1 _).set_ 2 _).set_ 3 _).set_ 4 _).set_ 5 _, ?_⟩
  · have := hb.block Y.heap.size (by rw [hQ]; simp)
    rw [hQ] at this
    exact this.trans (Blk.new Y _ _)
  · exact (((((h.setCell (by simp) _).setCell (by simp) _).setCell (by simp) _).setCell (by simp) _).setCell (by simp) _).setCell (by simp) _

theorem spanQ {Y Q w3 : World} (hb : Below Q.heap.size Q w3) (hQ : Q.heap = (Y.alloc (.cells #[.bool false, .int .u64 0, .int .u64 0, .bool false, .int .u64 0, .int .u64 0] 117)).heap) :
    w3.cell? ⟨Y.heap.size, 0, none⟩ = some (.bool false) ∧ w3.cell? ⟨Y.heap.size, 1, none⟩ = some (.int .u64 0) ∧ w3.cell? ⟨Y.heap.size, 2, none⟩ = some (.int .u64 0) ∧ w3.cell? ⟨Y.heap.size, 3, none⟩ = some (.bool false) ∧ w3.cell? ⟨Y.heap.size, 4, none⟩ = some (.int .u64 0) ∧ w3.cell? ⟨Y.heap.size, 5, none⟩ = some (.int .u64 0) ∧
      w3.frozen? ⟨Y.heap.size, 0, none⟩ = false ∧ w3.frozen? ⟨Y.heap.size, 1, none⟩ = false ∧ w3.frozen? ⟨Y.heap.size, 2, none⟩ = false ∧ w3.frozen? ⟨Y.heap.size, 3, none⟩ = false ∧ w3.frozen? ⟨Y.heap.size, 4, none⟩ = false ∧ w3.frozen? ⟨Y.heap.size, 5, none⟩ = false := by
  have hk : Blk w3 Y.heap.size 117 #[.bool false, .int .u64 0, .int .u64 0, .bool false, .int .u64 0, .int .u64 0] := by
    have := hb.block Y.heap.size (by rw [hQ]; simp)
    rw [hQ] at this
    exact this.trans (Blk.new Y _ _)
  exact ⟨hk.cell 0, hk.cell 1, hk.cell 2, hk.cell 3, hk.cell 4, hk.cell 5, hk.frozen 0, hk.frozen 1, hk.frozen 2, hk.frozen 3, hk.frozen 4, hk.frozen 5⟩

theorem own_drewN {w : World} {base : Nat} {e : TypeId} {size n : Nat} {v : Value} {xs : List Value} (h : w.ownsRow base e size v n xs) (k : Nat) : (w.drewN k).ownsRow base e size v n xs := h
theorem joinStep_snoc (init : List SV) (t s : SV) : joinStep (init ++ [t]) s = if t.f.six = s.f.six ∧ s.f.v ≤ t.l.v + 1 then (if t.l.v < s.l.v then init ++ [⟨t.f, s.l⟩] else init ++ [t]) else init ++ [t] ++ [s] := by
  unfold joinStep
  have e : (init ++ [t]).getLast? = some t := by simp
  rw [e]
  simp
theorem joinStep_nil (s : SV) : joinStep [] s = [s] := rfl
theorem span_one (s : SV) : ∀ u ∈ s.cells, u.oneCell' = true := by
  intro u hu
  simp [SV.cells] at hu
  rcases hu with rfl | rfl | rfl | rfl | rfl | rfl <;> rfl
/-- The last span of a row, cell by cell. -/
theorem last_span {w : World} {base g cap m : Nat} {init : List SV} {t : SV} (hm : init.length = m) (h : w.ownsRow base 117 6 (.slice (some ⟨g, 0, none⟩) (m + 1) cap) (m + 1) ((init ++ [t]).flatMap SV.cells)) :
    (base ≤ g ∧ g < w.heap.size) ∧ ∀ j u, t.cells[j]? = some u → w.cell? ⟨g, m * 6 + j, none⟩ = some u ∧ w.frozen? ⟨g, m * 6 + j, none⟩ = false := by
  rcases h.2 with ⟨hx, _⟩ | ⟨g', cap', cur, hx, hbase, hb, h1, h2, h3, h4⟩
  · cases hx
  · simp only [Value.slice.injEq, Option.some.injEq, Addr.mk.injEq, and_true, true_and] at hx
    obtain ⟨rfl, rfl⟩ := hx
    refine ⟨⟨hbase, (Array.getElem?_eq_some_iff.1 hb).1⟩, fun j u hj => ⟨?_, Blk.frozen hb _⟩⟩
    rw [Blk.cell hb]
    have e1 : (init ++ [t])[m]? = some t := by rw [List.getElem?_append_right (by omega)]; simp [hm]
    have e2 := flat_at SV.cells_length _ _ _ _ _ e1 hj
    have hjl : j < 6 := by have := (List.getElem?_eq_some_iff.1 hj).1; rwa [SV.cells_length] at this
    rw [← h4, List.getElem?_take_of_lt (by omega), Array.getElem?_toList] at e2
    exact e2

/-- The last span's end is stored anew. -/
theorem last_set {w : World} {base g cap m : Nat} {init : List SV} {t : SV} {a6 : Bool} {ah al : Int} (hm : init.length = m) (h : w.ownsRow base 117 6 (.slice (some ⟨g, 0, none⟩) (m + 1) cap) (m + 1) ((init ++ [t]).flatMap SV.cells)) :
    (((w.setCell ⟨g, m * 6 + 3, none⟩ (.bool a6)).setCell ⟨g, m * 6 + 4, none⟩ (.int .u64 ah)).setCell ⟨g, m * 6 + 5, none⟩ (.int .u64 al)).ownsRow base 117 6 (.slice (some ⟨g, 0, none⟩) (m + 1) cap) (m + 1) ((init ++ [(⟨t.f, ⟨a6, ah, al⟩⟩ : SV)]).flatMap SV.cells) := by
  have h3 := (((h.stored (m * 6 + 3) (.bool a6)).1.stored (m * 6 + 4) (.int .u64 ah)).1.stored (m * 6 + 5) (.int .u64 al)).1
  have hl : (init.flatMap SV.cells).length = m * 6 := by
    rw [← hm]
    clear hm h h3
    induction init with
    | nil => rfl
    | cons x l ih => rw [List.flatMap_cons, List.length_append, ih, SV.cells_length, List.length_cons]; omega
  have e : ((((init ++ [t]).flatMap SV.cells).set (m * 6 + 3) (.bool a6)).set (m * 6 + 4) (.int .u64 ah)).set (m * 6 + 5) (.int .u64 al) = (init ++ [(⟨t.f, ⟨a6, ah, al⟩⟩ : SV)]).flatMap SV.cells := by
    rw [List.flatMap_append, List.flatMap_append, List.set_append_right _ _ (by omega), List.set_append_right _ _ (by omega), List.set_append_right _ _ (by omega), hl, Nat.add_sub_cancel_left, Nat.add_sub_cancel_left, Nat.add_sub_cancel_left]
    simp [SV.cells]
  rw [e] at h3
  exact h3
theorem join_cond {six : Bool} {th tl hi lo : Int} (ht : AV.Ok ⟨six, th, tl⟩) (hs : AV.Ok ⟨six, hi, lo⟩) :
    (plusOk six th tl 1 = false ∨ lessB ⟨six, plusHi th tl 1, plusLo th tl 1⟩ ⟨six, hi, lo⟩ = false) ↔ AV.v ⟨six, hi, lo⟩ ≤ AV.v ⟨six, th, tl⟩ + 1 := by
  have hup := up_num ht
  have hlt := AV.v_lt hs
  simp only at hup hlt
  cases hpo : plusOk six th tl 1 with
  | false =>
    have h1 : ¬ AV.v ⟨six, th, tl⟩ + 1 < 2 ^ widN six := fun h => by rw [hup.1.2 h] at hpo; cases hpo
    constructor
    · intro _; omega
    · intro _; exact .inl rfl
  | true =>
    obtain ⟨nok, nv⟩ := hup.2 hpo
    have hl : lessB ⟨six, plusHi th tl 1, plusLo th tl 1⟩ ⟨six, hi, lo⟩ = true ↔ _ := less_num nok hs rfl
    have nv' : AV.v ⟨six, plusHi th tl 1, plusLo th tl 1⟩ = AV.v ⟨six, th, tl⟩ + 1 := nv
    rw [nv'] at hl
    constructor
    · rintro (h | h)
      · cases h
      · have : ¬ (AV.v ⟨six, th, tl⟩ + 1 < AV.v ⟨six, hi, lo⟩) := fun h' => by rw [hl.2 h'] at h; cases h
        omega
    · intro h
      right
      cases hb : lessB ⟨six, plusHi th tl 1, plusLo th tl 1⟩ ⟨six, hi, lo⟩ with
      | false => rfl
      | true => have := hl.1 hb; omega

set_option maxRecDepth 100000 in
set_option maxHeartbeats 6400000 in
theorem spans_any {A : Option Addr} {n c : Nat} {l : List PV} {w : World} (h : IsPres w A n c l) (hok : ∀ p ∈ l, p.Ok) (hn : n ≤ 1000) :
    Calls Try.prog 141 #[.slice A n c] w fun e w' => ∃ (v : Value) (l' : List PV), e = .returned v ∧ l'.Perm l ∧ l'.Pairwise leP ∧ w'.ownsRow w.heap.size 117 6 v (joinL l').length ((joinL l').flatMap SV.cells) ∧ Below w.heap.size w w' := by
  have CS : Hid (∀ w1, w1 = w.alloc (.cells #[.slice A n c] 30) → Calls Try.prog 196 #[.func (.func 238) #[] #[.pointer (some ⟨w.heap.size, 0, none⟩)], .func (.func 132) #[] #[]] w1 fun e w' => ∃ (v : Value) (l' : List PV), e = .returned v ∧ l'.Perm l ∧ l'.Pairwise leP ∧ w'.ownsRow w1.heap.size 35 4 v l'.length (l'.flatMap PV.cells) ∧ Below w1.heap.size w1 w') := by
    intro w1 hw1
    subst hw1
    have hb : Below w.heap.size w (w.alloc (.cells #[.slice A n c] 30)) := (Below.refl _ _).alloc (Nat.le_refl _) _
    refine sorted_any ⟨h.1, h.2.1, (h.2.2.below hb).more hb.size⟩ hok (by omega) (by simp) ((Blk.new w _ _).cell 0)
  have CV := Lib.hid (fun w => values_pv A n c w)
  have HOK := Lib.hid hok
  have HZ := Lib.hid h.1
  clear h hok
  go_enter Try.func141, Try.ntmps141
  go_wp2_with fail
  refine (CV.out _).mono ?_
  rintro e w1 ⟨rfl, hw1⟩
  have HW1 := Lib.hid hw1
  clear hw1
  go_wp2_with fail
  refine (CS.out _ HW1.out).mono ?_
  rintro e X ⟨vs, l', rfl, hp, hs, hrow, hb⟩
  have hzl : l'.length = n := hp.length_eq.trans HZ.out
  obtain ⟨A', c', rfl, hc', hrd⟩ := own_reads hrow
  rw [hzl] at hrd hc' ⊢
  have HP := Lib.hid hp
  have HS := Lib.hid hs
  have HL := Lib.hid hzl
  have HR := Lib.hid hrd
  have HWX : Hid (Below w.heap.size w X) := below_step (by rw [HW1.out]; exact (Below.refl _ _).alloc (Nat.le_refl _) _) hb
  have HOK2 : Hid (∀ p ∈ l', p.Ok) := fun p hp' => HOK.out p (HP.out.mem_iff.1 hp')
  obtain ⟨hc1, hc2⟩ := hc'
  unfold maxLen at hc2
  clear hp hs hrow hb hrd hzl
  go_wp2
  go_loopw [15, 3, 5, 6, 7, 8, 9, 10] (fun i v _ _ _ _ _ _ wr => ∃ k : Nat, k ≤ n ∧ i = .int .i64 k ∧ wr.ownsRow X.heap.size 117 6 v (joinL (l'.take k)).length ((joinL (l'.take k)).flatMap SV.cells) ∧ Below X.heap.size X wr) (fun i _ _ _ _ _ _ _ _ => n - (intOf i).toNat)
  case atStart => exact ⟨0, by omega, rfl, ⟨rfl, .inl ⟨rfl, rfl⟩⟩, Below.refl _ _⟩
  case round =>
    obtain ⟨k, hk, rfl, hown, hb⟩ := hrel
    obtain ⟨wo, rfl⟩ : ∃ wo : World, wo = wr := ⟨_, rfl⟩
    have HOWN := Lib.hid hown
    clear hown
    by_cases hlt : k < n
    · obtain ⟨ad, ⟨six, hi, lo, len⟩, rfl, hlk, htk, hmem, hbk, hc0, hcj⟩ := HR.out.atS PV.cells_length HL.out hlt
      have q0 := (hb.cell (p := ad.add (k * 4)) (by rw [block_of_add]; exact hbk)).trans (hc0 _ rfl)
      have q1 := (hb.cell (p := ⟨(ad.add (k * 4)).block, (ad.add (k * 4)).off + 1, none⟩) (by rw [block_of_add]; exact hbk)).trans (hcj 1 _ rfl)
      have q2 := (hb.cell (p := ⟨(ad.add (k * 4)).block, (ad.add (k * 4)).off + 2, none⟩) (by rw [block_of_add]; exact hbk)).trans (hcj 2 _ rfl)
      have q3 := (hb.cell (p := ⟨(ad.add (k * 4)).block, (ad.add (k * 4)).off + 3, none⟩) (by rw [block_of_add]; exact hbk)).trans (hcj 3 _ rfl)
      have hpo : PV.Ok ⟨six, hi, lo, len⟩ := HOK2.out _ hmem
      have CL := Lib.hid (fun w => last_any six hi lo len w (Pfx.rhi hpo) (Pfx.rlo hpo) (plen hpo).1 (plen hpo).2)
      have HPO := Lib.hid hpo
      have hnx : joinL (l'.take (k + 1)) = joinStep (joinL (l'.take k)) (spanP ⟨six, hi, lo, len⟩) := by rw [htk, joinL_snoc]
      have hsp : spanP ⟨six, hi, lo, len⟩ = ⟨⟨six, hi, lo⟩, ⟨six, lastHi six hi lo len, lastLo six hi lo len⟩⟩ := rfl
      rw [hsp] at hnx
      have hlo : SV.Ok (spanP ⟨six, hi, lo, len⟩) := spanP_ok hpo
      rw [hsp] at hlo
      obtain ⟨lh, hlh⟩ : ∃ lh, lastHi six hi lo len = lh := ⟨_, rfl⟩
      obtain ⟨ll, hll⟩ : ∃ ll, lastLo six hi lo len = ll := ⟨_, rfl⟩
      rw [hlh, hll] at CL hnx hlo
      have HNX := Lib.hid hnx
      have HSO := Lib.hid hlo
      have HB := Lib.hid hb
      have hlen : (joinL (l'.take k)).length ≤ k := by
        have := joinL_len (l'.take k)
        rw [List.length_take] at this
        omega
      have hjo : Joined (joinL (l'.take k)) := (joinL_law (l'.take k) (fun p hp => HOK2.out p (List.mem_of_mem_take hp)) (HS.out.sublist (List.take_sublist _ _))).1
      have HJO := Lib.hid hjo
      obtain ⟨done, hdone⟩ : ∃ done, joinL (l'.take k) = done := ⟨_, rfl⟩
      rw [hdone] at HNX HOWN hlen HJO
      clear hlk htk hmem hbk hc0 hcj hpo hnx hsp hlo hlh hll hb hjo hdone
      go_wp2_with fail
      obtain ⟨Y, hY⟩ : ∃ Y, wo.alloc (.cells #[.bool six, .int .u64 hi, .int .u64 lo, .int .i64 len] 35) = Y := ⟨_, rfl⟩
      have hk5 : Blk Y wo.heap.size 35 #[.bool six, .int .u64 hi, .int .u64 lo, .int .i64 len] := by rw [← hY]; exact Blk.new _ _ _
      have hoy : Below wo.heap.size wo Y := by rw [← hY]; exact (Below.refl _ _).alloc (Nat.le_refl _) _
      have HOY := Lib.hid hoy
      rw [hY]
      have y0 := hk5.cell 0
      have y1 := hk5.cell 1
      have y2 := hk5.cell 2
      have y3 := hk5.cell 3
      simp at y0 y1 y2 y3
      have hyl := hk5.lt
      clear hY hoy hk5 q0 q1 q2 q3
      go_cut [6] (fun v wx => NewSpan Y ⟨⟨six, hi, lo⟩, ⟨six, lh, ll⟩⟩ v wx)
      case first =>
        go_region_held3 (fun w' => (∀ b o, b < Y.heap.size → w'.cell? ⟨b, o, none⟩ = Y.cell? ⟨b, o, none⟩) ∧ Y.heap.size ≤ w'.heap.size ∧ Hid (Below Y.heap.size Y w'))
          ((first | with_reducible assumption | with_reducible exact keep0 _ | (with_reducible refine keepF ?_; (repeat' first | with_reducible exact HB3.out | with_reducible exact Below.refl _ _ | with_reducible refine Below.drew ?_ | with_reducible refine below_drewN ?_ _ | with_reducible refine Below.setCell ?_ ?_ _ | with_reducible refine Below.alloc ?_ ?_ _ | exact HB3.out.size | (simp; done) | (simp; have := HB3.out.size; omega) | (simp; omega)); done)))
          (first | (go_at_call 113; refine (CL.out _).mono ?_; rintro e w3 ⟨rfl, hb3⟩; have HB3 : Hid (Below Y.heap.size Y w3) := (keepBelow (by assumption)).trans (hb3.mono (keepSize (by assumption))); first | (obtain ⟨z0, z1, z2, z3, z4, z5, z6, z7, z8, z9, z10, z11⟩ := spanQ hb3 rfl) | skip))
        all_goals
          go_wp2_with fail
          go_meet
          first
            | with_reducible exact newSpan_A HB3.out
            | exact newSpan_B hb3 rfl HB3.out
      case rest =>
        obtain ⟨b6, rfl, hg6, hk6, hbx⟩ := hcut
        obtain ⟨Z, rfl⟩ : ∃ Z : World, Z = wc := ⟨_, rfl⟩
        have s0 := hk6.cell 0
        have s1 := hk6.cell 1
        have s2 := hk6.cell 2
        have s3 := hk6.cell 3
        have s4 := hk6.cell 4
        have s5 := hk6.cell 5
        simp at s0 s1 s2 s3 s4 s5
        have sb6 := hk6.lt
        have hZw : wo.heap.size ≤ Z.heap.size := Nat.le_trans HOY.out.size hbx.size
        have hXw := HB.out.size
        have HBZ : Hid (Below X.heap.size X Z) := HB.out.trans ((HOY.out.trans (hbx.mono HOY.out.size)).mono hXw)
        have HOZ := Lib.hid (own_below HOWN.out (HOY.out.trans (hbx.mono HOY.out.size)))
        clear y0 y1 y2 y3 hk6 hbx HOWN
        rcases List.eq_nil_or_concat done with rfl | ⟨init, t, rfl⟩
        · rw [joinStep_nil] at HNX
          have hoz : Z.ownsRow X.heap.size 117 6 u3 0 [] := HOZ.out
          obtain ⟨AO, cO, rfl, hcO, _⟩ := own_reads hoz
          have HOZ := Lib.hid hoz
          clear hoz
          go_wp2
          go_quiet (fail)
          go_wp2_with (at_builtin; go_loud (refine wpList_append_one (us := SV.cells ⟨⟨six, hi, lo⟩, ⟨six, lh, ll⟩⟩) rfl _ _ 228 rfl X.heap.size _ 6 48 Try.underlying228 infoSpan rfl (by decide) _ _ _ rfl (own_drewN HOZ.out _) ?c1 rfl ?c4 rfl ?c2 ?c3 ?_))
          case c1 => simpa using HBZ.out.size
          case c2 => unfold maxLen; simp
          case c3 => simp
          case c4 => exact span_one _
          intro v' w9 hown' hb9 hs9
          have HO9 := Lib.hid hown'
          have HB9 := Lib.hid hb9
          clear hown' hb9
          go_wp2
          go_roundw
          case rel => exact ⟨k + 1, by omega, by go_num, by rw [HNX.out]; exact HO9.out, (below_drewN HBZ.out _).trans HB9.out⟩
          case measure => simp [intOf]; omega
        · rw [List.concat_eq_append] at *
          rw [joinStep_snoc] at HNX
          obtain ⟨m, hm⟩ : ∃ m, init.length = m := ⟨_, rfl⟩
          have hml : (init ++ [t]).length = m + 1 := by rw [List.length_append, hm]; rfl
          rw [hml] at HOZ hlen
          obtain ⟨g, cap, rfl⟩ := ownsRow_succ HOZ.out
          obtain ⟨⟨hgb, hgz⟩, htc⟩ := last_span hm HOZ.out
          have HTO := Lib.hid (HJO.out.ok t (by simp))
          obtain ⟨⟨tf6, tfh, tfl⟩, ⟨tl6, tlh, tll⟩⟩ := t
          obtain ⟨t0, _⟩ := htc 0 _ rfl
          obtain ⟨t3, g3⟩ := htc 3 _ rfl
          obtain ⟨t4, g4⟩ : Z.cell? ⟨g, m * 6 + 3 + 1, none⟩ = some (.int .u64 tlh) ∧ Z.frozen? ⟨g, m * 6 + 3 + 1, none⟩ = false := htc 4 _ rfl
          obtain ⟨t5, g5⟩ : Z.cell? ⟨g, m * 6 + 3 + 2, none⟩ = some (.int .u64 tll) ∧ Z.frozen? ⟨g, m * 6 + 3 + 2, none⟩ = false := htc 5 _ rfl
          simp only [Nat.add_zero] at t0
          have HM := Lib.hid hm
          have HM2 := Lib.hid hml
          clear htc hm hml
          have wr1 : IntKind.i64.wrap ((m : Int) + 1 - 1) = m := by rw [IntWalk.i64_in _ (by omega)]; omega
          go_wp2
          by_cases h6 : tf6 = six
          · have h6' := HTO.out.six
            simp only at h6'
            obtain rfl : six = tf6 := h6.symm
            obtain rfl : six = tl6 := h6'
            try clear h6
            have hjc := join_cond HTO.out.l HSO.out.f
            have hl2 : lessB ⟨six, tlh, tll⟩ ⟨six, lh, ll⟩ = true ↔ AV.v ⟨six, tlh, tll⟩ < AV.v ⟨six, lh, ll⟩ := less_num HTO.out.l HSO.out.l rfl
            have CP := Lib.hid (fun w => plus_any six tlh tll 1 w HTO.out.l.rhi HTO.out.l.rlo (by omega))
            have CE := Lib.hid (fun w => end_any six tlh tll w HTO.out.l.rhi HTO.out.l.rlo)
            have C1 := Lib.hid (fun w => less_any six (plusHi tlh tll 1) (plusLo tlh tll 1) six hi lo w)
            have C2 := Lib.hid (fun w => less_any six tlh tll six lh ll w)
            obtain ⟨lt1, hlt1⟩ : ∃ lt1, lessB ⟨six, plusHi tlh tll 1, plusLo tlh tll 1⟩ ⟨six, hi, lo⟩ = lt1 := ⟨_, rfl⟩
            obtain ⟨lt2, hlt2⟩ : ∃ lt2, lessB ⟨six, tlh, tll⟩ ⟨six, lh, ll⟩ = lt2 := ⟨_, rfl⟩
            obtain ⟨po, hpo⟩ : ∃ po, plusOk six tlh tll 1 = po := ⟨_, rfl⟩
            rw [hlt1] at hjc C1
            rw [hlt2] at hl2 C2
            rw [hpo] at hjc CP CE
            generalize plusHi tlh tll 1 = ph at *
            generalize plusLo tlh tll 1 = pl at *
            have HJC := Lib.hid hjc
            have HL2 := Lib.hid hl2
            clear hjc hl2 hlt1 hlt2 hpo
            go_quiet (fail)
            go_wp2_with fail
            refine (CP.out _).mono ?_
            rintro e w2 ⟨rfl, hb2'⟩
            have hb2 : Below Z.heap.size Z w2 := (below_drewN (Below.refl _ _) _).trans hb2'
            clear hb2'
            obtain ⟨fc2, ff2⟩ := bcell hb2
            have hz2 := hb2.size
            try simp at hz2
            have HB2 := Lib.hid hb2
            clear hb2
            have sg2 : g < w2.heap.size := by omega
            have sb2 : b6 < w2.heap.size := by omega
            go_wp2_with fail
            refine (CE.out _).mono ?_
            rintro e w3 ⟨rfl, hb3⟩
            obtain ⟨fc3, ff3⟩ := bcell hb3
            have hz3 := hb3.size
            try simp at hz3
            have HB3 := Lib.hid hb3
            clear hb3
            have sg3 : g < w3.heap.size := by omega
            have sb3 : b6 < w3.heap.size := by omega
            have sn3 : w2.heap.size < w3.heap.size := by omega
            cases po
            · have hjn : AV.v ⟨six, hi, lo⟩ ≤ AV.v ⟨six, tlh, tll⟩ + 1 := HJC.out.1 (.inl rfl)
              rw [if_pos ⟨trivial, hjn⟩] at HNX
              have HCH : Hid (Below Z.heap.size Z w3) := HB2.out.trans ((((Below.refl w2.heap.size w2).alloc (Nat.le_refl _) _).trans (HB3.out.mono (by simp))).mono HB2.out.size)
              have HO5 := Lib.hid (own_below HOZ.out HCH.out)
              have HX5 : Hid (Below X.heap.size X w3) := HBZ.out.trans (HCH.out.mono HBZ.out.size)
              go_wp2
              go_region_held3 (fun w' => (∀ b o, b < w3.heap.size → w'.cell? ⟨b, o, none⟩ = w3.cell? ⟨b, o, none⟩) ∧ w3.heap.size ≤ w'.heap.size ∧ Hid (Below w3.heap.size w3 w'))
                ((first | with_reducible assumption | with_reducible exact keep0 _ | with_reducible exact keep1 (by assumption) (by assumption) | with_reducible exact keepD (by assumption)))
                (first | (go_at_call 73; refine (C2.out _).mono ?_; rintro e w7 ⟨rfl, hb7⟩; obtain ⟨fc7, ff7⟩ := bcell hb7; have hz7 := hb7.size; have HB7 : Hid (Below w3.heap.size w3 w7) := (keepBelow (by assumption)).trans (hb7.mono (keepSize (by assumption)))))
              have HO7 := Lib.hid (own_below HO5.out HB7.out)
              have HX7 : Hid (Below X.heap.size X w7) := HX5.out.trans (HB7.out.mono HX5.out.size)
              have hsz7 := HB7.out.size
              have sg7 : g < w7.heap.size := by omega
              have sb7 : b6 < w7.heap.size := by omega
              clear fc7 ff7 hz7 hb7
              obtain ⟨fc7, ff7⟩ := bcell HB7.out
              cases lt2
              · rw [if_neg (fun h => by cases HL2.out.2 h)] at HNX
                go_wp2
                go_roundw
                case rel => exact ⟨k + 1, by omega, by go_num, by rw [HNX.out, HM2.out]; exact HO7.out, HX7.out⟩
                case measure => simp [intOf]; omega
              · rw [if_pos (HL2.out.1 rfl)] at HNX
                go_wp2
                go_roundw
                case rel => exact ⟨k + 1, by omega, by go_num, by rw [HNX.out, List.length_append, HM.out]; exact last_set HM.out HO7.out, ((HX7.out.setCell hgb _).setCell hgb _).setCell hgb _⟩
                case measure => simp [intOf]; omega
            · cases lt1
              · have hjn : AV.v ⟨six, hi, lo⟩ ≤ AV.v ⟨six, tlh, tll⟩ + 1 := HJC.out.1 (.inr rfl)
                rw [if_pos ⟨trivial, hjn⟩] at HNX
                go_wp2_with fail
                refine (C1.out _).mono ?_
                rintro e w4 ⟨rfl, hb4⟩
                obtain ⟨fc4, ff4⟩ := bcell hb4
                have hz4 := hb4.size
                try simp at hz4
                have HB4 := Lib.hid hb4
                clear hb4
                have sg4 : g < w4.heap.size := by omega
                have sb4 : b6 < w4.heap.size := by omega
                have HCH : Hid (Below Z.heap.size Z w4) := HB2.out.trans ((((Below.refl w2.heap.size w2).alloc (Nat.le_refl _) _).trans ((below_step HB3.out HB4.out).mono (by simp))).mono HB2.out.size)
                have HO5 := Lib.hid (own_below HOZ.out HCH.out)
                have HX5 : Hid (Below X.heap.size X w4) := HBZ.out.trans (HCH.out.mono HBZ.out.size)
                go_wp2
                go_region_held3 (fun w' => (∀ b o, b < w4.heap.size → w'.cell? ⟨b, o, none⟩ = w4.cell? ⟨b, o, none⟩) ∧ w4.heap.size ≤ w'.heap.size ∧ Hid (Below w4.heap.size w4 w'))
                  ((first | with_reducible assumption | with_reducible exact keep0 _ | with_reducible exact keep1 (by assumption) (by assumption) | with_reducible exact keepD (by assumption)))
                  (first | (go_at_call 73; refine (C2.out _).mono ?_; rintro e w7 ⟨rfl, hb7⟩; obtain ⟨fc7, ff7⟩ := bcell hb7; have hz7 := hb7.size; have HB7 : Hid (Below w4.heap.size w4 w7) := (keepBelow (by assumption)).trans (hb7.mono (keepSize (by assumption)))))
                have HO7 := Lib.hid (own_below HO5.out HB7.out)
                have HX7 : Hid (Below X.heap.size X w7) := HX5.out.trans (HB7.out.mono HX5.out.size)
                have hsz7 := HB7.out.size
                have sg7 : g < w7.heap.size := by omega
                have sb7 : b6 < w7.heap.size := by omega
                clear fc7 ff7 hz7 hb7
                obtain ⟨fc7, ff7⟩ := bcell HB7.out
                cases lt2
                · rw [if_neg (fun h => by cases HL2.out.2 h)] at HNX
                  go_wp2
                  go_roundw
                  case rel => exact ⟨k + 1, by omega, by go_num, by rw [HNX.out, HM2.out]; exact HO7.out, HX7.out⟩
                  case measure => simp [intOf]; omega
                · rw [if_pos (HL2.out.1 rfl)] at HNX
                  go_wp2
                  go_roundw
                  case rel => exact ⟨k + 1, by omega, by go_num, by rw [HNX.out, List.length_append, HM.out]; exact last_set HM.out HO7.out, ((HX7.out.setCell hgb _).setCell hgb _).setCell hgb _⟩
                  case measure => simp [intOf]; omega
              · have hjn : ¬ AV.v ⟨six, hi, lo⟩ ≤ AV.v ⟨six, tlh, tll⟩ + 1 := fun h => by rcases HJC.out.2 h with h | h <;> cases h
                rw [if_neg (fun h => hjn h.2)] at HNX
                go_wp2_with fail
                refine (C1.out _).mono ?_
                rintro e w4 ⟨rfl, hb4⟩
                obtain ⟨fc4, ff4⟩ := bcell hb4
                have hz4 := hb4.size
                try simp at hz4
                have HB4 := Lib.hid hb4
                clear hb4
                have sg4 : g < w4.heap.size := by omega
                have sb4 : b6 < w4.heap.size := by omega
                have HCH : Hid (Below Z.heap.size Z w4) := HB2.out.trans ((((Below.refl w2.heap.size w2).alloc (Nat.le_refl _) _).trans ((below_step HB3.out HB4.out).mono (by simp))).mono HB2.out.size)
                have HO4 := Lib.hid (own_below HOZ.out HCH.out)
                have HX4 : Hid (Below X.heap.size X w4) := HBZ.out.trans (HCH.out.mono HBZ.out.size)
                go_wp2_with (at_builtin; go_loud (refine wpList_append_one (us := SV.cells ⟨⟨six, hi, lo⟩, ⟨six, lh, ll⟩⟩) rfl _ _ 228 rfl X.heap.size _ 6 48 Try.underlying228 infoSpan rfl (by decide) _ _ _ rfl HO4.out ?c1 rfl ?c4 rfl ?c2 ?c3 ?_))
                case c1 => exact HX4.out.size
                case c2 => unfold maxLen; omega
                case c3 => omega
                case c4 => exact span_one _
                intro v' w9 hown' hb9 hs9
                have HO9 := Lib.hid hown'
                have HB9 := Lib.hid hb9
                clear hown' hb9
                go_wp2
                go_roundw
                case rel => exact ⟨k + 1, by omega, by go_num, by rw [HNX.out, List.length_append, HM2.out, List.flatMap_append]; simpa using HO9.out, HX4.out.trans HB9.out⟩
                case measure => simp [intOf]; omega
          · have hd : (tf6 == six) = false := by simpa using h6
            rw [if_neg (fun hx => h6 hx.1)] at HNX
            go_quiet (fail)
            go_wp2_with (at_builtin; go_loud (refine wpList_append_one (us := SV.cells ⟨⟨six, hi, lo⟩, ⟨six, lh, ll⟩⟩) rfl _ _ 228 rfl X.heap.size _ 6 48 Try.underlying228 infoSpan rfl (by decide) _ _ _ rfl (own_drewN HOZ.out _) ?c1 rfl ?c4 rfl ?c2 ?c3 ?_))
            case c1 => simpa using HBZ.out.size
            case c2 => unfold maxLen; omega
            case c3 => omega
            case c4 => exact span_one _
            intro v' w9 hown' hb9 hs9
            have HO9 := Lib.hid hown'
            have HB9 := Lib.hid hb9
            clear hown' hb9
            go_wp2
            go_roundw
            case rel => exact ⟨k + 1, by omega, by go_num, by rw [HNX.out, List.length_append, HM2.out, List.flatMap_append]; simpa using HO9.out, (below_drewN HBZ.out _).trans HB9.out⟩
            case measure => simp [intOf]; omega
    · obtain rfl : k = n := by omega
      have hall : l'.take k = l' := List.take_of_length_le (by have := HL.out; omega)
      rw [hall] at HOWN
      have HB := Lib.hid hb
      clear hb hall
      go_wp2
      go_ret
      exact ⟨_, l', rfl, HP.out, HS.out, own_mono HOWN.out HWX.out.size, HWX.out.trans (HB.out.mono HWX.out.size)⟩

end Go.Proofs.Ytonelibgaceflaa

namespace Go.Proofs.Ytonelibgaceflaa
open Go.ChangeShapes Go.WideShapes Go.ChangeAt Go.RowKit

set_option maxRecDepth 100000 in
theorem open_pres {H : Type} {enc : TypeId × Value → H} {W : World} {base : Nat} {sp : Nat → Bool} {held : Bool} {a0 : Option Addr} {len0 cap0 : Nat} {d : DataW H} {p : List MemPlace}
    (h : DataW.Trod enc Try.prog W base sp held 30 (.slice a0 len0 cap0) d p) : ∃ l : List PV, IsPres W a0 len0 cap0 l ∧ ∀ q ∈ l, q.Raw := by
  have hk : flat Try.prog 9 35 = some [none, some .u64, some .u64, some .i64] := by kernel_rfl
  obtain ⟨css, hcl, hfit, hr, hl, hm⟩ := open_flats Try.underlying30 hk (by kernel_rfl) (by simp) h
  obtain ⟨l, rfl, hz⟩ := choose_list (f := PV.cells) (Q := PV.Raw) css (fun cs hc => by
    have hf := hfit cs hc
    clear hr hcl hfit
    obtain ⟨six, _, rfl, hf0⟩ := hf.bool_inv
    obtain ⟨hi, _, rfl, w1, hf1⟩ := hf0.int_inv
    obtain ⟨lo, _, rfl, w2, hf2⟩ := hf1.int_inv
    obtain ⟨n, _, rfl, w3, hf3⟩ := hf2.int_inv
    obtain rfl := hf3.nil_inv
    exact ⟨⟨six, hi, lo, n⟩, ⟨range_u64 w1, range_u64 w2⟩, rfl⟩)
  exact ⟨l, ⟨by simpa using hcl, ⟨hl, hm⟩, by rw [List.flatMap_def]; exact hr⟩, hz⟩

/-- A list as joined spans in a row of the call's own. -/
theorem spans_is {A : Option Addr} {n c : Nat} {l : List PV} {w : World} (h : IsPres w A n c l) (hok : ∀ p ∈ l, p.Ok) (hn : n ≤ 80) :
    Calls Try.prog 141 #[.slice A n c] w fun e w' => ∃ (A' : Option Addr) (n' c' : Nat) (s : List SV), e = .returned (.slice A' n' c') ∧ IsSpans w' A' n' c' s ∧ Spans l s ∧ n' ≤ 80 ∧ Below w.heap.size w w' :=
  (spans_any h hok (by omega)).mono fun e w' ⟨v, l', he, hp, hs, hrow, hb⟩ => by
    obtain ⟨A', c', rfl, hi⟩ := IsSpans.of_own hrow
    have hsp := spans_law hok hs hp.length_eq (fun p => hp.mem_iff)
    refine ⟨A', _, c', joinL l', he, hi, hsp, ?_, hb⟩
    have := hsp.len
    have := h.1
    omega

set_option maxRecDepth 100000 in
set_option maxHeartbeats 1600000 in
theorem merge_is {A : Option Addr} {n c : Nat} {l : List PV} {w : World} (h : IsPres w A n c l) (hl : ∀ q ∈ l, q.Raw) :
    Calls Try.prog 65 #[.slice A n c] w (RetPres w (setO (fun a _ => a) l []) (presE l [])) := by
  have CF : Hid (∀ w1, w1 = w.alloc (.cells #[.slice A n c] 30) → Calls Try.prog 139 #[.slice (some ⟨w.heap.size, 0, none⟩) 1 1] w1 fun e w' => e = .returned (.int .i64 (presE l [])) ∧ Below w1.heap.size w1 w') := by
    intro w1 hw1
    subst hw1
    exact fault_one (h.below ((Below.refl _ _).alloc (Nat.le_refl _) _)) hl (Blk.new _ _ _)
  by_cases hE : presE l [] = 0
  · obtain ⟨z1, _, z2, _⟩ := presE_zero hl (fun q hq => by cases hq) hE
    have CS := Lib.hid (fun (w1 : World) (hb : Below w.heap.size w w1) => spans_is (h.below hb) z2 (by have := h.1; omega))
    have hO : setO (fun a _ => a) l [] = setW (fun a _ => a) l [] := by unfold setO; rw [if_pos hE]; rfl
    have HO := Lib.hid hO
    unfold RetPres
    rw [hE] at CF ⊢
    rw [hO]
    clear hE hO h hl z1 z2
    go_enter Try.func65, Try.ntmps65
    go_wp2_with fail
    refine (CF.out _ rfl).mono ?_
    rintro e w2 ⟨rfl, hb2⟩
    have HB2 : Hid (Below w.heap.size w w2) := below_step ((Below.refl _ _).alloc (Nat.le_refl _) _) hb2
    clear hb2
    go_wp2_with fail
    refine (CS.out _ HB2.out).mono ?_
    rintro e w3 ⟨A', n', c', s, rfl, hi, hsp, hn', hb3⟩
    have HSP := Lib.hid hsp
    have CP := Lib.hid (prefixes_any hi hsp.joined.ok (by omega))
    have HB3 := Lib.hid (below_step HB2.out hb3)
    clear hi hsp hb3
    go_wp2_with fail
    refine CP.out.mono ?_
    rintro e w4 ⟨v, rfl, hown, hb4⟩
    have HOW := Lib.hid hown
    have HB4 := Lib.hid (below_step HB3.out hb4)
    have HZ := Lib.hid HB3.out.size
    clear hown hb4
    go_wp2
    go_ret2
    refine ⟨_, rfl, ?_, HB4.out⟩
    have := own_mono HOW.out HZ.out
    rw [merge_set HSP.out] at this
    exact this
  · have hO : setO (fun a _ => a) l [] = [] := by unfold setO; rw [if_neg hE]
    obtain ⟨E, hEE⟩ : ∃ E, presE l [] = E := ⟨_, rfl⟩
    unfold RetPres
    rw [hEE] at hE CF ⊢
    rw [hO]
    have hne : (E != 0) = true := by simpa using hE
    clear hE hO h hl hEE
    go_enter Try.func65, Try.ntmps65
    go_wp2_with fail
    refine (CF.out _ rfl).mono ?_
    rintro e w2 ⟨rfl, hb2⟩
    have HB2 : Hid (Below w.heap.size w w2) := below_step ((Below.refl _ _).alloc (Nat.le_refl _) _) hb2
    clear hb2
    go_wp2
    go_ret2
    exact ⟨_, rfl, World.ownsRow_nil _ _ _ _, HB2.out⟩

set_option maxRecDepth 100000 in
set_option maxHeartbeats 800000 in
theorem cidrMerges_walk {H : Type} {enc : TypeId × Value → H} (W : World) (vs : Array Value) (ds : List (DataW H)) (ps : List MemPlace) (h : ArgsOk Try.prog [30] H enc W vs.toList ds ps) :
    Calls Try.prog 21 vs W fun e W' => e = .returned (.bool true) ∧ Below W.heap.size W W' := by
  obtain ⟨hA, ⟨base, hval⟩, _, _⟩ := h
  obtain ⟨v0, d0, e0, _, h0⟩ := trodAll_one hA
  obtain ⟨a0, n, c, rfl⟩ := okWide_slice Try.underlying30 (hval 0 _ v0 rfl (by rw [e0]; rfl))
  obtain ⟨l, hr, hraw⟩ := open_pres h0
  obtain rfl : vs = #[.slice a0 n c] := by cases vs; simp_all
  have C1 := Lib.hid (fun (w : World) (hb : Below W.heap.size W w) => merge_is (hr.below hb) hraw)
  have C2 := Lib.hid (fun (w : World) (hb : Below W.heap.size W w) => refMerge_is (hr.below hb) hraw)
  have hlen : (setO (fun a _ => a) l []).length ≤ 120000 := setO_len hraw (fun q hq => by cases hq)
  generalize setO (fun a _ => a) l [] = L at *
  generalize presE l [] = E at *
  unfold RetPres at C1 C2
  clear h0 hA hval e0 hr hraw
  go_enter Try.func21, Try.ntmps21
  go_wp2_with fail
  refine (C1.out _ (Below.refl _ _)).mono ?_
  rintro e w1 ⟨v, rfl, hown, hb1⟩
  have HB := Lib.hid hb1
  have HO1 := Lib.hid hown
  clear hb1 hown
  go_wp2_with fail
  refine (C2.out _ HB.out).mono ?_
  rintro e w2 ⟨v', rfl, hown2, hb2⟩
  have hO1 := own_below HO1.out hb2
  obtain ⟨A1, c1, rfl, hr1⟩ := reads_row hO1
  obtain ⟨A2, c2, rfl, hr2⟩ := reads_row hown2
  have HB2 := Lib.hid (below_step HB.out hb2)
  have CS := Lib.hid (fun (w' : World) (hb : Below w2.heap.size w2 w') => samePres_any A1 A2 L.length c1 L.length c2 L L w' rfl rfl (by unfold maxLen; omega) (by unfold maxLen; omega) ((hr1.below hb).more hb.size) ((hr2.below hb).more hb.size))
  rw [decide_eq_true rfl] at CS
  clear hb2 hO1 hr1 hr2 hown2
  go_wp2_with fail
  refine (CS.out _ (Below.refl _ _)).mono ?_
  rintro e w3 ⟨rfl, hb3⟩
  have HB3 := Lib.hid (below_step HB2.out hb3)
  clear hb3
  go_wp2
  go_ret
  exact ⟨by simp, HB3.out⟩

end Go.Proofs.Ytonelibgaceflaa
