/-
  
  
-/
import Derived.Test.YtonelibgaceflaaC15
import Derived.Test.YtonelibgaceflaaC16
namespace Go.Proofs.Ytonelibgaceflaa
open Go.ChangeShapes Go.WideShapes Go.ChangeAt Go.RowKit

/-- The address of a slice's rest behind its first span. -/
def tailA (ad : Addr) (c : Nat) : Addr := if c = 1 then ad else ad.add 6
theorem IsSpans.tail {w : World} {ad : Addr} {n c : Nat} {x : SV} {l : List SV} (h : IsSpans w (some ad) (n + 1) c (x :: l)) : IsSpans w (some (tailA ad c)) n (c - 1) l := by
  obtain ⟨h1, ⟨h2, h3⟩, h4, h5⟩ := h
  have hl : l.length = n := by simpa using h1
  refine ⟨hl, ⟨by omega, by omega⟩, ?_, ?_⟩
  · rw [List.flatMap_cons, List.length_append, SV.cells_length] at h4
    omega
  · intro hn
    obtain ⟨ad', he, hb, hc⟩ := h5 (by omega)
    injection he with he
    subst he
    refine ⟨_, rfl, ?_, fun j u hu => ?_⟩
    · unfold tailA; split
      · exact hb
      · rw [block_of_add]; exact hb
    · have h6 := hc (6 + j) u (by rw [List.flatMap_cons, List.getElem?_append_right (by rw [SV.cells_length]; omega), SV.cells_length, Nat.add_sub_cancel_left]; exact hu)
      have : (tailA ad c).add j = ad.add (6 + j) := by
        unfold tailA
        rw [if_neg (by omega)]
        unfold Addr.add
        split <;> split <;> simp_all <;> omega
      rw [this]
      exact h6


theorem IsSpans.tail1 {w : World} {ad : Addr} {n : Nat} {x : SV} {l : List SV} {c : Nat} (h : IsSpans w (some ad) (n + 1) c (x :: l)) (hc : c = 1) : IsSpans w (some ad) n 0 l := by
  subst hc
  have := h.tail
  simpa [tailA] using this
theorem IsSpans.tail2 {w : World} {ad : Addr} {n c : Nat} {x : SV} {l : List SV} (h : IsSpans w (some ad) (n + 1) c (x :: l)) (hc : ¬ c = 1) : IsSpans w (some ⟨ad.block, ad.off + 6, none⟩) n (c - 1) l := by
  have h2 := h.tail
  unfold tailA at h2
  rw [if_neg hc] at h2
  exact h2
/-- Where the meeting stands. -/
def MeetAt (w : World) (a b : List SV) (k : Nat) (v0 v1 v5 : Value) (wr : World) : Prop :=
  ∃ (A A' : Option Addr) (n c n' c' : Nat) (a' b' done : List SV), v0 = .slice A n c ∧ v1 = .slice A' n' c' ∧ IsSpans w A n c a' ∧ IsSpans w A' n' c' b' ∧ n + n' ≤ k ∧ done.length + n + n' ≤ 6000 ∧ meetL a b = done ++ meetL a' b' ∧
    wr.ownsRow w.heap.size 117 6 v5 done.length (done.flatMap SV.cells) ∧ Below w.heap.size w wr
/-- Two new boxes of spans. -/
def TwoBox (X : World) (x y : SV) (p q : Value) (wx : World) : Prop :=
  ∃ b6 b7, p = .pointer (some ⟨b6, 0, none⟩) ∧ q = .pointer (some ⟨b7, 0, none⟩) ∧ X.heap.size ≤ b6 ∧ X.heap.size ≤ b7 ∧ b6 ≠ b7 ∧ Blk wx b6 117 #[.bool x.f.six, .int .u64 x.f.hi, .int .u64 x.f.lo, .bool x.l.six, .int .u64 x.l.hi, .int .u64 x.l.lo] ∧ Blk wx b7 117 #[.bool y.f.six, .int .u64 y.f.hi, .int .u64 y.f.lo, .bool y.l.six, .int .u64 y.l.hi, .int .u64 y.l.lo] ∧ Below X.heap.size X wx

theorem TwoBox.drew {X : World} {x y : SV} {p q : Value} {wx : World} (h : TwoBox X x y p q wx) : TwoBox X x y p q wx.drew := by
  obtain ⟨b6, b7, h1, h2, h3, h4, h5, h6, h7, h8⟩ := h
  exact ⟨b6, b7, h1, h2, h3, h4, h5, h6.drew, h7.drew, h8.drew⟩
/-- Two new boxes of addresses. -/
def TwoAddr (X : World) (x y : AV) (p q : Value) (wx : World) : Prop :=
  ∃ b6 b7, p = .pointer (some ⟨b6, 0, none⟩) ∧ q = .pointer (some ⟨b7, 0, none⟩) ∧ X.heap.size ≤ b6 ∧ X.heap.size ≤ b7 ∧ b6 ≠ b7 ∧ Blk wx b6 24 #[.bool x.six, .int .u64 x.hi, .int .u64 x.lo] ∧ Blk wx b7 24 #[.bool y.six, .int .u64 y.hi, .int .u64 y.lo] ∧ Below X.heap.size X wx
theorem TwoAddr.drew {X : World} {x y : AV} {p q : Value} {wx : World} (h : TwoAddr X x y p q wx) : TwoAddr X x y p q wx.drew := by
  obtain ⟨b6, b7, h1, h2, h3, h4, h5, h6, h7, h8⟩ := h
  exact ⟨b6, b7, h1, h2, h3, h4, h5, h6.drew, h7.drew, h8.drew⟩
theorem twoAddr_A (X : World) (x y : AV) : TwoAddr X x y (.pointer (some ⟨X.heap.size, 0, none⟩)) (.pointer (some ⟨X.heap.size + 1, 0, none⟩)) ((X.alloc (.cells #[.bool x.six, .int .u64 x.hi, .int .u64 x.lo] 24)).alloc (.cells #[.bool y.six, .int .u64 y.hi, .int .u64 y.lo] 24)) := by
  refine ⟨_, _, rfl, rfl, Nat.le_refl _, by omega, by omega, (Blk.new _ _ _).alloc _, ?_, ((Below.refl _ _).alloc (Nat.le_refl _) _).alloc (by simp) _⟩
  have := Blk.new (X.alloc (.cells #[.bool x.six, .int .u64 x.hi, .int .u64 x.lo] 24)) 24 #[.bool y.six, .int .u64 y.hi, .int .u64 y.lo]
  simpa using this
theorem twoAddr_B (X : World) (x y : AV) : TwoAddr X x y (.pointer (some ⟨X.heap.size + 1, 0, none⟩)) (.pointer (some ⟨X.heap.size, 0, none⟩)) ((X.alloc (.cells #[.bool y.six, .int .u64 y.hi, .int .u64 y.lo] 24)).alloc (.cells #[.bool x.six, .int .u64 x.hi, .int .u64 x.lo] 24)) := by
  refine ⟨_, _, rfl, rfl, by omega, Nat.le_refl _, by omega, ?_, (Blk.new _ _ _).alloc _, ((Below.refl _ _).alloc (Nat.le_refl _) _).alloc (by simp) _⟩
  have := Blk.new (X.alloc (.cells #[.bool y.six, .int .u64 y.hi, .int .u64 y.lo] 24)) 24 #[.bool x.six, .int .u64 x.hi, .int .u64 x.lo]
  simpa using this
theorem twoBox_A (X : World) (x y : SV) : TwoBox X x y (.pointer (some ⟨X.heap.size, 0, none⟩)) (.pointer (some ⟨X.heap.size + 1, 0, none⟩)) ((X.alloc (.cells #[.bool x.f.six, .int .u64 x.f.hi, .int .u64 x.f.lo, .bool x.l.six, .int .u64 x.l.hi, .int .u64 x.l.lo] 117)).alloc (.cells #[.bool y.f.six, .int .u64 y.f.hi, .int .u64 y.f.lo, .bool y.l.six, .int .u64 y.l.hi, .int .u64 y.l.lo] 117)) := by
  refine ⟨_, _, rfl, rfl, Nat.le_refl _, by omega, by omega, (Blk.new _ _ _).alloc _, ?_, ((Below.refl _ _).alloc (Nat.le_refl _) _).alloc (by simp) _⟩
  have := Blk.new (X.alloc (.cells #[.bool x.f.six, .int .u64 x.f.hi, .int .u64 x.f.lo, .bool x.l.six, .int .u64 x.l.hi, .int .u64 x.l.lo] 117)) 117 #[.bool y.f.six, .int .u64 y.f.hi, .int .u64 y.f.lo, .bool y.l.six, .int .u64 y.l.hi, .int .u64 y.l.lo]
  simpa using this
theorem twoBox_B (X : World) (x y : SV) : TwoBox X x y (.pointer (some ⟨X.heap.size + 1, 0, none⟩)) (.pointer (some ⟨X.heap.size, 0, none⟩)) ((X.alloc (.cells #[.bool y.f.six, .int .u64 y.f.hi, .int .u64 y.f.lo, .bool y.l.six, .int .u64 y.l.hi, .int .u64 y.l.lo] 117)).alloc (.cells #[.bool x.f.six, .int .u64 x.f.hi, .int .u64 x.f.lo, .bool x.l.six, .int .u64 x.l.hi, .int .u64 x.l.lo] 117)) := by
  refine ⟨_, _, rfl, rfl, by omega, Nat.le_refl _, by omega, ?_, (Blk.new _ _ _).alloc _, ((Below.refl _ _).alloc (Nat.le_refl _) _).alloc (by simp) _⟩
  have := Blk.new (X.alloc (.cells #[.bool y.f.six, .int .u64 y.f.hi, .int .u64 y.f.lo, .bool y.l.six, .int .u64 y.l.hi, .int .u64 y.l.lo] 117)) 117 #[.bool x.f.six, .int .u64 x.f.hi, .int .u64 x.f.lo, .bool x.l.six, .int .u64 x.l.hi, .int .u64 x.l.lo]
  simpa using this

set_option maxRecDepth 100000 in
set_option maxHeartbeats 3200000 in
theorem meet_any {A A' : Option Addr} {n c n' c' : Nat} {a b : List SV} {w : World} (h : IsSpans w A n c a) (h' : IsSpans w A' n' c' b) (hn : n + n' ≤ 6000) :
    Calls Try.prog 144 #[.slice A n c, .slice A' n' c'] w fun e w' => ∃ v, e = .returned v ∧ w'.ownsRow w.heap.size 117 6 v (meetL a b).length ((meetL a b).flatMap SV.cells) ∧ Below w.heap.size w w' := by
  have hc1 := h.2.1
  have hc2 := h'.2.1
  have H1 := Lib.hid h
  have H2 := Lib.hid h'
  clear h h'
  obtain ⟨L, hL⟩ : ∃ L, meetL a b = L := ⟨_, rfl⟩
  have HL := Lib.hid hL
  rw [hL]
  clear hL
  go_enter Try.func144, Try.ntmps144
  go_wp2
  go_loopg [0, 1, 5, 6, 7, 8, 9] (n + n') (fun k v0 v1 v5 _ _ _ _ wr => MeetAt w a b k v0 v1 v5 wr)
  case atStart => exact ⟨A, A', n, c, n', c', a, b, [], rfl, rfl, H1.out, H2.out, Nat.le_refl _, by simpa using hn, rfl, ⟨rfl, .inl ⟨rfl, rfl⟩⟩, Below.refl _ _⟩
  case round =>
    obtain ⟨A, A', n, c, n', c', a', b', done, rfl, rfl, h1, h2, hk, hbd, hml, hown, hb⟩ := hrel
    obtain ⟨X, rfl⟩ : ∃ X : World, X = wr := ⟨_, rfl⟩
    cases a' with
    | nil =>
      obtain rfl : n = 0 := by have := h1.1; simpa using this.symm
      have hd : L = done := by rw [← HL.out, hml]; unfold meetL; simp
      have HD := Lib.hid hd
      have HOWN := Lib.hid hown
      have HB := Lib.hid hb
      clear hown hb h1 h2 hml hd
      go_wp2
      go_ret
      exact ⟨_, rfl, by rw [HD.out]; exact HOWN.out, HB.out⟩
    | cons x a' =>
      obtain ⟨n, rfl⟩ : ∃ m, n = m + 1 := ⟨n - 1, by have := h1.1; simp at this; omega⟩
      cases b' with
      | nil =>
        obtain rfl : n' = 0 := by have := h2.1; simpa using this.symm
        have hd : L = done := by rw [← HL.out, hml, meetL_nil]; simp
        have HD := Lib.hid hd
        have HOWN := Lib.hid hown
        have HB := Lib.hid hb
        clear hown hb h1 h2 hml hd
        go_wp2
        go_ret
        exact ⟨_, rfl, by rw [HD.out]; exact HOWN.out, HB.out⟩
      | cons y b' =>
        obtain ⟨n', rfl⟩ : ∃ m, n' = m + 1 := ⟨n' - 1, by have := h2.1; simp at this; omega⟩
        obtain ⟨ad, he, hbk, hcc⟩ := h1.2.2.2 (by omega)
        subst he
        have qb : ad.block < X.heap.size := by have := hb.size; omega
        have q1 : X.cell? ⟨ad.block, ad.off + 1, none⟩ = some (.int .u64 x.f.hi) := (hb.cell (p := ⟨ad.block, ad.off + 1, none⟩) hbk).trans (by have := hcc 1 _ rfl; simpa [Addr.add] using this)
        have q2 : X.cell? ⟨ad.block, ad.off + 2, none⟩ = some (.int .u64 x.f.lo) := (hb.cell (p := ⟨ad.block, ad.off + 2, none⟩) hbk).trans (by have := hcc 2 _ rfl; simpa [Addr.add] using this)
        have q3 : X.cell? ⟨ad.block, ad.off + 3, none⟩ = some (.bool x.l.six) := (hb.cell (p := ⟨ad.block, ad.off + 3, none⟩) hbk).trans (by have := hcc 3 _ rfl; simpa [Addr.add] using this)
        have q4 : X.cell? ⟨ad.block, ad.off + 4, none⟩ = some (.int .u64 x.l.hi) := (hb.cell (p := ⟨ad.block, ad.off + 4, none⟩) hbk).trans (by have := hcc 4 _ rfl; simpa [Addr.add] using this)
        have q5 : X.cell? ⟨ad.block, ad.off + 5, none⟩ = some (.int .u64 x.l.lo) := (hb.cell (p := ⟨ad.block, ad.off + 5, none⟩) hbk).trans (by have := hcc 5 _ rfl; simpa [Addr.add] using this)
        have qz : X.cell? ad = some (.bool x.f.six) := (hb.cell (p := ad) hbk).trans (by have := hcc 0 _ rfl; simpa [Addr.add] using this)
        obtain ⟨ad', he, hbk, hcc⟩ := h2.2.2.2 (by omega)
        subst he
        have rb : ad'.block < X.heap.size := by have := hb.size; omega
        have r1 : X.cell? ⟨ad'.block, ad'.off + 1, none⟩ = some (.int .u64 y.f.hi) := (hb.cell (p := ⟨ad'.block, ad'.off + 1, none⟩) hbk).trans (by have := hcc 1 _ rfl; simpa [Addr.add] using this)
        have r2 : X.cell? ⟨ad'.block, ad'.off + 2, none⟩ = some (.int .u64 y.f.lo) := (hb.cell (p := ⟨ad'.block, ad'.off + 2, none⟩) hbk).trans (by have := hcc 2 _ rfl; simpa [Addr.add] using this)
        have r3 : X.cell? ⟨ad'.block, ad'.off + 3, none⟩ = some (.bool y.l.six) := (hb.cell (p := ⟨ad'.block, ad'.off + 3, none⟩) hbk).trans (by have := hcc 3 _ rfl; simpa [Addr.add] using this)
        have r4 : X.cell? ⟨ad'.block, ad'.off + 4, none⟩ = some (.int .u64 y.l.hi) := (hb.cell (p := ⟨ad'.block, ad'.off + 4, none⟩) hbk).trans (by have := hcc 4 _ rfl; simpa [Addr.add] using this)
        have r5 : X.cell? ⟨ad'.block, ad'.off + 5, none⟩ = some (.int .u64 y.l.lo) := (hb.cell (p := ⟨ad'.block, ad'.off + 5, none⟩) hbk).trans (by have := hcc 5 _ rfl; simpa [Addr.add] using this)
        have rz : X.cell? ad' = some (.bool y.f.six) := (hb.cell (p := ad') hbk).trans (by have := hcc 0 _ rfl; simpa [Addr.add] using this)
        have HOWN := Lib.hid hown
        have HB := Lib.hid hb
        have HML := Lib.hid hml
        have H1' := Lib.hid h1
        have H2' := Lib.hid h2
        clear hown hb hml h1 h2
        go_wp2_with fail
        go_cut [6, 7] (fun p q wx => TwoBox X x y p q wx)
        case first =>
          go_region
          all_goals (go_wp2_with fail; go_meet; first | exact (twoBox_A X x y).drew | exact (twoBox_B X x y).drew)
        case rest =>
          obtain ⟨b6, b7, rfl, rfl, hg6, hg7, hne, hk6, hk7, hbx⟩ := hcut
          obtain ⟨Y, rfl⟩ : ∃ Y : World, Y = wc := ⟨_, rfl⟩
          have HB1 := Lib.hid (hbx)
          have HK6 := Lib.hid hk6
          have HK7 := Lib.hid hk7
          have lb6 := hk6.lt
          have lb7 := hk7.lt
          have x0 := hk6.cell 0
          have x1 := hk6.cell 1
          have x2 := hk6.cell 2
          have x3 := hk6.cell 3
          have x4 := hk6.cell 4
          have x5 := hk6.cell 5
          simp at x0 x1 x2 x3 x4 x5
          have y0 := hk7.cell 0
          have y1 := hk7.cell 1
          have y2 := hk7.cell 2
          have y3 := hk7.cell 3
          have y4 := hk7.cell 4
          have y5 := hk7.cell 5
          simp at y0 y1 y2 y3 y4 y5
          clear hk6 hk7 hbx
          go_wp2_with fail
          go_cut [8, 9] (fun p q wx => TwoAddr Y x.f x.l p q wx)
          case first =>
            go_region
            all_goals (go_wp2_with fail; go_meet; first | exact (twoAddr_A Y x.f x.l).drew | exact (twoAddr_B Y x.f x.l).drew)
          case rest =>
            obtain ⟨b8, b9, rfl, rfl, hg8, hg9, hne2, hk8, hk9, hbx⟩ := hcut
            obtain ⟨Z, rfl⟩ : ∃ Z : World, Z = wc := ⟨_, rfl⟩
            obtain ⟨fcY, ffY⟩ := bcell hbx
            have HB2 := Lib.hid hbx
            have HK8 := Lib.hid hk8
            have HK9 := Lib.hid hk9
            have lb8 := hk8.lt
            have lb9 := hk9.lt
            have l0 := hk8.cell 0
            have l1 := hk8.cell 1
            have l2 := hk8.cell 2
            have m0 := hk9.cell 0
            have m1 := hk9.cell 1
            have m2 := hk9.cell 2
            simp at l0 l1 l2 m0 m1 m2
            have C1 := Lib.hid (fun w => less_any x.f.six x.f.hi x.f.lo y.f.six y.f.hi y.f.lo w)
            clear hk8 hk9 hbx
            go_wp2_with fail
            refine (C1.out _).mono ?_
            rintro e w5 ⟨rfl, hb5⟩
            obtain ⟨fc5, ff5⟩ := bcell hb5
            have hz5 := hb5.size
            have HB5 := Lib.hid hb5
            have sb6 : b6 < Z.heap.size := by have := HB2.out.size; omega
            have sb7 : b7 < Z.heap.size := by have := HB2.out.size; omega
            have sl8 : b8 < w5.heap.size := by omega
            have sl9 : b9 < w5.heap.size := by omega
            have K8 := Lib.hid (HK8.out.below hb5 lb8)
            have K9 := Lib.hid (HK9.out.below hb5 lb9)
            have z0 := HK8.out.frozen 0
            have z1 := HK8.out.frozen 1
            have z2 := HK8.out.frozen 2
            have t0 := K8.out.cell 0
            have t1 := K8.out.cell 1
            have t2 := K8.out.cell 2
            simp at t0 t1 t2
            obtain ⟨c1, hc1⟩ : ∃ c1, lessB x.f y.f = c1 := ⟨_, rfl⟩
            have HC1 := Lib.hid hc1
            rw [show lessB ⟨x.f.six, x.f.hi, x.f.lo⟩ ⟨y.f.six, y.f.hi, y.f.lo⟩ = c1 from hc1]
            clear hb5 hc1
            go_upto_if 31 with fail
            go_cut [] (fun wx => Blk wx b8 24 #[.bool (if lessB x.f y.f then y.f else x.f).six, .int .u64 (if lessB x.f y.f then y.f else x.f).hi, .int .u64 (if lessB x.f y.f then y.f else x.f).lo] ∧ Blk wx b9 24 #[.bool x.l.six, .int .u64 x.l.hi, .int .u64 x.l.lo] ∧ Below Y.heap.size Y wx)
            case first =>
              cases c1
              · go_wp2
                go_meet
                rw [HC1.out]
                exact ⟨K8.out, K9.out, HB2.out.trans (HB5.out.mono HB2.out.size)⟩
              · go_wp2
                go_meet
                rw [HC1.out]
                refine ⟨?_, ?_, ?_⟩
                · exact ((K8.out.set_ 0 _).set_ 1 _).set_ 2 _
                · exact ((K9.out.far (by exact hne2.symm) _).far (by exact hne2.symm) _).far (by exact hne2.symm) _
                · have := HB2.out.trans (HB5.out.mono HB2.out.size)
                  exact (((this.setCell (by simpa using hg8) _).setCell (by simpa using hg8) _).setCell (by simpa using hg8) _)
            case rest =>
              obtain ⟨hk8, hk9, hbx⟩ := hcut
              clear fcY ffY HB2 HK8 HK9 lb8 lb9 l0 l1 l2 m0 m1 m2 C1
              obtain ⟨lo, hlo⟩ : ∃ lo : AV, (if lessB x.f y.f then y.f else x.f) = lo := ⟨_, rfl⟩
              rw [hlo] at hk8
              have HLO := Lib.hid hlo
              clear hlo
              obtain ⟨T, rfl⟩ : ∃ T : World, T = wc := ⟨_, rfl⟩
              obtain ⟨fcY, ffY⟩ := bcell hbx
              have HB2 := Lib.hid hbx
              have HK8 := Lib.hid hk8
              have HK9 := Lib.hid hk9
              have lb8 := hk8.lt
              have lb9 := hk9.lt
              have l0 := hk8.cell 0
              have l1 := hk8.cell 1
              have l2 := hk8.cell 2
              have m0 := hk9.cell 0
              have m1 := hk9.cell 1
              have m2 := hk9.cell 2
              simp at l0 l1 l2 m0 m1 m2
              have C1 := Lib.hid (fun w => less_any y.l.six y.l.hi y.l.lo x.l.six x.l.hi x.l.lo w)
              clear hk8 hk9 hbx
              go_wp2_with fail
              refine (C1.out _).mono ?_
              rintro e w5 ⟨rfl, hb5⟩
              obtain ⟨fc5, ff5⟩ := bcell hb5
              have hz5 := hb5.size
              have HB5 := Lib.hid hb5
              have sb6 : b6 < T.heap.size := by have := HB2.out.size; omega
              have sb7 : b7 < T.heap.size := by have := HB2.out.size; omega
              have sl8 : b8 < w5.heap.size := by omega
              have sl9 : b9 < w5.heap.size := by omega
              have K8 := Lib.hid (HK8.out.below hb5 lb8)
              have K9 := Lib.hid (HK9.out.below hb5 lb9)
              have z0 := HK9.out.frozen 0
              have z1 := HK9.out.frozen 1
              have z2 := HK9.out.frozen 2
              obtain ⟨c1, hc1⟩ : ∃ c1, lessB y.l x.l = c1 := ⟨_, rfl⟩
              have HC1 := Lib.hid hc1
              rw [show lessB ⟨y.l.six, y.l.hi, y.l.lo⟩ ⟨x.l.six, x.l.hi, x.l.lo⟩ = c1 from hc1]
              clear hb5 hc1
              go_upto_if 37 with fail
              go_cut [] (fun wx => Blk wx b8 24 #[.bool lo.six, .int .u64 lo.hi, .int .u64 lo.lo] ∧ Blk wx b9 24 #[.bool (if lessB y.l x.l then y.l else x.l).six, .int .u64 (if lessB y.l x.l then y.l else x.l).hi, .int .u64 (if lessB y.l x.l then y.l else x.l).lo] ∧ Below Y.heap.size Y wx)
              case first =>
                cases c1
                · go_wp2
                  go_meet
                  rw [HC1.out]
                  exact ⟨K8.out, K9.out, HB2.out.trans (HB5.out.mono HB2.out.size)⟩
                · go_wp2
                  go_meet
                  rw [HC1.out]
                  refine ⟨?_, ?_, ?_⟩
                  · exact ((K8.out.far (by exact hne2) _).far (by exact hne2) _).far (by exact hne2) _
                  · exact ((K9.out.set_ 0 _).set_ 1 _).set_ 2 _
                  · have := HB2.out.trans (HB5.out.mono HB2.out.size)
                    exact (((this.setCell (by simpa using hg9) _).setCell (by simpa using hg9) _).setCell (by simpa using hg9) _)
              case rest =>
                obtain ⟨hk8, hk9, hbx⟩ := hcut
                clear fcY ffY HB2 HK8 HK9 lb8 lb9 l0 l1 l2 m0 m1 m2 C1
                obtain ⟨hi, hhi⟩ : ∃ hi : AV, (if lessB y.l x.l then y.l else x.l) = hi := ⟨_, rfl⟩
                rw [hhi] at hk9
                have HHI := Lib.hid hhi
                have hhead : headM x y = if lo.six = hi.six ∧ lessB hi lo = false then [⟨lo, hi⟩] else [] := by unfold headM; rw [HLO.out, hhi]
                have HHD := Lib.hid hhead
                clear hhi hhead
                obtain ⟨U, rfl⟩ : ∃ U : World, U = wc := ⟨_, rfl⟩
                obtain ⟨fcY, ffY⟩ := bcell hbx
                have HB2 := Lib.hid hbx
                have HK8 := Lib.hid hk8
                have HK9 := Lib.hid hk9
                have lb8 := hk8.lt
                have lb9 := hk9.lt
                have l0 := hk8.cell 0
                have l1 := hk8.cell 1
                have l2 := hk8.cell 2
                have m0 := hk9.cell 0
                have m1 := hk9.cell 1
                have m2 := hk9.cell 2
                simp at l0 l1 l2 m0 m1 m2
                have sb6 : b6 < U.heap.size := by have := hbx.size; omega
                have sb7 : b7 < U.heap.size := by have := hbx.size; omega
                have C1 := Lib.hid (fun w => less_any hi.six hi.hi hi.lo lo.six lo.hi lo.lo w)
                have HKX6 := Lib.hid (HK6.out.below hbx lb6)
                have HKX7 := Lib.hid (HK7.out.below hbx lb7)
                have HBU := Lib.hid (HB1.out.trans (hbx.mono HB1.out.size))
                have HOWU := Lib.hid (own_below HOWN.out HBU.out)
                have hUX := HBU.out.size
                clear hk8 hk9 hbx
                obtain ⟨c1, hc1⟩ : ∃ c1, lessB hi lo = c1 := ⟨_, rfl⟩
                have HC1 := Lib.hid hc1
                rw [show lessB ⟨hi.six, hi.hi, hi.lo⟩ ⟨lo.six, lo.hi, lo.lo⟩ = c1 from hc1] at C1
                clear hc1
                go_upto_region 9 with fail
                go_cut [50] (fun v50 wx => v50 = .bool (lo.six == hi.six && !c1) ∧ Below U.heap.size U wx)
                case first =>
                  by_cases h6 : lo.six = hi.six
                  · have hd : (lo.six == hi.six) = true := by simpa using h6
                    clear h6
                    go_wp2_with fail
                    refine (C1.out _).mono ?_
                    rintro e w5 ⟨rfl, hb5⟩
                    have HB5 := Lib.hid hb5
                    clear hb5
                    go_wp2
                    go_meet
                    exact ⟨by simp [hd], HB5.out⟩
                  · have hd : (lo.six == hi.six) = false := by simpa using h6
                    clear h6
                    go_wp2
                    go_meet
                    exact ⟨by simp [hd], Below.refl _ _⟩
                case rest =>
                obtain ⟨rfl, hb5⟩ := hcut
                obtain ⟨w5, rfl⟩ : ∃ w5 : World, w5 = wc := ⟨_, rfl⟩
                have hz5 := hb5.size
                have HB5 := Lib.hid hb5
                have sl8 : b8 < w5.heap.size := by omega
                have sl9 : b9 < w5.heap.size := by omega
                have K8 := HK8.out.below hb5 lb8
                have K9 := HK9.out.below hb5 lb9
                clear fcY ffY l0 l1 l2 m0 m1 m2
                have l0 := K8.cell 0
                have l1 := K8.cell 1
                have l2 := K8.cell 2
                have m0 := K9.cell 0
                have m1 := K9.cell 1
                have m2 := K9.cell 2
                simp at l0 l1 l2 m0 m1 m2
                have HO5 := Lib.hid (own_below HOWU.out hb5)
                have HQ6 := Lib.hid (HKX6.out.below hb5 sb6)
                have HQ7 := Lib.hid (HKX7.out.below hb5 sb7)
                have HBW : Hid (Below w.heap.size w w5) := HB.out.trans ((HBU.out.trans (HB5.out.mono HBU.out.size)).mono HB.out.size)
                obtain ⟨gb, hgb⟩ : ∃ gb, (lo.six == hi.six && !c1) = gb := ⟨_, rfl⟩
                have HHE : Hid (headM x y = if gb = true then [⟨lo, hi⟩] else []) := by
                  show _ = _
                  rw [HHD.out, ← hgb, HC1.out]
                  cases c1 <;> by_cases h6 : lo.six = hi.six <;> simp [h6]
                rw [hgb]
                clear hb5 K8 K9 hgb C1
                go_upto_if 50 with fail
                go_cut [5] (fun v5 wx => wx.ownsRow w.heap.size 117 6 v5 (done ++ headM x y).length ((done ++ headM x y).flatMap SV.cells) ∧ Blk wx b6 117 #[.bool x.f.six, .int .u64 x.f.hi, .int .u64 x.f.lo, .bool x.l.six, .int .u64 x.l.hi, .int .u64 x.l.lo] ∧ Blk wx b7 117 #[.bool y.f.six, .int .u64 y.f.hi, .int .u64 y.f.lo, .bool y.l.six, .int .u64 y.l.hi, .int .u64 y.l.lo] ∧ Below w.heap.size w wx)
                case first =>
                  cases gb
                  · go_wp2
                    go_meet
                    refine ⟨?_, HQ6.out, HQ7.out, HBW.out⟩
                    rw [HHE.out, if_neg (by simp), List.append_nil]; exact HO5.out
                  · go_wp2_with (at_builtin; go_loud (refine wpList_append_oneN (us := SV.cells ⟨lo, hi⟩) rfl _ _ 228 rfl w.heap.size _ 6 48 Try.underlying228 infoSpan rfl (by decide) _ _ _ rfl rfl rfl HO5.out ?c1 rfl ?c4 ?c2 ?c3 ?_))
                    case c1 => exact HBW.out.size
                    case c2 => unfold maxLen; omega
                    case c3 => omega
                    case c4 => exact span_one _
                    intro v' w9 hown' hb9 hs9 hk9
                    have HO9 := Lib.hid hown'
                    have HB9 := Lib.hid hb9
                    have HK9' := Lib.hid hk9
                    clear hown' hb9 hk9
                    go_wp2
                    go_meet
                    refine ⟨?_, ?_, ?_, ?_⟩
                    · rw [HHE.out, if_pos trivial, List.length_append, List.flatMap_append]; simpa using HO9.out
                    · exact (HK9'.out b6 HQ6.out.lt (own_block_lt HOWN.out hg6)).trans HQ6.out
                    · exact (HK9'.out b7 HQ7.out.lt (own_block_lt HOWN.out hg7)).trans HQ7.out
                    · exact HBW.out.trans HB9.out
                case rest =>
                  obtain ⟨hown, hk6, hk7, hbx⟩ := hcut
                  clear HB2 HK8 HK9 lb8 lb9 l0 l1 l2 m0 m1 m2
                  obtain ⟨V, rfl⟩ : ∃ V : World, V = wc := ⟨_, rfl⟩
                  have v3 := hk6.cell 3
                  have v4 := hk6.cell 4
                  have v5 := hk6.cell 5
                  have y3 := hk7.cell 3
                  have y4 := hk7.cell 4
                  have y5 := hk7.cell 5
                  simp at v3 v4 v5 y3 y4 y5
                  have HOV := Lib.hid hown
                  have HBV := Lib.hid hbx
                  have hmt : meetL (x :: a') (y :: b') = headM x y ++ (if lessB x.l y.l then meetL a' (y :: b') else meetL (x :: a') b') := by rw [meetL]
                  have hhl : (headM x y).length ≤ 1 := by unfold headM; (repeat' split) <;> first | exact Nat.le_refl _ | exact Nat.zero_le _
                  have HMT := Lib.hid hmt
                  have C3 := Lib.hid (fun w => less_any x.l.six x.l.hi x.l.lo y.l.six y.l.hi y.l.lo w)
                  obtain ⟨c3, hc3⟩ : ∃ c3, lessB x.l y.l = c3 := ⟨_, rfl⟩
                  have HC3 := Lib.hid hc3
                  rw [show lessB ⟨x.l.six, x.l.hi, x.l.lo⟩ ⟨y.l.six, y.l.hi, y.l.lo⟩ = c3 from hc3] at C3
                  have hca := H1'.out.2.1
                  have hcb := H2'.out.2.1
                  clear hown hk6 hk7 hbx hc3 hmt
                  go_wp2_with fail
                  refine (C3.out _).mono ?_
                  rintro e w8 ⟨rfl, hb8⟩
                  have HO8 := Lib.hid (own_below HOV.out hb8)
                  have HB8 := Lib.hid (HBV.out.trans (hb8.mono HBV.out.size))
                  clear hb8
                  cases c3
                  · go_wp2
                    all_goals
                      go_roundg (n + 1 + n')
                      case measure => omega
                      case rel =>
                        first
                          | exact ⟨some ad, some ad', n + 1, c, n', _, x :: a', b', done ++ headM x y, rfl, rfl, H1'.out, IsSpans.tail1 H2'.out (by omega), Nat.le_refl _, by rw [List.length_append]; omega, by rw [HML.out, HMT.out, HC3.out, if_neg (by simp), ← List.append_assoc], HO8.out, HB8.out⟩
                          | exact ⟨some ad, _, n + 1, c, n', _, x :: a', b', done ++ headM x y, rfl, rfl, H1'.out, IsSpans.tail2 H2'.out (by omega), Nat.le_refl _, by rw [List.length_append]; omega, by rw [HML.out, HMT.out, HC3.out, if_neg (by simp), ← List.append_assoc], HO8.out, HB8.out⟩
                  · go_wp2
                    all_goals
                      go_roundg (n + (n' + 1))
                      case measure => omega
                      case rel =>
                        first
                          | exact ⟨some ad, some ad', n, _, n' + 1, c', a', y :: b', done ++ headM x y, rfl, rfl, IsSpans.tail1 H1'.out (by omega), H2'.out, Nat.le_refl _, by rw [List.length_append]; omega, by rw [HML.out, HMT.out, HC3.out, if_pos rfl, ← List.append_assoc], HO8.out, HB8.out⟩
                          | exact ⟨_, some ad', n, _, n' + 1, c', a', y :: b', done ++ headM x y, rfl, rfl, IsSpans.tail2 H1'.out (by omega), H2'.out, Nat.le_refl _, by rw [List.length_append]; omega, by rw [HML.out, HMT.out, HC3.out, if_pos rfl, ← List.append_assoc], HO8.out, HB8.out⟩

end Go.Proofs.Ytonelibgaceflaa

namespace Go.Proofs.Ytonelibgaceflaa
open Go.ChangeShapes Go.WideShapes Go.ChangeAt Go.RowKit

set_option maxRecDepth 100000 in
set_option maxHeartbeats 1600000 in
theorem both_is {A A' : Option Addr} {n c n' c' : Nat} {l m : List PV} {w : World} (h : IsPres w A n c l) (h' : IsPres w A' n' c' m) (hl : ∀ q ∈ l, q.Raw) (hm : ∀ q ∈ m, q.Raw) :
    Calls Try.prog 67 #[.slice A n c, .slice A' n' c'] w (RetPres w (setO (fun a b => a && b) l m) (presE l m)) := by
  have CF : Hid (∀ w1, w1 = w.alloc (.cells #[.slice A n c, .slice A' n' c'] 30) → Calls Try.prog 139 #[.slice (some ⟨w.heap.size, 0, none⟩) 2 2] w1 fun e w' => e = .returned (.int .i64 (presE l m)) ∧ Below w1.heap.size w1 w') := by
    intro w1 hw1
    subst hw1
    exact fault_two (h.below ((Below.refl _ _).alloc (Nat.le_refl _) _)) (h'.below ((Below.refl _ _).alloc (Nat.le_refl _) _)) hl hm (Blk.new _ _ _)
  by_cases hE : presE l m = 0
  · obtain ⟨z1, y1, z2, y2⟩ := presE_zero hl hm hE
    have CS := Lib.hid (fun (w1 : World) (hb : Below w.heap.size w w1) => spans_is (h.below hb) z2 (by have := h.1; omega))
    have CS2 := Lib.hid (fun (w1 : World) (hb : Below w.heap.size w w1) => spans_is (h'.below hb) y2 (by have := h'.1; omega))
    have hO : setO (fun a b => a && b) l m = setW (fun a b => a && b) l m := by unfold setO; rw [if_pos hE]; rfl
    unfold RetPres
    rw [hE] at CF ⊢
    rw [hO]
    clear hE hO h h' hl hm z1 z2 y1 y2
    go_enter Try.func67, Try.ntmps67
    go_wp2_with fail
    refine (CF.out _ rfl).mono ?_
    rintro e w2 ⟨rfl, hb2⟩
    have HB2 : Hid (Below w.heap.size w w2) := below_step ((Below.refl _ _).alloc (Nat.le_refl _) _) hb2
    clear hb2
    go_wp2_with fail
    refine (CS.out _ HB2.out).mono ?_
    rintro e w3 ⟨A1, n1, c1, s, rfl, hi, hsp, hn1, hb3⟩
    have HSP := Lib.hid hsp
    have HI := Lib.hid hi
    have HB3 := Lib.hid (below_step HB2.out hb3)
    clear hi hsp hb3
    go_wp2_with fail
    refine (CS2.out _ HB3.out).mono ?_
    rintro e w4 ⟨A2, n2, c2, t, rfl, hi2, hsp2, hn2, hb4⟩
    have HSP2 := Lib.hid hsp2
    have HI1 := Lib.hid (HI.out.below hb4)
    have HI2 := Lib.hid hi2
    have HB4 := Lib.hid (below_step HB3.out hb4)
    clear hi2 hsp2 hb4
    have CM := Lib.hid (meet_any HI1.out HI2.out (by omega))
    go_wp2_with fail
    refine CM.out.mono ?_
    rintro e w5 ⟨v, rfl, hown5, hb5⟩
    obtain ⟨A5, c5, rfl, hi5⟩ := IsSpans.of_own hown5
    have hj5 := meet_law s t HSP.out.joined HSP2.out.joined
    have CP := Lib.hid (prefixes_any hi5 hj5.1.ok (by have := hj5.2.2.2; have := HI1.out.1; have := HI2.out.1; omega))
    have HB5 := Lib.hid (below_step HB4.out hb5)
    clear hown5 hb5 hi5 hj5
    go_wp2_with fail
    refine CP.out.mono ?_
    rintro e w6 ⟨v, rfl, hown, hb6⟩
    have HOW := Lib.hid hown
    have HB9 := Lib.hid (below_step HB5.out hb6)
    have HZ := Lib.hid HB5.out.size
    have HFIN := Lib.hid (both_set HSP.out HSP2.out)
    clear hown hb6
    go_wp2
    go_ret2
    refine ⟨_, rfl, ?_, HB9.out⟩
    have := own_mono HOW.out HZ.out
    rw [HFIN.out] at this
    exact this
  · have hO : setO (fun a b => a && b) l m = [] := by unfold setO; rw [if_neg hE]
    obtain ⟨E, hEE⟩ : ∃ E, presE l m = E := ⟨_, rfl⟩
    unfold RetPres
    rw [hEE] at hE CF ⊢
    rw [hO]
    have hne : (E != 0) = true := by simpa using hE
    clear hE hO h h' hl hm hEE
    go_enter Try.func67, Try.ntmps67
    go_wp2_with fail
    refine (CF.out _ rfl).mono ?_
    rintro e w2 ⟨rfl, hb2⟩
    have HB2 : Hid (Below w.heap.size w w2) := below_step ((Below.refl _ _).alloc (Nat.le_refl _) _) hb2
    clear hb2
    go_wp2
    go_ret2
    exact ⟨_, rfl, World.ownsRow_nil _ _ _ _, HB2.out⟩

set_option maxRecDepth 100000 in
set_option maxHeartbeats 800000 in
theorem cidrBoths_walk {H : Type} {enc : TypeId × Value → H} (W : World) (vs : Array Value) (ds : List (DataW H)) (ps : List MemPlace) (h : ArgsOk Try.prog [30, 30] H enc W vs.toList ds ps) :
    Calls Try.prog 22 vs W fun e W' => e = .returned (.bool true) ∧ Below W.heap.size W W' := by
  obtain ⟨hA, ⟨base, hval⟩, _, _⟩ := h
  obtain ⟨v0, v1, d0, d1, p0, p1, e0, _, _, h0, h1⟩ := trodAll_two hA
  obtain ⟨a0, n, c, rfl⟩ := okWide_slice Try.underlying30 (hval 0 _ v0 rfl (by rw [e0]; rfl))
  obtain ⟨a1, n', c', rfl⟩ := okWide_slice Try.underlying30 (hval 1 _ v1 rfl (by rw [e0]; rfl))
  obtain ⟨l, hr, hraw⟩ := open_pres h0
  obtain ⟨m, hr', hraw'⟩ := open_pres h1
  obtain rfl : vs = #[.slice a0 n c, .slice a1 n' c'] := by cases vs; simp_all
  have C1 := Lib.hid (fun (w : World) (hb : Below W.heap.size W w) => both_is (hr.below hb) (hr'.below hb) hraw hraw')
  have C2 := Lib.hid (fun (w : World) (hb : Below W.heap.size W w) => refBoth_is (hr.below hb) (hr'.below hb) hraw hraw')
  have hlen : (setO (fun a b => a && b) l m).length ≤ 120000 := setO_len hraw hraw'
  generalize setO (fun a b => a && b) l m = L at *
  generalize presE l m = E at *
  unfold RetPres at C1 C2
  clear h0 h1 hA hval e0 hr hr' hraw hraw'
  go_enter Try.func22, Try.ntmps22
  go_wp2_with fail
  refine (C1.out _ (Below.refl _ _)).mono ?_
  rintro e w1 ⟨v, rfl, hown, hb1⟩
  have HB := Lib.hid hb1
  have HO1 := Lib.hid hown
  clear hb1 hown
  go_wp2_with fail
  refine (C2.out _ HB.out).mono ?_
  rintro e w2 ⟨v', rfl, hown2, hb2⟩
  have hO1 := own_below HO1.out hb2
  obtain ⟨A1, c1, rfl, hr1⟩ := reads_row hO1
  obtain ⟨A2, c2, rfl, hr2⟩ := reads_row hown2
  have HB2 := Lib.hid (below_step HB.out hb2)
  have CS := Lib.hid (fun (w' : World) (hb : Below w2.heap.size w2 w') => samePres_any A1 A2 L.length c1 L.length c2 L L w' rfl rfl (by unfold maxLen; omega) (by unfold maxLen; omega) ((hr1.below hb).more hb.size) ((hr2.below hb).more hb.size))
  rw [decide_eq_true rfl] at CS
  clear hb2 hO1 hr1 hr2 hown2
  go_wp2_with fail
  refine (CS.out _ (Below.refl _ _)).mono ?_
  rintro e w3 ⟨rfl, hb3⟩
  have HB3 := Lib.hid (below_step HB2.out hb3)
  clear hb3
  go_wp2
  go_ret
  exact ⟨by simp, HB3.out⟩

end Go.Proofs.Ytonelibgaceflaa
