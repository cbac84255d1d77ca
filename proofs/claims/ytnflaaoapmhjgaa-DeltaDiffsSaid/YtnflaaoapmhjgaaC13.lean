/-
  
  
  
  
  
  
  
  
-/
import Derived.Test.YtnflaaoapmhjgaaC5
import Derived.Test.YtnflaaoapmhjgaaC7
import Derived.Test.YtnflaaoapmhjgaaC6
import Derived.Test.YtnflaaoapmhjgaaC3
namespace Go.Proofs.Ytnflaaoapmhjgaa

/-- An act that came in and is not refused. -/
def OkF (a : ActV) : Prop := a.Ok ∧ faultA a = 0
theorem jobQ_ok {q : List ActV} {j : JobV} (hj : j.act.Ok) (hq : ∀ a ∈ q, OkF a) : ∀ a ∈ jobQ q j, OkF a := by
  unfold jobQ
  by_cases h1 : j.kind = 1
  · rw [if_pos h1]
    by_cases h2 : faultA j.act = 0
    · rw [if_neg (not_not_intro h2)]
      by_cases h3 : hasW q j.act.p = true
      · rw [if_pos h3]
        intro a ha
        obtain ⟨x, hx, rfl⟩ := List.mem_map.1 ha
        by_cases h4 : x.p = j.act.p
        · rw [if_pos h4]; exact ⟨hj, h2⟩
        · rw [if_neg h4]; exact hq x hx
      · rw [if_neg h3]
        by_cases h4 : 8 ≤ q.length
        · rw [if_pos h4]; exact hq
        · rw [if_neg h4]
          intro a ha
          rcases List.mem_append.1 ha with ha | ha
          · exact hq a ha
          · rw [List.mem_singleton] at ha; subst ha; exact ⟨hj, h2⟩
    · rw [if_pos h2]; exact hq
  · rw [if_neg h1]
    by_cases h2 : j.kind = 2
    · rw [if_neg (not_not_intro h2)]
      by_cases h3 : j.n < 1 ∨ 8 < j.n
      · rw [if_pos h3]; exact hq
      · rw [if_neg h3]; exact fun a ha => hq a (List.mem_of_mem_drop ha)
    · rw [if_pos h2]; exact hq
theorem jobD_ok {q : List ActV} {j : JobV} (hq : ∀ a ∈ q, OkF a) : ∀ a ∈ (jobD q j).acts, OkF a := by
  have hn : ∀ a ∈ ([] : List ActV), OkF a := fun a ha => by cases ha
  unfold jobD
  by_cases h1 : j.kind = 1
  · rw [if_pos h1]
    by_cases h2 : faultA j.act = 0
    · rw [if_neg (not_not_intro h2)]
      by_cases h3 : hasW q j.act.p = true
      · rw [if_pos h3]; exact hn
      · rw [if_neg h3]
        by_cases h4 : 8 ≤ q.length
        · rw [if_pos h4]; exact hn
        · rw [if_neg h4]; exact hn
    · rw [if_pos h2]; exact hn
  · rw [if_neg h1]
    by_cases h2 : j.kind = 2
    · rw [if_neg (not_not_intro h2)]
      by_cases h3 : j.n < 1 ∨ 8 < j.n
      · rw [if_pos h3]; exact hn
      · rw [if_neg h3]
        by_cases h4 : q = []
        · rw [if_pos h4]; exact hn
        · rw [if_neg h4]; exact fun a ha => hq a (List.mem_of_mem_take ha)
    · rw [if_pos h2]; exact hn
theorem playD_ok : ∀ {l : List JobV} {q : List ActV}, (∀ j ∈ l, j.act.Ok) → (∀ a ∈ q, OkF a) → ∀ d ∈ playD l q, ∀ a ∈ d.acts, OkF a := by
  intro l
  induction l with
  | nil => intro q _ _ d hd; cases hd
  | cons j l ih =>
    intro q hl hq d hd
    rcases List.mem_cons.1 hd with rfl | hd
    · exact jobD_ok hq
    · exact ih (fun x hx => hl x (by simp [hx])) (jobQ_ok (hl j (by simp)) hq) d hd
theorem jobD_len {q : List ActV} (hq : q.length ≤ 8) (j : JobV) : (jobD q j).acts.length ≤ 8 := by
  unfold jobD
  repeat' split
  all_goals (try (exact Nat.zero_le _))
  rw [List.length_take]
  omega
theorem playD_len : ∀ {l : List JobV} {q : List ActV}, GoodQ q → ∀ d ∈ playD l q, d.acts.length ≤ 8 := by
  intro l
  induction l with
  | nil => intro q _ d hd; cases hd
  | cons j l ih =>
    intro q hq d hd
    rcases List.mem_cons.1 hd with rfl | hd
    · exact jobD_len hq.2 j
    · exact ih (good_job hq j) d hd

/-- The routes that stay, or are made anew, behind an act. -/
def keptL (a : ActV) (t : List RouteV) : List RouteV := t.flatMap fun r => if r.p = a.p then (if a.kind = 1 then [⟨a.p, a.hop⟩] else []) else [r]
theorem keptL_snoc (a : ActV) (t : List RouteV) (r : RouteV) : keptL a (t ++ [r]) = keptL a t ++ (if r.p = a.p then (if a.kind = 1 then [⟨a.p, a.hop⟩] else []) else [r]) := by
  unfold keptL; rw [List.flatMap_append]; simp
theorem keptL_len (a : ActV) : ∀ t : List RouteV, (keptL a t).length ≤ t.length
  | [] => Nat.le_refl _
  | r :: t => by
    have := keptL_len a t
    unfold keptL at this ⊢
    rw [List.flatMap_cons, List.length_append, List.length_cons]
    have : (if r.p = a.p then (if a.kind = 1 then [(⟨a.p, a.hop⟩ : RouteV)] else []) else [r]).length ≤ 1 := by (split <;> (try split)) <;> simp
    omega
theorem hasR_snoc (t : List RouteV) (r : RouteV) (p : PV) : hasR (t ++ [r]) p = (hasR t p || decide (r.p = p)) := by
  unfold hasR; rw [List.any_append]; simp
theorem doneL_is {t : List RouteV} {a : ActV} (h : OkF a) (hv : ∀ r ∈ t, 1 ≤ r.hop) (hl : t.length ≤ 60) :
    keptL a t ++ (if a.kind = 1 ∧ hasR t a.p = false ∧ t.length < 60 then [⟨a.p, a.hop⟩] else []) = doL t a := by
  obtain ⟨_, hf⟩ := h
  unfold faultA at hf
  by_cases hk : a.kind = 1 ∨ a.kind = 2
  · rw [if_neg (not_not_intro hk)] at hf
    by_cases hc : a.p.chk = 0
    · rw [if_neg (not_not_intro hc)] at hf
      unfold doL
      rw [if_neg (not_not_intro hk), if_neg (not_not_intro hc)]
      by_cases h2 : a.kind = 2
      · have h1 : ¬ a.kind = 1 := by omega
        rw [if_pos h2, if_neg (fun h => h1 h.1), List.append_nil]
        unfold keptL delR
        induction t with
        | nil => rfl
        | cons r t ih =>
          rw [List.flatMap_cons, List.filter_cons]
          rw [ih (fun x hx => hv x (by simp [hx])) (by simp at hl; omega)]
          by_cases hr : r.p = a.p
          · rw [if_pos hr, if_neg h1, if_neg (by simp [hr])]; rfl
          · rw [if_neg hr, if_pos (by simp [hr])]; rfl
      · have h1 : a.kind = 1 := by omega
        rw [if_neg h2]
        by_cases hh : a.hop < 1 ∨ 999 < a.hop
        · rw [if_pos ⟨h1, hh⟩] at hf; omega
        rw [if_neg hh]
        have hmap : keptL a t = t.map (fun r => if r.p = a.p then ⟨a.p, a.hop⟩ else r) := by
          unfold keptL
          clear hl hv
          induction t with
          | nil => rfl
          | cons r t ih =>
            rw [List.flatMap_cons, List.map_cons, ih]
            by_cases hr : r.p = a.p
            · rw [if_pos hr, if_pos h1, if_pos hr]; rfl
            · rw [if_neg hr, if_neg hr]; rfl
        have hg := hasR_get (l := t) (p := a.p) hv
        by_cases hr : hasR t a.p = true
        · rw [if_neg (fun h => by rw [hr] at h; cases h.2.1), List.append_nil, if_neg (fun h => hg.1 hr h.2)]
          unfold setR
          rw [if_pos hr, hmap]
        · have hr' : hasR t a.p = false := by simpa using hr
          have hg0 := getR_none hr'
          have hid : t.map (fun r => if r.p = a.p then (⟨a.p, a.hop⟩ : RouteV) else r) = t := by
            conv => rhs; rw [← List.map_id t]
            refine List.map_congr_left fun y hy => ?_
            unfold hasR at hr'
            rw [List.any_eq_false] at hr'
            rw [if_neg (by simpa using hr' y hy)]
            rfl
          rw [hmap, hid]
          by_cases h6 : t.length < 60
          · rw [if_pos ⟨h1, hr', h6⟩, if_neg (fun h => by omega)]
            unfold setR
            rw [if_neg hr]
          · rw [if_neg (fun h => h6 h.2.2), List.append_nil, if_pos ⟨by omega, hg0⟩]
    · rw [if_pos hc] at hf; exact absurd hf hc
  · rw [if_pos hk] at hf; omega

/-- All acts that were given out. -/
def actsOf (ds : List DoneV) : List ActV := ds.flatMap DoneV.acts
theorem actL_append (l m : List ActV) : ∀ L, actL (l ++ m) L = actL m (actL l L) := by
  induction l with
  | nil => intro L; rfl
  | cons a l ih => intro L; exact ih _
theorem actsOf_snoc (ds : List DoneV) (d : DoneV) : actsOf (ds ++ [d]) = actsOf ds ++ d.acts := by
  unfold actsOf; rw [List.flatMap_append]; simp

end Go.Proofs.Ytnflaaoapmhjgaa

namespace Go.Proofs.Ytnflaaoapmhjgaa
open Go.ChangeShapes Go.WideShapes Go.ChangeAt Go.RowKit

def DoneA (w : World) (L : List RouteV) (a : ActV) (e : Ending) (w' : World) : Prop := ∃ v, e = .returned v ∧ OwnRs w' w.heap.size v (doL L a) ∧ Below w.heap.size w w'

set_option maxRecDepth 100000 in
set_option maxHeartbeats 3200000 in
theorem actDone_any {w : World} {A : Option Addr} {n c : Nat} {L : List RouteV} {a : ActV} (hz : L.length = n) (hr : Reads w w.heap.size 5 A n (L.flatMap RouteV.cells)) (hG : GoodL L) (ha : OkF a) :
    Calls Try.prog 97 #[.slice A n c, a.valD] w (DoneA w L a) := by
  have hn60 : n ≤ 60 := by rw [← hz]; exact hG.2
  have HD := Lib.hid (doneL_is ha (fun r hr => (hG.1.1 r hr).2.1) hG.2)
  have HZ := Lib.hid hz
  have HR := Lib.hid hr
  obtain ⟨post, hpost⟩ : ∃ post, DoneA w L a = post := ⟨_, rfl⟩
  have HP := Lib.hid hpost
  rw [hpost]
  clear hz hr hG hpost ha
  unfold ActV.valD
  obtain ⟨kd, ⟨six, hi, lo, n0⟩, hop, ⟨six2, hi2, lo2⟩⟩ := a
  simp only at HD
  have HEQ0 := fun w (x : PV) => eqPV x ⟨six, hi, lo, n0⟩ w
  unfold PV.val at HEQ0
  have HEQH := Lib.hid HEQ0
  clear HEQ0
  go_enter Try.func97, Try.ntmps97
  go_wp2
  obtain ⟨X, hX⟩ : ∃ X : World, X = w.alloc (.cells #[.int .i64 kd, .bool six, .int .u64 hi, .int .u64 lo, .int .i64 n0, .int .i64 hop, .bool six2, .int .u64 hi2, .int .u64 lo2] 117) := ⟨_, rfl⟩
  have hbX : Below w.heap.size w X := by rw [hX]; exact (Below.refl _ _).alloc (Nat.le_refl _) _
  have hXs : X.heap.size = w.heap.size + 1 := by rw [hX]; simp
  have hka : Blk X w.heap.size 117 #[.int .i64 kd, .bool six, .int .u64 hi, .int .u64 lo, .int .i64 n0, .int .i64 hop, .bool six2, .int .u64 hi2, .int .u64 lo2] := by rw [hX]; exact Blk.new _ _ _
  rw [← hX]
  have HKA := Lib.hid hka
  have HBX := Lib.hid hbX
  have HRX := Lib.hid ((HR.out.below hbX).more hbX.size)
  have hXl : w.heap.size < X.heap.size := by omega
  clear hX hbX hka hXs HR
  go_loopw [11, 5, 6] (fun i s5 s6 wr => ∃ (k : Nat) (v5 : Value), k ≤ n ∧ i = .int .i64 k ∧ v5 = s5 ∧ s6 = .bool (hasR (L.take k) ⟨six, hi, lo, n0⟩) ∧ OwnRs wr X.heap.size v5 (keptL ⟨kd, ⟨six, hi, lo, n0⟩, hop, ⟨six2, hi2, lo2⟩⟩ (L.take k)) ∧ Below X.heap.size X wr) (fun i _ _ _ => n - (intOf i).toNat)
  case atStart => exact ⟨0, _, by omega, rfl, rfl, rfl, World.ownsRow_nil _ _ _ _, Below.refl _ _⟩
  case round =>
    obtain ⟨k, v5, hk, rfl, rfl, rfl, hown, hb⟩ := hrel
    obtain ⟨wo, rfl⟩ : ∃ wo : World, wo = wr := ⟨_, rfl⟩
    have hszb := hb.size
    have hka := HKA.out.below hb HKA.out.lt
    have a0 := hka.cell 0
    have a1 := hka.cell 1
    have a2 := hka.cell 2
    have a3 := hka.cell 3
    have a4 := hka.cell 4
    have a5 := hka.cell 5
    have a6 := hka.cell 6
    have a7 := hka.cell 7
    have a8 := hka.cell 8
    simp at a0 a1 a2 a3 a4 a5 a6 a7 a8
    have hxo : w.heap.size < wo.heap.size := by omega
    clear hka
    by_cases hlt : k < n
    · obtain ⟨ad, ⟨⟨xs, xh, xl, xn⟩, xo⟩, rfl, hlk, htk, hmem, hbk, hc0, hcj⟩ := HRX.out.atS RouteV.cells_length HZ.out hlt
      have q0 := (hb.cell (p := ad.add (k * 5)) (by rw [block_of_add]; exact hbk)).trans (hc0 _ rfl)
      have q1 := (hb.cell (p := ⟨(ad.add (k * 5)).block, (ad.add (k * 5)).off + 1, none⟩) (by rw [block_of_add]; exact hbk)).trans (hcj 1 _ rfl)
      have q2 := (hb.cell (p := ⟨(ad.add (k * 5)).block, (ad.add (k * 5)).off + 2, none⟩) (by rw [block_of_add]; exact hbk)).trans (hcj 2 _ rfl)
      have q3 := (hb.cell (p := ⟨(ad.add (k * 5)).block, (ad.add (k * 5)).off + 3, none⟩) (by rw [block_of_add]; exact hbk)).trans (hcj 3 _ rfl)
      have q4 := (hb.cell (p := ⟨(ad.add (k * 5)).block, (ad.add (k * 5)).off + 4, none⟩) (by rw [block_of_add]; exact hbk)).trans (hcj 4 _ rfl)
      have hkl : (keptL ⟨kd, ⟨six, hi, lo, n0⟩, hop, ⟨six2, hi2, lo2⟩⟩ (L.take k)).length ≤ k := Nat.le_trans (keptL_len _ _) (by rw [List.length_take]; omega)
      have hnk := keptL_snoc ⟨kd, ⟨six, hi, lo, n0⟩, hop, ⟨six2, hi2, lo2⟩⟩ (L.take k) ⟨⟨xs, xh, xl, xn⟩, xo⟩
      rw [← htk] at hnk
      have hnh := hasR_snoc (L.take k) ⟨⟨xs, xh, xl, xn⟩, xo⟩ ⟨six, hi, lo, n0⟩
      rw [← htk] at hnh
      simp only at hnk hnh
      unfold OwnRs at hown
      obtain ⟨KL, hKL⟩ : ∃ KL, keptL ⟨kd, ⟨six, hi, lo, n0⟩, hop, ⟨six2, hi2, lo2⟩⟩ (L.take k) = KL := ⟨_, rfl⟩
      rw [hKL] at hown hnk hkl
      obtain ⟨km, hkm⟩ : ∃ km, KL.length = km := ⟨_, rfl⟩
      rw [hkm] at hown hkl
      obtain ⟨hd, hhd⟩ : ∃ hd, hasR (L.take k) ⟨six, hi, lo, n0⟩ = hd := ⟨_, rfl⟩
      rw [hhd] at hnh
      rw [hhd]
      have HKM := Lib.hid hkm
      have HO := Lib.hid (fun (o : Obj) => own_below hown ((Below.refl _ _).alloc (Nat.le_refl _) o))
      have HO2 := Lib.hid hown
      have HB := Lib.hid hb
      have HEQ := fun w => HEQH.out w ⟨xs, xh, xl, xn⟩
      simp only at HEQ
      clear hlk htk hmem hc0 hcj hb hbk hown hKL hkm hhd
      by_cases he : (⟨xs, xh, xl, xn⟩ : PV) = ⟨six, hi, lo, n0⟩
      · rw [decide_eq_true he] at HEQ
        have HNH : Hid (hasR (L.take (k + 1)) ⟨six, hi, lo, n0⟩ = true) := by show _ = _; rw [hnh, decide_eq_true he, Bool.or_true]
        rw [if_pos he] at hnk
        by_cases h1 : kd = 1
        · rw [if_pos h1] at hnk
          have HNK := Lib.hid hnk
          subst h1
          clear he hnk hnh
          go_wp2_with (at_builtin; go_loud (refine wpList_append_oneN (us := [.bool six, .int .u64 hi, .int .u64 lo, .int .i64 n0, .int .i64 hop]) rfl _ _ 36 rfl X.heap.size _ 5 40 Try.underlying36 infoRouteP rfl (by decide) _ _ _ rfl rfl (by simp) (HO.out _) ?c1 rfl ?c4 ?c2 ?c3 ?_))
          case c1 => first | omega | (simp; omega)
          case c2 => unfold maxLen; omega
          case c3 => omega
          case c4 => first | exact ⟨rfl, rfl, rfl, rfl, rfl⟩ | (intro u hu; simp at hu; rcases hu with rfl | rfl | rfl | rfl | rfl <;> rfl)
          intro v' w9 hown' hb9 hs9 hk9
          have HO9 : Hid (OwnRs w9 X.heap.size v' (keptL ⟨1, ⟨six, hi, lo, n0⟩, hop, ⟨six2, hi2, lo2⟩⟩ (L.take (k + 1)))) := by
            show World.ownsRow _ _ _ _ _ _ _
            rw [HNK.out, List.length_append, HKM.out, List.flatMap_append]
            simpa [RouteV.cells] using hown'
          have HB9 := Lib.hid ((HB.out.alloc hszb _).trans hb9)
          clear hown' hb9 hk9
          go_wp2
          go_roundw
          case rel => exact ⟨k + 1, _, by omega, by go_num, rfl, by rw [HNH.out], HO9.out, HB9.out⟩
          case measure => simp [intOf]; omega
        · have d1 : (kd == 1) = false := by simpa using h1
          rw [if_neg h1, List.append_nil] at hnk
          have HNK := Lib.hid hnk
          clear he hnk hnh h1
          go_wp2
          go_roundw
          case rel =>
            refine ⟨k + 1, _, by omega, by go_num, rfl, by rw [HNH.out], ?_, HB.out.alloc hszb _⟩
            rw [HNK.out]
            show World.ownsRow _ _ _ _ _ _ _
            rw [HKM.out]
            exact HO.out _
          case measure => simp [intOf]; omega
      · rw [decide_eq_false he] at HEQ
        have HNH : Hid (hasR (L.take (k + 1)) ⟨six, hi, lo, n0⟩ = hd) := by show _ = _; rw [hnh, decide_eq_false he, Bool.or_false]
        rw [if_neg he] at hnk
        have HNK := Lib.hid hnk
        clear he hnk hnh
        go_wp2_with (at_builtin; go_loud (refine wpList_append_oneN (us := [.bool xs, .int .u64 xh, .int .u64 xl, .int .i64 xn, .int .i64 xo]) rfl _ _ 36 rfl X.heap.size _ 5 40 Try.underlying36 infoRouteP rfl (by decide) _ _ _ rfl rfl (by simp) (HO.out _) ?c1 rfl ?c4 ?c2 ?c3 ?_))
        case c1 => first | omega | (simp; omega)
        case c2 => unfold maxLen; omega
        case c3 => omega
        case c4 => first | exact ⟨rfl, rfl, rfl, rfl, rfl⟩ | (intro u hu; simp at hu; rcases hu with rfl | rfl | rfl | rfl | rfl <;> rfl)
        intro v' w9 hown' hb9 hs9 hk9
        have HO9 : Hid (OwnRs w9 X.heap.size v' (keptL ⟨kd, ⟨six, hi, lo, n0⟩, hop, ⟨six2, hi2, lo2⟩⟩ (L.take (k + 1)))) := by
          show World.ownsRow _ _ _ _ _ _ _
          rw [HNK.out, List.length_append, HKM.out, List.flatMap_append]
          simpa [RouteV.cells] using hown'
        have HB9 := Lib.hid ((HB.out.alloc hszb _).trans hb9)
        clear hown' hb9 hk9
        go_wp2
        go_roundw
        case rel => exact ⟨k + 1, _, by omega, by go_num, rfl, by rw [HNH.out], HO9.out, HB9.out⟩
        case measure => simp [intOf]; omega
    · obtain rfl : k = n := by omega
      have ht : L.take k = L := List.take_of_length_le (by rw [HZ.out]; omega)
      rw [ht] at hown
      rw [ht]
      obtain ⟨hd, hhd⟩ : ∃ hd, hasR L ⟨six, hi, lo, n0⟩ = hd := ⟨_, rfl⟩
      have hdl := HD.out
      rw [hhd, HZ.out] at hdl
      rw [hhd]
      have hkl : (keptL ⟨kd, ⟨six, hi, lo, n0⟩, hop, ⟨six2, hi2, lo2⟩⟩ L).length ≤ k := by rw [← HZ.out]; exact keptL_len _ _
      unfold OwnRs at hown
      obtain ⟨KL, hKL⟩ : ∃ KL, keptL ⟨kd, ⟨six, hi, lo, n0⟩, hop, ⟨six2, hi2, lo2⟩⟩ L = KL := ⟨_, rfl⟩
      rw [hKL] at hown hdl hkl
      obtain ⟨km, hkm⟩ : ∃ km, KL.length = km := ⟨_, rfl⟩
      rw [hkm] at hown hkl
      have HKM := Lib.hid hkm
      have HO := Lib.hid hown
      have HB := Lib.hid hb
      have hwX := HBX.out.size
      clear hown hb hKL hkm hhd ht HD
      by_cases h1 : kd = 1 ∧ hd = false ∧ k < 60
      · rw [if_pos h1] at hdl
        have HDL := Lib.hid hdl
        obtain ⟨rfl, rfl, h60⟩ := h1
        have d6 : decide ((k : Int) < 60) = true := by simp; omega
        clear hdl
        go_wp2_with (at_builtin; go_loud (refine wpList_append_oneN (us := [.bool six, .int .u64 hi, .int .u64 lo, .int .i64 n0, .int .i64 hop]) rfl _ _ 36 rfl X.heap.size _ 5 40 Try.underlying36 infoRouteP rfl (by decide) _ _ _ rfl rfl rfl HO.out ?c1 rfl ?c4 ?c2 ?c3 ?_))
        case c1 => exact hszb
        case c2 => unfold maxLen; omega
        case c3 => omega
        case c4 => first | exact ⟨rfl, rfl, rfl, rfl, rfl⟩ | (intro u hu; simp at hu; rcases hu with rfl | rfl | rfl | rfl | rfl <;> rfl)
        intro v' w9 hown' hb9 hs9 hk9
        have HO9 : Hid (OwnRs w9 X.heap.size v' (KL ++ [⟨⟨six, hi, lo, n0⟩, hop⟩])) := by
          show World.ownsRow _ _ _ _ _ _ _
          rw [List.length_append, HKM.out, List.flatMap_append]
          simpa [RouteV.cells] using hown'
        have HB9 := Lib.hid (HB.out.trans hb9)
        clear hown' hb9 hk9
        go_wp2
        (try go_ret)
        rw [← HP.out]
        unfold DoneA
        rw [← HDL.out]
        exact ⟨_, rfl, own_mono HO9.out hwX, HBX.out.trans (HB9.out.mono hwX)⟩
      · rw [if_neg h1, List.append_nil] at hdl
        have HDL := Lib.hid hdl
        have HO9 : Hid (OwnRs wo X.heap.size v5 KL) := by show World.ownsRow _ _ _ _ _ _ _; rw [HKM.out]; exact HO.out
        clear hdl
        by_cases k1 : kd = 1
        · subst k1
          by_cases k2 : hd = false
          · subst k2
            have d6 : decide ((k : Int) < 60) = false := by simp at h1 ⊢; omega
            clear h1
            go_wp2
            (try go_ret)
            rw [← HP.out]
            unfold DoneA
            rw [← HDL.out]
            exact ⟨_, rfl, own_mono HO9.out hwX, HBX.out.trans (HB.out.mono hwX)⟩
          · obtain rfl : hd = true := by simpa using k2
            clear h1
            go_wp2
            (try go_ret)
            rw [← HP.out]
            unfold DoneA
            rw [← HDL.out]
            exact ⟨_, rfl, own_mono HO9.out hwX, HBX.out.trans (HB.out.mono hwX)⟩
        · have d1 : (kd == 1) = false := by simpa using k1
          clear h1 k1
          go_wp2
          (try go_ret)
          rw [← HP.out]
          unfold DoneA
          rw [← HDL.out]
          exact ⟨_, rfl, own_mono HO9.out hwX, HBX.out.trans (HB.out.mono hwX)⟩

end Go.Proofs.Ytnflaaoapmhjgaa

namespace Go.Proofs.Ytnflaaoapmhjgaa
open Go.ChangeShapes Go.WideShapes Go.ChangeAt Go.RowKit

def Pushed (w : World) (Q : Nat) (q : List ActV) (f : Nat) (j : JobV) (e : Ending) (w' : World) : Prop :=
  ∃ (r' : List ActV) (m' : Nat), e = .returned (.tuple #[.bool (jobD q j).merged, .int .i64 (jobD q j).code]) ∧ QAt w' Q r' f m' ∧ ringL r' f m' = jobQ q j ∧ (jobD q j).acts = [] ∧ Kept [Q] w w'

theorem QAt.nine {w : World} {Q : Nat} {r : List ActV} {f m : Nat} (h : QAt w Q r f m) {k : Nat} {x : ActV} (hk : r[k]? = some x) {p six hi lo n hop} (hp : x.p = p) (h1 : p = ⟨six, hi, lo, n⟩) (h2 : x.hop = hop) :
    w.cell? ⟨Q, k * 9, none⟩ = some (.int .i64 x.kind) ∧ w.cell? ⟨Q, k * 9 + 1, none⟩ = some (.bool six) ∧ w.cell? ⟨Q, k * 9 + 1 + 1, none⟩ = some (.int .u64 hi) ∧ w.cell? ⟨Q, k * 9 + 1 + 2, none⟩ = some (.int .u64 lo) ∧ w.cell? ⟨Q, k * 9 + 1 + 3, none⟩ = some (.int .i64 n) ∧
      w.cell? ⟨Q, k * 9 + 5, none⟩ = some (.int .i64 hop) ∧ w.cell? ⟨Q, k * 9 + 6, none⟩ = some (.bool x.a.six) ∧ w.cell? ⟨Q, k * 9 + 6 + 1, none⟩ = some (.int .u64 x.a.hi) ∧ w.cell? ⟨Q, k * 9 + 6 + 2, none⟩ = some (.int .u64 x.a.lo) := by
  subst hp h2
  exact ⟨h.cell hk (j := 0) rfl, h.cell hk (j := 1) (by simp [ActV.cells, h1]), h.cell hk (j := 2) (by simp [ActV.cells, h1]), h.cell hk (j := 3) (by simp [ActV.cells, h1]), h.cell hk (j := 4) (by simp [ActV.cells, h1]), h.cell hk (j := 5) rfl, h.cell hk (j := 6) rfl, h.cell hk (j := 7) rfl, h.cell hk (j := 8) rfl⟩
theorem QAt.warm {w : World} {Q : Nat} {r : List ActV} {f m : Nat} (h : QAt w Q r f m) (b : Nat) :
    w.frozen? ⟨Q, b, none⟩ = false ∧ w.frozen? ⟨Q, b + 1, none⟩ = false ∧ w.frozen? ⟨Q, b + 1 + 1, none⟩ = false ∧ w.frozen? ⟨Q, b + 1 + 2, none⟩ = false ∧ w.frozen? ⟨Q, b + 1 + 3, none⟩ = false ∧ w.frozen? ⟨Q, b + 5, none⟩ = false ∧ w.frozen? ⟨Q, b + 6, none⟩ = false ∧ w.frozen? ⟨Q, b + 6 + 1, none⟩ = false ∧ w.frozen? ⟨Q, b + 6 + 2, none⟩ = false :=
  ⟨h.blk.frozen _, h.blk.frozen _, h.blk.frozen _, h.blk.frozen _, h.blk.frozen _, h.blk.frozen _, h.blk.frozen _, h.blk.frozen _, h.blk.frozen _⟩
theorem c73_drew {w : World} {a : Addr} {v : Value} (h : w.cell? a = some v) : w.drew.cell? a = some v := h
theorem c73_drewN {w : World} {a : Addr} {v : Value} (h : w.cell? a = some v) (n : Nat) : (w.drewN n).cell? a = some v := h
theorem c73_set {w : World} {Q : Nat} {o : Nat} {u v : Value} (h : w.cell? ⟨Q, 73, none⟩ = some v) (ho : o ≠ 73) : (w.setCell ⟨Q, o, none⟩ u).cell? ⟨Q, 73, none⟩ = some v := (World.cell?_setCell_other w _ _ _ (fun e => ho (congrArg Addr.off e))).trans h
theorem QAt.store9 {w w' : World} {Q : Nat} {r : List ActV} {f m k : Nat} (h : QAt w Q r f m) (he : w'.heap = w.heap) (hk : k < 8) (a : ActV) : QAt (((((((((w'.setCell ⟨Q, k * 9, none⟩ (.int .i64 a.kind)).setCell ⟨Q, k * 9 + 1, none⟩ (.bool a.p.six)).setCell ⟨Q, k * 9 + 2, none⟩ (.int .u64 a.p.hi)).setCell ⟨Q, k * 9 + 3, none⟩ (.int .u64 a.p.lo)).setCell ⟨Q, k * 9 + 4, none⟩ (.int .i64 a.p.n)).setCell ⟨Q, k * 9 + 5, none⟩ (.int .i64 a.hop)).setCell ⟨Q, k * 9 + 6, none⟩ (.bool a.a.six)).setCell ⟨Q, k * 9 + 7, none⟩ (.int .u64 a.a.hi)).setCell ⟨Q, k * 9 + 8, none⟩ (.int .u64 a.a.lo)) Q (r.set k a) f m := (h.keep (w' := w') (by rw [he])).store hk a
theorem Kept.nine {w w' : World} {Q : Nat} (K0 : Kept [Q] w w') (b : Nat) (u0 u1 u2 u3 u4 u5 u6 u7 u8 : Value) : Kept [Q] w (((((((((w'.setCell ⟨Q, b, none⟩ u0).setCell ⟨Q, b + 1, none⟩ u1).setCell ⟨Q, b + 2, none⟩ u2).setCell ⟨Q, b + 3, none⟩ u3).setCell ⟨Q, b + 4, none⟩ u4).setCell ⟨Q, b + 5, none⟩ u5).setCell ⟨Q, b + 6, none⟩ u6).setCell ⟨Q, b + 7, none⟩ u7).setCell ⟨Q, b + 8, none⟩ u8) :=
  have hQ : Q ∈ [Q] := by simp
  Kept.setCell (Kept.setCell (Kept.setCell (Kept.setCell (Kept.setCell (Kept.setCell (Kept.setCell (Kept.setCell (Kept.setCell K0 (.inl hQ) _) (.inl hQ) _) (.inl hQ) _) (.inl hQ) _) (.inl hQ) _) (.inl hQ) _) (.inl hQ) _) (.inl hQ) _) (.inl hQ) _
theorem Kept.same {S : List Nat} {w w1 w2 : World} (h : Kept S w w1) (d : Nat) (he : w2 = w1.drewN d) : Kept S w w2 := by subst he; exact h.then_below (below_drewN (Below.refl _ _) d)
theorem cell_sets {w : World} {Q b o s : Nat} {us : List Value} (hb : b ≠ Q) : (setsW w Q s us).cell? ⟨b, o, none⟩ = w.cell? ⟨b, o, none⟩ := World.cell?_of_block (far_sets hb us s w)
set_option maxRecDepth 100000 in
set_option maxHeartbeats 3200000 in
theorem push_any {w : World} {Q : Nat} {r : List ActV} {f m : Nat} (h : QAt w Q r f m) (hg : GoodQ (ringL r f m)) (kd : Int) (six : Bool) (hi lo n hop : Int) (six2 : Bool) (hi2 lo2 nn : Int) (h1 : 0 ≤ hi ∧ hi < 18446744073709551616) (h2 : 0 ≤ lo ∧ lo < 18446744073709551616) :
    Calls Try.prog 135 #[.pointer (some ⟨Q, 0, none⟩), .agg #[.int .i64 kd, .bool six, .int .u64 hi, .int .u64 lo, .int .i64 n, .int .i64 hop, .bool six2, .int .u64 hi2, .int .u64 lo2]] w (Pushed w Q (ringL r f m) f ⟨1, ⟨kd, ⟨six, hi, lo, n⟩, hop, ⟨six2, hi2, lo2⟩⟩, nn⟩) := by
  have CF := Lib.hid (fun w => qfault_any kd six hi lo n hop six2 hi2 lo2 w h1 h2)
  have H := Lib.hid h
  have HG := Lib.hid hg
  obtain ⟨a, ha⟩ : ∃ a : ActV, (⟨kd, ⟨six, hi, lo, n⟩, hop, ⟨six2, hi2, lo2⟩⟩ : ActV) = a := ⟨_, rfl⟩
  have HA := Lib.hid ha
  rw [ha] at CF ⊢
  obtain ⟨E, hE⟩ : ∃ E, faultA a = E := ⟨_, rfl⟩
  have HE := Lib.hid hE
  rw [hE] at CF
  have hm8 := h.m8
  have hql := h.blk.lt
  have hneq : w.heap.size ≠ Q := by omega
  clear h hg ha hE h1 h2
  obtain ⟨post, hpost⟩ : ∃ post, Pushed w Q (ringL r f m) f ⟨1, a, nn⟩ = post := ⟨_, rfl⟩
  have HP := Lib.hid hpost
  rw [hpost]
  clear hpost
  by_cases hz : E = 0
  · subst hz
    go_enter Try.func135, Try.ntmps135
    go_wp2_with fail
    refine (CF.out _).mono ?_
    rintro e X ⟨rfl, hb⟩
    have hsx := bsize1 hb
    have HBX := Lib.hid (balloc1 hb)
    have hk := (Blk.new w 117 #[.int .i64 kd, .bool six, .int .u64 hi, .int .u64 lo, .int .i64 n, .int .i64 hop, .bool six2, .int .u64 hi2, .int .u64 lo2]).below hb (by simp)
    have HKB := Lib.hid hk
    have HQX := Lib.hid (H.out.below HBX.out)
    have b0 := hk.cell 0
    have b1 := hk.cell 1
    have b2 := hk.cell 2
    have b3 := hk.cell 3
    have b4 := hk.cell 4
    have b5 := hk.cell 5
    have b6 := hk.cell 6
    have b7 := hk.cell 7
    have b8 := hk.cell 8
    simp at b0 b1 b2 b3 b4 b5 b6 b7 b8
    obtain ⟨q72, q73⟩ := HQX.out.first
    clear hb hk
    go_wp2
    go_loopw [17, 7] (fun i _ wr => ∃ k : Nat, k ≤ m ∧ i = .int .i64 k ∧ (∀ (j : Nat) (x : ActV), j < k → (ringL r f m)[j]? = some x → ¬ x.p = a.p) ∧ Below X.heap.size X wr) (fun i _ _ => m - (intOf i).toNat)
    case atStart => exact ⟨0, by omega, rfl, fun j x hj => by omega, Below.refl _ _⟩
    case round =>
      obtain ⟨k, hkm, rfl, hno, hbo⟩ := hrel
      obtain ⟨wo, rfl⟩ : ∃ wo : World, wo = wr := ⟨_, rfl⟩
      have HNO := Lib.hid hno
      have HBO := Lib.hid hbo
      have HQO := Lib.hid (HQX.out.below hbo)
      have hk := HKB.out.below hbo hsx
      have HKO := Lib.hid hk
      have b0 := hk.cell 0
      have b1 := hk.cell 1
      have b2 := hk.cell 2
      have b3 := hk.cell 3
      have b4 := hk.cell 4
      have b5 := hk.cell 5
      have b6 := hk.cell 6
      have b7 := hk.cell 7
      have b8 := hk.cell 8
      simp at b0 b1 b2 b3 b4 b5 b6 b7 b8
      obtain ⟨q72, q73⟩ := HQO.out.first
      have hwo := hk.lt
      clear hno hbo hk
      by_cases hlt : k < m
      · have hgx := ring_get r f hlt
        obtain ⟨x, hx⟩ : ∃ x, r[(f + k) % 8]? = some x := ⟨r[(f + k) % 8]'(by rw [HQO.out.len]; omega), List.getElem?_eq_getElem _⟩
        rw [hx, Option.getD_some] at hgx
        have HGX := Lib.hid hgx
        obtain ⟨⟨xs, xh, xl, xn⟩, hxp⟩ : ∃ p : PV, x.p = p := ⟨_, rfl⟩
        obtain ⟨x0, x1, x2, x3, x4, x5, x6, x7, x8⟩ := HQO.out.nine hx hxp rfl rfl
        obtain ⟨z0, z1, z2, z3, z4, z5, z6, z7, z8⟩ := HQO.out.warm ((f + k) % 8 * 9)
        have CAW : Hid (∀ W : World, W.heap = wo.heap → Calls Try.prog 190 #[.pointer (some ⟨Q, 0, none⟩), .int .i64 k] W fun e w' => e = .returned (.pointer (some ⟨Q, (f + k) % 8 * 9, none⟩)) ∧ ∃ d, w' = W.drewN d) := fun W hW => at_is (HQO.out.keep (by rw [hW])) k (by omega)
        have CA := Lib.hid (fun d => at_is (w := wo.drewN d) (r := r) (f := f) (m := m) (Q := Q) (HQO.out.keep rfl) k (by omega))
        have HEQ := fun w => eqPV ⟨xs, xh, xl, xn⟩ ⟨six, hi, lo, n⟩ w
        unfold PV.val at HEQ
        simp only at HEQ
        have HXP := Lib.hid hxp
        clear hgx hx hxp
        by_cases he : (⟨xs, xh, xl, xn⟩ : PV) = ⟨six, hi, lo, n⟩
        · rw [decide_eq_true he] at HEQ
          have HEE := Lib.hid he
          clear he
          go_wp2
          go_quiet ((go_at_call 190; exact Calls.quiet_of (CA.out _)))
          go_wp2
          have keepF : ∀ {W : World}, Blk W w.heap.size 117 #[.int .i64 kd, .bool six, .int .u64 hi, .int .u64 lo, .int .i64 n, .int .i64 hop, .bool six2, .int .u64 hi2, .int .u64 lo2] → W.cell? ⟨w.heap.size, 0, none⟩ = some (.int .i64 kd) ∧ W.cell? ⟨w.heap.size, 1, none⟩ = some (.bool six) ∧ W.cell? ⟨w.heap.size, 2, none⟩ = some (.int .u64 hi) ∧ W.cell? ⟨w.heap.size, 3, none⟩ = some (.int .u64 lo) ∧ W.cell? ⟨w.heap.size, 4, none⟩ = some (.int .i64 n) ∧ W.cell? ⟨w.heap.size, 5, none⟩ = some (.int .i64 hop) ∧ W.cell? ⟨w.heap.size, 6, none⟩ = some (.bool six2) ∧ W.cell? ⟨w.heap.size, 7, none⟩ = some (.int .u64 hi2) ∧ W.cell? ⟨w.heap.size, 8, none⟩ = some (.int .u64 lo2) := fun h => ⟨h.cell 0, h.cell 1, h.cell 2, h.cell 3, h.cell 4, h.cell 5, h.cell 6, h.cell 7, h.cell 8⟩
          go_region_held3 (fun w' => w'.cell? ⟨w.heap.size, 0, none⟩ = some (.int .i64 kd) ∧ w'.cell? ⟨w.heap.size, 1, none⟩ = some (.bool six) ∧ w'.cell? ⟨w.heap.size, 2, none⟩ = some (.int .u64 hi) ∧ w'.cell? ⟨w.heap.size, 3, none⟩ = some (.int .u64 lo) ∧ w'.cell? ⟨w.heap.size, 4, none⟩ = some (.int .i64 n) ∧ w'.cell? ⟨w.heap.size, 5, none⟩ = some (.int .i64 hop) ∧ w'.cell? ⟨w.heap.size, 6, none⟩ = some (.bool six2) ∧ w'.cell? ⟨w.heap.size, 7, none⟩ = some (.int .u64 hi2) ∧ w'.cell? ⟨w.heap.size, 8, none⟩ = some (.int .u64 lo2))
            ((first | with_reducible assumption | (with_reducible refine keepF ?_; (repeat' first | with_reducible exact HKO.out | with_reducible exact Q73.out | with_reducible refine Blk.drew ?_ | with_reducible refine Blk.drewN ?_ _ | with_reducible refine Blk.far ?_ hneq _ | with_reducible refine c73_drew ?_ | with_reducible refine c73_drewN ?_ _ | with_reducible refine c73_set ?_ (by omega)))))
            (first | (go_at_call 190; refine (CAW.out _ (by rfl)).mono ?_; rintro e w7 ⟨rfl, d7, rfl⟩))
          go_wp2
          rw [← HP.out]
          have hap : x.p = a.p := by rw [HXP.out, HEE.out, ← HA.out]
          have hd : jobD (ringL r f m) ⟨1, a, nn⟩ = ⟨0, true, []⟩ := by unfold jobD; rw [if_pos rfl, if_neg (by simp [HE.out]), if_pos (has_at HGX.out hap)]
          have hq : jobQ (ringL r f m) ⟨1, a, nn⟩ = ringL (r.set ((f + k) % 8) a) f m := by unfold jobQ; rw [if_pos rfl, if_neg (by simp [HE.out]), if_pos (has_at HGX.out hap), put_at HG.out.1 HGX.out hap, ring_set HQO.out.len f hlt HQO.out.m8]
          refine ⟨r.set ((f + k) % 8) ⟨kd, ⟨six, hi, lo, n⟩, hop, ⟨six2, hi2, lo2⟩⟩, m, by rw [hd]; rfl, HQO.out.store9 (by rfl) (by omega) ⟨kd, ⟨six, hi, lo, n⟩, hop, ⟨six2, hi2, lo2⟩⟩, ?_, by rw [hd], ?_⟩
          · rw [hq, ← HA.out]
          · exact ((Kept.of_below (below_step HBX.out HBO.out)).same _ (by rfl)).nine _ _ _ _ _ _ _ _ _ _
        · rw [decide_eq_false he] at HEQ
          have HEE := Lib.hid he
          clear he
          go_wp2
          go_quiet ((go_at_call 190; exact Calls.quiet_of (CA.out _)))
          go_wp2
          go_roundw
          case rel =>
            refine ⟨k + 1, by omega, by go_num, fun j y hj hy => ?_, below_drewN HBO.out _⟩
            by_cases hjk : j < k
            · exact HNO.out j y hjk hy
            · obtain rfl : j = k := by omega
              rw [HGX.out] at hy
              injection hy with hy
              rw [← hy, HXP.out, ← HA.out]
              exact HEE.out
          case measure => simp [intOf]; omega
      · obtain rfl : k = m := by omega
        obtain ⟨x, hx⟩ : ∃ x, r[(f + k) % 8]? = some x := ⟨r[(f + k) % 8]'(by rw [HQO.out.len]; omega), List.getElem?_eq_getElem _⟩
        obtain ⟨⟨xs, xh, xl, xn⟩, hxp⟩ : ∃ p : PV, x.p = p := ⟨_, rfl⟩
        obtain ⟨x0, x1, x2, x3, x4, x5, x6, x7, x8⟩ := HQO.out.nine hx hxp rfl rfl
        obtain ⟨z0, z1, z2, z3, z4, z5, z6, z7, z8⟩ := HQO.out.warm ((f + k) % 8 * 9)
        clear hx hxp
        have CAW : Hid (∀ W : World, W.heap = wo.heap → Calls Try.prog 190 #[.pointer (some ⟨Q, 0, none⟩), .int .i64 k] W fun e w' => e = .returned (.pointer (some ⟨Q, (f + k) % 8 * 9, none⟩)) ∧ ∃ d, w' = W.drewN d) := fun W hW => at_is (HQO.out.keep (by rw [hW])) k hm8
        have hnh : hasW (ringL r f k) a.p = false := has_none fun i x hx => HNO.out i x (by have := (List.getElem?_eq_some_iff.1 hx).1; rwa [ring_length] at this) hx
        have HNH := Lib.hid hnh
        clear hnh
        by_cases h8 : k = 8
        · have hd8 : ((k : Int) == 8) = true := by simp; omega
          have H8 := Lib.hid h8
          clear h8
          go_wp2
          rw [← HP.out]
          have hd : jobD (ringL r f k) ⟨1, a, nn⟩ = ⟨9, false, []⟩ := by unfold jobD; rw [if_pos rfl, if_neg (by simp [HE.out]), if_neg (by rw [HNH.out]; simp), if_pos (by rw [ring_length, H8.out]; exact Nat.le_refl _)]
          have hq : jobQ (ringL r f k) ⟨1, a, nn⟩ = ringL r f k := by unfold jobQ; rw [if_pos rfl, if_neg (by simp [HE.out]), if_neg (by rw [HNH.out]; simp), if_pos (by rw [ring_length, H8.out]; exact Nat.le_refl _)]
          exact ⟨r, k, by rw [hd]; rfl, HQO.out, hq.symm, by rw [hd], Kept.of_below (below_step HBX.out HBO.out)⟩
        · have hd8 : ((k : Int) == 8) = false := by simp; omega
          have wk : IntKind.i64.wrap ((k : Int) + 1) = ((k + 1 : Nat) : Int) := by rw [IntWalk.i64_in _ (by omega)]; omega
          have H8 := Lib.hid h8
          clear h8
          have keepF2 : ∀ {W : World}, Blk W w.heap.size 117 #[.int .i64 kd, .bool six, .int .u64 hi, .int .u64 lo, .int .i64 n, .int .i64 hop, .bool six2, .int .u64 hi2, .int .u64 lo2] → W.cell? ⟨Q, 73, none⟩ = some (.int .i64 k) → W.cell? ⟨w.heap.size, 0, none⟩ = some (.int .i64 kd) ∧ W.cell? ⟨w.heap.size, 1, none⟩ = some (.bool six) ∧ W.cell? ⟨w.heap.size, 2, none⟩ = some (.int .u64 hi) ∧ W.cell? ⟨w.heap.size, 3, none⟩ = some (.int .u64 lo) ∧ W.cell? ⟨w.heap.size, 4, none⟩ = some (.int .i64 n) ∧ W.cell? ⟨w.heap.size, 5, none⟩ = some (.int .i64 hop) ∧ W.cell? ⟨w.heap.size, 6, none⟩ = some (.bool six2) ∧ W.cell? ⟨w.heap.size, 7, none⟩ = some (.int .u64 hi2) ∧ W.cell? ⟨w.heap.size, 8, none⟩ = some (.int .u64 lo2) ∧ W.cell? ⟨Q, 73, none⟩ = some (.int .i64 k) := fun h h73 => ⟨h.cell 0, h.cell 1, h.cell 2, h.cell 3, h.cell 4, h.cell 5, h.cell 6, h.cell 7, h.cell 8, h73⟩
          have Q73 := Lib.hid q73
          go_upto_region 13 with fail
          go_cut [] (fun wx => QAt wx Q (r.set ((f + k) % 8) ⟨kd, ⟨six, hi, lo, n⟩, hop, ⟨six2, hi2, lo2⟩⟩) f k ∧ Kept [Q] w wx)
          case first =>
            go_region_held3 (fun w' => w'.cell? ⟨w.heap.size, 0, none⟩ = some (.int .i64 kd) ∧ w'.cell? ⟨w.heap.size, 1, none⟩ = some (.bool six) ∧ w'.cell? ⟨w.heap.size, 2, none⟩ = some (.int .u64 hi) ∧ w'.cell? ⟨w.heap.size, 3, none⟩ = some (.int .u64 lo) ∧ w'.cell? ⟨w.heap.size, 4, none⟩ = some (.int .i64 n) ∧ w'.cell? ⟨w.heap.size, 5, none⟩ = some (.int .i64 hop) ∧ w'.cell? ⟨w.heap.size, 6, none⟩ = some (.bool six2) ∧ w'.cell? ⟨w.heap.size, 7, none⟩ = some (.int .u64 hi2) ∧ w'.cell? ⟨w.heap.size, 8, none⟩ = some (.int .u64 lo2) ∧ w'.cell? ⟨Q, 73, none⟩ = some (.int .i64 k))
              ((first | with_reducible assumption | (with_reducible refine keepF2 ?_ ?_; (repeat' first | with_reducible exact HKO.out | with_reducible exact Q73.out | with_reducible refine Blk.drew ?_ | with_reducible refine Blk.drewN ?_ _ | with_reducible refine Blk.far ?_ hneq _ | with_reducible refine c73_drew ?_ | with_reducible refine c73_drewN ?_ _ | with_reducible refine c73_set ?_ (by omega)))))
              (first | (go_at_call 190; refine (CAW.out _ (by rfl)).mono ?_; rintro e w7 ⟨rfl, d7, rfl⟩))
            go_wp2_with fail
            go_meet
            case rel => exact ⟨HQO.out.store9 (by rfl) (by omega) ⟨kd, ⟨six, hi, lo, n⟩, hop, ⟨six2, hi2, lo2⟩⟩, ((Kept.of_below (below_step HBX.out HBO.out)).same _ (by rfl)).nine _ _ _ _ _ _ _ _ _ _⟩
          case rest =>
            obtain ⟨hqa, hkp⟩ := hcut
            have HQA := Lib.hid hqa
            have HKP := Lib.hid hkp
            obtain ⟨p72, p73⟩ := hqa.first
            have pz := hqa.blk.frozen 73
            clear hqa hkp
            go_wp2
            rw [← HP.out]
            have hd : jobD (ringL r f k) ⟨1, a, nn⟩ = ⟨0, false, []⟩ := by unfold jobD; rw [if_pos rfl, if_neg (by simp [HE.out]), if_neg (by rw [HNH.out]; simp), if_neg (by rw [ring_length]; have := H8.out; omega)]
            have hq : jobQ (ringL r f k) ⟨1, a, nn⟩ = ringL (r.set ((f + k) % 8) a) f (k + 1) := by unfold jobQ; rw [if_pos rfl, if_neg (by simp [HE.out]), if_neg (by rw [HNH.out]; simp), if_neg (by rw [ring_length]; have := H8.out; omega), ring_push HQO.out.len f (by have := H8.out; omega)]
            refine ⟨r.set ((f + k) % 8) ⟨kd, ⟨six, hi, lo, n⟩, hop, ⟨six2, hi2, lo2⟩⟩, k + 1, by rw [hd]; rfl, HQA.out.count (m' := k + 1) (by have := H8.out; omega), ?_, by rw [hd], Kept.setCell HKP.out (.inl (by simp)) _⟩
            rw [hq, ← HA.out]
  · have hne : (E != 0) = true := by simpa using hz
    have HZ := Lib.hid hz
    clear hz
    go_enter Try.func135, Try.ntmps135
    go_wp2_with fail
    refine (CF.out _).mono ?_
    rintro e X ⟨rfl, hb⟩
    have HBX := Lib.hid (balloc1 hb)
    clear hb
    go_wp2
    rw [← HP.out]
    have hd : jobD (ringL r f m) ⟨1, a, nn⟩ = ⟨E, false, []⟩ := by unfold jobD; rw [if_pos rfl, if_pos (by rw [HE.out]; exact HZ.out), HE.out]
    have hq : jobQ (ringL r f m) ⟨1, a, nn⟩ = ringL r f m := by unfold jobQ; rw [if_pos rfl, if_pos (by rw [HE.out]; exact HZ.out)]
    exact ⟨r, m, by rw [hd]; rfl, H.out.below HBX.out, hq.symm, by rw [hd], Kept.of_below HBX.out⟩

end Go.Proofs.Ytnflaaoapmhjgaa

namespace Go.Proofs.Ytnflaaoapmhjgaa
open Go.ChangeShapes Go.WideShapes Go.ChangeAt Go.RowKit

theorem infoAct : (Try.prog.info? 117).map (fun i => (i.zero, i.size, i.bytes)) = some (some (.agg #[.int .i64 0, .bool false, .int .u64 0, .int .u64 0, .int .i64 0, .int .i64 0, .bool false, .int .u64 0, .int .u64 0]), 9, 72) := by kernel_rfl
theorem act_one (a : ActV) : ∀ u ∈ a.cells, u.oneCell' = true := by
  intro u hu
  simp [ActV.cells] at hu
  rcases hu with rfl | rfl | rfl | rfl | rfl | rfl | rfl | rfl | rfl <;> rfl
theorem at0_is {w : World} {Q : Nat} {r : List ActV} {f m : Nat} (h : QAt w Q r f m) :
    Calls Try.prog 190 #[.pointer (some ⟨Q, 0, none⟩), .int .i64 0] w fun e w' => e = .returned (.pointer (some ⟨Q, f * 9, none⟩)) ∧ ∃ k, w' = w.drewN k := by
  have := at_is h 0 (by omega)
  rw [Nat.add_zero, Nat.mod_eq_of_lt h.f8] at this
  exact this
theorem take_snoc {α : Type} {l : List α} {k : Nat} {x : α} (h : l[k]? = some x) : l.take (k + 1) = l.take k ++ [x] := by
  rw [List.take_add_one, h]; rfl

theorem Kept.then_low {S : List Nat} {w w1 w2 : World} (h : Kept S w w1) (hb : Below w.heap.size w1 w2) : Kept S w w2 :=
  ⟨hb.os.trans h.os, hb.tape.trans h.tape, hb.output.trans h.output, Nat.le_trans h.size hb.size, fun k hk hn => (hb.block k hk).trans (h.block k hk hn)⟩

/-- What is pulled: a row of the call's own. -/
def Pulled (w : World) (Q : Nat) (q : List ActV) (n : Nat) (e : Ending) (w' : World) : Prop :=
  ∃ (v : Value) (r' : List ActV) (f' m' : Nat), e = .returned v ∧ QAt w' Q r' f' m' ∧ ringL r' f' m' = q.drop n ∧ w'.ownsRow w.heap.size 117 9 v (q.take n).length ((q.take n).flatMap ActV.cells) ∧ Kept [Q] w w'
set_option maxRecDepth 100000 in
set_option maxHeartbeats 3200000 in
theorem pull_any {w : World} {Q : Nat} {r : List ActV} {f m : Nat} (h : QAt w Q r f m) (nn : Int) (n : Nat) (hn : nn = (n : Int)) (hn8 : n ≤ 8) :
    Calls Try.prog 136 #[.pointer (some ⟨Q, 0, none⟩), .int .i64 nn] w (Pulled w Q (ringL r f m) n) := by
  have hm8 := h.m8
  have hql := h.blk.lt
  have HN := Lib.hid hn
  have H := Lib.hid h
  clear h hn
  obtain ⟨post, hpost⟩ : ∃ post, Pulled w Q (ringL r f m) n = post := ⟨_, rfl⟩
  have HP := Lib.hid hpost
  rw [hpost]
  clear hpost
  go_enter Try.func136, Try.ntmps136
  go_wp2
  go_loopw [1, 5] (fun i v wr => ∃ (k mm ff : Nat) (z : Int), k + mm = m ∧ ff < 8 ∧ k ≤ n ∧ z = (n : Int) - (k : Int) ∧ i = .int .i64 z ∧ QAt wr Q r ff mm ∧ ringL r ff mm = (ringL r f m).drop k ∧ wr.ownsRow w.heap.size 117 9 v k (((ringL r f m).take k).flatMap ActV.cells) ∧ Kept [Q] w wr) (fun i _ _ => (intOf i).toNat)
  case atStart => exact ⟨0, m, f, nn, by omega, H.out.f8, by omega, by rw [HN.out]; omega, rfl, H.out.keep rfl, rfl, World.ownsRow_nil _ _ _ _, Kept.of_below (Below.refl _ _)⟩
  case round =>
    obtain ⟨k, mm, ff, z, hkm, hf8, hkn, hz, rfl, hq, hrg, hown, hkp⟩ := hrel
    obtain ⟨wo, rfl⟩ : ∃ wo : World, wo = wr := ⟨_, rfl⟩
    have HQO := Lib.hid hq
    have HRG := Lib.hid hrg
    have HOWN := Lib.hid hown
    have HKP := Lib.hid hkp
    have HZ := Lib.hid hz
    obtain ⟨q72, q73⟩ := hq.first
    have hsz := hkp.size
    have hz8 : 0 ≤ z ∧ z ≤ 8 := by omega
    clear hq hrg hown hkp hz
    by_cases h1 : 0 < z
    · have d1 : decide (0 < z) = true := by simpa using h1
      by_cases h2 : 0 < mm
      · have d2 : decide ((0 : Int) < (mm : Int)) = true := by simpa using h2
        obtain ⟨x, hx⟩ : ∃ x, r[ff]? = some x := ⟨r[ff]'(by rw [HQO.out.len]; omega), List.getElem?_eq_getElem _⟩
        have hq0 : (ringL r f m)[k]? = some x := by
          have e1 := ring_get r ff h2
          rw [HRG.out, List.getElem?_drop, Nat.add_zero, Nat.add_zero, Nat.mod_eq_of_lt hf8, hx] at e1
          exact e1
        have HX0 := Lib.hid hq0
        obtain ⟨x0, x1, x2, x3, x4, x5, x6, x7, x8⟩ := HQO.out.nine (p := x.p) hx rfl rfl rfl
        have CA := Lib.hid (fun d => at0_is (w := wo.drewN d) (r := r) (f := ff) (m := mm) (Q := Q) (HQO.out.keep rfl))
        have CA0 := Lib.hid (at0_is HQO.out)
        have w1 : IntKind.i64.wrap ((ff : Int) + 1) = ((ff + 1 : Nat) : Int) := by rw [IntWalk.i64_in _ (by omega)]; omega
        have w3 : IntKind.i64.wrap (z - 1) = z - 1 := by rw [IntWalk.i64_in _ (by omega)]
        have w2 : IntKind.i64.wrap ((mm : Int) - 1) = ((mm - 1 : Nat) : Int) := by rw [IntWalk.i64_in _ (by omega)]; omega
        clear hx hq0
        go_wp2_with fail
        refine (CA0.out).mono ?_
        rintro e w5 ⟨rfl, d5, rfl⟩
        have HOW5 := Lib.hid (own_below HOWN.out (below_drewN (Below.refl _ _) d5))
        go_wp2_with (at_builtin; go_loud (refine wpList_append_oneN (us := x.cells) rfl _ _ 27 rfl w.heap.size _ 9 72 Try.underlying27 infoAct rfl (by decide) _ _ _ rfl rfl rfl HOW5.out ?c1 rfl ?c4 ?c2 ?c3 ?_))
        case c1 => exact hsz
        case c2 => unfold maxLen; omega
        case c3 => omega
        case c4 => exact act_one _
        intro v' w9 hown' hb9 hs9 hk9
        have HO9 := Lib.hid hown'
        have hq9 : QAt w9 Q r ff mm := (HQO.out.keep (w' := wo.drewN d5) rfl).keep (hb9.block Q (by omega))
        have HQ9 := Lib.hid hq9
        have HB9 := Lib.hid hb9
        have HK9 : Hid (Kept [Q] w w9) := Kept.then_low (HKP.out.then_below (below_drewN (Below.refl _ _) d5)) hb9
        obtain ⟨p72, p73⟩ := hq9.first
        have z72 := hq9.blk.frozen 72
        have z73 := hq9.blk.frozen 73
        clear hown' hb9 hk9 hq9
        go_wp2
        go_roundw
        case rel =>
          have HZZ := HZ.out
          have hQQ : Q ∈ [Q] := by simp
          have hb72 : ∀ {W : World} (o : Nat) (u : Value), Below w.heap.size w9 W → True := fun _ _ _ => trivial
          have e9 : ((ff : Int) + 1) % 8 = ((((ff + 1) % 8 : Nat)) : Int) := by omega
          refine ⟨k + 1, mm - 1, (ff + 1) % 8, z - 1, by omega, by omega, by omega, by omega, rfl, ?_, ?_, ?_, ?_⟩
          · rw [e9]
            exact (HQ9.out.front (by omega)).count (by omega)
          · obtain ⟨m1, rfl⟩ : ∃ m1, mm = m1 + 1 := ⟨mm - 1, by omega⟩
            rw [Nat.add_sub_cancel, ring_pop, HRG.out, List.drop_drop]
          · rw [take_snoc HX0.out, List.flatMap_append]
            have e : List.flatMap ActV.cells [x] = x.cells := by simp
            rw [e]
            exact ownsRow_setCell_other (ownsRow_setCell_other HO9.out (a := ⟨Q, 72, none⟩) (fun he => by have h : w.heap.size ≤ Q := (HO9.out.lt _ he).1; omega) _) (a := ⟨Q, 73, none⟩) (fun he => by have h : w.heap.size ≤ Q := (HO9.out.lt _ he).1; omega) _
          · exact (HK9.out.setCell (.inl hQQ) _).setCell (.inl hQQ) _
        case measure => simp [intOf]; omega
      · have d2 : decide ((0 : Int) < (mm : Int)) = false := by simpa using h2
        go_wp2
        rw [← HP.out]
        have hdr : (ringL r f m).drop n = [] := List.drop_eq_nil_of_le (by rw [ring_length]; omega)
        have hdk : (ringL r f m).drop k = [] := List.drop_eq_nil_of_le (by rw [ring_length]; omega)
        have htk : (ringL r f m).take n = (ringL r f m).take k := by rw [List.take_of_length_le (by rw [ring_length]; omega), List.take_of_length_le (by rw [ring_length]; omega)]
        have hlk : ((ringL r f m).take k).length = k := by rw [List.length_take, ring_length]; omega
        refine ⟨u5, r, ff, mm, rfl, HQO.out.keep rfl, ?_, ?_, ?_⟩
        · rw [HRG.out, hdr, hdk]
        · rw [htk, hlk]; exact HOWN.out
        · exact HKP.out
    · have d1 : decide (0 < z) = false := by simpa using h1
      go_wp2
      rw [← HP.out]
      have hkn' : k = n := by have := HZ.out; omega
      have hlk : ((ringL r f m).take k).length = k := by rw [List.length_take, ring_length]; omega
      refine ⟨u5, r, ff, mm, rfl, HQO.out.keep rfl, ?_, ?_, ?_⟩
      · rw [HRG.out, hkn']
      · rw [← hkn', hlk]; exact HOWN.out
      · exact HKP.out

end Go.Proofs.Ytnflaaoapmhjgaa

namespace Go.Proofs.Ytnflaaoapmhjgaa
open Go.ChangeShapes Go.WideShapes Go.ChangeAt Go.RowKit

def DidJ (w : World) (Q : Nat) (q : List ActV) (j : JobV) (e : Ending) (w' : World) : Prop :=
  ∃ (v : Value) (r' : List ActV) (f' m' : Nat), e = .returned (.agg #[.int .i64 (jobD q j).code, .bool (jobD q j).merged, v]) ∧ QAt w' Q r' f' m' ∧ ringL r' f' m' = jobQ q j ∧ w'.ownsRow w.heap.size 117 9 v (jobD q j).acts.length ((jobD q j).acts.flatMap ActV.cells) ∧ Kept [Q] w w'
theorem Blk.keepK {S : List Nat} {w w' : World} {g : Nat} {t : TypeId} {cs : Array Value} (h : Blk w g t cs) (hk : Kept S w w') (hS : g ∉ S) : Blk w' g t cs := (hk.block g h.lt hS).trans h
theorem Kept.trans2 {S : List Nat} {w w1 w2 : World} (h : Kept S w w1) (h' : Kept S w1 w2) : Kept S w w2 :=
  ⟨h'.os.trans h.os, h'.tape.trans h.tape, h'.output.trans h.output, Nat.le_trans h.size h'.size, fun k hk hS => (h'.block k (by have := h.size; omega) hS).trans (h.block k hk hS)⟩
theorem own_low {w : World} {base base' : Nat} {e : TypeId} {size : Nat} {v : Value} {n : Nat} {xs : List Value} (h : w.ownsRow base e size v n xs) (hb : base' ≤ base) : w.ownsRow base' e size v n xs :=
  ⟨h.1, h.2.imp id fun ⟨g, cap, cur, h1, h2, h3⟩ => ⟨g, cap, cur, h1, Nat.le_trans hb h2, h3⟩⟩
theorem Kept.refl (S : List Nat) (w : World) : Kept S w w := Kept.of_below (Below.refl _ _)
theorem own_nil_of {w : World} {base : Nat} {e : TypeId} {l : List ActV} (h : l = []) : w.ownsRow base e 9 (.slice none 0 0) l.length (l.flatMap ActV.cells) := by subst h; exact World.ownsRow_nil _ _ _ _
theorem QAt.two {w : World} {Q : Nat} {r : List ActV} {f m : Nat} (h : QAt w Q r f m) (o o' : Obj) : QAt ((w.alloc o).alloc o') Q r f m := by
  have h1 : QAt (w.alloc o) Q r f m := h.keep (Below.heap_alloc _ _ _ h.blk.lt)
  exact h1.keep (Below.heap_alloc _ _ _ h1.blk.lt)
theorem QAt.far {w : World} {Q : Nat} {r : List ActV} {f m : Nat} (h : QAt w Q r f m) {p : Addr} (hp : Q ≠ p.block) (u : Value) : QAt (w.setCell p u) Q r f m := h.keep (Below.heap_setCell w p u Q hp)

set_option maxRecDepth 100000 in
set_option maxHeartbeats 3200000 in
theorem do_any {w : World} {Q : Nat} {r : List ActV} {f m : Nat} (h : QAt w Q r f m) (hg : GoodQ (ringL r f m)) (jk kd : Int) (six : Bool) (hi lo n hop : Int) (six2 : Bool) (hi2 lo2 jn : Int) (h1 : 0 ≤ hi ∧ hi < 18446744073709551616) (h2 : 0 ≤ lo ∧ lo < 18446744073709551616) :
    Calls Try.prog 65 #[.pointer (some ⟨Q, 0, none⟩), .agg #[.int .i64 jk, .int .i64 kd, .bool six, .int .u64 hi, .int .u64 lo, .int .i64 n, .int .i64 hop, .bool six2, .int .u64 hi2, .int .u64 lo2, .int .i64 jn]] w (DidJ w Q (ringL r f m) ⟨jk, ⟨kd, ⟨six, hi, lo, n⟩, hop, ⟨six2, hi2, lo2⟩⟩, jn⟩) := by
  have H := Lib.hid h
  have hm8 := h.m8
  have hql := h.blk.lt
  have hne0 : w.heap.size ≠ Q := by omega
  have hne1 : w.heap.size + 1 ≠ Q := by omega
  obtain ⟨q72, q73⟩ := (h.two (.cells #[.int .i64 jk, .int .i64 kd, .bool six, .int .u64 hi, .int .u64 lo, .int .i64 n, .int .i64 hop, .bool six2, .int .u64 hi2, .int .u64 lo2, .int .i64 jn] 122) (.cells #[.int .i64 0, .bool false, .slice none 0 0] 29)).first
  clear q72
  have CP := Lib.hid (fun o o' => push_any (h.two o o') hg kd six hi lo n hop six2 hi2 lo2 jn h1 h2)
  have CQ := Lib.hid (fun o o' (n : Nat) (hn : jn = (n : Int)) (hn8 : n ≤ 8) => pull_any (h.two o o') jn n hn hn8)
  have hrl := ring_length r f m
  clear h hg h1 h2
  obtain ⟨a, ha⟩ : ∃ a : ActV, (⟨kd, ⟨six, hi, lo, n⟩, hop, ⟨six2, hi2, lo2⟩⟩ : ActV) = a := ⟨_, rfl⟩
  have HA := Lib.hid ha
  rw [ha] at CP ⊢
  clear ha
  obtain ⟨q, hq⟩ : ∃ q, ringL r f m = q := ⟨_, rfl⟩
  have HQ := Lib.hid hq
  rw [hq] at CP CQ hrl ⊢
  clear hq
  have hrl' : q = [] ↔ m = 0 := by constructor; (intro e; subst e; simpa using hrl.symm); (intro e; subst e; exact List.length_eq_zero_iff.1 hrl)
  have HRL := Lib.hid hrl'
  clear hrl hrl'
  obtain ⟨post, hpost⟩ : ∃ post, DidJ w Q q ⟨jk, a, jn⟩ = post := ⟨_, rfl⟩
  have HP := Lib.hid hpost
  rw [hpost]
  clear hpost
  by_cases h1 : jk = 1
  · subst h1
    go_enter Try.func65, Try.ntmps65
    go_wp2_with fail

    refine (CP.out _ _).mono ?_
    rintro e X ⟨r', m', rfl, hqa, hrg, hacts, hkp⟩
    have hD : jobD q ⟨1, a, jn⟩ = jobD q ⟨1, a, jn⟩ := rfl
    obtain ⟨dd, hdd⟩ : ∃ dd, jobD q ⟨1, a, jn⟩ = dd := ⟨_, rfl⟩
    have HDD := Lib.hid hdd
    rw [hdd] at hacts ⊢
    clear hD hdd
    have HQA := Lib.hid hqa
    have HRG := Lib.hid hrg
    have HAC := Lib.hid hacts
    have hk4 := Blk.keepK (Blk.new (w.alloc _) 29 #[.int .i64 0, .bool false, .slice none 0 0]) hkp (by simp; omega)
    have k0 := hk4.cell 0
    have k1 := hk4.cell 1
    have k2 := hk4.cell 2
    have z0 := hk4.frozen 0
    have z1 := hk4.frozen 1
    have z2 := hk4.frozen 2
    simp at k0 k1 k2 z0 z1 z2

    have HKP := Lib.hid hkp
    clear hqa hrg hacts hk4 hkp
    go_wp2
    refine bodyPost_ret (v := .agg #[.int .i64 dd.code, .bool dd.merged, .slice none 0 0]) (by simp [results, Try.results65, go_sem, k0, k1, k2]) rfl ?_
    rw [← HP.out]
    have K0 : Kept [Q] w X := Kept.trans2 (Kept.alloc (Kept.alloc (Kept.refl _ _) _) _) HKP.out
    have hqq : Q ≠ w.heap.size + 1 := by omega
    have hle : w.heap.size ≤ w.heap.size + 1 := by omega
    refine ⟨.slice none 0 0, r', f, m', by rw [HDD.out], ((HQA.out.far hqq _).far hqq _).far hqq _, HRG.out, ?_, ((K0.setCell (.inr hle) _).setCell (.inr hle) _).setCell (.inr hle) _⟩
    rw [HDD.out]
    exact own_nil_of HAC.out
  · have d1 : (jk == 1) = false := by simpa using h1
    have hd1 : jobD q ⟨jk, a, jn⟩ = if ¬ jk = 2 then ⟨3, false, []⟩ else if jn < 1 ∨ 8 < jn then ⟨2, false, []⟩ else if q = [] then ⟨7, false, []⟩ else ⟨0, false, q.take jn.toNat⟩ := by unfold jobD; rw [if_neg h1]
    have hq1 : jobQ q ⟨jk, a, jn⟩ = if ¬ jk = 2 then q else if jn < 1 ∨ 8 < jn then q else q.drop jn.toNat := by unfold jobQ; rw [if_neg h1]
    have HD1 := Lib.hid hd1
    have HQ1 := Lib.hid hq1
    clear h1 hd1 hq1
    by_cases h2 : jk = 2
    · subst h2
      have hs := HD1.out
      have ht := HQ1.out
      rw [if_neg (by simp)] at hs ht
      have HS := Lib.hid hs
      have HT := Lib.hid ht
      clear hs ht
      by_cases h3 : jn < 1 ∨ 8 < jn
      · have hc : jobD q ⟨2, a, jn⟩ = ⟨2, false, []⟩ := by rw [HS.out, if_pos h3]
        have hu : jobQ q ⟨2, a, jn⟩ = q := by rw [HT.out, if_pos h3]
        have HC := Lib.hid hc
        have HU := Lib.hid hu
        clear hc hu
        by_cases h4 : jn < 1
        · have d4 : decide (jn < 1) = true := by simpa using h4
          clear h3 h4
          go_enter Try.func65, Try.ntmps65
          go_wp2_with fail

          refine bodyPost_ret (v := .agg #[.int .i64 2, .bool false, .slice none 0 0]) (by simp [results, Try.results65, go_sem]) rfl ?_
          rw [← HP.out]
          refine ⟨.slice none 0 0, r, f, _, by rw [HC.out], H.out.two _ _, by rw [HU.out, HQ.out], ?_, Kept.alloc (Kept.alloc (Kept.refl _ _) _) _⟩
          rw [HC.out]
          exact own_nil_of rfl

        · have d4 : decide (jn < 1) = false := by simpa using h4
          have d5 : decide (8 < jn) = true := by simp; omega
          clear h3 h4
          go_enter Try.func65, Try.ntmps65
          go_wp2_with fail

          refine bodyPost_ret (v := .agg #[.int .i64 2, .bool false, .slice none 0 0]) (by simp [results, Try.results65, go_sem]) rfl ?_
          rw [← HP.out]
          refine ⟨.slice none 0 0, r, f, _, by rw [HC.out], H.out.two _ _, by rw [HU.out, HQ.out], ?_, Kept.alloc (Kept.alloc (Kept.refl _ _) _) _⟩
          rw [HC.out]
          exact own_nil_of rfl

      · have d4 : decide (jn < 1) = false := by simp; omega
        have d5 : decide (8 < jn) = false := by simp; omega
        have hs2 := HS.out
        have ht2 := HT.out
        rw [if_neg h3] at hs2 ht2
        by_cases h6 : m = 0
        · rw [if_pos (HRL.out.2 h6)] at hs2
          rw [HRL.out.2 h6] at ht2
          have HC := Lib.hid hs2
          have HU : Hid (jobQ q ⟨2, a, jn⟩ = q) := by show _ = _; rw [HRL.out.2 h6, ht2]; simp
          clear hs2 ht2
          subst h6
          go_enter Try.func65, Try.ntmps65
          go_wp2_with fail

          refine bodyPost_ret (v := .agg #[.int .i64 7, .bool false, .slice none 0 0]) (by simp [results, Try.results65, go_sem]) rfl ?_
          rw [← HP.out]
          refine ⟨.slice none 0 0, r, f, _, by rw [HC.out], H.out.two _ _, by rw [HU.out, HQ.out], ?_, Kept.alloc (Kept.alloc (Kept.refl _ _) _) _⟩
          rw [HC.out]
          exact own_nil_of rfl

        · rw [if_neg (fun e => h6 (HRL.out.1 e))] at hs2
          have HC := Lib.hid hs2
          have HU := Lib.hid ht2
          clear hs2 ht2
          have d6 : ((m : Int) == 0) = false := by simpa using h6
          have CQ1 := Lib.hid (fun o o' => CQ.out o o' jn.toNat (by omega) (by omega))
          clear h6 h3
          go_enter Try.func65, Try.ntmps65
          go_wp2_with fail

          refine (CQ1.out _ _).mono ?_
          rintro e X ⟨v, r', f', m', rfl, hqa, hrg, hown, hkp⟩
          obtain ⟨A, c, rfl, -, -⟩ := own_reads hown
          obtain ⟨len, hlen⟩ : ∃ len, (q.take jn.toNat).length = len := ⟨_, rfl⟩
          have HLEN := Lib.hid hlen
          rw [hlen] at hown ⊢
          clear hlen
          have hk4 := Blk.keepK (Blk.new (w.alloc _) 29 #[.int .i64 0, .bool false, .slice none 0 0]) hkp (by simp; omega)
          have k0 := hk4.cell 0
          have k1 := hk4.cell 1
          have k2 := hk4.cell 2
          have z0 := hk4.frozen 0
          have z1 := hk4.frozen 1
          have z2 := hk4.frozen 2
          simp at k0 k1 k2 z0 z1 z2

          have HQA := Lib.hid hqa
          have HRG := Lib.hid hrg
          have HOW := Lib.hid hown
          have HKP := Lib.hid hkp
          clear hqa hrg hown hk4 hkp
          go_wp2
          refine bodyPost_ret (v := .agg #[.int .i64 0, .bool false, .slice A len c]) (by simp [results, Try.results65, go_sem, k0, k1, k2]) rfl ?_
          rw [← HP.out]
          have K0 : Kept [Q] w X := Kept.trans2 (Kept.alloc (Kept.alloc (Kept.refl _ _) _) _) HKP.out
          have hqq : Q ≠ w.heap.size + 1 := by omega
          have hle : w.heap.size ≤ w.heap.size + 1 := by omega
          have hvn : (Value.slice A len c).ownBlock ≠ some (w.heap.size + 1) := fun he => by have h := (HOW.out.lt _ he).1; simp at h; omega
          refine ⟨.slice A len c, r', f', m', by rw [HC.out], ((HQA.out.far hqq _).far hqq _).far hqq _, by rw [HRG.out, HU.out], ?_, ((K0.setCell (.inr hle) _).setCell (.inr hle) _).setCell (.inr hle) _⟩
          rw [HC.out, show (q.take jn.toNat).length = len from HLEN.out]
          exact ownsRow_setCell_other (ownsRow_setCell_other (ownsRow_setCell_other (own_low HOW.out (by simp; omega)) hvn _) hvn _) hvn _
    · have d2 : (jk == 2) = false := by simpa using h2
      have hc : jobD q ⟨jk, a, jn⟩ = ⟨3, false, []⟩ := by rw [HD1.out, if_pos h2]
      have hu : jobQ q ⟨jk, a, jn⟩ = q := by rw [HQ1.out, if_pos h2]
      have HC := Lib.hid hc
      have HU := Lib.hid hu
      clear hc hu h2
      go_enter Try.func65, Try.ntmps65
      go_wp2_with fail

      refine bodyPost_ret (v := .agg #[.int .i64 3, .bool false, .slice none 0 0]) (by simp [results, Try.results65, go_sem]) rfl ?_
      rw [← HP.out]
      refine ⟨.slice none 0 0, r, f, _, by rw [HC.out], H.out.two _ _, by rw [HU.out, HQ.out], ?_, Kept.alloc (Kept.alloc (Kept.refl _ _) _) _⟩
      rw [HC.out]
      exact own_nil_of rfl


end Go.Proofs.Ytnflaaoapmhjgaa

namespace Go.Proofs.Ytnflaaoapmhjgaa
open Go.ChangeShapes Go.WideShapes Go.ChangeAt Go.RowKit

def JobV.cells (j : JobV) : List Value := [.int .i64 j.kind, .int .i64 j.act.kind, .bool j.act.p.six, .int .u64 j.act.p.hi, .int .u64 j.act.p.lo, .int .i64 j.act.p.n, .int .i64 j.act.hop, .bool j.act.a.six, .int .u64 j.act.a.hi, .int .u64 j.act.a.lo, .int .i64 j.n]
theorem JobV.cells_length (j : JobV) : j.cells.length = 11 := rfl
/-- A slice of jobs as it comes in. -/
structure IsJobs (w : World) (A : Option Addr) (n : Nat) (l : List JobV) : Prop where
  len : l.length = n
  reads : Reads w w.heap.size 11 A n (l.flatMap JobV.cells)
  ok : ∀ j ∈ l, (0 ≤ j.act.p.hi ∧ j.act.p.hi < 18446744073709551616) ∧ (0 ≤ j.act.p.lo ∧ j.act.p.lo < 18446744073709551616)

/-! What jobs came to, in a row of the call's own. -/
def DoneAt (w : World) (base : Nat) (c : List Value) (d : DoneV) : Prop :=
  ∃ v, c = [.int .i64 d.code, .bool d.merged, v] ∧ w.ownsRow base 117 9 v d.acts.length (d.acts.flatMap ActV.cells)
def RowsD (w : World) (base : Nat) : List (List Value) → List DoneV → Prop
  | [], [] => True
  | c :: cs, d :: ds => DoneAt w base c d ∧ RowsD w base cs ds
  | _, _ => False
theorem RowsD.keep {w w' : World} {base : Nat} (hk : KeepT 117 w w') : ∀ {cs : List (List Value)} {ds : List DoneV}, RowsD w base cs ds → RowsD w' base cs ds
  | [], [], _ => trivial
  | _ :: _, _ :: _, ⟨⟨v, h1, h2⟩, h3⟩ => ⟨⟨v, h1, own_keepT h2 hk⟩, h3.keep hk⟩
theorem RowsD.snoc {w : World} {base : Nat} {c : List Value} {d : DoneV} (hd : DoneAt w base c d) : ∀ {cs : List (List Value)} {ds : List DoneV}, RowsD w base cs ds → RowsD w base (cs ++ [c]) (ds ++ [d])
  | [], [], _ => ⟨hd, trivial⟩
  | _ :: _, _ :: _, ⟨h1, h3⟩ => ⟨h1, h3.snoc hd⟩
theorem RowsD.length {w : World} {base : Nat} : ∀ {cs : List (List Value)} {ds : List DoneV}, RowsD w base cs ds → cs.length = ds.length
  | [], [], _ => rfl
  | _ :: _, _ :: _, ⟨_, h3⟩ => congrArg (· + 1) h3.length
structure DonesAt (w : World) (base : Nat) (v : Value) (ds : List DoneV) : Prop where
  rows : ∃ cs, w.ownsRow base 29 3 v ds.length (cs.flatMap id) ∧ RowsD w base cs ds
theorem infoDone : (Try.prog.info? 29).map (fun i => (i.zero, i.size, i.bytes)) = some (some (.agg #[.int .i64 0, .bool false, .slice none 0 0]), 3, 40) := by kernel_rfl

def PlayedJ (w : World) (n : Nat) (l : List JobV) (e : Ending) (w' : World) : Prop :=
  (100 < n → e = .returned (.tuple #[.slice none 0 0, .int .i64 1]) ∧ Below w.heap.size w w') ∧
    (¬ 100 < n → ∃ v, e = .returned (.tuple #[v, .int .i64 0]) ∧ DonesAt w' w.heap.size v (playD l []) ∧ Below w.heap.size w w')
def zero8 : List ActV := List.replicate 8 zeroA
set_option maxRecDepth 100000 in
theorem zero_q (w : World) : QAt (w.alloc (.cells (qCells zero8 0 0) 120)) w.heap.size zero8 0 0 := ⟨Blk.new w _ _, by simp [zero8], by omega, by omega⟩

set_option maxRecDepth 100000 in
set_option maxHeartbeats 3200000 in
theorem play_any {w : World} {A : Option Addr} {n c : Nat} {l : List JobV} (h : IsJobs w A n l) (hc : n ≤ c ∧ c ≤ maxLen) :
    Calls Try.prog 20 #[.slice A n c] w (PlayedJ w n l) := by
  have HZ := Lib.hid h.len
  have HR := Lib.hid h.reads
  have HOK := Lib.hid h.ok
  have hcm := hc.2
  unfold maxLen at hcm
  clear h hc
  obtain ⟨post, hpost⟩ : ∃ post, PlayedJ w n l = post := ⟨_, rfl⟩
  have HP := Lib.hid hpost
  rw [hpost]
  clear hpost
  by_cases h100 : 100 < n
  · have d1 : decide (100 < (n : Int)) = true := by simp; omega
    go_enter Try.func20, Try.ntmps20
    go_wp2
    rw [← HP.out]
    exact ⟨fun _ => ⟨rfl, Below.refl _ _⟩, fun hn => absurd h100 hn⟩
  · have d1 : decide (100 < (n : Int)) = false := by simp; omega
    go_enter Try.func20, Try.ntmps20
    go_wp2
    go_loopw [15, 5] (fun i v wr => ∃ (k : Nat) (r : List ActV) (f m : Nat), k ≤ n ∧ i = .int .i64 k ∧ QAt wr w.heap.size r f m ∧ ringL r f m = playQ (l.take k) [] ∧ DonesAt wr w.heap.size v (playD (l.take k) []) ∧ Below w.heap.size w wr) (fun i _ _ => n - (intOf i).toNat)
    case atStart => exact ⟨0, zero8, 0, 0, by omega, rfl, zero_q w, rfl, ⟨[], World.ownsRow_nil _ _ _ _, trivial⟩, (Below.refl _ _).alloc (Nat.le_refl _) _⟩
    case round =>
      obtain ⟨k, r, f, m, hk, rfl, hqa, hrg, hrow, hb⟩ := hrel
      obtain ⟨wo, rfl⟩ : ∃ wo : World, wo = wr := ⟨_, rfl⟩
      have HQA := Lib.hid hqa
      have HRG := Lib.hid hrg
      have HRW := Lib.hid hrow.rows
      have HB := Lib.hid hb
      have hszb := hqa.blk.lt
      clear hqa hrg hrow
      by_cases hlt : k < n
      · obtain ⟨ad, ⟨jk, ⟨kd, ⟨six, hi, lo, n0⟩, hop, ⟨six2, hi2, lo2⟩⟩, jn⟩, rfl, hlk, htk, hmem, hbk, hc0, hcj⟩ := HR.out.atS JobV.cells_length HZ.out hlt
        have q0 := (hb.cell (p := ad.add (k * 11)) (by rw [block_of_add]; exact hbk)).trans (hc0 _ rfl)
        have q1 := (hb.cell (p := ⟨(ad.add (k * 11)).block, (ad.add (k * 11)).off + 1, none⟩) (by rw [block_of_add]; exact hbk)).trans (hcj 1 _ rfl)
        have q2 := (hb.cell (p := ⟨(ad.add (k * 11)).block, (ad.add (k * 11)).off + 2, none⟩) (by rw [block_of_add]; exact hbk)).trans (hcj 2 _ rfl)
        have q3 := (hb.cell (p := ⟨(ad.add (k * 11)).block, (ad.add (k * 11)).off + 3, none⟩) (by rw [block_of_add]; exact hbk)).trans (hcj 3 _ rfl)
        have q4 := (hb.cell (p := ⟨(ad.add (k * 11)).block, (ad.add (k * 11)).off + 4, none⟩) (by rw [block_of_add]; exact hbk)).trans (hcj 4 _ rfl)
        have q5 := (hb.cell (p := ⟨(ad.add (k * 11)).block, (ad.add (k * 11)).off + 5, none⟩) (by rw [block_of_add]; exact hbk)).trans (hcj 5 _ rfl)
        have q6 := (hb.cell (p := ⟨(ad.add (k * 11)).block, (ad.add (k * 11)).off + 6, none⟩) (by rw [block_of_add]; exact hbk)).trans (hcj 6 _ rfl)
        have q7 := (hb.cell (p := ⟨(ad.add (k * 11)).block, (ad.add (k * 11)).off + 7, none⟩) (by rw [block_of_add]; exact hbk)).trans (hcj 7 _ rfl)
        have q8 := (hb.cell (p := ⟨(ad.add (k * 11)).block, (ad.add (k * 11)).off + 8, none⟩) (by rw [block_of_add]; exact hbk)).trans (hcj 8 _ rfl)
        have q9 := (hb.cell (p := ⟨(ad.add (k * 11)).block, (ad.add (k * 11)).off + 9, none⟩) (by rw [block_of_add]; exact hbk)).trans (hcj 9 _ rfl)
        have q10 := (hb.cell (p := ⟨(ad.add (k * 11)).block, (ad.add (k * 11)).off + 10, none⟩) (by rw [block_of_add]; exact hbk)).trans (hcj 10 _ rfl)
        obtain ⟨o1, o2⟩ := HOK.out _ hmem
        simp only at o1 o2
        have hG : GoodQ (ringL r f m) := by rw [HRG.out]; exact good_play (q := []) ⟨by simp, by simp⟩ _
        have CD := Lib.hid (fun (o : Obj) => do_any (w := wo.alloc o) (HQA.out.keep (Below.heap_alloc _ _ _ HQA.out.blk.lt)) hG jk kd six hi lo n0 hop six2 hi2 lo2 jn o1 o2)
        have HTK := Lib.hid htk
        clear hlk htk hmem hc0 hcj hb hbk o1 o2 hG
        go_wp2_with fail
        refine (CD.out _).mono ?_
        rintro e X ⟨va, r', f', m', rfl, hqa, hrg, hown, hkp⟩
        obtain ⟨cs, hrow, hds⟩ := HRW.out
        obtain ⟨jv, hjv⟩ : ∃ jv : JobV, (⟨jk, ⟨kd, ⟨six, hi, lo, n0⟩, hop, ⟨six2, hi2, lo2⟩⟩, jn⟩ : JobV) = jv := ⟨_, rfl⟩
        rw [hjv] at hrg hown HTK ⊢
        rw [HRG.out] at hrg hown ⊢
        obtain ⟨D, hD⟩ : ∃ D, jobD (playQ (l.take k) []) jv = D := ⟨_, rfl⟩
        rw [hD] at hown ⊢
        have hplay : playD (l.take (k + 1)) [] = playD (l.take k) [] ++ [D] := by rw [HTK.out, playD_snoc, hD]
        have hplayq : playQ (l.take (k + 1)) [] = jobQ (playQ (l.take k) []) jv := by rw [HTK.out, playQ_snoc]
        obtain ⟨Av, cv, rfl, -, -⟩ := own_reads hown
        have hlk : (playD (l.take k) []).length = k := by rw [playD_length, List.length_take, HZ.out]; omega
        rw [hlk] at hrow
        obtain ⟨la, hla⟩ : ∃ la, D.acts.length = la := ⟨_, rfl⟩
        rw [hla] at hown ⊢
        have KD : KeepT 29 wo X := (KeepT.alloc _ _ _).trans (KeepT.of_kept hkp (HQA.out.keep (Below.heap_alloc _ _ _ HQA.out.blk.lt)).blk (by decide))
        have KA : KeepT 117 wo X := (KeepT.alloc _ _ _).trans (KeepT.of_kept hkp (HQA.out.keep (Below.heap_alloc _ _ _ HQA.out.blk.lt)).blk (by decide))
        have HOW := Lib.hid (own_keepT hrow KD)
        have HDS := Lib.hid (hds.keep KA)
        have HVA := Lib.hid (own_low hown (base' := w.heap.size) (by simp; omega))
        have HQX := Lib.hid hqa
        have HRX := Lib.hid (hrg.trans hplayq.symm)
        have HBX : Hid (Below w.heap.size w X) := HB.out.trans ((Kept.trans2 (Kept.alloc (Kept.refl _ _) _) hkp).below (by simp) (by omega))
        have HPL := Lib.hid hplay
        have HLA := Lib.hid hla
        have hsx := HBX.out.size
        have HJ := Lib.hid hjv
        clear hqa hrg hown hkp hrow hds KD KA hplay hplayq hlk hla hD hjv
        go_wp2_with (at_builtin; go_loud (refine wpList_append_oneN (us := [.int .i64 D.code, .bool D.merged, .slice Av la cv]) rfl _ _ 23 rfl w.heap.size _ 3 40 Try.underlying23 infoDone rfl (by decide) _ _ _ rfl rfl rfl HOW.out ?c1 rfl ?c4 ?c2 ?c3 ?_))
        case c1 => exact hsx
        case c2 => unfold maxLen; omega
        case c3 => omega
        case c4 => intro u hu; simp at hu; rcases hu with rfl | rfl | rfl <;> rfl
        intro v' w9 hown' hb9 hs9 hk9
        have KA9 : KeepT 117 X w9 := KeepT.of_own hk9 HOW.out (by decide)
        have HQ9 := Lib.hid (HQX.out.keep (hk9 _ HQX.out.blk.lt (fun he => by obtain ⟨cs', hh⟩ := own_type HOW.out he; have e := hh.symm.trans HQX.out.blk; injection e with e; injection e with _ e; exact absurd e (by decide))))
        have HDS9 := Lib.hid ((HDS.out.keep KA9).snoc (c := [.int .i64 D.code, .bool D.merged, .slice Av la cv]) (d := D) ⟨_, rfl, by rw [HLA.out]; exact own_keepT HVA.out KA9⟩)
        have HO9 := Lib.hid hown'
        have HB9 := Lib.hid (HBX.out.trans hb9)
        clear hown' hb9 hk9 KA9
        go_wp2
        go_roundw
        case rel =>
          refine ⟨k + 1, r', f', m', by omega, by go_num, HQ9.out, HRX.out, ⟨cs ++ [[.int .i64 D.code, .bool D.merged, .slice Av la cv]], ?_, ?_⟩, HB9.out⟩
          · have hl : (playD (l.take (k + 1)) []).length = k + 1 := by rw [playD_length, List.length_take, HZ.out]; omega
            rw [hl, List.flatMap_append]
            simpa using HO9.out
          · rw [HPL.out]; exact HDS9.out
        case measure => simp [intOf]; omega
      · obtain rfl : k = n := by omega
        go_wp2
        rw [← HP.out]
        refine ⟨fun h => absurd h h100, fun _ => ⟨_, rfl, ?_, HB.out⟩⟩
        have ht : l.take k = l := List.take_of_length_le (by rw [HZ.out]; omega)
        have := HRW.out
        rw [ht] at this
        exact ⟨this⟩

end Go.Proofs.Ytnflaaoapmhjgaa

namespace Go.Proofs.Ytnflaaoapmhjgaa
open Go.ChangeShapes Go.WideShapes Go.ChangeAt Go.RowKit


instance : DecidableEq ActV := fun a b => decidable_of_iff (a.kind = b.kind ∧ a.p = b.p ∧ a.hop = b.hop ∧ a.a.six = b.a.six ∧ a.a.hi = b.a.hi ∧ a.a.lo = b.a.lo) ⟨fun h => by
  obtain ⟨k, p, hop, ⟨s, x, y⟩⟩ := a
  obtain ⟨k', p', hop', ⟨s', x', y'⟩⟩ := b
  simp only at h
  obtain ⟨rfl, rfl, rfl, rfl, rfl, rfl⟩ := h
  rfl, fun h => by subst h; exact ⟨rfl, rfl, rfl, rfl, rfl, rfl⟩⟩
def ActV.val (r : ActV) : Value := .agg #[.int .i64 r.kind, .bool r.p.six, .int .u64 r.p.hi, .int .u64 r.p.lo, .int .i64 r.p.n, .int .i64 r.hop, .bool r.a.six, .int .u64 r.a.hi, .int .u64 r.a.lo]
set_option maxRecDepth 100000 in
/-- '==' on acts. -/
theorem eqActV (r r' : ActV) (w : World) : (Op.equalIn 10000 117 r.val r'.val).run Try.prog w = .ok (decide (r = r')) w := by
  obtain ⟨k, ⟨six, hi, lo, n⟩, h, ⟨s2, h2, l2⟩⟩ := r
  obtain ⟨k', ⟨six', hi', lo', n'⟩, h', ⟨s2', h2', l2'⟩⟩ := r'
  have hS : Try.prog.underlying 117 = some (.struct (Try.prog.fieldsOf 117)) := by kernel_rfl
  have hp : Try.prog.stoodInHeld 117 = false := by kernel_rfl
  have inner := fun w => eqPVd 9996 ⟨six, hi, lo, n⟩ ⟨six', hi', lo', n'⟩ w
  have inner2 := fun w => eqAV 9997 s2 h2 l2 s2' h2' l2' w
  have e : (decide ((⟨k, ⟨six, hi, lo, n⟩, h, ⟨s2, h2, l2⟩⟩ : ActV) = ⟨k', ⟨six', hi', lo', n'⟩, h', ⟨s2', h2', l2'⟩⟩)) = (k == k' && (decide ((⟨six, hi, lo, n⟩ : PV) = ⟨six', hi', lo', n'⟩) && (h == h' && (s2 == s2' && (h2 == h2' && l2 == l2'))))) := by
    rw [Bool.eq_iff_iff]
    simp
  rw [e]
  unfold ActV.val
  unfold PV.val at inner
  simp only at inner inner2 ⊢
  rw [show (10000 : Nat) = 9999 + 1 from rfl, run_equalIn_agg w 9999 117 _ _ hS hp]
  clear hS hp e
  generalize decide ((⟨six, hi, lo, n⟩ : PV) = ⟨six', hi', lo', n'⟩) = b at *
  generalize (s2 == s2' && (h2 == h2' && l2 == l2')) = b2 at *
  have a1 := Try.isAgg51
  have z1 := Try.sizeOf51
  have a2 := Try.isAgg3
  have z2 := Try.sizeOf3
  have a3 := Try.isAgg44
  have z3 := Try.sizeOf44
  simp only [Program.fieldsOf, Try.underlying117]
  go_simp
  by_cases h1 : k = k' <;> cases b <;> by_cases h4 : h = h' <;> cases b2 <;> simp [h1, h4]

theorem drew_more {w w1 : World} (h : ∃ d, w1 = w.drewN d) (n : Nat) : ∃ d, w1.drewN n = w.drewN d := by obtain ⟨d, rfl⟩ := h; exact ⟨_, World.drewN_drewN _ _ _⟩

set_option maxRecDepth 100000 in
set_option maxHeartbeats 800000 in
theorem sameActs_quiet (A A' : Option Addr) (n c n' c' : Nat) (l l' : List ActV) (w : World) (hz : l.length = n) (hz' : l'.length = n') (hm : n ≤ maxLen) (hm' : n' ≤ maxLen)
    (hr : Reads w w.heap.size 9 A n (l.flatMap ActV.cells)) (hr' : Reads w w.heap.size 9 A' n' (l'.flatMap ActV.cells)) :
    Calls Try.prog 22 #[.slice A n c, .slice A' n' c'] w fun e w' => e = .returned (.bool (decide (l = l'))) ∧ ∃ dd, w' = w.drewN dd := by
  unfold maxLen at hm hm'
  by_cases hnn : n = n'
  · subst hnn
    have HZ := Lib.hid hz
    have HZ' := Lib.hid hz'
    have HR := Lib.hid hr
    have HR' := Lib.hid hr'
    obtain ⟨d, hd⟩ : ∃ d, d = decide (l = l') := ⟨_, rfl⟩
    rw [← hd]
    have HD := Lib.hid hd
    clear hz hz' hr hr' hm' hd
    go_enter Try.func22, Try.ntmps22
    go_wp2
    go_loopw [5, 4] (fun i _ wr => ∃ k : Nat, k ≤ n ∧ i = .int .i64 k ∧ l.take k = l'.take k ∧ ∃ dd, wr = w.drewN dd) (fun i _ _ => n - (intOf i).toNat)
    case atStart => exact ⟨0, by omega, rfl, rfl, 0, rfl⟩
    case round =>
      obtain ⟨k, hk, rfl, hto, hd2⟩ := hrel
      have hb : Below w.heap.size w wr := by obtain ⟨dd, rfl⟩ := hd2; exact below_drewN (Below.refl _ _) dd
      have HD2 := Lib.hid hd2
      clear hd2
      have HT := Lib.hid hto
      clear hto
      by_cases hlt : k < n
      · obtain ⟨ad, ⟨kd, ⟨six, hi, lo, pn⟩, hop, ⟨s2, h2, l2⟩⟩, rfl, hlk, htk, hmem, hbk, hc0, hcj⟩ := HR.out.atS ActV.cells_length HZ.out hlt
        have q0 := (hb.cell (p := ad.add (k * 9)) (by rw [block_of_add]; exact hbk)).trans (hc0 _ rfl)
        have q1 := (hb.cell (p := ⟨(ad.add (k * 9)).block, (ad.add (k * 9)).off + 1, none⟩) (by rw [block_of_add]; exact hbk)).trans (hcj 1 _ rfl)
        have q2 := (hb.cell (p := ⟨(ad.add (k * 9)).block, (ad.add (k * 9)).off + 2, none⟩) (by rw [block_of_add]; exact hbk)).trans (hcj 2 _ rfl)
        have q3 := (hb.cell (p := ⟨(ad.add (k * 9)).block, (ad.add (k * 9)).off + 3, none⟩) (by rw [block_of_add]; exact hbk)).trans (hcj 3 _ rfl)
        have q4 := (hb.cell (p := ⟨(ad.add (k * 9)).block, (ad.add (k * 9)).off + 4, none⟩) (by rw [block_of_add]; exact hbk)).trans (hcj 4 _ rfl)
        have q5 := (hb.cell (p := ⟨(ad.add (k * 9)).block, (ad.add (k * 9)).off + 5, none⟩) (by rw [block_of_add]; exact hbk)).trans (hcj 5 _ rfl)
        have q6 := (hb.cell (p := ⟨(ad.add (k * 9)).block, (ad.add (k * 9)).off + 6, none⟩) (by rw [block_of_add]; exact hbk)).trans (hcj 6 _ rfl)
        have q7 := (hb.cell (p := ⟨(ad.add (k * 9)).block, (ad.add (k * 9)).off + 7, none⟩) (by rw [block_of_add]; exact hbk)).trans (hcj 7 _ rfl)
        have q8 := (hb.cell (p := ⟨(ad.add (k * 9)).block, (ad.add (k * 9)).off + 8, none⟩) (by rw [block_of_add]; exact hbk)).trans (hcj 8 _ rfl)
        have HL := Lib.hid hlk
        have HTK := Lib.hid htk
        clear hlk htk hmem hc0 hcj
        obtain ⟨ad', ⟨kd', ⟨six', hi', lo', pn'⟩, hop', ⟨s2', h2', l2'⟩⟩, rfl, hlk, htk, hmem, hbk', hc0, hcj⟩ := HR'.out.atS ActV.cells_length HZ'.out hlt
        have x0 := (hb.cell (p := ad'.add (k * 9)) (by rw [block_of_add]; exact hbk')).trans (hc0 _ rfl)
        have x1 := (hb.cell (p := ⟨(ad'.add (k * 9)).block, (ad'.add (k * 9)).off + 1, none⟩) (by rw [block_of_add]; exact hbk')).trans (hcj 1 _ rfl)
        have x2 := (hb.cell (p := ⟨(ad'.add (k * 9)).block, (ad'.add (k * 9)).off + 2, none⟩) (by rw [block_of_add]; exact hbk')).trans (hcj 2 _ rfl)
        have x3 := (hb.cell (p := ⟨(ad'.add (k * 9)).block, (ad'.add (k * 9)).off + 3, none⟩) (by rw [block_of_add]; exact hbk')).trans (hcj 3 _ rfl)
        have x4 := (hb.cell (p := ⟨(ad'.add (k * 9)).block, (ad'.add (k * 9)).off + 4, none⟩) (by rw [block_of_add]; exact hbk')).trans (hcj 4 _ rfl)
        have x5 := (hb.cell (p := ⟨(ad'.add (k * 9)).block, (ad'.add (k * 9)).off + 5, none⟩) (by rw [block_of_add]; exact hbk')).trans (hcj 5 _ rfl)
        have x6 := (hb.cell (p := ⟨(ad'.add (k * 9)).block, (ad'.add (k * 9)).off + 6, none⟩) (by rw [block_of_add]; exact hbk')).trans (hcj 6 _ rfl)
        have x7 := (hb.cell (p := ⟨(ad'.add (k * 9)).block, (ad'.add (k * 9)).off + 7, none⟩) (by rw [block_of_add]; exact hbk')).trans (hcj 7 _ rfl)
        have x8 := (hb.cell (p := ⟨(ad'.add (k * 9)).block, (ad'.add (k * 9)).off + 8, none⟩) (by rw [block_of_add]; exact hbk')).trans (hcj 8 _ rfl)
        have HL' := Lib.hid hlk
        have HTK' := Lib.hid htk
        have HEQ := fun w => eqActV ⟨kd, ⟨six, hi, lo, pn⟩, hop, ⟨s2, h2, l2⟩⟩ ⟨kd', ⟨six', hi', lo', pn'⟩, hop', ⟨s2', h2', l2'⟩⟩ w
        have HBO := Lib.hid hb
        clear hlk htk hmem hc0 hcj hb
        by_cases he : (⟨kd, ⟨six, hi, lo, pn⟩, hop, ⟨s2, h2, l2⟩⟩ : ActV) = ⟨kd', ⟨six', hi', lo', pn'⟩, hop', ⟨s2', h2', l2'⟩⟩
        · have HN : Hid (l.take (k + 1) = l'.take (k + 1)) := by show _ = _; rw [HTK.out, HTK'.out, HT.out, he]
          rw [decide_eq_true he] at HEQ
          unfold ActV.val at HEQ
          simp only at HEQ
          clear he
          go_wp2
          go_quiet (fail)
          go_wp2
          go_roundw
          case rel => exact ⟨k + 1, by omega, by go_num, HN.out, drew_more HD2.out _⟩
          case measure => simp [intOf]; omega
        · have HN : Hid (d = false) := by
            show _ = _
            rw [HD.out, decide_eq_false_iff_not]
            intro h
            subst h
            rw [HL.out] at HL'
            have := HL'.out
            injection this with this
            exact he this
          rw [decide_eq_false he] at HEQ
          unfold ActV.val at HEQ
          simp only at HEQ
          clear he
          go_wp2
          go_quiet (fail)
          go_wp2
          go_ret
          exact ⟨by rw [HN.out]; rfl, drew_more HD2.out _⟩
      · obtain rfl : k = n := by omega
        have HN : Hid (d = true) := by
          show _ = _
          rw [HD.out, decide_eq_true_iff]
          have := HT.out
          rwa [List.take_of_length_le (by rw [HZ.out]; omega), List.take_of_length_le (by rw [HZ'.out]; omega)] at this
        go_wp2
        go_ret
        exact ⟨by rw [HN.out]; rfl, HD2.out⟩
  · have hd : decide (l = l') = false := by rw [decide_eq_false_iff_not]; intro h; subst h; omega
    rw [hd]
    have hne : ¬ (n : Int) = n' := by omega
    clear hz hz' hr hr' hd
    go_enter Try.func22, Try.ntmps22
    go_wp2
    go_ret
    exact ⟨rfl, 0, rfl⟩

end Go.Proofs.Ytnflaaoapmhjgaa

namespace Go.Proofs.Ytnflaaoapmhjgaa
open Go.ChangeShapes Go.WideShapes Go.ChangeAt Go.RowKit

structure DoneC where
  code : Int
  merged : Bool
  A : Option Addr
  n : Nat
  c : Nat
def DoneC.cells (e : DoneC) : List Value := [.int .i64 e.code, .bool e.merged, .slice e.A e.n e.c]
theorem DoneC.cells_length (e : DoneC) : e.cells.length = 3 := rfl
/-- A laid result and what it stands for. -/
structure DoneC.For (e : DoneC) (w : World) (d : DoneV) : Prop where
  code : e.code = d.code
  merged : e.merged = d.merged
  len : d.acts.length = e.n
  cap : e.n ≤ maxLen
  reads : Reads w w.heap.size 9 e.A e.n (d.acts.flatMap ActV.cells)
theorem RowsD.shape {w : World} {base : Nat} : ∀ {cs : List (List Value)} {ds : List DoneV}, RowsD w base cs ds → ∃ es : List DoneC, cs = es.map DoneC.cells ∧ es.length = ds.length ∧ ∀ (k : Nat) (e : DoneC) (d : DoneV), es[k]? = some e → ds[k]? = some d → e.For w d
  | [], [], _ => ⟨[], rfl, rfl, fun k e d h => by simp at h⟩
  | c :: cs, d :: ds, ⟨⟨v, h1, h2⟩, h3⟩ => by
    obtain ⟨es, rfl, hl, hall⟩ := h3.shape
    obtain ⟨A, cp, rfl, ⟨hc1, hc2⟩, hr⟩ := own_reads h2
    refine ⟨⟨d.code, d.merged, A, d.acts.length, cp⟩ :: es, by rw [h1]; rfl, by simp [hl], fun k e d' he hd => ?_⟩
    cases k with
    | zero =>
      simp at he hd
      subst he hd
      exact ⟨rfl, rfl, rfl, Nat.le_trans hc1 hc2, hr⟩
    | succ k => exact hall k e d' (by simpa using he) (by simpa using hd)
theorem DonesAt.shape {w : World} {base : Nat} {v : Value} {ds : List DoneV} (h : DonesAt w base v ds) : ∃ (A : Option Addr) (c : Nat) (es : List DoneC), v = .slice A ds.length c ∧ es.length = ds.length ∧ Reads w w.heap.size 3 A ds.length (es.flatMap DoneC.cells) ∧ ∀ (k : Nat) (e : DoneC) (d : DoneV), es[k]? = some e → ds[k]? = some d → e.For w d := by
  obtain ⟨cs, h1, h2⟩ := h.rows
  obtain ⟨es, rfl, hl, hall⟩ := h2.shape
  obtain ⟨A, c, rfl, -, hr⟩ := own_reads h1
  rw [List.flatMap_map] at hr
  exact ⟨A, c, es, rfl, hl, hr, hall⟩
theorem DonesAt.below {w w' : World} {base : Nat} {v : Value} {ds : List DoneV} (h : DonesAt w base v ds) (hb : Below w.heap.size w w') : DonesAt w' base v ds := by
  obtain ⟨cs, h1, h2⟩ := h.rows
  exact ⟨cs, own_below h1 hb, h2.keep fun g cs hg => hb.block g (Array.getElem?_eq_some_iff.1 hg).1⟩
def outD (n : Nat) (l : List JobV) : List DoneV := if 100 < n then [] else playD l []
def outE (n : Nat) : Int := if 100 < n then 1 else 0
theorem played_uni {w w' : World} {n : Nat} {l : List JobV} {e : Ending} (h : PlayedJ w n l e w') : ∃ v, e = .returned (.tuple #[v, .int .i64 (outE n)]) ∧ DonesAt w' w.heap.size v (outD n l) ∧ Below w.heap.size w w' := by
  unfold outD outE
  by_cases hn : 100 < n
  · rw [if_pos hn, if_pos hn]
    obtain ⟨h1, h2⟩ := h.1 hn
    exact ⟨_, h1, ⟨[], World.ownsRow_nil _ _ _ _, trivial⟩, h2⟩
  · rw [if_neg hn, if_neg hn]
    exact h.2 hn
theorem IsJobs.below {w w' : World} {A : Option Addr} {n : Nat} {l : List JobV} (h : IsJobs w A n l) (hb : Below w.heap.size w w') : IsJobs w' A n l := ⟨h.len, (h.reads.below hb).more hb.size, h.ok⟩
set_option maxRecDepth 100000 in
theorem open_jobs {H : Type} {enc : TypeId × Value → H} {W : World} {base : Nat} {sp : Nat → Bool} {held : Bool} {a0 : Option Addr} {len0 cap0 : Nat} {d : DataW H} {p : List MemPlace}
    (h : DataW.Trod enc Try.prog W base sp held 22 (.slice a0 len0 cap0) d p) : ∃ l : List JobV, IsJobs W a0 len0 l ∧ len0 ≤ cap0 ∧ cap0 ≤ maxLen := by
  have hk : flat Try.prog 9 122 = some [some .i64, some .i64, none, some .u64, some .u64, some .i64, some .i64, none, some .u64, some .u64, some .i64] := by kernel_rfl
  obtain ⟨css, hcl, hfit, hr, hl, hm⟩ := open_flats Try.underlying22 hk (by kernel_rfl) (by simp) h
  obtain ⟨l, rfl, hz⟩ := choose_list (f := JobV.cells) (Q := fun j => (0 ≤ j.act.p.hi ∧ j.act.p.hi < 18446744073709551616) ∧ (0 ≤ j.act.p.lo ∧ j.act.p.lo < 18446744073709551616)) css (fun cs hc => by
    have hf := hfit cs hc
    clear hr hcl hfit
    obtain ⟨jk, _, rfl, _, hf1⟩ := hf.int_inv
    obtain ⟨kd, _, rfl, _, hf2⟩ := hf1.int_inv
    obtain ⟨six, _, rfl, hf3⟩ := hf2.bool_inv
    obtain ⟨hi, _, rfl, wy, hf4⟩ := hf3.int_inv
    obtain ⟨lo, _, rfl, wz, hf5⟩ := hf4.int_inv
    obtain ⟨m, _, rfl, _, hf6⟩ := hf5.int_inv
    obtain ⟨hop, _, rfl, _, hf7⟩ := hf6.int_inv
    obtain ⟨six2, _, rfl, hf8⟩ := hf7.bool_inv
    obtain ⟨hi2, _, rfl, _, hf9⟩ := hf8.int_inv
    obtain ⟨lo2, _, rfl, _, hf10⟩ := hf9.int_inv
    obtain ⟨jn, _, rfl, _, hf11⟩ := hf10.int_inv
    obtain rfl := hf11.nil_inv
    exact ⟨⟨jk, ⟨kd, ⟨six, hi, lo, m⟩, hop, ⟨six2, hi2, lo2⟩⟩, jn⟩, ⟨range_u64 wy, range_u64 wz⟩, rfl⟩)
  exact ⟨l, ⟨by simpa using hcl, by rw [List.flatMap_def]; exact hr, hz⟩, hl, hm⟩

set_option maxRecDepth 100000 in
set_option maxHeartbeats 1600000 in
theorem queuePlays_core {W : World} {a0 : Option Addr} {n c : Nat} {l : List JobV} (hr : IsJobs W a0 n l) (hc : n ≤ c ∧ c ≤ maxLen)
    (hRef : ∀ w, Below W.heap.size W w → Calls Try.prog 21 #[.slice a0 n c] w (PlayedJ w n l)) :
    Calls Try.prog 3 #[.slice a0 n c] W fun e W' => e = .returned (.bool true) ∧ Below W.heap.size W W' := by
  have C1 := Lib.hid (fun (w : World) (hb : Below W.heap.size W w) => play_any (hr.below hb) hc)
  have C2 := Lib.hid hRef
  have hlen : (outD n l).length ≤ 100 := by
    unfold outD
    by_cases h : 100 < n
    · rw [if_pos h]; exact Nat.zero_le _
    · rw [if_neg h, playD_length, hr.len]; omega
  clear hr hRef hc
  go_enter Try.func3, Try.ntmps3
  go_wp2_with fail
  refine (C1.out _ (Below.refl _ _)).mono ?_
  intro e w1 hp1
  obtain ⟨v1, rfl, hd1, hb1⟩ := played_uni hp1
  obtain ⟨A1, c1, es1, rfl, -, -, -⟩ := hd1.shape
  have HD1 := Lib.hid hd1
  have HB1 := Lib.hid hb1
  clear hp1 hd1 hb1
  go_wp2_with fail
  refine (C2.out _ HB1.out).mono ?_
  intro e w2 hp2
  obtain ⟨v2, rfl, hd2, hb2⟩ := played_uni hp2
  obtain ⟨A2, c2, es2, rfl, hl2, hr2, hf2⟩ := hd2.shape
  obtain ⟨_, _, es1, e1, hl1, hr1, hf1⟩ := (HD1.out.below hb2).shape
  injection e1 with e1 e2 e3
  subst e1 e3
  have HB2 := Lib.hid (below_step HB1.out hb2)
  obtain ⟨ds, hds⟩ : ∃ ds, outD n l = ds := ⟨_, rfl⟩
  rw [hds] at hl1 hl2 hr1 hr2 hf1 hf2 hlen ⊢
  obtain ⟨N, hN⟩ : ∃ N, ds.length = N := ⟨_, rfl⟩
  rw [hN] at hl1 hl2 hr1 hr2 hlen ⊢
  have HN := Lib.hid hN
  have HL1 := Lib.hid hl1
  have HL2 := Lib.hid hl2
  have HR1 := Lib.hid hr1
  have HR2 := Lib.hid hr2
  have HF1 := Lib.hid hf1
  have HF2 := Lib.hid hf2
  obtain ⟨EE, hE⟩ : ∃ EE, outE n = EE := ⟨_, rfl⟩
  rw [hE]
  clear hp2 hd2 hb2 hds hN hl1 hl2 hr1 hr2 hf1 hf2 HD1 hE e2 C1 C2
  go_wp2
  go_loopw [7] (fun i wr => ∃ k : Nat, k ≤ N ∧ i = .int .i64 k ∧ Below w2.heap.size w2 wr) (fun i _ => N - (intOf i).toNat)
  case atStart => exact ⟨0, by omega, rfl, Below.refl _ _⟩
  case round =>
    obtain ⟨k, hk, rfl, hb⟩ := hrel
    obtain ⟨wo, rfl⟩ : ∃ wo : World, wo = wr := ⟨_, rfl⟩
    have HB := Lib.hid hb
    by_cases hlt : k < N
    · obtain ⟨ad, ⟨cd, mg, Aa, na, ca⟩, rfl, hlk, htk, hmem, hbk, hc0, hcj⟩ := HR1.out.atS DoneC.cells_length HL1.out hlt
      have q0 := (hb.cell (p := ad.add (k * 3)) (by rw [block_of_add]; exact hbk)).trans (hc0 _ rfl)
      have q1 := (hb.cell (p := ⟨(ad.add (k * 3)).block, (ad.add (k * 3)).off + 1, none⟩) (by rw [block_of_add]; exact hbk)).trans (hcj 1 _ rfl)
      have q2 := (hb.cell (p := ⟨(ad.add (k * 3)).block, (ad.add (k * 3)).off + 2, none⟩) (by rw [block_of_add]; exact hbk)).trans (hcj 2 _ rfl)
      have hlk1 := hlk
      clear hlk htk hmem hc0 hcj
      obtain ⟨ad', ⟨cd', mg', Ab, nb, cb⟩, rfl, hlk, htk, hmem, hbk', hc0, hcj⟩ := HR2.out.atS DoneC.cells_length HL2.out hlt
      have x0 := (hb.cell (p := ad'.add (k * 3)) (by rw [block_of_add]; exact hbk')).trans (hc0 _ rfl)
      have x1 := (hb.cell (p := ⟨(ad'.add (k * 3)).block, (ad'.add (k * 3)).off + 1, none⟩) (by rw [block_of_add]; exact hbk')).trans (hcj 1 _ rfl)
      have x2 := (hb.cell (p := ⟨(ad'.add (k * 3)).block, (ad'.add (k * 3)).off + 2, none⟩) (by rw [block_of_add]; exact hbk')).trans (hcj 2 _ rfl)
      have hd : ds[k]? = some (ds[k]'(by rw [HN.out]; exact hlt)) := List.getElem?_eq_getElem _
      obtain ⟨D, hD⟩ : ∃ D, ds[k]'(by rw [HN.out]; exact hlt) = D := ⟨_, rfl⟩
      rw [hD] at hd
      have F1 := HF1.out k _ D hlk1 hd
      have F2 := HF2.out k _ D hlk hd
      obtain rfl : cd = cd' := F1.code.trans F2.code.symm
      obtain rfl : mg = mg' := F1.merged.trans F2.merged.symm
      have CS := Lib.hid (fun dd => sameActs_quiet Aa Ab na ca nb cb D.acts D.acts (wo.drewN dd) F1.len F2.len F1.cap F2.cap ((((F1.reads.below HB.out).more HB.out.size)).drewN dd) ((((F2.reads.below HB.out).more HB.out.size)).drewN dd))
      rw [decide_eq_true rfl] at CS
      clear hlk htk hmem hc0 hcj hlk1 hd hD F1 F2 hb
      go_wp2
      go_quiet ((go_at_call 22; exact Calls.quiet_of (CS.out _)))
      go_wp2
      go_roundw
      case rel => exact ⟨k + 1, by omega, by go_num, below_drewN HB.out _⟩
      case measure => simp [intOf]; omega
    · obtain rfl : k = N := by omega
      go_wp2
      go_ret
      exact ⟨rfl, below_step HB2.out HB.out⟩

end Go.Proofs.Ytnflaaoapmhjgaa
