/-
  
  
  
-/
import Derived.Test.YtnflaaoapmhjgaaC13
import Derived.Test.YtnflaaoapmhjgaaC2
import Derived.Test.YtnflaaoapmhjgaaC7
import Derived.Deep.CutBlock
import Derived.Test.YtnflaaoapmhjgaaC12
import Derived.Test.YtnflaaoapmhjgaaC10
namespace Go.Proofs.Ytnflaaoapmhjgaa
open Go.ChangeShapes Go.WideShapes Go.ChangeAt Go.RowKit

/-- What waits, as a slice that is only read. -/
structure WaitAt (w : World) (A : Option Addr) (m c : Nat) (q : List ActV) : Prop where
  len : q.length = m
  cap : m ≤ c ∧ c ≤ maxLen
  reads : Reads w w.heap.size 9 A m (q.flatMap ActV.cells)
  typ : 0 < m → ∀ ad, A = some ad → ∃ cs, w.heap[ad.block]? = some (Obj.cells cs 117)
theorem WaitAt.keep {w w' : World} {A : Option Addr} {m c : Nat} {q : List ActV} (h : WaitAt w A m c q) (hk : KeepT 117 w w') (hs : w.heap.size ≤ w'.heap.size) : WaitAt w' A m c q := by
  refine ⟨h.len, h.cap, ⟨h.reads.1, fun hm => ?_⟩, fun hm ad hA => ?_⟩
  · obtain ⟨ad, rfl, hb, hc⟩ := h.reads.2 hm
    obtain ⟨cs, hcs⟩ := h.typ hm ad rfl
    refine ⟨ad, rfl, by omega, fun j u hj => ?_⟩
    rw [← hc j u hj]
    exact World.cell?_of_block (by rw [block_of_add]; exact hk _ _ hcs)
  · obtain ⟨cs, hcs⟩ := h.typ hm ad hA
    exact ⟨cs, (hk _ _ hcs).trans hcs⟩

theorem blk_two (w : World) (o : Obj) (t : TypeId) (cs : Array Value) : Blk ((w.alloc o).alloc (.cells cs t)) (w.heap.size + 1) t cs := by
  have := Blk.new (w.alloc o) t cs
  rwa [World.size_alloc] at this
theorem drop_min (q : List ActV) (N : Nat) : q.drop N = q.drop (min N q.length) := by
  by_cases h : N ≤ q.length
  · rw [Nat.min_eq_left h]
  · rw [Nat.min_eq_right (by omega), List.drop_eq_nil_of_le (by omega), List.drop_length]
theorem acts_one (l : List ActV) : ∀ u ∈ l.flatMap ActV.cells, u.oneCell' = true := by
  intro u hu
  obtain ⟨a, _, ha⟩ := List.mem_flatMap.1 hu
  exact act_one a u ha
theorem flat_drop (q : List ActV) {z : Nat} (hz : z ≤ q.length) : (q.flatMap ActV.cells).drop (z * 9) = (q.drop z).flatMap ActV.cells := by
  have e : q.flatMap ActV.cells = (q.take z).flatMap ActV.cells ++ (q.drop z).flatMap ActV.cells := by rw [← List.flatMap_append, List.take_append_drop]
  have hl : ((q.take z).flatMap ActV.cells).length = z * 9 := by rw [flat_len, List.length_take, Nat.min_eq_left hz]
  rw [e, ← hl, List.drop_left]
theorem WaitAt.tail0 {w : World} {ab : Addr} {m cw z : Nat} {q : List ActV} (h : WaitAt w (some ab) m cw q) (hz : z ≤ m) (he : cw = z) : WaitAt w (some ab) (m - z) 0 (q.drop z) := by
  have hm := h.cap.1
  have e0 : m - z = 0 := by omega
  have ed : q.drop z = [] := List.drop_eq_nil_of_le (by rw [h.len]; omega)
  rw [e0, ed]
  exact ⟨rfl, ⟨Nat.le_refl _, Nat.zero_le _⟩, ⟨rfl, fun hh => absurd hh (by omega)⟩, fun hh => absurd hh (by omega)⟩
theorem WaitAt.tail1 {w : World} {ab : Addr} {m cw z : Nat} {q : List ActV} (h : WaitAt w (some ab) m cw q) (hz : z ≤ m) (he : ¬ cw = z) : WaitAt w (some (ab.add (z * 9))) (m - z) (cw - z) (q.drop z) := by
  have hc := h.cap
  have hr := h.reads.cut hz hc.1
  rw [if_neg he, flat_drop q (by rw [h.len]; exact hz)] at hr
  refine ⟨by rw [List.length_drop, h.len], ⟨by omega, by omega⟩, hr, fun hp ad' hA => ?_⟩
  injection hA with hA
  rw [← hA, block_of_add]
  exact h.typ (by omega) _ rfl
def Met1 (w wo : World) (q : List ActV) (jv : JobV) (wt : Value) (wx : World) : Prop :=
  ∃ (Ax : Option Addr) (mx cx : Nat) (Ad : Option Addr) (la ca : Nat), wt = .slice Ax mx cx ∧ WaitAt wx Ax mx cx (jobQ q jv) ∧ Blk wx (wo.heap.size + 1) 29 #[.int .i64 (jobD q jv).code, .bool (jobD q jv).merged, .slice Ad la ca] ∧ la = (jobD q jv).acts.length ∧ wx.ownsRow w.heap.size 117 9 (.slice Ad la ca) la ((jobD q jv).acts.flatMap ActV.cells) ∧ Below wo.heap.size wo wx
theorem quiet_fin {w wo wx : World} {Aw : Option Addr} {m cw : Nat} {q : List ActV} {jv : JobV} {code : Int} {mg : Bool} (hw : WaitAt wo Aw m cw q) (hd : jobD q jv = ⟨code, mg, []⟩) (hq : jobQ q jv = q) (hbx : Below wo.heap.size wo wx)
    (hblk : Blk wx (wo.heap.size + 1) 29 #[.int .i64 code, .bool mg, .slice none 0 0]) : Met1 w wo q jv (.slice Aw m cw) wx := by
  unfold Met1
  rw [hd, hq]
  exact ⟨Aw, m, cw, none, 0, 0, rfl, hw.keep (KeepT.of_below hbx) hbx.size, hblk, rfl, World.ownsRow_nil _ _ _ _, hbx⟩
theorem WaitAt.of_own {w : World} {base : Nat} {v : Value} {q : List ActV} (h : w.ownsRow base 117 9 v q.length (q.flatMap ActV.cells)) : ∃ A c, v = .slice A q.length c ∧ WaitAt w A q.length c q := by
  obtain ⟨A, c, rfl, hc, hr⟩ := own_reads h
  refine ⟨A, c, rfl, rfl, hc, hr, fun hm ad hA => ?_⟩
  subst hA
  rcases h.2 with ⟨hv, _⟩ | ⟨g, cap, cur, hv, _, hh, _⟩
  · injection hv with h1; cases h1
  · injection hv with h1
    injection h1 with h1
    subst h1
    exact ⟨_, hh⟩
theorem push_fin {w wo wx : World} {base : Nat} {v : Value} {q q' : List ActV} {jv : JobV} {mg : Bool} (hown : wx.ownsRow base 117 9 v q'.length (q'.flatMap ActV.cells)) (hd : jobD q jv = ⟨0, mg, []⟩) (hq : jobQ q jv = q') (hbx : Below wo.heap.size wo wx)
    (hblk : Blk wx (wo.heap.size + 1) 29 #[.int .i64 0, .bool mg, .slice none 0 0]) : Met1 w wo q jv v wx := by
  obtain ⟨A, c, rfl, hw⟩ := WaitAt.of_own hown
  unfold Met1
  rw [hd, hq]
  exact ⟨A, q'.length, c, none, 0, 0, rfl, hw, hblk, rfl, World.ownsRow_nil _ _ _ _, hbx⟩
theorem set_flat {q : List ActV} {u : Nat} {a : ActV} (hu : u < q.length) : (q.set u a).flatMap ActV.cells = ((q.take u).flatMap ActV.cells ++ a.cells) ++ (q.drop (u + 1)).flatMap ActV.cells := by
  rw [List.set_eq_take_append_cons_drop, if_pos hu, List.flatMap_append, List.flatMap_cons, List.append_assoc]
theorem WaitAt.head {w : World} {A : Option Addr} {m cw u : Nat} {q : List ActV} (h : WaitAt w A m cw q) (hu : u ≤ m) : Reads w w.heap.size 9 A u ((q.take u).flatMap ActV.cells) := h.reads.front ActV.cells_length h.len hu

set_option maxRecDepth 100000 in
set_option maxHeartbeats 3200000 in
theorem refPlay_any {w : World} {A : Option Addr} {n c : Nat} {l : List JobV} (h : IsJobs w A n l) (hc : n ≤ c ∧ c ≤ maxLen) :
    Calls Try.prog 21 #[.slice A n c] w (PlayedJ w n l) := by
  have HZ := Lib.hid h.len
  have HR := Lib.hid h.reads
  have HOK := Lib.hid h.ok
  have hcm := hc.2
  unfold maxLen at hcm
  clear h hc
  obtain ⟨post, hpost⟩ : ∃ post, PlayedJ w n l = post := ⟨_, rfl⟩
  have HP := Lib.hid hpost
  rw [hpost]
  clear hpost
  by_cases h100 : 100 < n
  · have d1 : decide (100 < (n : Int)) = true := by simp; omega
    go_enter Try.func21, Try.ntmps21
    go_wp2
    rw [← HP.out]
    exact ⟨fun _ => ⟨rfl, Below.refl _ _⟩, fun hn => absurd h100 hn⟩
  · have d1 : decide (100 < (n : Int)) = false := by simp; omega
    go_enter Try.func21, Try.ntmps21
    go_wp2
    go_loopw [20, 4, 5] (fun i wt v wr => ∃ (k : Nat) (Aw : Option Addr) (m cw : Nat), k ≤ n ∧ i = .int .i64 k ∧ wt = .slice Aw m cw ∧ WaitAt wr Aw m cw (playQ (l.take k) []) ∧ DonesAt wr w.heap.size v (playD (l.take k) []) ∧ Below w.heap.size w wr) (fun i _ _ _ => n - (intOf i).toNat)
    case atStart => exact ⟨0, none, 0, 0, by omega, rfl, rfl, ⟨rfl, ⟨Nat.le_refl _, Nat.zero_le _⟩, Reads.none_, fun h => absurd h (by omega)⟩, ⟨[], World.ownsRow_nil _ _ _ _, trivial⟩, Below.refl _ _⟩
    case round =>
      obtain ⟨k, Aw, m, cw, hk, rfl, rfl, hwt, hrow, hb⟩ := hrel
      obtain ⟨wo, rfl⟩ : ∃ wo : World, wo = wr := ⟨_, rfl⟩
      have HWT := Lib.hid hwt
      have HRW := Lib.hid hrow
      have HB := Lib.hid hb
      have hszb := hb.size
      have hmc := hwt.cap
      unfold maxLen at hmc
      clear hwt hrow
      by_cases hlt : k < n
      · obtain ⟨ad, ⟨jk, ⟨kd, ⟨six, hi, lo, n0⟩, hop, ⟨six2, hi2, lo2⟩⟩, jn⟩, rfl, hlk, htk, hmem, hbk, hc0, hcj⟩ := HR.out.atS JobV.cells_length HZ.out hlt
        have q0 := (hb.cell (p := ad.add (k * 11)) (by rw [block_of_add]; exact hbk)).trans (hc0 _ rfl)
        have q1 := (hb.cell (p := ⟨(ad.add (k * 11)).block, (ad.add (k * 11)).off + 1, none⟩) (by rw [block_of_add]; exact hbk)).trans (hcj 1 _ rfl)
        have q2 := (hb.cell (p := ⟨(ad.add (k * 11)).block, (ad.add (k * 11)).off + 2, none⟩) (by rw [block_of_add]; exact hbk)).trans (hcj 2 _ rfl)
        have q3 := (hb.cell (p := ⟨(ad.add (k * 11)).block, (ad.add (k * 11)).off + 3, none⟩) (by rw [block_of_add]; exact hbk)).trans (hcj 3 _ rfl)
        have q4 := (hb.cell (p := ⟨(ad.add (k * 11)).block, (ad.add (k * 11)).off + 4, none⟩) (by rw [block_of_add]; exact hbk)).trans (hcj 4 _ rfl)
        have q5 := (hb.cell (p := ⟨(ad.add (k * 11)).block, (ad.add (k * 11)).off + 5, none⟩) (by rw [block_of_add]; exact hbk)).trans (hcj 5 _ rfl)
        have q6 := (hb.cell (p := ⟨(ad.add (k * 11)).block, (ad.add (k * 11)).off + 6, none⟩) (by rw [block_of_add]; exact hbk)).trans (hcj 6 _ rfl)
        have q7 := (hb.cell (p := ⟨(ad.add (k * 11)).block, (ad.add (k * 11)).off + 7, none⟩) (by rw [block_of_add]; exact hbk)).trans (hcj 7 _ rfl)
        have q8 := (hb.cell (p := ⟨(ad.add (k * 11)).block, (ad.add (k * 11)).off + 8, none⟩) (by rw [block_of_add]; exact hbk)).trans (hcj 8 _ rfl)
        have q9 := (hb.cell (p := ⟨(ad.add (k * 11)).block, (ad.add (k * 11)).off + 9, none⟩) (by rw [block_of_add]; exact hbk)).trans (hcj 9 _ rfl)
        have q10 := (hb.cell (p := ⟨(ad.add (k * 11)).block, (ad.add (k * 11)).off + 10, none⟩) (by rw [block_of_add]; exact hbk)).trans (hcj 10 _ rfl)
        obtain ⟨o1, o2⟩ := HOK.out _ hmem
        simp only at o1 o2
        have HTK := Lib.hid htk
        clear hlk htk hmem hc0 hcj hb hbk
        obtain ⟨q, hq⟩ : ∃ q, playQ (l.take k) [] = q := ⟨_, rfl⟩
        have HQ := Lib.hid hq
        have hG : GoodQ q := by rw [← hq]; exact good_play (q := []) ⟨by simp, by simp⟩ _
        have HG := Lib.hid hG
        rw [hq] at HWT
        clear hq hG
        have hlk : (playD (l.take k) []).length = k := by rw [playD_length, List.length_take, HZ.out]; omega
        have HLK := Lib.hid hlk
        clear hlk
        obtain ⟨jv, hjv⟩ : ∃ jv : JobV, (⟨jk, ⟨kd, ⟨six, hi, lo, n0⟩, hop, ⟨six2, hi2, lo2⟩⟩, jn⟩ : JobV) = jv := ⟨_, rfl⟩
        rw [hjv] at HTK
        have HJV := Lib.hid hjv
        clear hjv
        go_upto_block 2 with fail
        go_cut [4] (fun wt wx => Met1 w wo q jv wt wx)
        case first =>
          by_cases h1 : jk = 1
          · subst h1
            have HEQs := fun w (x : PV) => eqPV x ⟨six, hi, lo, n0⟩ w
            unfold PV.val at HEQs
            have HEQH := Lib.hid HEQs
            clear HEQs
            go_wp2
            obtain ⟨Y, hY⟩ : ∃ Y : World, Y = ((wo.alloc (.cells #[.int .i64 1, .int .i64 kd, .bool six, .int .u64 hi, .int .u64 lo, .int .i64 n0, .int .i64 hop, .bool six2, .int .u64 hi2, .int .u64 lo2, .int .i64 jn] 122)).alloc (.cells #[.int .i64 0, .bool false, .slice none 0 0] 29)).alloc (.cells #[.int .i64 kd, .bool six, .int .u64 hi, .int .u64 lo, .int .i64 n0, .int .i64 hop, .bool six2, .int .u64 hi2, .int .u64 lo2] 117) := ⟨_, rfl⟩
            have hYs : Y.heap.size = wo.heap.size + 1 + 1 + 1 := by rw [hY]; simp
            have hbY : Below wo.heap.size wo Y := by rw [hY]; exact (((Below.refl _ _).alloc (Nat.le_refl _) _).alloc (by simp) _).alloc (by simp; omega) _
            rw [← hY]
            have HYE := Lib.hid hY
            have HBY := Lib.hid hbY
            have HWY := Lib.hid (HWT.out.keep (KeepT.of_below hbY) hbY.size)
            have hkj : Blk Y (wo.heap.size + 1) 29 #[.int .i64 0, .bool false, .slice none 0 0] := by rw [hY]; exact (blk_two _ _ _ _).alloc _
            have hka : Blk Y (wo.heap.size + 1 + 1) 117 #[.int .i64 kd, .bool six, .int .u64 hi, .int .u64 lo, .int .i64 n0, .int .i64 hop, .bool six2, .int .u64 hi2, .int .u64 lo2] := by
              rw [hY]
              have := Blk.new ((wo.alloc (.cells #[.int .i64 1, .int .i64 kd, .bool six, .int .u64 hi, .int .u64 lo, .int .i64 n0, .int .i64 hop, .bool six2, .int .u64 hi2, .int .u64 lo2, .int .i64 jn] 122)).alloc (.cells #[.int .i64 0, .bool false, .slice none 0 0] 29)) 117 #[.int .i64 kd, .bool six, .int .u64 hi, .int .u64 lo, .int .i64 n0, .int .i64 hop, .bool six2, .int .u64 hi2, .int .u64 lo2]
              rwa [World.size_alloc, World.size_alloc] at this
            have HKJ := Lib.hid hkj
            have HKA := Lib.hid hka
            clear hY hbY hkj hka
            go_loopw [45, 10] (fun i at_ wr => ∃ (t : Nat) (z : Int), t ≤ m ∧ i = .int .i64 t ∧ at_ = .int .i64 z ∧ ((z = -1 ∧ ∀ (i' : Nat) (x : ActV), i' < t → q[i']? = some x → ¬ x.p = ⟨six, hi, lo, n0⟩) ∨ ∃ (u : Nat) (x : ActV), z = (u : Int) ∧ u < t ∧ q[u]? = some x ∧ x.p = ⟨six, hi, lo, n0⟩) ∧ Below Y.heap.size Y wr) (fun i _ _ => m - (intOf i).toNat)
            case atStart => exact ⟨0, -1, by omega, rfl, rfl, .inl ⟨rfl, fun i' x h => by omega⟩, Below.refl _ _⟩
            case round =>
              obtain ⟨t, z, ht, rfl, rfl, hat, hbr⟩ := hrel
              obtain ⟨wi, rfl⟩ : ∃ wi : World, wi = wr := ⟨_, rfl⟩
              have HAT := Lib.hid hat
              have HBR := Lib.hid hbr
              have hszi := hbr.size
              have hki := HKA.out.below hbr HKA.out.lt
              have hlt2 : wo.heap.size + 1 + 1 < wi.heap.size := by omega
              have a1 := hki.cell 1
              have a2 := hki.cell 2
              have a3 := hki.cell 3
              have a4 := hki.cell 4
              simp at a1 a2 a3 a4
              clear hat
              by_cases hti : t < m
              · obtain ⟨ax, ⟨xk, ⟨xs, xh, xl, xn⟩, xo, ⟨xs2, xh2, xl2⟩⟩, rfl, hlk, -, -, hbk, hc0, hcj⟩ := HWY.out.reads.atS ActV.cells_length HWY.out.len hti
                have y0 := (hbr.cell (p := ax.add (t * 9)) (by rw [block_of_add]; exact hbk)).trans (hc0 _ rfl)
                have y1 := (hbr.cell (p := ⟨(ax.add (t * 9)).block, (ax.add (t * 9)).off + 1, none⟩) (by rw [block_of_add]; exact hbk)).trans (hcj 1 _ rfl)
                have y2 := (hbr.cell (p := ⟨(ax.add (t * 9)).block, (ax.add (t * 9)).off + 2, none⟩) (by rw [block_of_add]; exact hbk)).trans (hcj 2 _ rfl)
                have y3 := (hbr.cell (p := ⟨(ax.add (t * 9)).block, (ax.add (t * 9)).off + 3, none⟩) (by rw [block_of_add]; exact hbk)).trans (hcj 3 _ rfl)
                have y4 := (hbr.cell (p := ⟨(ax.add (t * 9)).block, (ax.add (t * 9)).off + 4, none⟩) (by rw [block_of_add]; exact hbk)).trans (hcj 4 _ rfl)
                have y5 := (hbr.cell (p := ⟨(ax.add (t * 9)).block, (ax.add (t * 9)).off + 5, none⟩) (by rw [block_of_add]; exact hbk)).trans (hcj 5 _ rfl)
                have y6 := (hbr.cell (p := ⟨(ax.add (t * 9)).block, (ax.add (t * 9)).off + 6, none⟩) (by rw [block_of_add]; exact hbk)).trans (hcj 6 _ rfl)
                have y7 := (hbr.cell (p := ⟨(ax.add (t * 9)).block, (ax.add (t * 9)).off + 7, none⟩) (by rw [block_of_add]; exact hbk)).trans (hcj 7 _ rfl)
                have y8 := (hbr.cell (p := ⟨(ax.add (t * 9)).block, (ax.add (t * 9)).off + 8, none⟩) (by rw [block_of_add]; exact hbk)).trans (hcj 8 _ rfl)
                have HLKI := Lib.hid hlk
                have HEQ := fun w => HEQH.out w ⟨xs, xh, xl, xn⟩
                simp only at HEQ
                clear hlk hbk hc0 hcj hbr hki
                by_cases he : (⟨xs, xh, xl, xn⟩ : PV) = ⟨six, hi, lo, n0⟩
                · rw [decide_eq_true he] at HEQ
                  have HEE := Lib.hid he
                  clear he
                  go_wp2
                  go_roundw
                  case rel => exact ⟨t + 1, (t : Int), by omega, by go_num, rfl, .inr ⟨t, _, rfl, by omega, HLKI.out, HEE.out⟩, HBR.out.alloc (by omega) _⟩
                  case measure => simp [intOf]; omega
                · rw [decide_eq_false he] at HEQ
                  have HEE := Lib.hid he
                  clear he
                  go_wp2
                  go_roundw
                  case rel =>
                    refine ⟨t + 1, z, by omega, by go_num, rfl, ?_, HBR.out.alloc (by omega) _⟩
                    rcases HAT.out with ⟨hz, hn⟩ | ⟨u, x, h1, h2, h3, h4⟩
                    · refine .inl ⟨hz, fun i' x hi hx => ?_⟩
                      by_cases hit : i' < t
                      · exact hn i' x hit hx
                      · obtain rfl : i' = t := by omega
                        rw [HLKI.out] at hx
                        injection hx with hx
                        rw [← hx]
                        exact HEE.out
                    · exact .inr ⟨u, x, h1, by omega, h3, h4⟩
                  case measure => simp [intOf]; omega
              · obtain rfl : t = m := by omega
                have CF := Lib.hid (fun w => preFault_any six hi lo n0 w o1 o2)
                obtain ⟨ck, hck⟩ : ∃ ck, chk six hi lo n0 = ck := ⟨_, rfl⟩
                rw [hck] at CF
                have hfa : faultA ⟨kd, ⟨six, hi, lo, n0⟩, hop, ⟨six2, hi2, lo2⟩⟩ = if ¬ (kd = 1 ∨ kd = 2) then 3 else if ¬ ck = 0 then ck else if kd = 1 ∧ (hop < 1 ∨ 999 < hop) then 2 else 0 := by rw [← hck]; rfl
                have HFA := Lib.hid hfa
                clear hck hfa
                go_wp2_with fail
                refine (CF.out _).mono ?_
                rintro e V ⟨rfl, hbv⟩
                have hkd := (HKJ.out.below hbr HKJ.out.lt).below hbv (by omega)
                have hkv := hki.below hbv hki.lt
                have HKD := Lib.hid hkd
                have HKV := Lib.hid hkv
                have HWV := Lib.hid ((HWY.out.keep (KeepT.of_below hbr) hbr.size).keep (KeepT.of_below hbv) hbv.size)
                have HBV : Hid (Below wo.heap.size wo V) := HBY.out.trans ((hbr.trans (hbv.mono hbr.size)).mono HBY.out.size)
                have e0 := hkv.cell 0
                have e1 := hkv.cell 1
                have e2 := hkv.cell 2
                have e3 := hkv.cell 3
                have e4 := hkv.cell 4
                have e5 := hkv.cell 5
                have e6 := hkv.cell 6
                have e7 := hkv.cell 7
                have e8 := hkv.cell 8
                have k0 := hkd.cell 0
                have k1 := hkd.cell 1
                have k2 := hkd.cell 2
                have f0 := hkd.frozen 0
                have f1 := hkd.frozen 1
                have f2 := hkd.frozen 2
                simp at e0 e1 e2 e3 e4 e5 e6 e7 e8 k0 k1 k2
                clear hbr hbv hki hkd hkv a1 a2 a3 a4 CF hszi hlt2
                by_cases hkk : kd = 1 ∨ kd = 2
                · by_cases hck : ck = 0
                  · subst hck
                    by_cases hh : kd = 1 ∧ (hop < 1 ∨ 999 < hop)
                    · obtain ⟨rfl, hh⟩ := hh
                      have hfa : faultA ⟨1, ⟨six, hi, lo, n0⟩, hop, ⟨six2, hi2, lo2⟩⟩ = 2 := by rw [HFA.out, if_neg (by simp), if_neg (by simp), if_pos ⟨rfl, hh⟩]
                      have HFA := Lib.hid hfa
                      have hd : jobD q jv = ⟨2, false, []⟩ := by rw [← HJV.out]; unfold jobD; rw [if_pos rfl, if_pos (by rw [HFA.out]; simp), HFA.out]
                      have hu : jobQ q jv = q := by rw [← HJV.out]; unfold jobQ; rw [if_pos rfl, if_pos (by rw [HFA.out]; simp)]
                      have HD := Lib.hid hd
                      have HU := Lib.hid hu
                      clear hkk hfa hd hu
                      by_cases c1 : hop < 1
                      · have d3 : decide (hop < 1) = true := by simpa using c1
                        clear hh c1
                        go_wp2
                        go_meet
                        case rel => exact quiet_fin HWT.out HD.out HU.out (HBV.out.setCell (by simp) _) (HKD.out.set_ 0 _)
                      · have d3 : decide (hop < 1) = false := by simpa using c1
                        have d4 : decide (999 < hop) = true := by simp; omega
                        clear hh c1
                        go_wp2
                        go_meet
                        case rel => exact quiet_fin HWT.out HD.out HU.out (HBV.out.setCell (by simp) _) (HKD.out.set_ 0 _)
                    · have hf0 : faultA ⟨kd, ⟨six, hi, lo, n0⟩, hop, ⟨six2, hi2, lo2⟩⟩ = 0 := by rw [HFA.out, if_neg (fun h => h hkk), if_neg (by simp), if_neg hh]
                      have HF0 := Lib.hid hf0
                      have key : (kd = 1 ∧ decide (hop < 1) = false ∧ decide (999 < hop) = false) ∨ kd = 2 := by
                        rcases hkk with h | h
                        · exact .inl ⟨h, by simp; omega, by simp; omega⟩
                        · exact .inr h
                      clear hf0 hh hkk HFA
                      obtain ⟨aV, haV⟩ : ∃ aV : ActV, aV = ⟨kd, ⟨six, hi, lo, n0⟩, hop, ⟨six2, hi2, lo2⟩⟩ := ⟨_, rfl⟩
                      have HAC : Hid (aV.cells = [.int .i64 kd, .bool six, .int .u64 hi, .int .u64 lo, .int .i64 n0, .int .i64 hop, .bool six2, .int .u64 hi2, .int .u64 lo2]) := by show _ = _; rw [haV]; rfl
                      have HAE := Lib.hid haV
                      clear haV
                      rcases key with ⟨rfl, d3, d4⟩ | rfl
                      all_goals
                        rcases HAT.out with ⟨rfl, hno⟩ | ⟨u, x, rfl, hux, hqx, hxp⟩
                        · have HNW := Lib.hid (has_none (q := q) (p := ⟨six, hi, lo, n0⟩) fun i' y hy => hno i' y (by rw [← HWT.out.len]; exact (List.getElem?_eq_some_iff.1 hy).1) hy)
                          clear hno
                          by_cases h7 : 7 < t
                          · have d7 : decide ((7 : Int) < (t : Int)) = true := by simp; omega
                            have hd : jobD q jv = ⟨9, false, []⟩ := by rw [← HJV.out]; unfold jobD; rw [if_pos rfl, if_neg (by rw [HF0.out]; simp), if_neg (by simp only; rw [HNW.out]; simp), if_pos (by rw [HWT.out.len]; omega)]
                            have hu : jobQ q jv = q := by rw [← HJV.out]; unfold jobQ; rw [if_pos rfl, if_neg (by rw [HF0.out]; simp), if_neg (by simp only; rw [HNW.out]; simp), if_pos (by rw [HWT.out.len]; omega)]
                            have HD := Lib.hid hd
                            have HU := Lib.hid hu
                            clear hd hu
                            go_wp2
                            go_meet
                            case rel => exact quiet_fin HWT.out HD.out HU.out (HBV.out.setCell (by simp) _) (HKD.out.set_ 0 _)
                          · have d7 : decide ((7 : Int) < (t : Int)) = false := by simp; omega
                            have hd : jobD q jv = ⟨0, false, []⟩ := by rw [← HJV.out]; unfold jobD; rw [if_pos rfl, if_neg (by rw [HF0.out]; simp), if_neg (by simp only; rw [HNW.out]; simp), if_neg (by rw [HWT.out.len]; omega)]
                            have hu : jobQ q jv = q ++ [aV] := by rw [← HJV.out, HAE.out]; unfold jobQ; rw [if_pos rfl, if_neg (by rw [HF0.out]; simp), if_neg (by simp only; rw [HNW.out]; simp), if_neg (by rw [HWT.out.len]; omega)]
                            have HU := Lib.hid hu
                            have HD := Lib.hid hd
                            have HRQ : Hid (∀ Y, Below V.heap.size V Y → Reads Y Y.heap.size 9 Aw t (q.flatMap ActV.cells)) := fun Y hY => (HWV.out.keep (KeepT.of_below hY) hY.size).reads
                            have hVs : wo.heap.size + 1 + 1 < V.heap.size := HKV.out.lt
                            clear hd hu k0 k1 k2
                            go_wp2_with fail
                            go_region_held3 (fun w' => (∀ b o, b < V.heap.size → w'.cell? ⟨b, o, none⟩ = V.cell? ⟨b, o, none⟩) ∧ V.heap.size ≤ w'.heap.size ∧ Hid (Below V.heap.size V w'))
                              ((first | assumption | exact keep0 _ | exact keep1 (by assumption) (by assumption) | exact keepD (by assumption) | exact keepB (by assumption) (by assumption) | exact keepA (by assumption) _ | exact ⟨fun _ _ _ => rfl, Nat.le_refl _, Below.refl _ _⟩))
                              (first
                                | (refine step_append_nilI (o := ⟨some 61, _, _, _, _, _⟩) (q.flatMap ActV.cells) t 27 rfl rfl V.heap.size 117 _ 9 72 Try.underlying27 infoAct rfl (by decide) ?_ ?_ ?_ ?_ ?_ ?_ ?_; (focus rfl); (focus exact ⟨_, _, rfl, HRQ.out _ (keepBelow (by assumption))⟩); (focus exact acts_one _); (focus (unfold maxLen; omega)); (focus omega); (focus exact keepSize (by assumption)); intro v1 w2 hown2 hb2)
                                | (refine step_append_farI (o := ⟨some 64, _, _, _, _, _⟩) aV.cells 1 27 t (q.flatMap ActV.cells) rfl rfl V.heap.size 117 _ 9 72 Try.underlying27 infoAct rfl (by decide) ?_ ?_ ?_ ?_ ?_ ?_ ?_; (focus (first | exact hown2.alloc _ | exact hown2)); (focus (rw [HAC.out]; first | exact ⟨_, _, rfl, reads_new (by rfl)⟩ | exact ⟨_, _, rfl, reads_new_old (by rfl) hb2⟩ | exact ⟨_, _, rfl, reads_new_oldD (by rfl) hb2⟩)); (focus (exact act_one _)); (focus (unfold maxLen; omega)); (focus omega); (focus exact keepSize (by assumption)); intro v2 w3 hown3 hb3 hg3))
                            all_goals
                              have HO3 : Hid (w3.ownsRow V.heap.size 117 9 v2 (q ++ [aV]).length ((q ++ [aV]).flatMap ActV.cells)) := by
                                show World.ownsRow _ _ _ _ _ _ _
                                have hl : (q ++ [aV]).length = t + 1 := by rw [List.length_append, HWT.out.len]; rfl
                                rw [hl, List.flatMap_append]
                                simpa using hown3
                              obtain ⟨fc3, z3, H3⟩ : (∀ b o, b < V.heap.size → w3.cell? ⟨b, o, none⟩ = V.cell? ⟨b, o, none⟩) ∧ V.heap.size ≤ w3.heap.size ∧ Hid (Below V.heap.size V w3) := by assumption
                              clear hown2 hb2 hown3 hb3 hg3
                              go_wp2_with fail
                              go_meet
                              case rel => exact push_fin HO3.out HD.out HU.out (HBV.out.trans (H3.out.mono HBV.out.size)) (HKD.out.below H3.out (by omega))
                        · have hql : u < q.length := (List.getElem?_eq_some_iff.1 hqx).1
                          have htl : t = q.length := HWT.out.len.symm
                          have hxa : x.p = aV.p := by rw [hxp, HAE.out]
                          have hd : jobD q jv = ⟨0, true, []⟩ := by rw [← HJV.out]; unfold jobD; rw [if_pos rfl, if_neg (by rw [HF0.out]; simp), if_pos (has_at hqx hxp)]
                          have hu : jobQ q jv = q.set u aV := by rw [← put_at HG.out.1 hqx hxa, ← HJV.out, HAE.out]; unfold jobQ; rw [if_pos rfl, if_neg (by rw [HF0.out]; simp), if_pos (has_at hqx hxp)]
                          have HD := Lib.hid hd
                          have HU := Lib.hid hu
                          have HTL := Lib.hid htl
                          have HQL := Lib.hid hql
                          have HRH : Hid (∀ Y, Below V.heap.size V Y → Reads Y Y.heap.size 9 Aw u ((q.take u).flatMap ActV.cells)) := fun Y hY => (HWV.out.keep (KeepT.of_below hY) hY.size).head (by omega)
                          have hVs : wo.heap.size + 1 + 1 < V.heap.size := HKV.out.lt
                          obtain ⟨ab, rfl, -, -⟩ := HWT.out.reads.2 (by omega)
                          have wu : IntKind.i64.wrap ((u : Int) + 1) = (u : Int) + 1 := by rw [IntWalk.i64_in _ (by omega)]
                          have u0 : (0 : Int) ≤ (u : Int) := by omega
                          have u1 : (u : Int) ≤ (cw : Int) := by omega
                          have u2 : (u : Int) + 1 ≤ (cw : Int) := by omega
                          have u3 : (0 : Int) ≤ (u : Int) + 1 := by omega
                          have u4 : (u : Int) + 1 ≤ (t : Int) := by omega
                          have u5' : ((u : Int) + 1).toNat = u + 1 := by omega
                          have hGE : decide ((0 : Int) ≤ (u : Int)) = true := by simp
                          have hul : u ≤ 8 := by have := HG.out.2; omega
                          have ht8 : t ≤ 8 := by have := HG.out.2; omega
                          clear hd hu hxa hqx hxp k0 k1 k2 htl hux hql
                          by_cases hcz : cw = u + 1
                          · have hed : q.drop (u + 1) = [] := List.drop_eq_nil_of_le (by have := HTL.out; have := HWT.out.cap.1; omega)
                            have het : t = u + 1 := by have := HTL.out; have := HQL.out; have := HWT.out.cap.1; omega
                            have HED := Lib.hid hed
                            have HET := Lib.hid het
                            clear hed het
                            subst hcz
                            have u6 : (u : Int) ≤ (u : Int) + 1 := by omega
                            have u7 : (u : Int) + 1 ≤ (u : Int) + 1 := by omega
                            go_wp2_with fail
                            go_region_held3 (fun w' => (∀ b o, b < V.heap.size → w'.cell? ⟨b, o, none⟩ = V.cell? ⟨b, o, none⟩) ∧ V.heap.size ≤ w'.heap.size ∧ Hid (Below V.heap.size V w'))
                              ((first | assumption | exact keep0 _ | exact keep1 (by assumption) (by assumption) | exact keepD (by assumption) | exact keepB (by assumption) (by assumption) | exact keepA (by assumption) _ | exact ⟨fun _ _ _ => rfl, Nat.le_refl _, Below.refl _ _⟩))
                              (first
                                | (refine step_append_nilI (o := ⟨some 101, _, _, _, _, _⟩) ((q.take u).flatMap ActV.cells) u 27 rfl rfl V.heap.size 117 _ 9 72 Try.underlying27 infoAct rfl (by decide) ?_ ?_ ?_ ?_ ?_ ?_ ?_; (focus rfl); (focus exact ⟨_, _, rfl, HRH.out _ (keepBelow (by assumption))⟩); (focus exact acts_one _); (focus (unfold maxLen; omega)); (focus omega); (focus exact keepSize (by assumption)); intro v1 w2 hown2 hb2)
                                | (refine step_append_farI (o := ⟨some 104, _, _, _, _, _⟩) aV.cells 1 27 u ((q.take u).flatMap ActV.cells) rfl rfl V.heap.size 117 _ 9 72 Try.underlying27 infoAct rfl (by decide) ?_ ?_ ?_ ?_ ?_ ?_ ?_; (focus (first | exact hown2.alloc _ | exact hown2)); (focus (rw [HAC.out]; first | exact ⟨_, _, rfl, reads_new (by rfl)⟩ | exact ⟨_, _, rfl, reads_new_old (by rfl) hb2⟩ | exact ⟨_, _, rfl, reads_new_oldD (by rfl) hb2⟩)); (focus (exact act_one _)); (focus (unfold maxLen; omega)); (focus omega); (focus exact keepSize (by assumption)); intro v2 w3 hown3 hb3 hg3)
                                | (refine step_append_farI (o := ⟨some 109, _, _, _, _, _⟩) ([] : List Value) 0 27 (u + 1) ((q.take u).flatMap ActV.cells ++ aV.cells) rfl rfl V.heap.size 117 _ 9 72 Try.underlying27 infoAct rfl (by decide) ?_ ?_ ?_ ?_ ?_ ?_ ?_; (focus (exact hown3)); (focus exact ⟨_, _, rfl, Reads.none_⟩); (focus (intro u' hu'; cases hu')); (focus (unfold maxLen; omega)); (focus omega); (focus exact keepSize (by assumption)); intro v3 w4 hown4 hb4 hg4))
                            all_goals
                              have HO4 : Hid (w4.ownsRow V.heap.size 117 9 v3 (q.set u aV).length ((q.set u aV).flatMap ActV.cells)) := by
                                show World.ownsRow _ _ _ _ _ _ _
                                have hl : (q.set u aV).length = u + 1 + 0 := by rw [List.length_set]; have := HTL.out; have := HET.out; omega
                                rw [hl, set_flat HQL.out, HED.out]
                                exact hown4
                              obtain ⟨fc4, z4, H4⟩ : (∀ b o, b < V.heap.size → w4.cell? ⟨b, o, none⟩ = V.cell? ⟨b, o, none⟩) ∧ V.heap.size ≤ w4.heap.size ∧ Hid (Below V.heap.size V w4) := by assumption
                              have HB4 : Hid (Below wo.heap.size wo w4) := HBV.out.trans (H4.out.mono HBV.out.size)
                              have HD4 := Lib.hid (HKD.out.below H4.out (by omega))
                              have ff1 := HD4.out.frozen 1
                              have cc1 := HD4.out.cell 1
                              simp at cc1
                              have hbne : ∀ b, v3.ownBlock = some b → b = wo.heap.size + 1 → False := fun b he hb => by have h : V.heap.size ≤ b := (HO4.out.lt _ he).1; omega
                              have HBN := Lib.hid hbne
                              clear hown2 hb2 hown3 hb3 hg3 hown4 hb4 hg4 hbne
                              go_wp2_with fail
                              go_meet
                              case rel => exact push_fin (ownsRow_setCell_other HO4.out (a := ⟨wo.heap.size + 1, 1, none⟩) (fun he => HBN.out _ he rfl) _) HD.out HU.out (HB4.out.setCell (p := ⟨wo.heap.size + 1, 1, none⟩) (by simp) _) (HD4.out.set_ 1 _)
                          · have HRT : Hid (∀ Y, Below V.heap.size V Y → Reads Y Y.heap.size 9 (some (ab.add ((u + 1) * 9))) (t - (u + 1)) ((q.drop (u + 1)).flatMap ActV.cells)) := fun Y hY => ((HWV.out.keep (KeepT.of_below hY) hY.size).tail1 (z := u + 1) (by have := HTL.out; have := HQL.out; omega) hcz).reads
                            go_wp2_with fail
                            go_region_held3 (fun w' => (∀ b o, b < V.heap.size → w'.cell? ⟨b, o, none⟩ = V.cell? ⟨b, o, none⟩) ∧ V.heap.size ≤ w'.heap.size ∧ Hid (Below V.heap.size V w'))
                              ((first | assumption | exact keep0 _ | exact keep1 (by assumption) (by assumption) | exact keepD (by assumption) | exact keepB (by assumption) (by assumption) | exact keepA (by assumption) _ | exact ⟨fun _ _ _ => rfl, Nat.le_refl _, Below.refl _ _⟩))
                              (first
                                | (refine step_append_nilI (o := ⟨some 101, _, _, _, _, _⟩) ((q.take u).flatMap ActV.cells) u 27 rfl rfl V.heap.size 117 _ 9 72 Try.underlying27 infoAct rfl (by decide) ?_ ?_ ?_ ?_ ?_ ?_ ?_; (focus rfl); (focus exact ⟨_, _, rfl, HRH.out _ (keepBelow (by assumption))⟩); (focus exact acts_one _); (focus (unfold maxLen; omega)); (focus omega); (focus exact keepSize (by assumption)); intro v1 w2 hown2 hb2)
                                | (refine step_append_farI (o := ⟨some 104, _, _, _, _, _⟩) aV.cells 1 27 u ((q.take u).flatMap ActV.cells) rfl rfl V.heap.size 117 _ 9 72 Try.underlying27 infoAct rfl (by decide) ?_ ?_ ?_ ?_ ?_ ?_ ?_; (focus (first | exact hown2.alloc _ | exact hown2)); (focus (rw [HAC.out]; first | exact ⟨_, _, rfl, reads_new (by rfl)⟩ | exact ⟨_, _, rfl, reads_new_old (by rfl) hb2⟩ | exact ⟨_, _, rfl, reads_new_oldD (by rfl) hb2⟩)); (focus (exact act_one _)); (focus (unfold maxLen; omega)); (focus omega); (focus exact keepSize (by assumption)); intro v2 w3 hown3 hb3 hg3)
                                | (refine step_append_farI (o := ⟨some 109, _, _, _, _, _⟩) ((q.drop (u + 1)).flatMap ActV.cells) (t - (u + 1)) 27 (u + 1) ((q.take u).flatMap ActV.cells ++ aV.cells) rfl rfl V.heap.size 117 _ 9 72 Try.underlying27 infoAct rfl (by decide) ?_ ?_ ?_ ?_ ?_ ?_ ?_; (focus (exact hown3)); (focus exact ⟨_, _, rfl, HRT.out _ (keepBelow (by assumption))⟩); (focus (exact acts_one _)); (focus (unfold maxLen; omega)); (focus omega); (focus exact keepSize (by assumption)); intro v3 w4 hown4 hb4 hg4))
                            all_goals
                              have HO4 : Hid (w4.ownsRow V.heap.size 117 9 v3 (q.set u aV).length ((q.set u aV).flatMap ActV.cells)) := by
                                show World.ownsRow _ _ _ _ _ _ _
                                have hl : (q.set u aV).length = u + 1 + (t - (u + 1)) := by rw [List.length_set]; have := HTL.out; have := HQL.out; omega
                                rw [hl, set_flat HQL.out]
                                exact hown4
                              obtain ⟨fc4, z4, H4⟩ : (∀ b o, b < V.heap.size → w4.cell? ⟨b, o, none⟩ = V.cell? ⟨b, o, none⟩) ∧ V.heap.size ≤ w4.heap.size ∧ Hid (Below V.heap.size V w4) := by assumption
                              have HB4 : Hid (Below wo.heap.size wo w4) := HBV.out.trans (H4.out.mono HBV.out.size)
                              have HD4 := Lib.hid (HKD.out.below H4.out (by omega))
                              have ff1 := HD4.out.frozen 1
                              have cc1 := HD4.out.cell 1
                              simp at cc1
                              have hbne : ∀ b, v3.ownBlock = some b → b = wo.heap.size + 1 → False := fun b he hb => by have h : V.heap.size ≤ b := (HO4.out.lt _ he).1; omega
                              have HBN := Lib.hid hbne
                              clear hown2 hb2 hown3 hb3 hg3 hown4 hb4 hg4 hbne
                              go_wp2_with fail
                              go_meet
                              case rel => exact push_fin (ownsRow_setCell_other HO4.out (a := ⟨wo.heap.size + 1, 1, none⟩) (fun he => HBN.out _ he rfl) _) HD.out HU.out (HB4.out.setCell (p := ⟨wo.heap.size + 1, 1, none⟩) (by simp) _) (HD4.out.set_ 1 _)

                  · have hck2 : (ck != 0) = true := by simpa using hck
                    have hfa : faultA ⟨kd, ⟨six, hi, lo, n0⟩, hop, ⟨six2, hi2, lo2⟩⟩ = ck := by rw [HFA.out, if_neg (fun h => h hkk), if_pos hck]
                    have HFA := Lib.hid hfa
                    have HCK := Lib.hid hck
                    have hd : jobD q jv = ⟨ck, false, []⟩ := by rw [← HJV.out]; unfold jobD; rw [if_pos rfl, if_pos (by rw [HFA.out]; exact HCK.out), HFA.out]
                    have hu : jobQ q jv = q := by rw [← HJV.out]; unfold jobQ; rw [if_pos rfl, if_pos (by rw [HFA.out]; exact HCK.out)]
                    have HD := Lib.hid hd
                    have HU := Lib.hid hu
                    clear hfa hck hd hu
                    rcases hkk with rfl | rfl
                    all_goals
                      go_wp2
                      go_meet
                      case rel => exact quiet_fin HWT.out HD.out HU.out (HBV.out.setCell (by simp) _) (HKD.out.set_ 0 _)
                · have d1 : (kd != 1) = true := by simpa using fun h => hkk (.inl h)
                  have d2 : (kd != 2) = true := by simpa using fun h => hkk (.inr h)
                  have hfa : faultA ⟨kd, ⟨six, hi, lo, n0⟩, hop, ⟨six2, hi2, lo2⟩⟩ = 3 := by rw [HFA.out, if_pos hkk]
                  have HFA := Lib.hid hfa
                  clear hkk hfa
                  have hd : jobD q jv = ⟨3, false, []⟩ := by rw [← HJV.out]; unfold jobD; rw [if_pos rfl, if_pos (by rw [HFA.out]; simp), HFA.out]
                  have hu : jobQ q jv = q := by rw [← HJV.out]; unfold jobQ; rw [if_pos rfl, if_pos (by rw [HFA.out]; simp)]
                  have HD := Lib.hid hd
                  have HU := Lib.hid hu
                  clear hd hu
                  go_wp2
                  go_meet
                  case rel => exact quiet_fin HWT.out HD.out HU.out (HBV.out.setCell (by simp) _) (HKD.out.set_ 0 _)
          · have d1 : (jk == 1) = false := by simpa using h1
            by_cases h2 : jk = 2
            · subst h2
              by_cases h3 : jn < 1 ∨ 8 < jn
              · have hd : jobD q jv = ⟨2, false, []⟩ := by rw [← HJV.out]; unfold jobD; rw [if_neg (by simp), if_neg (by simp), if_pos h3]
                have hu : jobQ q jv = q := by rw [← HJV.out]; unfold jobQ; rw [if_neg (by simp), if_neg (by simp), if_pos h3]
                have HD := Lib.hid hd
                have HU := Lib.hid hu
                clear hd hu
                by_cases h4 : jn < 1
                · have d4 : decide (jn < 1) = true := by simpa using h4
                  clear h3 h4
                  go_wp2
                  go_meet
                  case rel => exact quiet_fin HWT.out HD.out HU.out (((Below.refl _ _).alloc (Nat.le_refl _) _).alloc (by simp) _) (blk_two _ _ _ _)
                · have d4 : decide (jn < 1) = false := by simpa using h4
                  have d5 : decide (8 < jn) = true := by simp; omega
                  clear h3 h4
                  go_wp2
                  go_meet
                  case rel => exact quiet_fin HWT.out HD.out HU.out (((Below.refl _ _).alloc (Nat.le_refl _) _).alloc (by simp) _) (blk_two _ _ _ _)
              · have d4 : decide (jn < 1) = false := by simp; omega
                have d5 : decide (8 < jn) = false := by simp; omega
                by_cases h6 : m = 0
                · have hqn : q = [] := List.length_eq_zero_iff.1 (by rw [HWT.out.len, h6])
                  have hd : jobD q jv = ⟨7, false, []⟩ := by rw [← HJV.out]; unfold jobD; rw [if_neg (by simp), if_neg (by simp), if_neg h3, if_pos hqn]
                  have hu : jobQ q jv = q := by rw [← HJV.out]; unfold jobQ; rw [if_neg (by simp), if_neg (by simp), if_neg h3, hqn]; simp
                  have HD := Lib.hid hd
                  have HU := Lib.hid hu
                  subst h6
                  clear hd hu hqn h3
                  go_wp2
                  go_meet
                  case rel => exact quiet_fin HWT.out HD.out HU.out (((Below.refl _ _).alloc (Nat.le_refl _) _).alloc (by simp) _) (blk_two _ _ _ _)
                · have d6 : ((m : Int) == 0) = false := by simpa using h6
                  have hqn : ¬ q = [] := fun e => h6 (by rw [← HWT.out.len, e]; rfl)
                  obtain ⟨N, rfl⟩ : ∃ N : Nat, jn = (N : Int) := ⟨jn.toNat, by omega⟩
                  have hd : jobD q jv = ⟨0, false, q.take N⟩ := by rw [← HJV.out]; unfold jobD; rw [if_neg (by simp), if_neg (by simp), if_neg h3, if_neg hqn]; simp
                  have hu : jobQ q jv = q.drop N := by rw [← HJV.out]; unfold jobQ; rw [if_neg (by simp), if_neg (by simp), if_neg h3]; simp
                  obtain ⟨z, hz⟩ : ∃ z : Nat, min N m = z := ⟨_, rfl⟩
                  have hzi : min (N : Int) (m : Int) = (z : Int) := by omega
                  have hzm : z ≤ m := by omega
                  have hd2 : jobD q jv = ⟨0, false, q.take z⟩ := by rw [hd, ← hz, ← HWT.out.len, List.take_eq_take_min]
                  have hu2 : jobQ q jv = q.drop z := by rw [hu, ← hz, ← HWT.out.len]; exact drop_min _ _
                  have HD := Lib.hid hd2
                  have HU := Lib.hid hu2
                  obtain ⟨ab, rfl, -, -⟩ := HWT.out.reads.2 (by omega)
                  have HRT := Lib.hid (fun (w' : World) (hb : Below wo.heap.size wo w') => (HWT.out.keep (KeepT.of_below hb) hb.size).reads.front ActV.cells_length HWT.out.len hzm)
                  have hz30 : z ≤ 8 := by omega
                  clear hd hu hqn hd2 hu2 hz
                  go_wp2_with (at_builtin; go_loud (refine wpList_append_reads rfl _ _ 27 rfl (wo.heap.size + 1 + 1) 117 _ 9 72 Try.underlying27 infoAct rfl (by decide) (.slice none 0 0) 0 [] rfl _ _ _ rfl (World.ownsRow_nil _ _ _ _) _ _ (HRT.out _ (((Below.refl _ _).alloc (Nat.le_refl _) _).alloc (by simp) _)) ?d1 ?d2 ?d3 ?d4 ?_))
                  case d1 => first | exact acts_one _ | exact fun u x _ h => act_one x u h
                  case d2 => unfold maxLen; omega
                  case d3 => omega
                  (try (case d4 => omega))
                  intro v' w9 hown' hb9
                  obtain ⟨A9, c9, rfl, -, -⟩ := own_reads hown'
                  have hkb : Blk w9 (wo.heap.size + 1) 29 #[.int .i64 0, .bool false, .slice none 0 0] := (blk_two _ _ _ _).below hb9 (by omega)
                  have hb9' : Below wo.heap.size wo w9 := (((Below.refl wo.heap.size wo).alloc (Nat.le_refl _) _).alloc (by simp) _).trans (hb9.mono (by omega))
                  have c2 := hkb.cell 2
                  have f2 := hkb.frozen 2
                  simp at c2
                  have HKB := Lib.hid hkb
                  have HO9 := Lib.hid hown'
                  have HB9 := Lib.hid hb9'
                  clear hown' hkb hb9 hb9'
                  go_wp2_with fail
                  · go_meet
                    case rel => exact ⟨_, _, _, _, _, _, rfl, by rw [HU.out]; exact ((HWT.out.keep (KeepT.of_below (HB9.out.setCell (p := ⟨wo.heap.size + 1, 2, none⟩) (by simp) _)) (by simpa using HB9.out.size)).tail0 hzm (by assumption)), by rw [HD.out]; exact HKB.out.set_ 2 _, by rw [HD.out]; simp [HWT.out.len]; omega, by rw [HD.out]; exact own_low (ownsRow_setCell_other HO9.out (fun he => by have h : wo.heap.size + 1 + 1 ≤ wo.heap.size + 1 := (HO9.out.lt _ he).1; omega) _) (by omega), HB9.out.setCell (by simp) _⟩
                  · go_meet
                    case rel => exact ⟨_, _, _, _, _, _, rfl, by rw [HU.out]; exact ((HWT.out.keep (KeepT.of_below (HB9.out.setCell (p := ⟨wo.heap.size + 1, 2, none⟩) (by simp) _)) (by simpa using HB9.out.size)).tail1 hzm (by assumption)), by rw [HD.out]; exact HKB.out.set_ 2 _, by rw [HD.out]; simp [HWT.out.len]; omega, by rw [HD.out]; exact own_low (ownsRow_setCell_other HO9.out (fun he => by have h : wo.heap.size + 1 + 1 ≤ wo.heap.size + 1 := (HO9.out.lt _ he).1; omega) _) (by omega), HB9.out.setCell (by simp) _⟩
            · have d2 : (jk != 2) = true := by simpa using h2
              have hd : jobD q jv = ⟨3, false, []⟩ := by rw [← HJV.out]; unfold jobD; rw [if_neg h1, if_pos h2]
              have hu : jobQ q jv = q := by rw [← HJV.out]; unfold jobQ; rw [if_neg h1, if_pos h2]
              have HD := Lib.hid hd
              have HU := Lib.hid hu
              clear hd hu h1 h2
              go_wp2
              go_meet
              case rel => exact quiet_fin HWT.out HD.out HU.out (((Below.refl _ _).alloc (Nat.le_refl _) _).alloc (by simp) _) (blk_two _ _ _ _)
        case rest =>
          obtain ⟨Ax, mx, cx, Ad, la, ca, rfl, hwx, hdb, hla, hda, hbx⟩ := hcut
          obtain ⟨X, rfl⟩ : ∃ X : World, X = wc := ⟨_, rfl⟩
          obtain ⟨cs, hrow, hds⟩ := HRW.out.rows
          rw [HLK.out] at hrow
          obtain ⟨D, hD⟩ : ∃ D, jobD q jv = D := ⟨_, rfl⟩
          rw [hD] at hdb hla hda
          have hplay : playD (l.take (k + 1)) [] = playD (l.take k) [] ++ [D] := by rw [HTK.out, playD_snoc, HQ.out, hD]
          have hplayq : playQ (l.take (k + 1)) [] = jobQ q jv := by rw [HTK.out, playQ_snoc, HQ.out]
          have d0 := hdb.cell 0
          have d1 := hdb.cell 1
          have d2 := hdb.cell 2
          simp at d0 d1 d2
          have hdlt := hdb.lt
          have HOW := Lib.hid (own_below hrow hbx)
          have HDS := Lib.hid (hds.keep (KeepT.of_below hbx))
          have HDA := Lib.hid hda
          have HWX := Lib.hid hwx
          have HBX := Lib.hid (below_step HB.out hbx)
          have HPL := Lib.hid hplay
          have HPQ := Lib.hid hplayq
          have HLA := Lib.hid hla
          have hsx := HBX.out.size
          clear hwx hdb hda hbx hrow hds hplay hplayq hD hla q0 q1 q2 q3 q4 q5 q6 q7 q8 q9 q10
          go_wp2_with (at_builtin; go_loud (refine wpList_append_oneN (us := [.int .i64 D.code, .bool D.merged, .slice Ad la ca]) rfl _ _ 23 rfl w.heap.size _ 3 40 Try.underlying23 infoDone rfl (by decide) _ _ _ rfl rfl rfl HOW.out ?c1 rfl ?c4 ?c2 ?c3 ?_))
          case c1 => exact hsx
          case c2 => unfold maxLen; omega
          case c3 => omega
          case c4 => intro u hu; simp at hu; rcases hu with rfl | rfl | rfl <;> rfl
          intro v' w9 hown' hb9 hs9 hk9
          have KA9 : KeepT 117 X w9 := KeepT.of_own hk9 HOW.out (by decide)
          have HW9 := Lib.hid (HWX.out.keep KA9 (by omega))
          have HDS9 := Lib.hid ((HDS.out.keep KA9).snoc (c := [.int .i64 D.code, .bool D.merged, .slice Ad la ca]) (d := D) ⟨_, rfl, by rw [← HLA.out]; exact own_keepT HDA.out KA9⟩)
          have HO9 := Lib.hid hown'
          have HB9 := Lib.hid (HBX.out.trans hb9)
          clear hown' hb9 hk9 KA9
          go_wp2
          go_roundw
          case rel =>
            refine ⟨k + 1, Ax, mx, cx, by omega, by go_num, rfl, by rw [HPQ.out]; exact HW9.out, ⟨cs ++ [[.int .i64 D.code, .bool D.merged, .slice Ad la ca]], ?_, ?_⟩, HB9.out⟩
            · have hl : (playD (l.take (k + 1)) []).length = k + 1 := by rw [playD_length, List.length_take, HZ.out]; omega
              rw [hl, List.flatMap_append]
              simpa using HO9.out
            · rw [HPL.out]; exact HDS9.out
          case measure => simp [intOf]; omega
      · obtain rfl : k = n := by omega
        go_wp2
        rw [← HP.out]
        refine ⟨fun h => absurd h h100, fun _ => ⟨_, rfl, ?_, HB.out⟩⟩
        have ht : l.take k = l := List.take_of_length_le (by rw [HZ.out]; omega)
        have := HRW.out
        rw [ht] at this
        exact this

end Go.Proofs.Ytnflaaoapmhjgaa

namespace Go.Proofs.Ytnflaaoapmhjgaa
open Go.ChangeShapes Go.WideShapes Go.ChangeAt Go.RowKit

/-- What is known of the acts that were given out. -/
structure Outs (ds : List DoneV) : Prop where
  ok : ∀ d ∈ ds, ∀ a ∈ d.acts, OkF a
  len : ∀ d ∈ ds, d.acts.length ≤ 8
  n : ds.length ≤ 100
theorem outs_of {n : Nat} {l : List JobV} (hl : l.length = n) (ho : ∀ j ∈ l, j.act.Ok) : Outs (outD n l) := by
  unfold outD
  by_cases h : 100 < n
  · rw [if_pos h]; exact ⟨fun d hd => absurd hd (by simp), fun d hd => absurd hd (by simp), by simp⟩
  · rw [if_neg h]
    exact ⟨playD_ok ho (fun a ha => by cases ha), playD_len ⟨by simp, by simp⟩, by rw [playD_length, hl]; omega⟩
theorem actsOf_ok {ds : List DoneV} (h : Outs ds) : ∀ a ∈ actsOf ds, OkF a := by
  intro a ha
  obtain ⟨d, hd, ha⟩ := List.mem_flatMap.1 ha
  exact h.ok d hd a ha
theorem good_outs {ds : List DoneV} (h : Outs ds) (k : Nat) : GoodL (actL (actsOf (ds.take k)) []) :=
  goodL_play goodL_nil fun a ha => by
    obtain ⟨d, hd, ha⟩ := List.mem_flatMap.1 ha
    exact (h.ok d (List.mem_of_mem_take hd) a ha).1

set_option maxRecDepth 100000 in
set_option maxHeartbeats 3200000 in
theorem qTab_any {w : World} {A : Option Addr} {n c : Nat} {l : List JobV} (h : IsJobs w A n l) (hc : n ≤ c ∧ c ≤ maxLen) (ho : ∀ j ∈ l, j.act.Ok) :
    Calls Try.prog 63 #[.slice A n c] w (AppliedT w (outE n) (actL (actsOf (outD n l)) [])) := by
  have C1 := Lib.hid (play_any h hc)
  have HO := Lib.hid (outs_of h.len ho)
  obtain ⟨post, hpost⟩ : ∃ post, AppliedT w (outE n) (actL (actsOf (outD n l)) []) = post := ⟨_, rfl⟩
  have HP := Lib.hid hpost
  rw [hpost]
  clear hpost h ho
  go_enter Try.func63, Try.ntmps63
  go_wp2_with fail
  refine C1.out.mono ?_
  intro e w1 hp1
  obtain ⟨v1, rfl, hd1, hb1⟩ := played_uni hp1
  have HB1 := Lib.hid hb1
  have hs1 := hb1.size
  clear C1 hp1 hb1
  by_cases h100 : 100 < n
  · have he : outE n = 1 := by unfold outE; rw [if_pos h100]
    rw [he] at HP ⊢
    clear hd1 he
    go_wp2
    (try go_ret2)
    rw [← HP.out]
    exact appliedT_bad (by decide) _ HB1.out
  have he : outE n = 0 := by unfold outE; rw [if_neg h100]
  rw [he] at HP ⊢
  clear he h100
  obtain ⟨A1, c1, es, rfl, hl, hr, hf⟩ := hd1.shape
  obtain ⟨ds, hds⟩ : ∃ ds, outD n l = ds := ⟨_, rfl⟩
  rw [hds] at hl hr hf HO HP ⊢
  have hN1 := HO.out.n
  obtain ⟨N, hN⟩ : ∃ N, ds.length = N := ⟨_, rfl⟩
  rw [hN] at hl hr hN1 ⊢
  have HN := Lib.hid hN
  have HL := Lib.hid hl
  have HR := Lib.hid hr
  have HF := Lib.hid hf
  clear hds hN hl hr hf hd1
  go_wp2
  have hX0 := holds_new w1
  have hBX0 : Below w1.heap.size w1 (w1.alloc (.cells #[.pointer none, .pointer none, .int .i64 0] 223)) := (Below.refl _ _).alloc (Nat.le_refl _) _
  have HX0 := Lib.hid hX0
  have HBX0 := Lib.hid hBX0
  clear hX0 hBX0
  go_loopw [23] (fun i wr => ∃ k : Nat, k ≤ N ∧ i = .int .i64 k ∧ Holds wr w1.heap.size w1.heap.size (actL (actsOf (ds.take k)) []) ∧ Below w1.heap.size w1 wr) (fun i _ => N - (intOf i).toNat)
  case atStart => exact ⟨0, by omega, rfl, HX0.out, HBX0.out⟩
  case round =>
    obtain ⟨k, hk, rfl, hho, hb⟩ := hrel
    obtain ⟨wo, rfl⟩ : ∃ wo : World, wo = wr := ⟨_, rfl⟩
    have hszb := hb.size
    by_cases hlt : k < N
    · obtain ⟨ad, ⟨cd, mg, Aa, na, ca⟩, rfl, hlk, htk, hmem, hbk, hc0, hcj⟩ := HR.out.atS DoneC.cells_length HL.out hlt
      have q0 := (hb.cell (p := ad.add (k * 3)) (by rw [block_of_add]; exact hbk)).trans (hc0 _ rfl)
      have q1 := (hb.cell (p := ⟨(ad.add (k * 3)).block, (ad.add (k * 3)).off + 1, none⟩) (by rw [block_of_add]; exact hbk)).trans (hcj 1 _ rfl)
      have q2 := (hb.cell (p := ⟨(ad.add (k * 3)).block, (ad.add (k * 3)).off + 2, none⟩) (by rw [block_of_add]; exact hbk)).trans (hcj 2 _ rfl)
      have hd : ds[k]? = some (ds[k]'(by rw [HN.out]; exact hlt)) := List.getElem?_eq_getElem _
      obtain ⟨D, hD⟩ : ∃ D, ds[k]'(by rw [HN.out]; exact hlt) = D := ⟨_, rfl⟩
      rw [hD] at hd
      have F1 := HF.out k _ D hlk hd
      have hDm := List.mem_of_getElem? hd
      have HDO := Lib.hid (HO.out.ok D hDm)
      have hna : na ≤ 8 := by have h1 := F1.len; have h2 := HO.out.len D hDm; simp only at h1; omega
      have hGk := good_outs HO.out k
      have HSN : Hid (actL (actsOf (ds.take (k + 1))) [] = actL D.acts (actL (actsOf (ds.take k)) [])) := by show _ = _; rw [List.take_add_one, hd, Option.toList_some, actsOf_snoc, actL_append]
      have HFL : Hid (D.acts.length = na) := F1.len
      have HFR : Hid (Reads w1 w1.heap.size 9 Aa na (D.acts.flatMap ActV.cells)) := F1.reads
      obtain ⟨L, hL⟩ : ∃ L, actL (actsOf (ds.take k)) [] = L := ⟨_, rfl⟩
      rw [hL] at hGk HSN hho
      have HGK := Lib.hid hGk
      clear hlk htk hmem hc0 hcj hd hD F1 hDm hGk hL hbk
      have HHO := Lib.hid (fun (o : Obj) => hho.below ((Below.refl _ _).alloc (Nat.le_refl _) o))
      have HB := Lib.hid hb
      clear hho hb
      go_wp2
      go_loopw [30] (fun i wr => ∃ t : Nat, t ≤ na ∧ i = .int .i64 t ∧ Holds wr w1.heap.size w1.heap.size (actL (D.acts.take t) L) ∧ Below w1.heap.size w1 wr) (fun i _ => na - (intOf i).toNat)
      case atStart => exact ⟨0, by omega, rfl, HHO.out _, HB.out.alloc hszb _⟩
      case round =>
        obtain ⟨t, ht, rfl, hhi, hbi⟩ := hrel
        obtain ⟨wi, rfl⟩ : ∃ wi : World, wi = wr := ⟨_, rfl⟩
        have hszi := hbi.size
        by_cases hlt2 : t < na
        · obtain ⟨ad2, ⟨kd, ⟨six, hi, lo, n0⟩, hop, ⟨six2, hi2, lo2⟩⟩, rfl, hlk2, htk2, hmem2, hbk2, hc02, hcj2⟩ := HFR.out.atS ActV.cells_length' HFL.out hlt2
          have p0 := (hbi.cell (p := ad2.add (t * 9)) (by rw [block_of_add]; exact hbk2)).trans (hc02 _ rfl)
          have p1 := (hbi.cell (p := ⟨(ad2.add (t * 9)).block, (ad2.add (t * 9)).off + 1, none⟩) (by rw [block_of_add]; exact hbk2)).trans (hcj2 1 _ rfl)
          have p2 := (hbi.cell (p := ⟨(ad2.add (t * 9)).block, (ad2.add (t * 9)).off + 2, none⟩) (by rw [block_of_add]; exact hbk2)).trans (hcj2 2 _ rfl)
          have p3 := (hbi.cell (p := ⟨(ad2.add (t * 9)).block, (ad2.add (t * 9)).off + 3, none⟩) (by rw [block_of_add]; exact hbk2)).trans (hcj2 3 _ rfl)
          have p4 := (hbi.cell (p := ⟨(ad2.add (t * 9)).block, (ad2.add (t * 9)).off + 4, none⟩) (by rw [block_of_add]; exact hbk2)).trans (hcj2 4 _ rfl)
          have p5 := (hbi.cell (p := ⟨(ad2.add (t * 9)).block, (ad2.add (t * 9)).off + 5, none⟩) (by rw [block_of_add]; exact hbk2)).trans (hcj2 5 _ rfl)
          have p6 := (hbi.cell (p := ⟨(ad2.add (t * 9)).block, (ad2.add (t * 9)).off + 6, none⟩) (by rw [block_of_add]; exact hbk2)).trans (hcj2 6 _ rfl)
          have p7 := (hbi.cell (p := ⟨(ad2.add (t * 9)).block, (ad2.add (t * 9)).off + 7, none⟩) (by rw [block_of_add]; exact hbk2)).trans (hcj2 7 _ rfl)
          have p8 := (hbi.cell (p := ⟨(ad2.add (t * 9)).block, (ad2.add (t * 9)).off + 8, none⟩) (by rw [block_of_add]; exact hbk2)).trans (hcj2 8 _ rfl)
          have hOF := HDO.out _ hmem2
          have hGt : GoodL (actL (D.acts.take t) L) := goodL_play HGK.out (fun a ha => (HDO.out a (List.mem_of_mem_take ha)).1)
          have HTS : Hid (actL (D.acts.take (t + 1)) L = doL (actL (D.acts.take t) L) ⟨kd, ⟨six, hi, lo, n0⟩, hop, ⟨six2, hi2, lo2⟩⟩) := by show _ = _; rw [htk2, actL_snoc]
          clear hlk2 htk2 hmem2 hc02 hcj2 hbk2
          obtain ⟨R, hR⟩ := hhi.named
          have CD := Lib.hid (fun (o : Obj) => tabDo_any (w := wi.alloc o) (hR.below ((Below.refl _ _).alloc (Nat.le_refl _) o)) hGt.1 hGt.2 ⟨kd, ⟨six, hi, lo, n0⟩, hop, ⟨six2, hi2, lo2⟩⟩ hOF.1.phi hOF.1.plo hOF.1.ahi hOF.1.alo)
          unfold ActV.valD at CD
          have HHR := Lib.hid (fun (o : Obj) => hR.below ((Below.refl _ _).alloc (Nat.le_refl _) o))
          have HBI := Lib.hid hbi
          clear hOF hGt hR hhi hbi
          go_wp2_with fail
          refine (CD.out _).mono ?_
          rintro e X ⟨rfl, hhx, hkx⟩
          have hbx : Below w1.heap.size w1 X := HBI.out.trans ((((Below.refl w1.heap.size wi).alloc hszi _)).trans (hkx.below (fun g hg => ((HHR.out (.cells #[] 0)).1.lt g hg).1) (by simp; omega)))
          have HHX := Lib.hid hhx
          have HBX := Lib.hid hbx
          clear hhx hkx hbx CD
          go_wp2
          go_roundw
          case rel => exact ⟨t + 1, by omega, by go_num, by rw [HTS.out]; exact HHX.out, HBX.out⟩
          case measure => simp [intOf]; omega
        · obtain rfl : t = na := by omega
          have hta : D.acts.take t = D.acts := List.take_of_length_le (by rw [HFL.out]; omega)
          rw [hta] at hhi
          have HHI := Lib.hid hhi
          have HBI := Lib.hid hbi
          clear hhi hbi hta
          go_wp2
          go_roundw
          case rel => exact ⟨k + 1, by omega, by go_num, by rw [HSN.out]; exact HHI.out, HBI.out⟩
          case measure => simp [intOf]; omega
    · obtain rfl : k = N := by omega
      have ht : ds.take k = ds := List.take_of_length_le (by rw [HN.out]; omega)
      have hG := good_outs HO.out k
      rw [ht] at hho hG
      have CS := Lib.hid (collect_tab hho hG.1 (by have := hG.2; omega))
      have HB := Lib.hid hb
      clear hho hb ht hG
      go_wp2_with fail
      refine CS.out.mono ?_
      rintro e w9 ⟨v, S, rfl, hS, hown, hb9⟩
      have H1 := Lib.hid hS
      have H2 := Lib.hid hown
      have H3 := Lib.hid hb9
      clear hS hown hb9
      go_wp2
      (try go_ret2)
      rw [← HP.out]
      exact ⟨v, S, rfl, sortedIf_ok H1.out, own_mono H2.out (by omega), below_step (HB1.out.trans (HB.out.mono hs1)) H3.out⟩

set_option maxRecDepth 100000 in
set_option maxHeartbeats 3200000 in
theorem refQTab_any {w : World} {A : Option Addr} {n c : Nat} {l : List JobV} (h : IsJobs w A n l) (hc : n ≤ c ∧ c ≤ maxLen) (ho : ∀ j ∈ l, j.act.Ok) :
    Calls Try.prog 64 #[.slice A n c] w (AppliedT w (outE n) (actL (actsOf (outD n l)) [])) := by
  have C1 := Lib.hid (refPlay_any h hc)
  have HO := Lib.hid (outs_of h.len ho)
  obtain ⟨post, hpost⟩ : ∃ post, AppliedT w (outE n) (actL (actsOf (outD n l)) []) = post := ⟨_, rfl⟩
  have HP := Lib.hid hpost
  rw [hpost]
  clear hpost h ho
  go_enter Try.func64, Try.ntmps64
  go_wp2_with fail
  refine C1.out.mono ?_
  intro e w1 hp1
  obtain ⟨v1, rfl, hd1, hb1⟩ := played_uni hp1
  have HB1 := Lib.hid hb1
  have hs1 := hb1.size
  clear C1 hp1 hb1
  by_cases h100 : 100 < n
  · have he : outE n = 1 := by unfold outE; rw [if_pos h100]
    rw [he] at HP ⊢
    clear hd1 he
    go_wp2
    (try go_ret2)
    rw [← HP.out]
    exact appliedT_bad (by decide) _ HB1.out
  have he : outE n = 0 := by unfold outE; rw [if_neg h100]
  rw [he] at HP ⊢
  clear he h100
  obtain ⟨A1, c1, es, rfl, hl, hr, hf⟩ := hd1.shape
  obtain ⟨ds, hds⟩ : ∃ ds, outD n l = ds := ⟨_, rfl⟩
  rw [hds] at hl hr hf HO HP ⊢
  have hN1 := HO.out.n
  obtain ⟨N, hN⟩ : ∃ N, ds.length = N := ⟨_, rfl⟩
  rw [hN] at hl hr hN1 ⊢
  have HN := Lib.hid hN
  have HL := Lib.hid hl
  have HR := Lib.hid hr
  have HF := Lib.hid hf
  clear hds hN hl hr hf hd1
  go_wp2
  go_loopw [21, 6] (fun i s6 wr => ∃ (k : Nat) (v6 : Value), k ≤ N ∧ i = .int .i64 k ∧ v6 = s6 ∧ OwnRs wr w.heap.size v6 (actL (actsOf (ds.take k)) []) ∧ Below w1.heap.size w1 wr) (fun i _ _ => N - (intOf i).toNat)
  case atStart => exact ⟨0, _, by omega, rfl, rfl, World.ownsRow_nil _ _ _ _, Below.refl _ _⟩
  case round =>
    obtain ⟨k, v6, hk, rfl, rfl, h6, hb⟩ := hrel
    obtain ⟨wo, rfl⟩ : ∃ wo : World, wo = wr := ⟨_, rfl⟩
    have hszb := hb.size
    by_cases hlt : k < N
    · obtain ⟨ad, ⟨cd, mg, Aa, na, ca⟩, rfl, hlk, htk, hmem, hbk, hc0, hcj⟩ := HR.out.atS DoneC.cells_length HL.out hlt
      have q0 := (hb.cell (p := ad.add (k * 3)) (by rw [block_of_add]; exact hbk)).trans (hc0 _ rfl)
      have q1 := (hb.cell (p := ⟨(ad.add (k * 3)).block, (ad.add (k * 3)).off + 1, none⟩) (by rw [block_of_add]; exact hbk)).trans (hcj 1 _ rfl)
      have q2 := (hb.cell (p := ⟨(ad.add (k * 3)).block, (ad.add (k * 3)).off + 2, none⟩) (by rw [block_of_add]; exact hbk)).trans (hcj 2 _ rfl)
      have hd : ds[k]? = some (ds[k]'(by rw [HN.out]; exact hlt)) := List.getElem?_eq_getElem _
      obtain ⟨D, hD⟩ : ∃ D, ds[k]'(by rw [HN.out]; exact hlt) = D := ⟨_, rfl⟩
      rw [hD] at hd
      have F1 := HF.out k _ D hlk hd
      have hDm := List.mem_of_getElem? hd
      have HDO := Lib.hid (HO.out.ok D hDm)
      have hna : na ≤ 8 := by have h1 := F1.len; have h2 := HO.out.len D hDm; simp only at h1; omega
      have hGk := good_outs HO.out k
      have HSN : Hid (actL (actsOf (ds.take (k + 1))) [] = actL D.acts (actL (actsOf (ds.take k)) [])) := by show _ = _; rw [List.take_add_one, hd, Option.toList_some, actsOf_snoc, actL_append]
      have HFL : Hid (D.acts.length = na) := F1.len
      have HFR : Hid (Reads w1 w1.heap.size 9 Aa na (D.acts.flatMap ActV.cells)) := F1.reads
      obtain ⟨L, hL⟩ : ∃ L, actL (actsOf (ds.take k)) [] = L := ⟨_, rfl⟩
      rw [hL] at hGk HSN h6
      have HGK := Lib.hid hGk
      clear hlk htk hmem hc0 hcj hd hD F1 hDm hGk hL hbk
      have H6 := Lib.hid (fun (o : Obj) => h6.below ((Below.refl _ _).alloc (Nat.le_refl _) o))
      have HB := Lib.hid hb
      clear h6 hb
      go_wp2
      go_loopw [28, 6] (fun i s6 wr => ∃ (t : Nat) (v6 : Value), t ≤ na ∧ i = .int .i64 t ∧ v6 = s6 ∧ OwnRs wr w.heap.size v6 (actL (D.acts.take t) L) ∧ Below w1.heap.size w1 wr) (fun i _ _ => na - (intOf i).toNat)
      case atStart => exact ⟨0, _, by omega, rfl, rfl, H6.out _, HB.out.alloc hszb _⟩
      case round =>
        obtain ⟨t, v7, ht, rfl, rfl, h7, hbi⟩ := hrel
        obtain ⟨wi, rfl⟩ : ∃ wi : World, wi = wr := ⟨_, rfl⟩
        have hszi := hbi.size
        by_cases hlt2 : t < na
        · obtain ⟨ad2, ⟨kd, ⟨six, hi, lo, n0⟩, hop, ⟨six2, hi2, lo2⟩⟩, rfl, hlk2, htk2, hmem2, hbk2, hc02, hcj2⟩ := HFR.out.atS ActV.cells_length' HFL.out hlt2
          have p0 := (hbi.cell (p := ad2.add (t * 9)) (by rw [block_of_add]; exact hbk2)).trans (hc02 _ rfl)
          have p1 := (hbi.cell (p := ⟨(ad2.add (t * 9)).block, (ad2.add (t * 9)).off + 1, none⟩) (by rw [block_of_add]; exact hbk2)).trans (hcj2 1 _ rfl)
          have p2 := (hbi.cell (p := ⟨(ad2.add (t * 9)).block, (ad2.add (t * 9)).off + 2, none⟩) (by rw [block_of_add]; exact hbk2)).trans (hcj2 2 _ rfl)
          have p3 := (hbi.cell (p := ⟨(ad2.add (t * 9)).block, (ad2.add (t * 9)).off + 3, none⟩) (by rw [block_of_add]; exact hbk2)).trans (hcj2 3 _ rfl)
          have p4 := (hbi.cell (p := ⟨(ad2.add (t * 9)).block, (ad2.add (t * 9)).off + 4, none⟩) (by rw [block_of_add]; exact hbk2)).trans (hcj2 4 _ rfl)
          have p5 := (hbi.cell (p := ⟨(ad2.add (t * 9)).block, (ad2.add (t * 9)).off + 5, none⟩) (by rw [block_of_add]; exact hbk2)).trans (hcj2 5 _ rfl)
          have p6 := (hbi.cell (p := ⟨(ad2.add (t * 9)).block, (ad2.add (t * 9)).off + 6, none⟩) (by rw [block_of_add]; exact hbk2)).trans (hcj2 6 _ rfl)
          have p7 := (hbi.cell (p := ⟨(ad2.add (t * 9)).block, (ad2.add (t * 9)).off + 7, none⟩) (by rw [block_of_add]; exact hbk2)).trans (hcj2 7 _ rfl)
          have p8 := (hbi.cell (p := ⟨(ad2.add (t * 9)).block, (ad2.add (t * 9)).off + 8, none⟩) (by rw [block_of_add]; exact hbk2)).trans (hcj2 8 _ rfl)
          have hOF := HDO.out _ hmem2
          have hGt : GoodL (actL (D.acts.take t) L) := goodL_play HGK.out (fun a ha => (HDO.out a (List.mem_of_mem_take ha)).1)
          have HTS : Hid (actL (D.acts.take (t + 1)) L = doL (actL (D.acts.take t) L) ⟨kd, ⟨six, hi, lo, n0⟩, hop, ⟨six2, hi2, lo2⟩⟩) := by show _ = _; rw [htk2, actL_snoc]
          clear hlk2 htk2 hmem2 hc02 hcj2 hbk2
          obtain ⟨LT, hLT⟩ : ∃ LT, actL (D.acts.take t) L = LT := ⟨_, rfl⟩
          rw [hLT] at h7 hGt HTS
          obtain ⟨A7, c7, rfl, hc7, hr7⟩ := own_reads h7
          have CA := Lib.hid (fun (o : Obj) => actDone_any (w := wi.alloc o) (A := A7) (n := LT.length) (c := c7) (a := ⟨kd, ⟨six, hi, lo, n0⟩, hop, ⟨six2, hi2, lo2⟩⟩) rfl ((hr7.below ((Below.refl _ _).alloc (Nat.le_refl _) o)).more (by simp)) hGt hOF)
          unfold ActV.valD at CA
          obtain ⟨mm, hmm⟩ : ∃ mm, LT.length = mm := ⟨_, rfl⟩
          rw [hmm] at CA ⊢
          have HBI := Lib.hid hbi
          clear hOF hGt h7 hr7 hbi hc7 hmm hLT
          go_wp2_with fail
          refine (CA.out _).mono ?_
          rintro e X ⟨v8, rfl, ho8, hb8⟩
          have hw8 : w.heap.size ≤ wi.heap.size + 1 := by omega
          have HO8 : Hid (OwnRs X w.heap.size v8 (doL LT ⟨kd, ⟨six, hi, lo, n0⟩, hop, ⟨six2, hi2, lo2⟩⟩)) := own_mono ho8 (by simp; omega)
          have HBX : Hid (Below w1.heap.size w1 X) := below_step (HBI.out.alloc hszi _) hb8
          clear ho8 hb8 CA
          go_wp2
          go_roundw
          case rel => exact ⟨t + 1, _, by omega, by go_num, rfl, by rw [HTS.out]; exact HO8.out, HBX.out⟩
          case measure => simp [intOf]; omega
        · obtain rfl : t = na := by omega
          have hta : D.acts.take t = D.acts := List.take_of_length_le (by rw [HFL.out]; omega)
          rw [hta] at h7
          have H7 := Lib.hid h7
          have HBI := Lib.hid hbi
          clear h7 hbi hta
          go_wp2
          go_roundw
          case rel => exact ⟨k + 1, _, by omega, by go_num, rfl, by rw [HSN.out]; exact H7.out, HBI.out⟩
          case measure => simp [intOf]; omega
    · obtain rfl : k = N := by omega
      have ht : ds.take k = ds := List.take_of_length_le (by rw [HN.out]; omega)
      have hG := good_outs HO.out k
      rw [ht] at h6 hG
      have CS := Lib.hid (sortRs_any h6 hG)
      have HB : Hid (Below w.heap.size w wo) := HB1.out.trans (hb.mono hs1)
      have H6 := Lib.hid h6
      clear h6 hb ht hG
      go_wp2_with (go_at_call 126; (with_reducible refine CS.out.mono ?_); rintro e W2 ⟨rfl, S, hS, hown, hgr⟩)
      (try go_ret2)
      rw [← HP.out]
      exact ⟨_, S, rfl, sortedIf_ok hS, hown, HB.out.grown hgr HB.out.size (fun g hg => own_base H6.out _ hg)⟩

end Go.Proofs.Ytnflaaoapmhjgaa

namespace Go.Proofs.Ytnflaaoapmhjgaa
open Go.ChangeShapes Go.WideShapes Go.ChangeAt Go.RowKit

set_option maxRecDepth 100000 in
theorem open_jobs2 {H : Type} {enc : TypeId × Value → H} {W : World} {base : Nat} {sp : Nat → Bool} {held : Bool} {a0 : Option Addr} {len0 cap0 : Nat} {d : DataW H} {p : List MemPlace}
    (h : DataW.Trod enc Try.prog W base sp held 22 (.slice a0 len0 cap0) d p) : ∃ l : List JobV, IsJobs W a0 len0 l ∧ (∀ j ∈ l, j.act.Ok) ∧ len0 ≤ cap0 ∧ cap0 ≤ maxLen := by
  have hk : flat Try.prog 9 122 = some [some .i64, some .i64, none, some .u64, some .u64, some .i64, some .i64, none, some .u64, some .u64, some .i64] := by kernel_rfl
  obtain ⟨css, hcl, hfit, hr, hl, hm⟩ := open_flats Try.underlying22 hk (by kernel_rfl) (by simp) h
  obtain ⟨l, rfl, hz⟩ := choose_list (f := JobV.cells) (Q := fun j => j.act.Ok) css (fun cs hc => by
    have hf := hfit cs hc
    clear hr hcl hfit
    obtain ⟨jk, _, rfl, _, hf1⟩ := hf.int_inv
    obtain ⟨kd, _, rfl, _, hf2⟩ := hf1.int_inv
    obtain ⟨six, _, rfl, hf3⟩ := hf2.bool_inv
    obtain ⟨hi, _, rfl, wy, hf4⟩ := hf3.int_inv
    obtain ⟨lo, _, rfl, wz, hf5⟩ := hf4.int_inv
    obtain ⟨m, _, rfl, _, hf6⟩ := hf5.int_inv
    obtain ⟨hop, _, rfl, _, hf7⟩ := hf6.int_inv
    obtain ⟨six2, _, rfl, hf8⟩ := hf7.bool_inv
    obtain ⟨hi2, _, rfl, wy2, hf9⟩ := hf8.int_inv
    obtain ⟨lo2, _, rfl, wz2, hf10⟩ := hf9.int_inv
    obtain ⟨jn, _, rfl, _, hf11⟩ := hf10.int_inv
    obtain rfl := hf11.nil_inv
    exact ⟨⟨jk, ⟨kd, ⟨six, hi, lo, m⟩, hop, ⟨six2, hi2, lo2⟩⟩, jn⟩, ⟨range_u64 wy, range_u64 wz, range_u64 wy2, range_u64 wz2⟩, rfl⟩)
  exact ⟨l, ⟨by simpa using hcl, by rw [List.flatMap_def]; exact hr, fun j hj => ⟨(hz j hj).phi, (hz j hj).plo⟩⟩, hz, hl, hm⟩

set_option maxRecDepth 100000 in
set_option maxHeartbeats 800000 in
theorem queueTables_core {W : World} {a0 : Option Addr} {n c : Nat} {l : List JobV} (hr : IsJobs W a0 n l) (ho : ∀ j ∈ l, j.act.Ok) (hc : n ≤ c ∧ c ≤ maxLen) :
    Calls Try.prog 19 #[.slice a0 n c] W fun e W' => e = .returned (.bool true) ∧ Below W.heap.size W W' := by
  have C1 := Lib.hid (qTab_any hr hc ho)
  have C2 := Lib.hid (fun (w : World) (hb : Below W.heap.size W w) => refQTab_any (hr.below hb) hc ho)
  have hG : GoodL (actL (actsOf (outD n l)) []) := goodL_play goodL_nil fun a ha => (actsOf_ok (outs_of hr.len ho) a ha).1
  generalize actL (actsOf (outD n l)) [] = L at *
  generalize outE n = E at *
  clear hr hc ho
  go_enter Try.func19, Try.ntmps19
  go_wp2_with fail
  refine C1.out.mono ?_
  rintro e w1 ⟨v1, S, rfl, hS1, hd1, hb1⟩
  have HD1 := Lib.hid hd1
  have HB1 := Lib.hid hb1
  clear hd1 hb1
  go_wp2_with fail
  refine (C2.out _ HB1.out).mono ?_
  rintro e w2 ⟨v2, S2, rfl, hS2, hd2, hb2⟩
  obtain rfl := sortedIf_unique (fun _ => hG.1) hS1 hS2
  have hlen : S.length ≤ 60 := sortedIf_len (fun _ => hG.2) hS1
  obtain ⟨A2, c2, rfl, hc2, hr2⟩ := own_reads hd2
  obtain ⟨A1, c1, rfl, hc1, hr1⟩ := own_reads (own_below HD1.out hb2)
  have CS := Lib.hid (sameRoutes_any A1 A2 S.length c1 S.length c2 S S w2 rfl rfl (by omega) (by omega) hr1 hr2)
  rw [decide_eq_true rfl] at CS
  have HB2 := Lib.hid (below_step HB1.out hb2)
  generalize S.length = m at *
  clear hd2 hb2 hr1 hr2 C1 C2 HD1 hS1 hS2 hG
  go_wp2_with fail
  refine CS.out.mono ?_
  rintro e w3 ⟨rfl, hb3⟩
  have HB3 := Lib.hid (below_step HB2.out hb3)
  clear hb3
  go_wp2
  go_ret
  exact ⟨ret_bool (by simp), HB3.out⟩

set_option maxRecDepth 100000 in
set_option maxHeartbeats 800000 in
theorem queueTables_walk {H : Type} {enc : TypeId × Value → H} (W : World) (vs : Array Value) (ds : List (DataW H)) (ps : List MemPlace) (h : ArgsOk Try.prog [22] H enc W vs.toList ds ps) :
    Calls Try.prog 19 vs W fun e W' => e = .returned (.bool true) ∧ Below W.heap.size W W' := by
  obtain ⟨hA, ⟨base, hval⟩, _, _⟩ := h
  obtain ⟨v0, d0, e0, _, h0⟩ := trodAll_one hA
  obtain ⟨a0, n, c, rfl⟩ := okWide_slice Try.underlying22 (hval 0 _ v0 rfl (by rw [e0]; rfl))
  obtain ⟨l, hr, ho, hc⟩ := open_jobs2 h0
  obtain rfl : vs = #[.slice a0 n c] := by cases vs; simp_all
  exact queueTables_core hr ho hc

end Go.Proofs.Ytnflaaoapmhjgaa
