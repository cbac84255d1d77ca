/-
  
  
  
  
  
  
  
-/
import Derived.Test.YticikknfkkmoaaaDoorC6
import Derived.Laws.CopyOwn
import Derived.Test.YticikknfkkmoaaaDoorC4
import Derived.Lib.ItoaMem
namespace Go.Proofs.YticikknfkkmoaaaDoor
open Go.ChangeShapes Go.WideShapes Go.ChangeAt Go.RowKit

theorem readP_six {s : List UInt8} (h : 58 ∈ s) {x y : List UInt8} {g : Bool} (hc : Lib.cut s [58, 58] = (x, y, g)) : readP s = match numsO 16 58 x, numsO 16 58 y with
    | some l, some r => if 8 < l.length + r.length ∨ (g = false ∧ ¬ l.length = 8) then none else some (sixA (l ++ List.replicate (8 - l.length - r.length) 0 ++ r))
    | _, _ => none := by
  unfold readP
  rw [if_neg (by simpa using h), hc]
  cases numsO 16 58 x <;> cases numsO 16 58 y <;> rfl
theorem infoSize64 : (Tryd.prog.info? 22).map (·.size) = some 1 := by kernel_rfl
theorem u64_one (l : List Nat) : ∀ v ∈ l.map u64V, v.oneCell' = true := fun v hv => by
  obtain ⟨n, _, rfl⟩ := List.mem_map.1 hv
  rfl
theorem splice_two (l r : List Nat) (h : l.length + r.length ≤ 8) :
    splice (splice (List.replicate 8 (Value.int .u64 0)) 0 (l.map u64V)) (8 - r.length) (r.map u64V) = (l ++ List.replicate (8 - l.length - r.length) 0 ++ r).map u64V := by
  unfold splice
  simp only [List.take_zero, List.nil_append, Nat.zero_add, List.length_map, List.drop_replicate, List.map_append, List.map_replicate]
  rw [List.take_append, List.drop_append]
  simp only [List.length_map, List.take_replicate, List.drop_replicate]
  rw [List.take_of_length_le (by rw [List.length_map]; omega), List.drop_eq_nil_of_le (by rw [List.length_map]; omega)]
  have e1 : min (8 - r.length - l.length) (8 - l.length) = 8 - l.length - r.length := by omega
  have e2 : 8 - l.length - (8 - r.length + r.length - l.length) = 0 := by omega
  rw [e1]
  simp only [e2, List.replicate_zero, List.append_nil, List.append_assoc]
  rfl

theorem two_set {w x : World} {b : Nat} {t : TypeId} {a u v u' v' : Value} (h : Blk w b t #[a, u, v]) (hx : ((w.setCell ⟨b, 1, none⟩ u').setCell ⟨b, 2, none⟩ v').drew = x) : Blk x b t #[a, u', v'] := by
  rw [← hx]
  have := ((h.set_ 1 u').set_ 2 v').drew
  simpa using this
theorem two_far {w x : World} {b g : Nat} {t : TypeId} {cs : Array Value} {u' v' : Value} (h : Blk w g t cs) (hne : g ≠ b) (hx : ((w.setCell ⟨b, 1, none⟩ u').setCell ⟨b, 2, none⟩ v').drew = x) : Blk x g t cs := by
  rw [← hx]
  exact ((h.far (p := ⟨b, 1, none⟩) hne u').far (p := ⟨b, 2, none⟩) hne v').drew
theorem two_below {B : Nat} {w0 w x : World} {b : Nat} {u' v' : Value} (h : Below B w0 w) (hb : B ≤ b) (hx : ((w.setCell ⟨b, 1, none⟩ u').setCell ⟨b, 2, none⟩ v').drew = x) : Below B w0 x := by
  rw [← hx]
  exact ((h.setCell hb _).setCell hb _).drew
theorem wrap16 {a : Nat} (h : a < 281474976710656) : IntKind.u64.wrap ((a : Int) * 65536) = (a : Int) * 65536 := by
  rw [IntKind.wrap_u64]
  omega
theorem mul_add_lt {a b c d : Nat} (h1 : a < c) (h2 : b < d) : a * d + b < c * d :=
  Nat.lt_of_lt_of_le (Nat.add_lt_add_left h2 _) (by rw [← Nat.succ_mul]; exact Nat.mul_le_mul_right _ h1)
theorem fold_step {G : List Nat} {j n : Nat} (hM : ∀ n, n ∈ G → n < 65536) (_hl : G.length = 8) (hj : j < 4) {i : Nat} (_hi : G[i]? = some n) (H : List Nat) (hn : H[j]? = some n) (hH : ∀ x ∈ H, x ∈ G) :
    IntKind.u64.wrap (((foldB 65536 (H.take j) : Nat) : Int) * 65536) = ((foldB 65536 (H.take j) : Nat) : Int) * 65536 ∧ bits .or .u64 (((foldB 65536 (H.take j) : Nat) : Int) * 65536) (n : Int) = ((foldB 65536 (H.take (j + 1)) : Nat) : Int) := by
  have hlen : (H.take j).length = j := by
    have := (List.getElem?_eq_some_iff.1 hn).1
    rw [List.length_take]
    omega
  have h1 := foldB_lt (b := 65536) j (H.take j) hlen (fun x hx => hM x (hH x (List.mem_of_mem_take hx)))
  have h2 : (65536 : Nat) ^ j ≤ 65536 ^ 3 := Nat.pow_le_pow_right (by decide) (by omega)
  have h3 : foldB 65536 (H.take j) < 281474976710656 := Nat.lt_of_lt_of_le h1 (Nat.le_trans h2 (by decide))
  refine ⟨wrap16 h3, ?_⟩
  rw [or_wrap16 _ n h3 (hM n (hH n (List.mem_of_getElem? hn))), List.take_add_one, hn]
  congr 1
  exact (foldB_snoc 65536 (H.take j) n).symm
theorem copy_run {w : World} {g off dL : Nat} {A : Option Addr} {c : Nat} {l : List Nat} {cur : List Value} {t : TypeId} (hg : w.heap[g]? = some (.cells cur.toArray t (0, 0))) (hr : Reads w w.heap.size 1 A l.length (l.map u64V)) (hd : l.length ≤ dL) (hfit : off + l.length ≤ cur.length) :
    ∃ w', (Builtin.copy_ #[53, 53] 3 #[.slice (some ⟨g, off, none⟩) dL dL, .slice A l.length c]).run Tryd.prog w = .ok (goInt l.length) w' ∧ Hid (w'.heap[g]? = some (.cells (splice cur off (l.map u64V)).toArray t (0, 0))) ∧ Below g w w' := by
  by_cases h0 : l.length = 0
  · obtain rfl : l = [] := List.eq_nil_of_length_eq_zero h0
    refine ⟨w, run_copy_none (P := Tryd.prog) w 53 53 3 22 _ _ _ _ _ _ Tryd.underlying53 infoSize64 (by simp), ?_, Below.refl _ _⟩
    show _ = _
    simpa [splice] using hg
  · obtain ⟨ad, rfl, -, hc⟩ := hr.2 (by omega)
    have hlen : (l.map u64V).length = Nat.min l.length dL := by rw [List.length_map]; exact (Nat.min_eq_left hd).symm
    have hrun := run_copy_row (P := Tryd.prog) w 53 53 3 22 g off dL dL ad l.length c cur.toArray t (l.map u64V) Tryd.underlying53 infoSize64 hg hlen (fun j v hj => hc j v hj) (by rw [List.length_map]; simpa using hfit) (u64_one l)
    rw [List.length_map] at hrun
    refine ⟨_, hrun, ?_, below_setRow (Below.refl _ _) (Nat.le_refl _) _⟩
    show _ = _
    simpa [splice] using setRow_heap w g _ _ t _ hg

set_option maxRecDepth 100000 in
set_option maxHeartbeats 6400000 in
theorem read_six (s : ByteArray) (hs : s.size ≤ 600) (w : World) (hg : Glo w) (h58 : (58 : UInt8) ∈ s.data.toList) : Calls Tryd.prog 9 #[.string s] w (ReadRet w s.data.toList) := by
  have CC : Hid (∀ W, Calls Tryd.prog 20 #[.string s, .string ⟨#[58]⟩] W fun e w' => e = .returned (.bool true) ∧ w' = W) := fun W => by
    have h := Tryd.strings_Contains_one s 58 W
    rw [index_mem, decide_eq_true h58] at h
    exact h
  have CU : Hid (∀ (W : World), Below w.heap.size w W → Calls Tryd.prog 15 #[.string s, .string ⟨#[58, 58]⟩] W fun e w' => e = .returned (.tuple #[.string ⟨(Lib.cut s.data.toList [58, 58]).1.toArray⟩, .string ⟨(Lib.cut s.data.toList [58, 58]).2.1.toArray⟩, .bool (Lib.cut s.data.toList [58, 58]).2.2]) ∧ ∃ n, w' = W.drewN n) := fun W hW => by
    obtain ⟨m, hm⟩ := (hg.below hW).1
    exact Tryd.strings_Cut s ⟨#[58, 58]⟩ m W (by omega) hm
  have hcl := cut_len s.data.toList [58, 58]
  have hsz : s.data.toList.length = s.size := (Lib.size_eq s).symm
  have hrp := fun (x y : List UInt8) (g : Bool) => readP_six h58 (x := x) (y := y) (g := g)
  generalize Lib.cut s.data.toList [58, 58] = cu at *
  obtain ⟨x, y, gap⟩ := cu
  simp only at hcl CU
  have hrp := hrp x y gap rfl
  have CN1 := Lib.hid (fun (W : World) (hW : Below w.heap.size w W) => numbers_any (.inr rfl) 58 ⟨x.toArray⟩ (by simp [ByteArray.size]; omega) W (hg.below hW))
  have CN2 := Lib.hid (fun (W : World) (hW : Below w.heap.size w W) => numbers_any (.inr rfl) 58 ⟨y.toArray⟩ (by simp [ByteArray.size]; omega) W (hg.below hW))
  have HRP := Lib.hid hrp
  obtain ⟨post, hpost⟩ : ∃ post, ReadRet w s.data.toList = post := ⟨_, rfl⟩
  have HP := Lib.hid hpost
  rw [hpost]
  clear hrp hg h58 hpost hcl hsz
  go_enter Tryd.func9, Tryd.ntmps9
  go_wp2_with fail
  refine (CC.out _).mono ?_
  rintro e w' ⟨rfl, rfl⟩
  go_wp2_with fail
  refine (CU.out _ ((Below.refl _ _).alloc (Nat.le_refl _) _)).mono ?_
  rintro e w1 ⟨rfl, nq, rfl⟩
  go_wp2_with fail
  refine (CN1.out _ (below_drewN ((Below.refl _ _).alloc (Nat.le_refl _) _) _)).mono ?_
  rintro e w2 ⟨v1, l, fine1, rfl, hown1, hlen1, hor1, hb2⟩
  have HB2 : Hid (Below w.heap.size w w2) := below_step (below_drewN ((Below.refl _ _).alloc (Nat.le_refl _) _) _) hb2
  have hbk2 : Blk w2 w.heap.size 24 #[.bool false, .int .u64 0, .int .u64 0] := ((Blk.new w _ _).drewN _).below hb2 (by simp)
  obtain ⟨A1, c1, rfl, hc1, hr1, hab1⟩ := own_reads_at hown1
  clear hown1 hb2
  go_wp2_with fail
  refine (CN2.out _ HB2.out).mono ?_
  rintro e w3 ⟨v2, r, fine2, rfl, hown2, hlen2, hor2, hb3⟩
  have HB3 : Hid (Below w.heap.size w w3) := below_step HB2.out hb3
  have hbk : Blk w3 w.heap.size 24 #[.bool false, .int .u64 0, .int .u64 0] := hbk2.below hb3 hbk2.lt
  have hr1' := (hr1.below hb3).more hb3.size
  obtain ⟨A2, c2, rfl, hc2, hr2, hab2⟩ := own_reads_at hown2
  have d0 := hbk.cell 0
  have d1 := hbk.cell 1
  have d2 := hbk.cell 2
  simp at d0 d1 d2
  have f0 := hbk.frozen 0
  have f1 := hbk.frozen 1
  have f2 := hbk.frozen 2
  have hz3 := hbk.lt
  have HBK := Lib.hid hbk
  clear hown2 hb3 CN1 CN2 CC CU hbk hbk2 hr1
  have hbadk : (readP s.data.toList = none → post (.returned (.tuple #[.agg #[.bool false, .int .u64 0, .int .u64 0], .bool false])) (((w3.setCell ⟨w.heap.size, 0, none⟩ (.bool false)).setCell ⟨w.heap.size, 1, none⟩ (.int .u64 0)).setCell ⟨w.heap.size, 2, none⟩ (.int .u64 0))) := fun h => by
    rw [← HP.out]
    exact read_bad h (((HB3.out.setCell (Nat.le_refl _) _).setCell (Nat.le_refl _) _).setCell (Nat.le_refl _) _)
  have HBAD := Lib.hid hbadk
  clear hbadk
  rcases hor1 with ⟨rfl, hsome1⟩ | ⟨rfl, hnone1, rfl⟩
  rotate_left
  · have hbad : Hid (readP s.data.toList = none) := by show _ = _; rw [HRP.out, hnone1]
    clear hnone1 hor2
    go_wp2
    all_goals
      refine bodyPost_ret (v := .tuple #[.agg #[.bool false, .int .u64 0, .int .u64 0], .bool false]) ?_ rfl (HBAD.out hbad.out)
      simp [results, Tryd.results9, go_sem, d0, d1, d2]
  rcases hor2 with ⟨rfl, hsome2⟩ | ⟨rfl, hnone2, rfl⟩
  rotate_left
  · have hbad : Hid (readP s.data.toList = none) := by show _ = _; rw [HRP.out, hsome1, hnone2]
    clear hnone2 hsome1
    go_wp2
    all_goals
      refine bodyPost_ret (v := .tuple #[.agg #[.bool false, .int .u64 0, .int .u64 0], .bool false]) ?_ rfl (HBAD.out hbad.out)
      simp [results, Tryd.results9, go_sem, d0, d1, d2]
  have hrd : readP s.data.toList = if 8 < l.length + r.length ∨ (gap = false ∧ ¬ l.length = 8) then none else some (sixA (l ++ List.replicate (8 - l.length - r.length) 0 ++ r)) := by rw [HRP.out, hsome1, hsome2]
  have ew : IntKind.i64.wrap ((l.length : Int) + (r.length : Int)) = (l.length : Int) + (r.length : Int) := IntWalk.i64_in _ (by omega)
  by_cases h8 : 8 < l.length + r.length
  · rw [if_pos (.inl h8)] at hrd
    have hbad := Lib.hid hrd
    have h8i : (8 : Int) < (l.length : Int) + (r.length : Int) := by omega
    clear hsome1 hsome2 hrd
    go_wp2
    all_goals
      refine bodyPost_ret (v := .tuple #[.agg #[.bool false, .int .u64 0, .int .u64 0], .bool false]) ?_ rfl (HBAD.out hbad.out)
      simp [results, Tryd.results9, go_sem, d0, d1, d2]
  have h8i : ¬ (8 : Int) < (l.length : Int) + (r.length : Int) := by omega
  by_cases hgl : gap = false ∧ ¬ l.length = 8
  · rw [if_pos (.inr hgl)] at hrd
    have hbad := Lib.hid hrd
    obtain ⟨rfl, hl8⟩ := hgl
    have hl8i : ¬ (l.length : Int) = 8 := by omega
    have hl8b : ((l.length : Int) != 8) = true := by simpa using hl8i
    clear hsome1 hsome2 hrd
    go_wp2
    all_goals
      refine bodyPost_ret (v := .tuple #[.agg #[.bool false, .int .u64 0, .int .u64 0], .bool false]) ?_ rfl (HBAD.out hbad.out)
      simp [results, Tryd.results9, go_sem, d0, d1, d2]
  rw [if_neg (by simp only [not_or]; exact ⟨h8, hgl⟩)] at hrd
  have hgood := Lib.hid hrd
  have hgl2 : gap = true ∨ (l.length : Int) = 8 := by
    cases gap with
    | true => exact .inl rfl
    | false => exact .inr (by have : l.length = 8 := Classical.byContradiction fun h => hgl ⟨rfl, h⟩; omega)
  have hle1 : Hid (∀ n ∈ l, n < 65536) := fun n hn => by
    have := numsO_le (.inr rfl) hsome1 n hn
    simp [mostB] at this
    omega
  have hle2 : Hid (∀ n ∈ r, n < 65536) := fun n hn => by
    have := numsO_le (.inr rfl) hsome2 n hn
    simp [mostB] at this
    omega
  clear hsome1 hsome2 hrd hgl HBAD HRP
  have hl8 : l.length ≤ 8 := by omega
  have hr8 : r.length ≤ 8 := by omega
  have hgl3 : gap = false → ((l.length : Int) != 8) = false := fun h => by
    rcases hgl2 with h2 | h2
    · rw [h] at h2; cases h2
    · simpa using h2
  clear hgl2
  cases gap
  all_goals
    simp only [forall_const, Bool.true_eq_false, false_implies] at hgl3
    have hra : Reads (w3.alloc (.cells #[.int .u64 0, .int .u64 0, .int .u64 0, .int .u64 0, .int .u64 0, .int .u64 0, .int .u64 0, .int .u64 0] 57)) (w3.alloc (.cells #[.int .u64 0, .int .u64 0, .int .u64 0, .int .u64 0, .int .u64 0, .int .u64 0, .int .u64 0, .int .u64 0] 57)).heap.size 1 A1 l.length (l.map u64V) := (hr1'.below ((Below.refl _ _).alloc (Nat.le_refl _) _)).more (by simp)
    obtain ⟨w4, hrun1, HG4, hb4⟩ := copy_run (w := (w3.alloc (.cells #[.int .u64 0, .int .u64 0, .int .u64 0, .int .u64 0, .int .u64 0, .int .u64 0, .int .u64 0, .int .u64 0] 57))) (g := w3.heap.size) (off := 0) (dL := 8) (c := c1) (cur := List.replicate 8 (Value.int .u64 0)) (heap_alloc_new w3 _) hra hl8 (by simp; omega)
    have HB34 : Hid (Below w3.heap.size w3 w4) := ((Below.refl _ _).alloc (Nat.le_refl _) _).trans hb4
    have hz4 : w3.heap.size < w4.heap.size := by have := hb4.size; simp at this; omega
    have hr2' := (hr2.below HB34.out).more HB34.out.size
    have e5 : IntKind.i64.wrap (8 - (r.length : Int)) = ((8 - r.length : Nat) : Int) := by rw [IntWalk.i64_in _ (by omega)]; omega
    have hq8 : 8 - r.length ≤ 8 := by omega
    have hsl : (splice (List.replicate 8 (Value.int .u64 0)) 0 (l.map u64V)).length = 8 := by rw [length_splice _ _ _ (by simp; omega)]; simp
    have hqd : 8 - r.length ≤ 8 := by omega
    by_cases hr0 : r.length = 0
    · obtain rfl : r = [] := List.eq_nil_of_length_eq_zero hr0
      obtain ⟨w5, hrun2, HG5, hb5⟩ : ∃ w5, (Builtin.copy_ #[53, 53] 3 #[.slice (some ⟨w3.heap.size, 0, none⟩) 0 0, .slice A2 0 c2]).run Tryd.prog w4 = .ok (goInt 0) w5 ∧ Hid (w5.heap[w3.heap.size]? = some (.cells (splice (splice (List.replicate 8 (Value.int .u64 0)) 0 (l.map u64V)) (8 - ([] : List Nat).length) (([] : List Nat).map u64V)).toArray 57 (0, 0))) ∧ Below w3.heap.size w4 w5 :=
        ⟨w4, run_copy_none (P := Tryd.prog) w4 53 53 3 22 _ _ _ _ _ _ Tryd.underlying53 infoSize64 (by simp), (by
          show _ = _
          rw [HG4.out]
          congr 3
          have e : ∀ (L : List Value) (k : Nat), splice L k (([] : List Nat).map u64V) = L := fun L k => by simp [splice]
          rw [e]), Below.refl _ _⟩
      have HGG : Hid (w5.heap[w3.heap.size]? = some (.cells ((l ++ List.replicate (8 - l.length - ([] : List Nat).length) 0 ++ ([] : List Nat)).map u64V).toArray 57 (0, 0))) := by
        show _ = _
        rw [← splice_two l [] (by simp; omega)]
        exact HG5.out
      have hE : IntKind.i64.wrap (8 - 0) = 8 := IntWalk.i64_in _ (by omega)
      clear HG5 hb4 HG4 hr2' e5 hra
      have HB35 : Hid (Below w3.heap.size w3 w5) := HB34.out.trans hb5
      have hz5 : w3.heap.size < w5.heap.size := by have := hb5.size; omega
      have HBF : Hid (Below w.heap.size w w5) := HB3.out.trans (HB35.out.mono (by omega))
      clear hb5
      have HM : Hid (∀ n, n ∈ (l ++ List.replicate (8 - l.length - ([] : List Nat).length) 0 ++ ([] : List Nat)) → n < 65536) := fun n hn => by
        simp only [List.mem_append, List.mem_replicate] at hn
        rcases hn with (h | h) | h
        · exact hle1.out n h
        · omega
        · exact hle2.out n h
      have HLE : Hid ((l ++ List.replicate (8 - l.length - ([] : List Nat).length) 0 ++ ([] : List Nat)).length = 8) := by show _ = _; simp; omega
      generalize (l ++ List.replicate (8 - l.length - ([] : List Nat).length) 0 ++ ([] : List Nat)) = G at *
      have o0 := (HB35.out.cell (p := ⟨w.heap.size, 0, none⟩) hz3).trans d0
      have BX : Hid (Blk w5 w.heap.size 24 #[.bool false, .int .u64 (foldB 65536 ((G.take 4).take 0) : Nat), .int .u64 (foldB 65536 ((G.drop 4).take 0) : Nat)]) := HBK.out.below HB35.out hz3
      clear o0
      go_wp2
      go_loopw [96, 16] (fun i _ wr => ∃ j : Nat, j ≤ 4 ∧ i = .int .i64 j ∧ Hid (Blk wr w.heap.size 24 #[.bool false, .int .u64 (foldB 65536 ((G.take 4).take j) : Nat), .int .u64 (foldB 65536 ((G.drop 4).take j) : Nat)]) ∧ Hid (Blk wr w3.heap.size 57 (G.map u64V).toArray) ∧ Hid (Below w.heap.size w wr)) (fun i _ _ => 4 - (RowKit.intOf i).toNat)
      case atStart => exact ⟨0, by omega, rfl, BX, HGG, HBF⟩
      case round =>
        obtain ⟨j, hj, rfl, hblk, hrow, hb⟩ := hrel
        obtain ⟨wo, rfl⟩ : ∃ wo : World, wo = wr := ⟨_, rfl⟩
        have m0 := hblk.out.cell 0
        have m1 := hblk.out.cell 1
        have m2 := hblk.out.cell 2
        simp at m0 m1 m2
        have e0 := hblk.out.frozen 0
        have e1 := hblk.out.frozen 1
        have e2 := hblk.out.frozen 2
        by_cases hlt : j < 4
        · obtain ⟨n, hn⟩ : ∃ n, G[j]? = some n := ⟨G[j]'(by have := HLE.out; omega), List.getElem?_eq_getElem (by have := HLE.out; omega)⟩
          obtain ⟨m, hm⟩ : ∃ m, G[4 + j]? = some m := ⟨G[4 + j]'(by have := HLE.out; omega), List.getElem?_eq_getElem (by have := HLE.out; omega)⟩
          have k1 : wo.cell? ⟨w3.heap.size, j, none⟩ = some (.int .u64 (n : Int)) := (hrow.out.cell j).trans (by rw [List.getElem?_toArray, List.getElem?_map, hn]; rfl)
          have k2 : wo.cell? ⟨w3.heap.size, 4 + j, none⟩ = some (.int .u64 (m : Int)) := (hrow.out.cell (4 + j)).trans (by rw [List.getElem?_toArray, List.getElem?_map, hm]; rfl)
          have V1 := fold_step HM.out HLE.out hlt hn (G.take 4) (by rw [List.getElem?_take_of_lt hlt, hn]) (fun x hx => List.mem_of_mem_take hx)
          have V2 := fold_step HM.out HLE.out hlt hm (G.drop 4) (by rw [List.getElem?_drop, hm]) (fun x hx => List.mem_of_mem_drop hx)
          obtain ⟨q1, v1⟩ := V1
          obtain ⟨q2, v2⟩ := V2
          have q3 : IntKind.i64.wrap (4 + (j : Int)) = 4 + (j : Int) := IntWalk.i64_in _ (by omega)
          have j0 : (0 : Int) ≤ (j : Int) := by omega
          have j4 : (j : Int) < 4 := by omega
          have j8 : (j : Int) < 8 := by omega
          have j12 : 4 + (j : Int) < 8 := by omega
          have jt : (4 + (j : Int)).toNat = 4 + j := by omega
          clear hn hm
          go_wp2
          go_region
          go_wp2
          go_roundw
          case rel =>
            obtain ⟨x, hx⟩ : ∃ x : World, ((wo.setCell ⟨w.heap.size, 1, none⟩ (.int .u64 (foldB 65536 ((G.take 4).take (j + 1)) : Nat))).setCell ⟨w.heap.size, 2, none⟩ (.int .u64 (foldB 65536 ((G.drop 4).take (j + 1)) : Nat))).drew = x := ⟨_, rfl⟩
            rw [hx]
            exact ⟨j + 1, by omega, by go_num, two_set hblk.out hx, two_far hrow.out (by omega) hx, two_below hb.out (Nat.le_refl _) hx⟩
          case measure => simp [RowKit.intOf]; omega
        · obtain rfl : j = 4 := by omega
          have ht1 : (G.take 4).take 4 = G.take 4 := by rw [List.take_take]; rfl
          have ht2 : (G.drop 4).take 4 = G.drop 4 := List.take_of_length_le (by rw [List.length_drop, HLE.out]; exact Nat.le_refl _)
          rw [ht1] at m1
          rw [ht2] at m2
          clear ht1 ht2
          go_wp2
          refine bodyPost_ret (v := .tuple #[.agg #[.bool true, .int .u64 (foldB 65536 (G.take 4) : Nat), .int .u64 (foldB 65536 (G.drop 4) : Nat)], .bool true]) ?_ rfl ?_
          · simp [results, Tryd.results9, go_sem, m0, m1, m2]
          · rw [← HP.out]
            refine read_good hgood.out ?_
            (repeat' first | with_reducible exact hb.out | with_reducible refine Below.drew ?_ | with_reducible refine Below.setCell ?_ ?_ _ | exact Nat.le_refl _)
    · obtain ⟨w5, hrun2, HG5, hb5⟩ := copy_run (g := w3.heap.size) (off := 8 - r.length) (dL := 8 - (8 - r.length)) (c := c2) HG4.out hr2' (by omega) (by rw [hsl]; omega)
      have HGG : Hid (w5.heap[w3.heap.size]? = some (.cells ((l ++ List.replicate (8 - l.length - r.length) 0 ++ r).map u64V).toArray 57 (0, 0))) := by
        show _ = _
        rw [← splice_two l r (by omega)]
        exact HG5.out
      clear HG5 hb4 HG4 hr2' hra
      obtain ⟨q, hq⟩ : ∃ q, 8 - r.length = q := ⟨_, rfl⟩
      have hrq : Hid (r.length = 8 - q) := by show _ = _; omega
      have hqlt : q < 8 := by omega
      rw [hq] at e5 hq8 hrun2
      have hqi : (0 : Int) ≤ (q : Int) := by omega
      have hqi2 : (q : Int) ≤ 8 := by omega
      clear hq
      have HB35 : Hid (Below w3.heap.size w3 w5) := HB34.out.trans hb5
      have hz5 : w3.heap.size < w5.heap.size := by have := hb5.size; omega
      have HBF : Hid (Below w.heap.size w w5) := HB3.out.trans (HB35.out.mono (by omega))
      clear hb5
      have HM : Hid (∀ n, n ∈ (l ++ List.replicate (8 - l.length - r.length) 0 ++ r) → n < 65536) := fun n hn => by
        simp only [List.mem_append, List.mem_replicate] at hn
        rcases hn with (h | h) | h
        · exact hle1.out n h
        · omega
        · exact hle2.out n h
      have HLE : Hid ((l ++ List.replicate (8 - l.length - r.length) 0 ++ r).length = 8) := by show _ = _; simp; omega
      generalize (l ++ List.replicate (8 - l.length - r.length) 0 ++ r) = G at *
      have o0 := (HB35.out.cell (p := ⟨w.heap.size, 0, none⟩) hz3).trans d0
      have BX : Hid (Blk w5 w.heap.size 24 #[.bool false, .int .u64 (foldB 65536 ((G.take 4).take 0) : Nat), .int .u64 (foldB 65536 ((G.drop 4).take 0) : Nat)]) := HBK.out.below HB35.out hz3
      clear o0
      go_wp2
      go_loopw [96, 16] (fun i _ wr => ∃ j : Nat, j ≤ 4 ∧ i = .int .i64 j ∧ Hid (Blk wr w.heap.size 24 #[.bool false, .int .u64 (foldB 65536 ((G.take 4).take j) : Nat), .int .u64 (foldB 65536 ((G.drop 4).take j) : Nat)]) ∧ Hid (Blk wr w3.heap.size 57 (G.map u64V).toArray) ∧ Hid (Below w.heap.size w wr)) (fun i _ _ => 4 - (RowKit.intOf i).toNat)
      case atStart => exact ⟨0, by omega, rfl, BX, HGG, HBF⟩
      case round =>
        obtain ⟨j, hj, rfl, hblk, hrow, hb⟩ := hrel
        obtain ⟨wo, rfl⟩ : ∃ wo : World, wo = wr := ⟨_, rfl⟩
        have m0 := hblk.out.cell 0
        have m1 := hblk.out.cell 1
        have m2 := hblk.out.cell 2
        simp at m0 m1 m2
        have e0 := hblk.out.frozen 0
        have e1 := hblk.out.frozen 1
        have e2 := hblk.out.frozen 2
        by_cases hlt : j < 4
        · obtain ⟨n, hn⟩ : ∃ n, G[j]? = some n := ⟨G[j]'(by have := HLE.out; omega), List.getElem?_eq_getElem (by have := HLE.out; omega)⟩
          obtain ⟨m, hm⟩ : ∃ m, G[4 + j]? = some m := ⟨G[4 + j]'(by have := HLE.out; omega), List.getElem?_eq_getElem (by have := HLE.out; omega)⟩
          have k1 : wo.cell? ⟨w3.heap.size, j, none⟩ = some (.int .u64 (n : Int)) := (hrow.out.cell j).trans (by rw [List.getElem?_toArray, List.getElem?_map, hn]; rfl)
          have k2 : wo.cell? ⟨w3.heap.size, 4 + j, none⟩ = some (.int .u64 (m : Int)) := (hrow.out.cell (4 + j)).trans (by rw [List.getElem?_toArray, List.getElem?_map, hm]; rfl)
          have V1 := fold_step HM.out HLE.out hlt hn (G.take 4) (by rw [List.getElem?_take_of_lt hlt, hn]) (fun x hx => List.mem_of_mem_take hx)
          have V2 := fold_step HM.out HLE.out hlt hm (G.drop 4) (by rw [List.getElem?_drop, hm]) (fun x hx => List.mem_of_mem_drop hx)
          obtain ⟨q1, v1⟩ := V1
          obtain ⟨q2, v2⟩ := V2
          have q3 : IntKind.i64.wrap (4 + (j : Int)) = 4 + (j : Int) := IntWalk.i64_in _ (by omega)
          have j0 : (0 : Int) ≤ (j : Int) := by omega
          have j4 : (j : Int) < 4 := by omega
          have j8 : (j : Int) < 8 := by omega
          have j12 : 4 + (j : Int) < 8 := by omega
          have jt : (4 + (j : Int)).toNat = 4 + j := by omega
          clear hn hm
          go_wp2
          go_region
          go_wp2
          go_roundw
          case rel =>
            obtain ⟨x, hx⟩ : ∃ x : World, ((wo.setCell ⟨w.heap.size, 1, none⟩ (.int .u64 (foldB 65536 ((G.take 4).take (j + 1)) : Nat))).setCell ⟨w.heap.size, 2, none⟩ (.int .u64 (foldB 65536 ((G.drop 4).take (j + 1)) : Nat))).drew = x := ⟨_, rfl⟩
            rw [hx]
            exact ⟨j + 1, by omega, by go_num, two_set hblk.out hx, two_far hrow.out (by omega) hx, two_below hb.out (Nat.le_refl _) hx⟩
          case measure => simp [RowKit.intOf]; omega
        · obtain rfl : j = 4 := by omega
          have ht1 : (G.take 4).take 4 = G.take 4 := by rw [List.take_take]; rfl
          have ht2 : (G.drop 4).take 4 = G.drop 4 := List.take_of_length_le (by rw [List.length_drop, HLE.out]; exact Nat.le_refl _)
          rw [ht1] at m1
          rw [ht2] at m2
          clear ht1 ht2
          go_wp2
          refine bodyPost_ret (v := .tuple #[.agg #[.bool true, .int .u64 (foldB 65536 (G.take 4) : Nat), .int .u64 (foldB 65536 (G.drop 4) : Nat)], .bool true]) ?_ rfl ?_
          · simp [results, Tryd.results9, go_sem, m0, m1, m2]
          · rw [← HP.out]
            refine read_good hgood.out ?_
            (repeat' first | with_reducible exact hb.out | with_reducible refine Below.drew ?_ | with_reducible refine Below.setCell ?_ ?_ _ | exact Nat.le_refl _)

end Go.Proofs.YticikknfkkmoaaaDoor

namespace Go.Proofs.YticikknfkkmoaaaDoor
open Go.ChangeShapes Go.WideShapes Go.ChangeAt Go.RowKit

def preTxt (six : Bool) (hi lo n : Int) : List UInt8 := addrTxt six hi lo ++ [47] ++ numT 10 n.toNat
def ptxL (six : Bool) (hi lo n : Int) : List UInt8 := if chk six hi lo n = 0 then preTxt six hi lo n else []
theorem chk_nil {six : Bool} {hi lo n : Int} (h : chk six hi lo n = 0) : mayB six hi lo = true ∧ 0 ≤ n ∧ n ≤ 128 := by
  have hw := wideI_le six
  unfold chk at h
  split at h
  · cases h
  · split at h
    · cases h
    · refine ⟨by simpa using ‹¬ mayB six hi lo = false›, by omega, by omega⟩
theorem addrTxt_len (six : Bool) (hi lo : Int) (h1 : 0 ≤ hi) (h2 : 0 ≤ lo) : (addrTxt six hi lo).length ≤ 100 := by
  unfold addrTxt
  cases six
  · rw [if_neg (by decide)]
    refine Nat.le_trans (joinT_len 46 3 _ fun x hx => ?_) ?_
    · obtain ⟨y, hy, rfl⟩ := List.mem_map.1 hx
      have := octs4_lt _ y hy
      exact num10_len _ (by omega)
    · rw [List.length_map, show (octs4 _).length = 4 by simp [octs4]]; omega
  · rw [if_pos rfl, text_same _ (gps_len hi lo)]
    refine partT_len _ _ _ _ (fun x hx => ?_) (by rw [List.length_map]; rfl)
    obtain ⟨y, hy, rfl⟩ := List.mem_map.1 hx
    have := gps_lt hi lo h1 h2 y hy
    exact num16_len _ (by omega)
theorem addrOfT_any {w : World} (six : Bool) (hi lo : Int) (h1 : 0 ≤ hi ∧ hi < 18446744073709551616) (h2 : 0 ≤ lo ∧ lo < 18446744073709551616) (ht : Tabs w) :
    Calls Tryd.prog 10 #[.agg #[.bool six, .int .u64 hi, .int .u64 lo]] w fun e w' => e = .returned (.string ⟨(addrTxt six hi lo).toArray⟩) ∧ Below w.heap.size w w' := by
  cases six
  · exact of4_any hi lo h2 ht
  · exact of6_any hi lo h1 h2 ht
theorem itoa_num (n : Nat) : Lib.itoa (n : Int) = numT 10 n := by rw [Lib.itoa_nonneg, dec_num]

set_option maxRecDepth 100000 in
set_option maxHeartbeats 1600000 in
theorem preOf_any {w : World} (six : Bool) (hi lo : Int) (n : Nat) (hn : n ≤ 128) (h1 : 0 ≤ hi ∧ hi < 18446744073709551616) (h2 : 0 ≤ lo ∧ lo < 18446744073709551616) (ht : Tabs w) :
    Calls Tryd.prog 18 #[.agg #[.bool six, .int .u64 hi, .int .u64 lo, .int .i64 n]] w fun e w' => e = .returned (.string ⟨(preTxt six hi lo n).toArray⟩) ∧ Below w.heap.size w w' := by
  have CO := Lib.hid (fun (W : World) (hb : Below w.heap.size w W) => addrOfT_any six hi lo h1 h2 (ht.below hb))
  have CI : Hid (∀ W : World, Below w.heap.size w W → Calls Tryd.prog 36 #[.int .i64 n] W fun e w' => e = .returned (.string ⟨(numT 10 n).toArray⟩) ∧ Below W.heap.size W w') := by
    refine Lib.hid fun W hb => (Tryd.strconv_Itoa n (by omega) (by omega) W (ht.below hb).1).mono ?_
    rintro e w' ⟨rfl, k, os, rfl⟩
    exact ⟨by rw [itoa_num], below_regrown W (W.drawn + k) os⟩
  have hla := addrTxt_len six hi lo h1.1 h2.1
  have hlb : (numT 10 n).length ≤ 3 := num10_len n (by omega)
  have HX : Hid (preTxt six hi lo n = addrTxt six hi lo ++ [47] ++ numT 10 n) := by refine Lib.hid ?_; unfold preTxt; rw [Int.toNat_natCast]
  obtain ⟨ta, hta⟩ : ∃ ta, addrTxt six hi lo = ta := ⟨_, rfl⟩
  obtain ⟨tb, htb⟩ : ∃ tb, numT 10 n = tb := ⟨_, rfl⟩
  rw [hta] at CO HX hla
  rw [htb] at CI HX hlb
  have HB0 : Hid (Below w.heap.size w (w.alloc (.cells #[.bool six, .int .u64 hi, .int .u64 lo, .int .i64 n] 30))) := (Below.refl _ _).alloc (Nat.le_refl _) _
  obtain ⟨tc, htc⟩ : ∃ tc, ta ++ [47] = tc := ⟨_, rfl⟩
  have htl : tc.length ≤ 101 := by rw [← htc, List.length_append]; simp only [List.length_cons, List.length_nil]; omega
  have hs1 : ∀ W : World, (Op.stringOp .add ⟨ta.toArray⟩ ⟨#[47]⟩).run Tryd.prog W = .ok (.string ⟨tc.toArray⟩) W := fun W => by
    have := run_string_add_lists (P := Tryd.prog) W ta [47] (by omega) (by simp)
    rw [htc] at this
    exact this
  have hs2 : ∀ W : World, (Op.stringOp .add ⟨tc.toArray⟩ ⟨tb.toArray⟩).run Tryd.prog W = .ok (.string ⟨(tc ++ tb).toArray⟩) W := fun W => run_string_add_lists (P := Tryd.prog) W tc tb (by omega) (by omega)
  have HTC := Lib.hid htc
  obtain ⟨td, htd⟩ : ∃ td, tc ++ tb = td := ⟨_, rfl⟩
  rw [htd] at hs2
  have HTD := Lib.hid htd
  clear hta htb ht htc htd hla hlb htl
  go_enter Tryd.func18, Tryd.ntmps18
  go_wp2_with fail
  obtain ⟨wo, hwo⟩ : ∃ wo, wo = w.alloc (.cells #[.bool six, .int .u64 hi, .int .u64 lo, .int .i64 n] 30) := ⟨_, rfl⟩
  have hc0 : wo.cell? ⟨w.heap.size, 0, none⟩ = some (.bool six) := by rw [hwo]; simp [World.cell?_alloc_new]
  have hc1 : wo.cell? ⟨w.heap.size, 1, none⟩ = some (.int .u64 hi) := by rw [hwo]; simp [World.cell?_alloc_new]
  have hc2 : wo.cell? ⟨w.heap.size, 2, none⟩ = some (.int .u64 lo) := by rw [hwo]; simp [World.cell?_alloc_new]
  have hc3 : wo.cell? ⟨w.heap.size, 3, none⟩ = some (.int .i64 n) := by rw [hwo]; simp [World.cell?_alloc_new]
  have hsz : w.heap.size < wo.heap.size := by rw [hwo]; simp
  rw [← hwo] at HB0 ⊢
  clear hwo
  go_region_held3 (fun w' => (∀ b o, b < wo.heap.size → w'.cell? ⟨b, o, none⟩ = wo.cell? ⟨b, o, none⟩) ∧ wo.heap.size ≤ w'.heap.size ∧ Hid (Below wo.heap.size wo w'))
    ((first | assumption | exact keep0 _ | exact keep1 (by assumption) (by assumption) | exact keepD (by assumption) | exact keepB (by assumption) (by assumption) | exact keepA (by assumption) _ | exact ⟨fun _ _ _ => rfl, Nat.le_refl _, Below.refl _ _⟩))
    (first | (go_at_call 10; (with_reducible refine (CO.out _ ?hb1).mono ?_); (case hb1 => exact below_step HB0.out (keepBelow (by assumption))); rintro e w5 ⟨rfl, hb5⟩; obtain ⟨fc5, ff5⟩ := bcell hb5; have hz5 := hb5.size) | (go_at_call 36; (with_reducible refine (CI.out _ ?hb1).mono ?_); (case hb1 => exact below_step HB0.out (keepBelow (by assumption))); rintro e w6 ⟨rfl, hb6⟩; obtain ⟨fc6, ff6⟩ := bcell hb6; have hz6 := hb6.size))
  all_goals go_wp2
  all_goals go_ret
  all_goals (refine ⟨?_, below_step HB0.out (keepBelow (by assumption))⟩; rw [HX.out, HTC.out, HTD.out]; rfl)

set_option maxRecDepth 100000 in
set_option maxHeartbeats 800000 in
theorem refPreText_any {w : World} (six : Bool) (hi lo n : Int) (h1 : 0 ≤ hi ∧ hi < 18446744073709551616) (h2 : 0 ≤ lo ∧ lo < 18446744073709551616) :
    Calls Tryd.prog 19 #[.agg #[.bool six, .int .u64 hi, .int .u64 lo, .int .i64 n]] w (RetTxt w (ptxL six hi lo n) (chk six hi lo n)) := by
  have CC := Lib.hid (fun (W : World) => preFault_any six hi lo n W h1 h2)
  obtain ⟨post, hpost⟩ : ∃ post, RetTxt w (ptxL six hi lo n) (chk six hi lo n) = post := ⟨_, rfl⟩
  rw [hpost]
  unfold ptxL at hpost
  by_cases hz : chk six hi lo n = 0
  · have hr := chk_nil hz
    obtain ⟨m, rfl⟩ : ∃ m : Nat, n = m := ⟨n.toNat, by omega⟩
    rw [if_pos hz, hz] at hpost
    rw [hz] at CC
    have CA := Lib.hid (fun (W : World) => refText_any (w := W) six hi lo h1 h2)
    unfold RetTxt txtL txtE at CA
    rw [if_pos hr.1, if_pos hr.1] at CA
    have CN := Lib.hid (fun (W : World) => numText_any 10 (.inl rfl) m (by omega) W)
    have hla := addrTxt_len six hi lo h1.1 h2.1
    have hlb : (numT 10 m).length ≤ 3 := num10_len m (by omega)
    unfold preTxt at hpost
    rw [Int.toNat_natCast] at hpost
    obtain ⟨ta, hta⟩ : ∃ ta, addrTxt six hi lo = ta := ⟨_, rfl⟩
    obtain ⟨tb, htb⟩ : ∃ tb, numT 10 m = tb := ⟨_, rfl⟩
    rw [hta] at CA hpost hla
    rw [htb] at CN hpost hlb
    have HP := Lib.hid hpost
    clear hpost hz hr hta htb
    go_enter Tryd.func19, Tryd.ntmps19
    go_wp2_with fail
    refine (CC.out _).mono ?_
    rintro e w1 ⟨rfl, hb1⟩
    obtain ⟨fc1, ff1⟩ := bcell hb1
    have s1 := bsize1 hb1
    have HB1 := Lib.hid (balloc1 hb1)
    clear hb1
    go_wp2_with fail
    refine (CA.out _).mono ?_
    rintro e w2 ⟨rfl, hb2⟩
    obtain ⟨fc2, ff2⟩ := bcell hb2
    have s2 := hb2.size
    have HB2 := Lib.hid (below_step HB1.out hb2)
    clear hb2
    go_wp2_with fail
    refine (CN.out _).mono ?_
    rintro e w3 ⟨rfl, hb3⟩
    have HB3 := Lib.hid (below_step HB2.out hb3)
    clear hb3
    go_wp2
    rw [← HP.out]
    exact ⟨by simp [ByteArray.mk_append_mk], HB3.out⟩
  · rw [if_neg hz] at hpost
    obtain ⟨E, hE⟩ : ∃ E, chk six hi lo n = E := ⟨_, rfl⟩
    rw [hE] at hpost hz CC
    have HP := Lib.hid hpost
    have d0 : (E == 0) = false := by simpa using hz
    clear hpost hE
    go_enter Tryd.func19, Tryd.ntmps19
    go_wp2_with fail
    refine (CC.out _).mono ?_
    rintro e w1 ⟨rfl, hb1⟩
    have HB1 := Lib.hid (balloc1 hb1)
    clear hb1
    go_wp2
    rw [← HP.out]
    exact ⟨rfl, HB1.out⟩

end Go.Proofs.YticikknfkkmoaaaDoor

namespace Go.Proofs.YticikknfkkmoaaaDoor
open Go.ChangeShapes Go.WideShapes Go.ChangeAt Go.RowKit

theorem read_any (s : ByteArray) (hs : s.size ≤ 600) (w : World) (hg : Glo w) : Calls Tryd.prog 9 #[.string s] w (ReadRet w s.data.toList) := by
  by_cases h : (58 : UInt8) ∈ s.data.toList
  · exact read_six s hs w hg h
  · exact read_four s hs w hg h
def noA : AV := ⟨false, 0, 0⟩
/-- What is parsed of a text. -/
def parsA (s : List UInt8) : AV × Int := if 600 < s.length then (noA, 1) else match readP s with
  | some a => if addrTxt a.six a.hi a.lo = s then (a, 0) else (noA, 4)
  | none => (noA, 4)
theorem parsA_big {s : List UInt8} (h : 600 < s.length) : parsA s = (noA, 1) := by unfold parsA; rw [if_pos h]
theorem parsA_txt {s : List UInt8} (h : ¬ 600 < s.length) {a : AV} (ha : a.Ok) (he : addrTxt a.six a.hi a.lo = s) : parsA s = (a, 0) := by
  unfold parsA
  rw [if_neg h, ← he, read_txt ha]
  simp
theorem parsA_bad {s : List UInt8} (h : ¬ 600 < s.length) (hn : ∀ a : AV, a.Ok → ¬ addrTxt a.six a.hi a.lo = s) : parsA s = (noA, 4) := by
  unfold parsA
  rw [if_neg h]
  cases hr : readP s with
  | none => rfl
  | some a =>
    simp only
    rw [if_neg (hn a (readP_ok hr))]
theorem parsA_ok {s : List UInt8} (h : (parsA s).2 = 0) : (parsA s).1.Ok ∧ addrTxt (parsA s).1.six (parsA s).1.hi (parsA s).1.lo = s := by
  unfold parsA at h ⊢
  by_cases hb : 600 < s.length
  · rw [if_pos hb] at h; cases h
  rw [if_neg hb] at h ⊢
  cases hr : readP s with
  | none => rw [hr] at h; cases h
  | some a =>
    rw [hr] at h
    simp only at h ⊢
    by_cases ht : addrTxt a.six a.hi a.lo = s
    · rw [if_pos ht]
      exact ⟨readP_ok hr, ht⟩
    · rw [if_neg ht] at h; cases h
def ParsRet (w : World) (r : AV × Int) (e : Ending) (w' : World) : Prop := e = .returned (.tuple #[.agg #[.bool r.1.six, .int .u64 r.1.hi, .int .u64 r.1.lo], .int .i64 r.2]) ∧ Below w.heap.size w w'

set_option maxRecDepth 100000 in
set_option maxHeartbeats 1600000 in
theorem parse_any (s : ByteArray) (w : World) (hg : Glo w) : Calls Tryd.prog 5 #[.string s] w (ParsRet w (parsA s.data.toList)) := by
  have hsz : s.data.toList.length = s.size := (Lib.size_eq s).symm
  unfold ParsRet
  by_cases hbig : 600 < s.size
  · rw [parsA_big (by rw [hsz]; exact hbig)]
    have hbi : (600 : Int) < (s.size : Int) := by omega
    clear hg hsz
    go_enter Tryd.func5, Tryd.ntmps5
    go_wp2
    refine bodyPost_ret (v := .tuple #[.agg #[.bool false, .int .u64 0, .int .u64 0], .int .i64 1]) ?_ rfl ⟨rfl, ?_⟩
    · simp [results, Tryd.results5, go_sem]
    · (repeat' first | with_reducible exact Below.refl _ _ | with_reducible refine Below.drew ?_ | with_reducible refine Below.setCell ?_ ?_ _ | with_reducible refine Below.alloc ?_ ?_ _ | exact Nat.le_refl _ | (simp; done) | (simp; omega))
  · have hnb : ¬ (600 : Int) < (s.size : Int) := by omega
    have hnl : ¬ 600 < s.data.toList.length := by rw [hsz]; exact hbig
    have CR := Lib.hid (fun (W : World) (hW : Below w.heap.size w W) => read_any s (by omega) W (hg.below hW))
    have HNL := Lib.hid hnl
    obtain ⟨res, hres⟩ : ∃ res, parsA s.data.toList = res := ⟨_, rfl⟩
    have HRS := Lib.hid hres
    rw [hres]
    have HG := Lib.hid (fun (W : World) (hW : Below w.heap.size w W) => hg.below hW)
    clear hsz hnl hres hg hbig
    go_enter Tryd.func5, Tryd.ntmps5
    go_wp2_with fail
    refine (CR.out _ ((Below.refl _ _).alloc (Nat.le_refl _) _)).mono ?_
    rintro e w2 ⟨six, hi, lo, ok, rfl, hok, hno, hb2⟩
    have HB2 : Hid (Below w.heap.size w w2) := below_step ((Below.refl _ _).alloc (Nat.le_refl _) _) hb2
    have hbk : Blk w2 w.heap.size 24 #[.bool false, .int .u64 0, .int .u64 0] := (Blk.new w _ _).below hb2 (by simp)
    have c0 := hbk.cell 0
    have c1 := hbk.cell 1
    have c2 := hbk.cell 2
    simp at c0 c1 c2
    have f0 := hbk.frozen 0
    have f1 := hbk.frozen 1
    have f2 := hbk.frozen 2
    have hz2 := hbk.lt
    clear hb2 CR hbk
    cases ok with
    | false =>
      have hr : Hid (res = (noA, 4)) := by
        show _ = _
        rw [← HRS.out]
        unfold parsA
        rw [if_neg HNL.out, hno rfl]
      clear hok hno
      go_wp2
      refine bodyPost_ret (v := .tuple #[.agg #[.bool false, .int .u64 0, .int .u64 0], .int .i64 4]) ?_ rfl ⟨?_, ?_⟩
      · simp [results, Tryd.results5, go_sem, c0, c1, c2, hz2]
      · rw [hr.out]; rfl
      · (repeat' first | with_reducible exact HB2.out | with_reducible refine Below.drew ?_ | with_reducible refine Below.setCell ?_ ?_ _ | with_reducible refine Below.alloc ?_ ?_ _ | exact Nat.le_refl _ | (simp; done) | (simp; omega) | omega)
    | true =>
      have hr := hok rfl
      have ha := readP_ok hr
      have CO := Lib.hid (fun (W : World) (hW : Below w.heap.size w W) => addrOfT_any six hi lo ha.rhi ha.rlo (HG.out W hW).2.2)
      have hpa : parsA s.data.toList = if addrTxt six hi lo = s.data.toList then (⟨six, hi, lo⟩, 0) else (noA, 4) := by
        unfold parsA
        rw [if_neg HNL.out, hr]
      rw [HRS.out] at hpa
      by_cases ht : addrTxt six hi lo = s.data.toList
      · rw [if_pos ht] at hpa
        have HPA := Lib.hid hpa
        have hse : (⟨(addrTxt six hi lo).toArray⟩ : ByteArray) = s := by rw [ht]
        rw [hse] at CO
        clear hok hno hr ha hpa ht hse HRS HNL
        go_wp2_with fail
        refine (CO.out _ (HB2.out.alloc (by omega) _)).mono ?_
        rintro e w3 ⟨rfl, hb3⟩
        have HB3 := Lib.hid (below_step (HB2.out.alloc (by omega) _) hb3)
        have hb3' : Below w2.heap.size w2 w3 := below_step ((Below.refl _ _).alloc (Nat.le_refl _) _) hb3
        have d0 := (hb3'.cell (p := ⟨w.heap.size, 0, none⟩) hz2).trans c0
        have d1 := (hb3'.cell (p := ⟨w.heap.size, 1, none⟩) hz2).trans c1
        have d2 := (hb3'.cell (p := ⟨w.heap.size, 2, none⟩) hz2).trans c2
        have e0 := (hb3'.frozen (p := ⟨w.heap.size, 0, none⟩) hz2).trans f0
        have e1 := (hb3'.frozen (p := ⟨w.heap.size, 1, none⟩) hz2).trans f1
        have e2 := (hb3'.frozen (p := ⟨w.heap.size, 2, none⟩) hz2).trans f2
        have a0 : w3.cell? ⟨w2.heap.size, 0, none⟩ = some (.bool six) := (hb3.cell (p := ⟨w2.heap.size, 0, none⟩) (by simp)).trans ((Blk.new w2 _ _).cell 0)
        have a1 : w3.cell? ⟨w2.heap.size, 1, none⟩ = some (.int .u64 hi) := (hb3.cell (p := ⟨w2.heap.size, 1, none⟩) (by simp)).trans ((Blk.new w2 _ _).cell 1)
        have a2 : w3.cell? ⟨w2.heap.size, 2, none⟩ = some (.int .u64 lo) := (hb3.cell (p := ⟨w2.heap.size, 2, none⟩) (by simp)).trans ((Blk.new w2 _ _).cell 2)
        clear hb3 hb3' c0 c1 c2 f0 f1 f2
        go_wp2
        refine bodyPost_ret (v := .tuple #[.agg #[.bool six, .int .u64 hi, .int .u64 lo], .int .i64 0]) ?_ rfl ⟨?_, ?_⟩
        · simp [results, Tryd.results5, go_sem, d0, d1, d2]
        · rw [HPA.out]
        · (repeat' first | with_reducible exact HB3.out | with_reducible refine Below.drew ?_ | with_reducible refine Below.setCell ?_ ?_ _ | with_reducible refine Below.alloc ?_ ?_ _ | exact Nat.le_refl _ | (simp; done) | (simp; omega) | omega)
      · rw [if_neg ht] at hpa
        have HPA := Lib.hid hpa
        have hse : ¬ (⟨(addrTxt six hi lo).toArray⟩ : ByteArray) = s := fun h => ht (by rw [← h])
        clear hok hno hr ha hpa ht HRS HNL
        obtain ⟨tx, htx⟩ : ∃ tx : ByteArray, ⟨(addrTxt six hi lo).toArray⟩ = tx := ⟨_, rfl⟩
        rw [htx] at CO hse
        have hsb : (tx.toList == s.toList) = false := by
          refine beq_eq_false_iff_ne.2 fun h => hse ?_
          rw [ByteArray.toList_eq, ByteArray.toList_eq] at h
          obtain ⟨⟨a⟩⟩ := tx
          obtain ⟨⟨b⟩⟩ := s
          simp only at h
          rw [h]
        clear htx hse
        go_wp2_with fail
        refine (CO.out _ (HB2.out.alloc (by omega) _)).mono ?_
        rintro e w3 ⟨rfl, hb3⟩
        have HB3 := Lib.hid (below_step (HB2.out.alloc (by omega) _) hb3)
        have hb3' : Below w2.heap.size w2 w3 := below_step ((Below.refl _ _).alloc (Nat.le_refl _) _) hb3
        have d0 := (hb3'.cell (p := ⟨w.heap.size, 0, none⟩) hz2).trans c0
        have d1 := (hb3'.cell (p := ⟨w.heap.size, 1, none⟩) hz2).trans c1
        have d2 := (hb3'.cell (p := ⟨w.heap.size, 2, none⟩) hz2).trans c2
        have e0 := (hb3'.frozen (p := ⟨w.heap.size, 0, none⟩) hz2).trans f0
        have e1 := (hb3'.frozen (p := ⟨w.heap.size, 1, none⟩) hz2).trans f1
        have e2 := (hb3'.frozen (p := ⟨w.heap.size, 2, none⟩) hz2).trans f2
        clear hb3 hb3' c0 c1 c2 f0 f1 f2
        go_wp2
        refine bodyPost_ret (v := .tuple #[.agg #[.bool false, .int .u64 0, .int .u64 0], .int .i64 4]) ?_ rfl ⟨?_, ?_⟩
        · simp [results, Tryd.results5, go_sem, d0, d1, d2]
        · rw [HPA.out]; rfl
        · (repeat' first | with_reducible exact HB3.out | with_reducible refine Below.drew ?_ | with_reducible refine Below.setCell ?_ ?_ _ | with_reducible refine Below.alloc ?_ ?_ _ | exact Nat.le_refl _ | (simp; done) | (simp; omega) | omega)
end Go.Proofs.YticikknfkkmoaaaDoor

namespace Go.Proofs.YticikknfkkmoaaaDoor
open Go.ChangeShapes Go.WideShapes Go.ChangeAt Go.RowKit

/-- The last digit below k that a byte is, or -1. -/
def digK (b : UInt8) : Nat → Int
  | 0 => -1
  | k + 1 => if digB k = b then (k : Int) else digK b k
theorem digK_range (b : UInt8) : ∀ k, -1 ≤ digK b k ∧ digK b k < k
  | 0 => by simp [digK]
  | k + 1 => by
    have := digK_range b k
    unfold digK
    split <;> omega
theorem digK_16 : ∀ d : Fin 16, digK (digB d) 16 = (d.val : Int) := by decide
theorem digK_10 : ∀ d : Fin 10, digK (digB d) 10 = (d.val : Int) := by decide
/-- What the reference reads of numbers with signs between, from a number that is begun on. -/
def refGo (base : Nat) (most : Int) (c : UInt8) : List UInt8 → Int → Option (List Nat)
  | [], n => if n < 0 ∨ most < n then none else some [n.toNat]
  | b :: l, n => if b = c then (if n < 0 ∨ most < n then none else (refGo base most c l (-1)).map (n.toNat :: ·))
    else if digK b base < 0 then none else refGo base most c l (if n ≤ most then max n 0 * base + digK b base else n)
theorem refGo_num {base : Nat} (hb : base = 10 ∨ base = 16) {most : Int} {c : UInt8} (hc : c = 46 ∨ c = 58 ∨ c = 47) : ∀ (n : Nat), (n : Int) ≤ most → ∀ r, refGo base most c (numT base n ++ r) (-1) = refGo base most c r n := by
  have key : ∀ d, d < base → digK (digB d) base = (d : Int) ∧ ¬ digB d = c := fun d hd => by
    have hs : ¬ digB d = c := by
      have := digB_sign ⟨d, by omega⟩
      rcases hc with rfl | rfl | rfl
      · exact this.1
      · exact this.2.1
      · exact this.2.2
    rcases hb with rfl | rfl
    · exact ⟨digK_10 ⟨d, hd⟩, hs⟩
    · exact ⟨digK_16 ⟨d, hd⟩, hs⟩
  intro n
  induction n using Nat.strongRecOn with
  | ind n ih =>
    intro hn r
    by_cases hs : n < base
    · obtain ⟨k1, k2⟩ := key n hs
      rw [numT_small hs, List.cons_append, List.nil_append, refGo, if_neg k2, k1, if_neg (by omega), if_pos (by omega)]
      congr 1
      rw [show max (-1 : Int) 0 = 0 from rfl]
      omega
    · have hd := Nat.mod_lt n (show 0 < base by omega)
      obtain ⟨k1, k2⟩ := key (n % base) hd
      have hle : n / base ≤ n := Nat.div_le_self _ _
      rw [numT_step hs (by omega), List.append_assoc, ih (n / base) (Nat.div_lt_self (by omega) (by omega)) (by omega)]
      rw [List.cons_append, List.nil_append, refGo, if_neg k2, k1, if_neg (by omega), if_pos (by omega)]
      congr 1
      rw [Int.max_eq_left (Int.natCast_nonneg _), ← Int.natCast_mul, ← Int.natCast_add, Nat.mul_comm, Nat.div_add_mod]
theorem refGo_join {base : Nat} (hb : base = 10 ∨ base = 16) {most : Int} {c : UInt8} (hc : c = 46 ∨ c = 58 ∨ c = 47) : ∀ (ns : List Nat), ns ≠ [] → (∀ n ∈ ns, (n : Int) ≤ most) → refGo base most c (joinT c (ns.map (numT base))) (-1) = some ns
  | [], h, _ => absurd rfl h
  | [n], _, h => by
    have := refGo_num hb hc n (h n (by simp)) []
    rw [List.append_nil] at this
    show refGo base most c (numT base n) (-1) = _
    rw [this, refGo, if_neg (by have := h n (by simp); omega)]
    simp
  | n :: m :: ns, _, h => by
    have e : joinT c ((n :: m :: ns).map (numT base)) = numT base n ++ c :: joinT c ((m :: ns).map (numT base)) := by simp [joinT]
    rw [e, refGo_num hb hc n (h n (by simp)), refGo, if_pos rfl, if_neg (by have := h n (by simp); omega), refGo_join hb hc (m :: ns) (by simp) (fun x hx => h x (by simp [hx]))]
    simp
theorem refGo_le {base : Nat} {most : Int} {c : UInt8} : ∀ {s : List UInt8} {n : Int} {l : List Nat}, refGo base most c s n = some l → ∀ m ∈ l, (m : Int) ≤ most
  | [], n, l, h, m, hm => by
    unfold refGo at h
    split at h
    · cases h
    · have := Option.some.inj h
      subst this
      simp at hm
      omega
  | b :: s, n, l, h, m, hm => by
    unfold refGo at h
    split at h
    · split at h
      · cases h
      · cases hr : refGo base most c s (-1) with
        | none => rw [hr] at h; cases h
        | some l' =>
          rw [hr] at h
          have : l = n.toNat :: l' := by simpa using h.symm
          subst this
          rcases List.mem_cons.1 hm with rfl | hm
          · omega
          · exact refGo_le hr m hm
    · split at h
      · cases h
      · exact refGo_le h m hm
def intV (n : Nat) : Value := .int .i64 (n : Int)
def RefNums (w : World) (r : Option (List Nat)) (e : Ending) (w' : World) : Prop :=
  ∃ v l fine, e = .returned (.tuple #[v, .bool fine]) ∧ w'.ownsRow w.heap.size 3 1 v l.length (l.map intV) ∧ l.length ≤ 1000 ∧ ((fine = true ∧ r = some l) ∨ (fine = false ∧ r = none ∧ l = [])) ∧ Below w.heap.size w w'
theorem infoIntN : (Tryd.prog.info? 3).map (fun i => (i.zero, i.size, i.bytes)) = some (some (.int .i64 0), 1, 8) := by kernel_rfl
theorem dig_at (d : Nat) (hd : d < 16) (W : World) : (Instr.index 9 (.string ⟨#[48, 49, 50, 51, 52, 53, 54, 55, 56, 57, 97, 98, 99, 100, 101, 102]⟩) (.int .i64 (d : Int))).run Tryd.prog W = .ok (.int .u8 ((digB d).toNat : Int)) W := by
  rcases (by omega : d = 0 ∨ d = 1 ∨ d = 2 ∨ d = 3 ∨ d = 4 ∨ d = 5 ∨ d = 6 ∨ d = 7 ∨ d = 8 ∨ d = 9 ∨ d = 10 ∨ d = 11 ∨ d = 12 ∨ d = 13 ∨ d = 14 ∨ d = 15) with rfl | rfl | rfl | rfl | rfl | rfl | rfl | rfl | rfl | rfl | rfl | rfl | rfl | rfl | rfl | rfl <;> kernel_rfl
theorem str_at (s : ByteArray) (k : Nat) (b : UInt8) (hb : s.data.toList[k]? = some b) (W : World) : (Instr.index 9 (.string s) (.int .i64 (k : Int))).run Tryd.prog W = .ok (.int .u8 (b.toNat : Int)) W := by
  obtain ⟨h1, h2⟩ := List.getElem?_eq_some_iff.1 hb
  have hk : k < s.size := by rw [Lib.size_eq]; exact h1
  rw [run_index_string (h := Tryd.underlying9), dif_pos (by omega)]
  congr 3
  rw [← h2]
  rfl

/- the walk -/

theorem refNums_bad {w w' : World} {r : Option (List Nat)} (h : r = none) (hb : Below w.heap.size w w') : RefNums w r (.returned (.tuple #[.slice none 0 0, .bool false])) w' :=
  ⟨_, [], false, rfl, World.ownsRow_nil _ _ _ _, by simp, .inr ⟨rfl, h, rfl⟩, hb⟩
theorem refNums_ok {w w' : World} {r : Option (List Nat)} {v : Value} {l : List Nat} (h : r = some l) (ho : w'.ownsRow w.heap.size 3 1 v l.length (l.map intV)) (hl : l.length ≤ 1000) (hb : Below w.heap.size w w') : RefNums w r (.returned (.tuple #[v, .bool true])) w' :=
  ⟨_, l, true, rfl, ho, hl, .inl ⟨rfl, h⟩, hb⟩
set_option maxRecDepth 100000 in
set_option maxHeartbeats 3200000 in
theorem refNums_any {base : Nat} (hb : base = 10 ∨ base = 16) {most : Int} (hm : 0 ≤ most ∧ most ≤ 65535) (c : UInt8) (s : ByteArray) (hs : s.size ≤ 600) (w : World) :
    Calls Tryd.prog 14 #[.string s, .int .u8 (c.toNat : Int), .int .i64 base, .int .i64 most] w (RefNums w (refGo base most c s.data.toList (-1))) := by
  have HAT := Lib.hid (fun (k : Nat) (b : UInt8) (h : s.data.toList[k]? = some b) (W : World) => str_at s k b h W)
  have hsz : s.data.toList.length = s.size := (Lib.size_eq s).symm
  have hb2 : 2 ≤ base ∧ base ≤ 16 := by omega
  generalize s.data.toList = L at *
  generalize hN : s.size = N at *
  have HL := Lib.hid hsz
  have hR0 : refGo base most c L (-1) = (refGo base most c (L.drop 0) (-1)).map (([] : List Nat) ++ ·) := by
    rw [List.drop_zero]
    cases refGo base most c L (-1) <;> rfl
  generalize refGo base most c L (-1) = R at hR0 ⊢
  obtain ⟨post, hpost⟩ : ∃ post, RefNums w R = post := ⟨_, rfl⟩
  have HP := Lib.hid hpost
  rw [hpost]
  clear hpost
  have HR0 := Lib.hid hR0
  clear hR0 hb hsz
  go_enter Tryd.func14, Tryd.ntmps14
  go_wp2
  go_loopw [12, 10, 11, 13, 14] (fun i v n _ _ wr => ∃ (k : Nat) (done : List Nat) (nn : Int), i = .int .i64 k ∧ n = .int .i64 nn ∧ Hid (done.length ≤ k) ∧ -1 ≤ nn ∧ nn ≤ 2000000 ∧ Hid ((k ≤ N ∧ R = (refGo base most c (L.drop k) nn).map (done ++ ·)) ∨ (k = N + 1 ∧ R = some done)) ∧ Hid (wr.ownsRow w.heap.size 3 1 v done.length (done.map intV)) ∧ Hid (Below w.heap.size w wr)) (fun i _ _ _ _ _ => N + 1 - (RowKit.intOf i).toNat)
  case atStart => exact ⟨0, [], -1, rfl, rfl, Nat.le_refl _, by omega, by omega, .inl ⟨by omega, HR0.out⟩, World.ownsRow_nil _ _ _ _, Below.refl _ _⟩
  case round =>
    obtain ⟨k, done, nn, rfl, rfl, hdl, hn1, hn2, hcase, hrow, hbel⟩ := hrel
    obtain ⟨wo, rfl⟩ : ∃ wo : World, wo = wr := ⟨_, rfl⟩
    rcases hcase.out with ⟨hkN, hR⟩ | ⟨hkN, hR⟩
    rotate_left
    · have hki : ¬ (k : Int) ≤ (N : Int) := by omega
      have hdl2 := hdl.out
      have hR := Lib.hid hR
      go_wp2
      rw [← HP.out]
      exact refNums_ok hR.out hrow.out (by omega) hbel.out
    have hR := Lib.hid hR
    have hwk : IntKind.i64.wrap ((k : Int) + 1) = (k : Int) + 1 := IntWalk.i64_in _ (by omega)
    clear hcase
    by_cases hend : k = N
    · have hdrop : L.drop k = [] := List.drop_eq_nil_of_le (by rw [HL.out]; omega)
      have hki : (k : Int) = (N : Int) := by omega
      subst hend
      by_cases hbad : nn < 0 ∨ most < nn
      · have HRB : Hid (R = none) := by
          show _ = _
          rw [hR.out]
          rw [hdrop, refGo, if_pos hbad]
          rfl
        rcases hbad with h | h
        · go_wp2
          rw [← HP.out]
          exact refNums_bad HRB.out hbel.out
        · have h0 : ¬ nn < 0 := by omega
          go_wp2
          rw [← HP.out]
          exact refNums_bad HRB.out hbel.out
      · have h0 : ¬ nn < 0 := by omega
        have h1 : ¬ most < nn := by omega
        have HRG : Hid (R = some (done ++ [nn.toNat])) := by
          show _ = _
          rw [hR.out, hdrop, refGo, if_neg (by omega)]
          rfl
        obtain ⟨m, rfl⟩ : ∃ m : Nat, nn = m := ⟨nn.toNat, by omega⟩
        have hml : done.length + 1 ≤ 700 := by have := hdl.out; omega
        have hwb : w.heap.size ≤ wo.heap.size := hbel.out.size
        clear hbad
        go_wp2_with (at_builtin; go_loud (refine wpList_append_oneN (us := [intV m]) rfl _ _ 36 rfl w.heap.size _ 1 8 Tryd.underlying36 infoIntN rfl (by decide) _ _ _ rfl rfl rfl hrow.out hwb rfl (by intro u hu; simp at hu; subst hu; rfl) (by unfold maxLen; omega) (by omega) ?_))
        intro v5 w5 hown5 hb5 hs5 hk5
        have HO5 : Hid (w5.ownsRow w.heap.size 3 1 v5 (done ++ [m]).length ((done ++ [m]).map intV)) := by
          show World.ownsRow _ _ _ _ _ _ _
          rw [List.length_append, List.map_append]
          exact hown5
        have HB5 := Lib.hid (hbel.out.trans hb5)
        have HDL : Hid ((done ++ [m]).length ≤ k + 1) := by show _ ≤ _; rw [List.length_append]; have := hdl.out; exact Nat.succ_le_succ this
        clear hown5 hb5 hk5
        go_wp2
        go_roundw
        case rel => exact ⟨k + 1, done ++ [m], -1, by go_num, rfl, HDL, by omega, by omega, Lib.hid (.inr ⟨rfl, HRG.out⟩), HO5, HB5⟩
        case measure => (simp [RowKit.intOf] <;> omega)
    · have hlt : k < N := by omega
      obtain ⟨b, hbk⟩ : ∃ b, L[k]? = some b := ⟨L[k]'(by rw [HL.out]; exact hlt), List.getElem?_eq_getElem (by rw [HL.out]; exact hlt)⟩
      have hdrop : L.drop k = b :: L.drop (k + 1) := by
        obtain ⟨h1, h2⟩ := List.getElem?_eq_some_iff.1 hbk
        rw [List.drop_eq_getElem_cons h1, h2]
      have hat := HAT.out k b hbk
      have hki : ¬ (k : Int) = (N : Int) := by omega
      have hkl : (k : Int) ≤ (N : Int) := by omega
      clear hbk
      by_cases hbc : b = c
      · subst hbc
        by_cases hbad : nn < 0 ∨ most < nn
        · have HRB : Hid (R = none) := by
            show _ = _
            rw [hR.out]
            rw [hdrop, refGo, if_pos rfl, if_pos hbad]
            rfl
          rcases hbad with h | h
          · go_wp2
            rw [← HP.out]
            exact refNums_bad HRB.out hbel.out
          · have h0 : ¬ nn < 0 := by omega
            go_wp2
            rw [← HP.out]
            exact refNums_bad HRB.out hbel.out
        · have h0 : ¬ nn < 0 := by omega
          have h1 : ¬ most < nn := by omega
          have HRG : Hid (R = (refGo base most b (L.drop (k + 1)) (-1)).map ((done ++ [nn.toNat]) ++ ·)) := by
            show _ = _
            rw [hR.out, hdrop, refGo, if_pos rfl, if_neg (by omega)]
            cases refGo base most b (L.drop (k + 1)) (-1) <;> simp
          obtain ⟨m, rfl⟩ : ∃ m : Nat, nn = m := ⟨nn.toNat, by omega⟩
          have hml : done.length + 1 ≤ 700 := by have := hdl.out; omega
          have hwb : w.heap.size ≤ wo.heap.size := hbel.out.size
          clear hbad
          go_wp2_with (at_builtin; go_loud (refine wpList_append_oneN (us := [intV m]) rfl _ _ 36 rfl w.heap.size _ 1 8 Tryd.underlying36 infoIntN rfl (by decide) _ _ _ rfl rfl rfl hrow.out hwb rfl (by intro u hu; simp at hu; subst hu; rfl) (by unfold maxLen; omega) (by omega) ?_))
          intro v5 w5 hown5 hb5 hs5 hk5
          have HO5 : Hid (w5.ownsRow w.heap.size 3 1 v5 (done ++ [m]).length ((done ++ [m]).map intV)) := by
            show World.ownsRow _ _ _ _ _ _ _
            rw [List.length_append, List.map_append]
            exact hown5
          have HB5 := Lib.hid (hbel.out.trans hb5)
          have HDL : Hid ((done ++ [m]).length ≤ k + 1) := by show _ ≤ _; rw [List.length_append]; have := hdl.out; exact Nat.succ_le_succ this
          clear hown5 hb5 hk5
          go_wp2
          go_roundw
          case rel => exact ⟨k + 1, done ++ [m], -1, by go_num, rfl, HDL, by omega, by omega, Lib.hid (.inl ⟨by omega, HRG.out⟩), HO5, HB5⟩
          case measure => (simp [RowKit.intOf] <;> omega)
      · have hbi : ¬ (b.toNat : Int) = (c.toNat : Int) := fun h => hbc (UInt8.toNat_inj.1 (by omega))
        have hbb : ((b.toNat : Int) == (c.toNat : Int)) = false := by simpa using hbi
        have hR2 : Hid (R = (if digK b base < 0 then none else refGo base most c (L.drop (k + 1)) (if nn ≤ most then max nn 0 * base + digK b base else nn)).map (done ++ ·)) := by
          show _ = _
          rw [hR.out, hdrop, refGo, if_neg hbc]
        clear hR hdrop
        go_wp2
        go_loopw [14, 13] (fun i d wr2 => ∃ k2 : Nat, k2 ≤ base ∧ i = .int .i64 k2 ∧ d = .int .i64 (digK b k2) ∧ Hid (wr2.ownsRow w.heap.size 3 1 u10 done.length (done.map intV)) ∧ Hid (Below w.heap.size w wr2)) (fun i _ _ => base - (RowKit.intOf i).toNat)
        case atStart => exact ⟨0, by omega, rfl, rfl, hrow, hbel⟩
        case round =>
          obtain ⟨k2, hk2, rfl, rfl, hrow2, hbel2⟩ := hrel
          obtain ⟨wi, rfl⟩ : ∃ wi : World, wi = wr := ⟨_, rfl⟩
          by_cases hlt2 : k2 < base
          · have hdg := fun W => dig_at k2 (by omega) W
            have hwk2 : IntKind.i64.wrap ((k2 : Int) + 1) = (k2 : Int) + 1 := IntWalk.i64_in _ (by omega)
            by_cases hd : digB k2 = b
            · have HD : Hid (digK b (k2 + 1) = (k2 : Int)) := by show _ = _; rw [digK, if_pos hd]
              rw [hd] at hdg
              go_wp2
              go_region
              go_wp2
              go_roundw
              case rel => exact ⟨k2 + 1, by omega, by go_num, by rw [HD.out], hrow2, Lib.hid hbel2.out.drew⟩
              case measure => (simp [RowKit.intOf] <;> omega)
            · have HD : Hid (digK b (k2 + 1) = digK b k2) := by show _ = _; rw [digK, if_neg hd]
              have hdi : ((((digB k2).toNat : Nat) : Int) == ((b.toNat : Nat) : Int)) = false := by simp; intro h; exact hd (UInt8.toNat_inj.1 (by omega))
              go_wp2
              go_region
              go_wp2
              go_roundw
              case rel => exact ⟨k2 + 1, by omega, by go_num, by rw [HD.out], hrow2, Lib.hid hbel2.out.drew⟩
              case measure => (simp [RowKit.intOf] <;> omega)
          · obtain rfl : k2 = base := by omega
            have hdr := digK_range b k2
            generalize digK b k2 = d at *
            have HPO := Lib.hid hR2.out
            by_cases hneg : d < 0
            · have HRB : Hid (R = none) := by
                show _ = _
                rw [hR2.out, if_pos hneg]
                rfl
              go_wp2
              rw [← HP.out]
              exact refNums_bad HRB.out hbel2.out
            · by_cases hle : nn ≤ most
              · obtain ⟨p, hp⟩ : ∃ p, max nn 0 = p := ⟨_, rfl⟩
                have hp0 : 0 ≤ p ∧ p ≤ 65535 := by omega
                obtain ⟨pb, hpb⟩ : ∃ pb, p * (k2 : Int) = pb := ⟨_, rfl⟩
                have hpb0 : 0 ≤ pb ∧ pb ≤ 1048560 := by
                  rw [← hpb]
                  exact ⟨Int.mul_nonneg hp0.1 (by omega), Int.le_trans (Int.mul_le_mul hp0.2 (show (k2 : Int) ≤ 16 by omega) (by omega) (by omega)) (by omega)⟩
                have hw1 : IntKind.i64.wrap (p * (k2 : Int)) = pb := by rw [hpb]; exact IntWalk.i64_in _ (by omega)
                have hw2 : IntKind.i64.wrap (pb + d) = pb + d := IntWalk.i64_in _ (by omega)
                have HRN : Hid (R = (refGo k2 most c (L.drop (k + 1)) (pb + d)).map (done ++ ·)) := by
                  show _ = _
                  rw [hR2.out, if_neg hneg, if_pos hle, hp, hpb]
                go_wp2
                go_roundw
                case rel => exact ⟨k + 1, done, pb + d, by go_num, rfl, Lib.hid (Nat.le_succ_of_le hdl.out), by omega, by omega, Lib.hid (.inl ⟨by omega, HRN.out⟩), hrow2, hbel2⟩
                case measure => (simp [RowKit.intOf] <;> omega)
              · have HRN : Hid (R = (refGo k2 most c (L.drop (k + 1)) nn).map (done ++ ·)) := by
                  show _ = _
                  rw [hR2.out, if_neg hneg, if_neg hle]
                go_wp2
                go_roundw
                case rel => exact ⟨k + 1, done, nn, by go_num, rfl, Lib.hid (Nat.le_succ_of_le hdl.out), hn1, hn2, Lib.hid (.inl ⟨by omega, HRN.out⟩), hrow2, hbel2⟩
                case measure => (simp [RowKit.intOf] <;> omega)

end Go.Proofs.YticikknfkkmoaaaDoor

namespace Go.Proofs.YticikknfkkmoaaaDoor
open Go.ChangeShapes Go.WideShapes Go.ChangeAt Go.RowKit

/-- The first k bits of a number of wd bits. -/
def bnN (wd n k : Nat) : List Int := (List.range k).map fun i => ((n / 2 ^ (wd - 1 - i) % 2 : Nat) : Int)
def bnL (wd : Nat) (l : List Nat) : List Int := l.flatMap fun n => bnN wd n wd
theorem bnN_len (wd n k : Nat) : (bnN wd n k).length = k := by simp [bnN]
theorem bnN_succ (wd n k : Nat) : bnN wd n (k + 1) = bnN wd n k ++ [((n / 2 ^ (wd - 1 - k) % 2 : Nat) : Int)] := by
  unfold bnN
  rw [List.range_succ, List.map_append]
  rfl
theorem bnN_fold (wd n acc : Nat) : ∀ k, k ≤ wd → (bnN wd n k).foldl (fun a b => 2 * a + b) (acc : Int) = ((acc * 2 ^ k + n / 2 ^ (wd - k) % 2 ^ k : Nat) : Int)
  | 0, _ => by simp [bnN, Nat.mod_one]
  | k + 1, h => by
    rw [bnN_succ, List.foldl_append, bnN_fold wd n acc k (by omega)]
    simp only [List.foldl]
    have e1 : wd - k = (wd - (k + 1)) + 1 := by omega
    have e2 : wd - 1 - k = wd - (k + 1) := by omega
    rw [e2, e1, Nat.pow_succ 2 (wd - (k + 1)), ← Nat.div_div_eq_div_mul]
    generalize n / 2 ^ (wd - (k + 1)) = m
    have e3 : m % 2 ^ (k + 1) = 2 * (m / 2 % 2 ^ k) + m % 2 := by
      rw [Nat.pow_succ, Nat.mul_comm (2 ^ k) 2, Nat.mod_mul]
      omega
    rw [e3, Nat.pow_succ]
    have e4 : acc * (2 ^ k * 2) = 2 * (acc * 2 ^ k) := by rw [← Nat.mul_assoc, Nat.mul_comm]
    rw [e4]
    generalize acc * 2 ^ k = p
    generalize m / 2 % 2 ^ k = q
    omega
theorem bnL_fold (wd : Nat) : ∀ (l : List Nat) (acc : Nat), (∀ n ∈ l, n < 2 ^ wd) → (bnL wd l).foldl (fun a b => 2 * a + b) (acc : Int) = ((l.foldl (fun a n => a * 2 ^ wd + n) acc : Nat) : Int)
  | [], acc, _ => rfl
  | n :: l, acc, h => by
    have e : bnL wd (n :: l) = bnN wd n wd ++ bnL wd l := by simp [bnL]
    have hn := h n (by simp)
    rw [e, List.foldl_append, bnN_fold wd n acc wd (Nat.le_refl _), Nat.sub_self, Nat.pow_zero, Nat.div_one, Nat.mod_eq_of_lt hn, bnL_fold wd l _ (fun x hx => h x (by simp [hx]))]
    rfl
theorem bnL_num {wd : Nat} {l : List Nat} (h : ∀ n ∈ l, n < 2 ^ wd) : numL (bnL wd l) = ((foldB (2 ^ wd) l : Nat) : Int) := bnL_fold wd l 0 h
theorem bnL_len (wd : Nat) : ∀ l : List Nat, (bnL wd l).length = l.length * wd
  | [] => by simp [bnL]
  | n :: l => by
    have e : bnL wd (n :: l) = bnN wd n wd ++ bnL wd l := by simp [bnL]
    rw [e, List.length_append, bnN_len, bnL_len wd l, List.length_cons, Nat.succ_mul]
    omega
theorem bnL_bits (wd : Nat) (l : List Nat) : Bits (bnL wd l) := by
  intro b hb
  obtain ⟨n, _, hb⟩ := List.mem_flatMap.1 hb
  obtain ⟨i, _, rfl⟩ := List.mem_map.1 hb
  omega
theorem bnL_append (wd : Nat) (a b : List Nat) : bnL wd (a ++ b) = bnL wd a ++ bnL wd b := by simp [bnL]
/-- The address of numbers. -/
def tryA (wd : Nat) (l : List Nat) : AV := if wd = 8 then fourA l else sixA l
theorem tryA_four {l : List Nat} (_hl : l.length = 4) (h : ∀ n ∈ l, n < 256) : (⟨false, hiOf false (bnL 8 l), loOf false (bnL 8 l)⟩ : AV) = fourA l := by
  unfold hiOf loOf fourA
  simp only [Bool.false_eq_true, if_false]
  rw [bnL_num h]
theorem tryA_six {l : List Nat} (hl : l.length = 8) (h : ∀ n ∈ l, n < 65536) : (⟨true, hiOf true (bnL 16 l), loOf true (bnL 16 l)⟩ : AV) = sixA l := by
  have e : bnL 16 l = bnL 16 (l.take 4) ++ bnL 16 (l.drop 4) := by rw [← bnL_append, List.take_append_drop]
  have h4 : (bnL 16 (l.take 4)).length = 64 := by rw [bnL_len, List.length_take]; omega
  unfold hiOf loOf sixA
  simp only [if_true]
  rw [e, List.take_left' h4, List.drop_left' h4, bnL_num (fun n hn => h n (List.mem_of_mem_take hn)), bnL_num (fun n hn => h n (List.mem_of_mem_drop hn))]
/-- What the closure answers. -/
def tryR (wd : Nat) (l : List Nat) (s : List UInt8) : AV × Int := if addrTxt (tryA wd l).six (tryA wd l).hi (tryA wd l).lo = s then (tryA wd l, 0) else (noA, 4)
theorem and1_n (x : Nat) (h2 : x < 65536) : bits .and .i64 (x : Int) 1 = ((x % 2 : Nat) : Int) := by
  show IntKind.i64.wrap ((BitVec.ofInt 64 (x : Int) &&& BitVec.ofInt 64 ((1 : Nat) : Int)).toNat : Int) = _
  rw [BitVec.toNat_and, ofInt_u64 _ (by omega), ofInt_u64 _ (by omega), IntKind.wrap_i64, Nat.and_one_is_mod]
  omega
theorem own_cells {w : World} {base n : Nat} {v : Value} {l : List Int} (h : w.ownsRow base 3 1 v n (l.map (Value.int .i64))) (hn : 0 < n) : ∃ g cap, v = .slice (some ⟨g, 0, none⟩) n cap ∧ g < w.heap.size ∧ ∀ (i : Nat) (b : Int), l[i]? = some b → w.cell? ⟨g, i, none⟩ = some (.int .i64 b) := by
  rcases h.2 with ⟨_, h0⟩ | ⟨g, cap, cur, rfl, hg, hh, _, _, _, ht⟩
  · omega
  have hr := Reads.of_own h
  obtain ⟨ad, e, hb, hc⟩ := hr.2 hn
  injection e with e
  subst e
  refine ⟨g, cap, rfl, hb, fun i b hi => ?_⟩
  have := hc i (.int .i64 b) (by rw [List.getElem?_map, hi]; rfl)
  by_cases h0 : i = 0
  · subst h0
    simpa [Addr.add] using this
  · simpa [Addr.add, h0] using this

set_option maxRecDepth 100000 in
set_option maxHeartbeats 3200000 in
theorem try_any {wd : Nat} {l : List Nat} (hw : (wd = 8 ∧ l.length = 4) ∨ (wd = 16 ∧ l.length = 8)) (hl : ∀ n ∈ l, n < 2 ^ wd) {A : Option Addr} {c : Nat} (s : ByteArray) (g : Nat) (w : World) (hg : w.cell? ⟨g, 0, none⟩ = some (.string s)) (hr : Reads w w.heap.size 1 A l.length (l.map intV)) :
    Calls Tryd.prog 11 #[.slice A l.length c, .int .i64 wd, .pointer (some ⟨g, 0, none⟩)] w (ParsRet w (tryR wd l s.data.toList)) := by
  have HW := Lib.hid hw
  have HLW := Lib.hid hl
  have hgl : g < w.heap.size := Lib.lt_of_cell hg
  have hwd : 8 ≤ wd ∧ wd ≤ 16 := by omega
  have hl16 : Hid (∀ n ∈ l, n < 65536) := fun n hn => by
    have := hl n hn
    have h2 : (2 : Nat) ^ wd ≤ 2 ^ 16 := Nat.pow_le_pow_right (by omega) hwd.2
    rw [show (2 : Nat) ^ 16 = 65536 from rfl] at h2
    omega
  obtain ⟨n0, hn0⟩ : ∃ n0, l.length = n0 := ⟨_, rfl⟩
  have HN := Lib.hid hn0
  have hn8 : n0 ≤ 8 := by omega
  rw [hn0] at hr ⊢
  have HR := Lib.hid hr
  obtain ⟨post, hpost⟩ : ∃ post, ParsRet w (tryR wd l s.data.toList) = post := ⟨_, rfl⟩
  have HP := Lib.hid hpost
  rw [hpost]
  clear hw hl hr hpost hn0
  go_enter Tryd.func11, Tryd.ntmps11
  go_wp2
  go_loopw [16, 7, 9, 10] (fun i v _ _ wr => ∃ k : Nat, k ≤ n0 ∧ i = .int .i64 k ∧ Hid (wr.ownsRow (w.heap.size + 1) 3 1 v (k * wd) ((bnL wd (l.take k)).map (Value.int .i64))) ∧ Hid (Below (w.heap.size + 1) (w.alloc (.cells #[.bool false, .int .u64 0, .int .u64 0] 24)) wr) ∧ w.heap.size + 1 ≤ wr.heap.size) (fun i _ _ _ _ => n0 - (RowKit.intOf i).toNat)
  case atStart => exact ⟨0, by omega, rfl, (by simp [bnL]; exact World.ownsRow_nil _ _ _ _), Below.refl _ _, by simp⟩
  case round =>
    obtain ⟨k, hk, rfl, hrow, hb, hsz⟩ := hrel
    obtain ⟨wo, rfl⟩ : ∃ wo : World, wo = wr := ⟨_, rfl⟩
    have hbw : Hid (Below w.heap.size w wo) := ((Below.refl _ _).alloc (Nat.le_refl _) _).trans (hb.out.mono (by omega))
    by_cases hlt : k < n0
    · obtain ⟨ad, n, rfl, hx, htk, -, hmem⟩ := HR.out.at1 hlt
      have hbl : ad.block < w.heap.size := by
        obtain ⟨ad', e1, hb', _⟩ := HR.out.2 (by omega)
        injection e1 with e1
        rw [e1]
        exact hb'
      have q0 : wo.cell? (ad.add k) = some (.int .i64 (n : Int)) := (hbw.out.cell (p := ad.add k) (by rw [block_of_add]; exact hbl)).trans hx
      have hn := hl16.out n hmem
      have HTK : Hid (bnL wd (l.take (k + 1)) = bnL wd (l.take k) ++ bnN wd n wd) := by show _ = _; rw [htk, bnL_append]; simp [bnL]
      clear hx htk hmem hbl
      go_wp2
      go_loopw [10, 7] (fun i v wr2 => ∃ t : Nat, t ≤ wd ∧ i = .int .i64 ((wd : Int) - 1 - t) ∧ Hid (wr2.ownsRow (w.heap.size + 1) 3 1 v (k * wd + t) ((bnL wd (l.take k) ++ bnN wd n t).map (Value.int .i64))) ∧ Hid (Below (w.heap.size + 1) (w.alloc (.cells #[.bool false, .int .u64 0, .int .u64 0] 24)) wr2) ∧ w.heap.size + 1 ≤ wr2.heap.size) (fun i _ _ => (RowKit.intOf i + 1).toNat)
      case atStart =>
        refine ⟨0, by omega, by simp, ?_, hb, hsz⟩
        show World.ownsRow _ _ _ _ _ _ _
        simpa [bnN] using hrow.out
      case round =>
        obtain ⟨t, ht, rfl, hrow2, hb2, hsz2⟩ := hrel
        obtain ⟨wi, rfl⟩ : ∃ wi : World, wi = wr := ⟨_, rfl⟩
        by_cases hlt2 : t < wd
        · have hi0 : (0 : Int) ≤ (wd : Int) - 1 - t := by omega
          have hit : ((wd : Int) - 1 - t).toNat = wd - 1 - t := by omega
          have hkw : k * wd + t + 1 ≤ 200 := by
            have : k * wd ≤ 8 * 16 := Nat.mul_le_mul (by omega) hwd.2
            omega
          have hv : bits .and .i64 ((n : Int) / 2 ^ (wd - 1 - t)) 1 = ((n / 2 ^ (wd - 1 - t) % 2 : Nat) : Int) := by
            have h := and1_n (n / 2 ^ (wd - 1 - t)) (Nat.lt_of_le_of_lt (Nat.div_le_self _ _) hn)
            rw [Int.natCast_ediv, Int.natCast_pow] at h
            exact h
          have HV := Lib.hid hv
          clear hv
          go_wp2_with (at_builtin; go_loud (refine wpList_append_oneN (us := [Value.int .i64 (bits .and .i64 ((n : Int) / 2 ^ (wd - 1 - t)) 1)]) rfl _ _ 36 rfl (w.heap.size + 1) _ 1 8 Tryd.underlying36 infoIntN rfl (by decide) _ _ _ rfl rfl rfl hrow2.out hsz2 rfl (by intro u hu; simp at hu; subst hu; rfl) (by unfold maxLen; omega) (by omega) ?_))
          intro v5 w5 hown5 hb5 hs5 hk5
          have HO5 : Hid (w5.ownsRow (w.heap.size + 1) 3 1 v5 (k * wd + (t + 1)) ((bnL wd (l.take k) ++ bnN wd n (t + 1)).map (Value.int .i64))) := by
            show World.ownsRow _ _ _ _ _ _ _
            rw [bnN_succ, List.map_append, List.map_append, List.map_singleton, ← HV.out]
            exact hown5
          have HB5 := Lib.hid (hb2.out.trans hb5)
          clear hown5 hb5 hk5
          go_wp2
          go_roundw
          case rel => exact ⟨t + 1, by omega, by congr 1; omega, HO5, HB5, by omega⟩
          case measure => (simp [RowKit.intOf] <;> omega)
        · obtain rfl : t = wd := by omega
          have hi0 : ¬ (0 : Int) ≤ (t : Int) - 1 - t := by omega
          have HRW : Hid (wi.ownsRow (w.heap.size + 1) 3 1 u7 ((k + 1) * t) ((bnL t (l.take (k + 1))).map (Value.int .i64))) := by
            show World.ownsRow _ _ _ _ _ _ _
            rw [HTK.out, Nat.succ_mul]
            exact hrow2.out
          go_wp2
          go_roundw
          case rel => exact ⟨k + 1, by omega, by go_num, HRW, hb2, hsz2⟩
          case measure => (simp [RowKit.intOf] <;> omega)
    · obtain rfl : k = n0 := by omega
      have htk : l.take k = l := List.take_of_length_le (by rw [HN.out]; exact Nat.le_refl _)
      have hrow3 := hrow.out
      rw [htk] at hrow3
      have hk0 : 0 < k * wd := by
        rcases HW.out with ⟨h1, h2⟩ | ⟨h1, h2⟩ <;> rw [HN.out] at h2 <;> rw [h1, h2] <;> decide
      obtain ⟨gB, cap, rfl, hgB, hcB⟩ := own_cells hrow3 hk0
      have hkw : k * wd ≤ 200 := by
        have : k * wd ≤ 8 * 16 := Nat.mul_le_mul (by omega) hwd.2
        omega
      have HA : Hid (Calls Tryd.prog 12 #[.slice (some ⟨gB, 0, none⟩) (k * wd) cap] wo fun e w' => e = .returned (.agg #[.bool (tryA wd l).six, .int .u64 (tryA wd l).hi, .int .u64 (tryA wd l).lo]) ∧ Below wo.heap.size wo w') := by
        rcases HW.out with ⟨h1, h2⟩ | ⟨h1, h2⟩
        · have ha : (⟨false, hiOf false (bnL wd l), loOf false (bnL wd l)⟩ : AV) = tryA wd l := by
            rw [h1]
            have := HLW.out
            rw [h1] at this
            rw [tryA_four h2 this]
            rfl
          rw [← ha]
          exact addrOf_any false (bnL wd l) (k * wd) gB cap wo (bnL_bits wd l) (by rw [bnL_len, HN.out]) (by rw [HN.out] at h2; rw [h1, h2]; rfl) hcB hgB
        · have ha : (⟨true, hiOf true (bnL wd l), loOf true (bnL wd l)⟩ : AV) = tryA wd l := by
            rw [h1]
            have := HLW.out
            rw [h1] at this
            rw [tryA_six h2 this]
            rfl
          rw [← ha]
          exact addrOf_any true (bnL wd l) (k * wd) gB cap wo (bnL_bits wd l) (by rw [bnL_len, HN.out]) (by rw [HN.out] at h2; rw [h1, h2]; rfl) hcB hgB
      have haok : (tryA wd l).Ok := by
        rcases HW.out with ⟨h1, h2⟩ | ⟨h1, h2⟩
        · rw [h1]
          have := HLW.out
          rw [h1] at this
          exact fourA_ok h2 (fun n hn => by have := this n hn; omega)
        · rw [h1]
          have := HLW.out
          rw [h1] at this
          exact sixA_ok h2 (fun n hn => by have := this n hn; omega)
      have HRR : Hid (tryR wd l s.data.toList = if addrTxt (tryA wd l).six (tryA wd l).hi (tryA wd l).lo = s.data.toList then (tryA wd l, 0) else (noA, 4)) := rfl
      generalize tryR wd l s.data.toList = res at *
      generalize tryA wd l = a at *
      obtain ⟨six, hi, lo⟩ := a
      have CT : Hid (∀ W, Calls Tryd.prog 13 #[.agg #[.bool six, .int .u64 hi, .int .u64 lo]] W fun e w' => e = .returned (.tuple #[.string ⟨(addrTxt six hi lo).toArray⟩, .int .i64 0]) ∧ Below W.heap.size W w') := fun W => by
        have h := refText_any (w := W) six hi lo haok.rhi haok.rlo
        unfold RetTxt txtL txtE at h
        rw [if_pos haok.may, if_pos haok.may] at h
        exact h
      have hgw : wo.cell? ⟨g, 0, none⟩ = some (.string s) := (hbw.out.cell (p := ⟨g, 0, none⟩) hgl).trans hg
      have hbx : Blk wo w.heap.size 24 #[.bool false, .int .u64 0, .int .u64 0] := (Blk.new w _ _).below hb.out (by omega)
      have HBX := Lib.hid hbx
      clear hrow hrow3 hcB hk0 htk hbx
      go_wp2_with fail
      refine HA.out.mono ?_
      rintro e w4 ⟨rfl, hb4⟩
      have hbx4 := HBX.out.below hb4 HBX.out.lt
      have hg4 := (hb4.cell (p := ⟨g, 0, none⟩) (show g < wo.heap.size by omega)).trans hgw
      have HB4 := Lib.hid (below_step hbw.out hb4)
      have HBX4 := Lib.hid hbx4
      have hz4 := hbx4.lt
      clear hb4 HA hbx4
      go_wp2_with fail
      refine (CT.out _).mono ?_
      rintro e w5 ⟨rfl, hb5⟩
      have hb5' : Below w4.heap.size w4 w5 := below_step ((Below.refl _ _).alloc (Nat.le_refl _) _) hb5
      have HB5 := Lib.hid (below_step HB4.out hb5')
      have hbx5 := HBX4.out.below hb5' hz4
      have g5 := (hb5'.cell (p := ⟨g, 0, none⟩) (show g < w4.heap.size by omega)).trans hg4
      have a0 : w5.cell? ⟨w4.heap.size, 0, none⟩ = some (.bool six) := (hb5.cell (p := ⟨w4.heap.size, 0, none⟩) (by simp)).trans ((Blk.new w4 _ _).cell 0)
      have a1 : w5.cell? ⟨w4.heap.size, 1, none⟩ = some (.int .u64 hi) := (hb5.cell (p := ⟨w4.heap.size, 1, none⟩) (by simp)).trans ((Blk.new w4 _ _).cell 1)
      have a2 : w5.cell? ⟨w4.heap.size, 2, none⟩ = some (.int .u64 lo) := (hb5.cell (p := ⟨w4.heap.size, 2, none⟩) (by simp)).trans ((Blk.new w4 _ _).cell 2)
      have d0 := hbx5.cell 0
      have d1 := hbx5.cell 1
      have d2 := hbx5.cell 2
      simp at d0 d1 d2
      have e0 := hbx5.frozen 0
      have e1 := hbx5.frozen 1
      have e2 := hbx5.frozen 2
      clear hb5 hb5' hbx5 hg4 hgw CT
      by_cases ht : addrTxt six hi lo = s.data.toList
      · have hres : Hid (res = (⟨six, hi, lo⟩, 0)) := by show _ = _; rw [HRR.out, if_pos ht]
        have hse : (⟨(addrTxt six hi lo).toArray⟩ : ByteArray) = s := by rw [ht]
        rw [hse]
        clear hse ht HRR
        go_wp2
        refine bodyPost_ret (v := .tuple #[.agg #[.bool six, .int .u64 hi, .int .u64 lo], .int .i64 0]) ?_ rfl ?_
        · simp [results, Tryd.results11, go_sem, d0, d1, d2]
        · rw [← HP.out, hres.out]
          refine ⟨rfl, ?_⟩
          (repeat' first | with_reducible exact HB5.out | with_reducible refine Below.drew ?_ | with_reducible refine Below.setCell ?_ ?_ _ | exact Nat.le_refl _)
      · have hres : Hid (res = (noA, 4)) := by show _ = _; rw [HRR.out, if_neg ht]
        have hse : ¬ (⟨(addrTxt six hi lo).toArray⟩ : ByteArray) = s := fun h => ht (by rw [← h])
        obtain ⟨tx, htx⟩ : ∃ tx : ByteArray, ⟨(addrTxt six hi lo).toArray⟩ = tx := ⟨_, rfl⟩
        rw [htx] at hse ⊢
        have hsb : (tx.toList == s.toList) = false := by
          refine beq_eq_false_iff_ne.2 fun h => hse ?_
          rw [ByteArray.toList_eq, ByteArray.toList_eq] at h
          obtain ⟨⟨a⟩⟩ := tx
          obtain ⟨⟨b⟩⟩ := s
          simp only at h
          rw [h]
        clear htx hse ht HRR
        go_wp2
        refine bodyPost_ret (v := .tuple #[.agg #[.bool false, .int .u64 0, .int .u64 0], .int .i64 4]) ?_ rfl ?_
        · simp [results, Tryd.results11, go_sem, d0, d1, d2]
        · rw [← HP.out, hres.out]
          refine ⟨rfl, ?_⟩
          (repeat' first | with_reducible exact HB5.out | with_reducible refine Below.drew ?_ | with_reducible refine Below.setCell ?_ ?_ _ | exact Nat.le_refl _)
end Go.Proofs.YticikknfkkmoaaaDoor

namespace Go.Proofs.YticikknfkkmoaaaDoor
open Go.RowKit

theorem refGo_none {base : Nat} {most : Int} {c b : UInt8} (hd : digK b base < 0) (hbc : ¬ b = c) : ∀ {s : List UInt8} (_ : b ∈ s) (n : Int), refGo base most c s n = none
  | [], h, _ => by simp at h
  | x :: s, h, n => by
    unfold refGo
    by_cases hx : x = c
    · rw [if_pos hx]
      have hm : b ∈ s := by
        rcases List.mem_cons.1 h with h | h
        · exact absurd (h.trans hx) hbc
        · exact h
      rw [refGo_none hd hbc hm]
      split <;> rfl
    · rw [if_neg hx]
      rcases List.mem_cons.1 h with h | h
      · rw [← h, if_pos hd]
      · split
        · rfl
        · exact refGo_none hd hbc h _
theorem refGo_two {base : Nat} {most : Int} {c : UInt8} (r : List UInt8) : ∀ (x : List UInt8) (n : Int), refGo base most c (x ++ c :: c :: r) n = none
  | [], n => by
    have h2 : refGo base most c (c :: r) (-1) = none := by
      unfold refGo
      rw [if_pos rfl, if_pos (.inl (by omega))]
    show refGo base most c (c :: c :: r) n = none
    unfold refGo
    rw [if_pos rfl, h2]
    split <;> rfl
  | b :: x, n => by
    rw [List.cons_append]
    unfold refGo
    rw [refGo_two r x]
    by_cases hb : b = c
    · rw [if_pos hb]
      split <;> rfl
    · rw [if_neg hb, refGo_two r x]
      split <;> rfl
theorem four_parts {b : AV} (hb : b.Ok) (h6 : b.six = false) : ∃ ns : List Nat, ns.length = 4 ∧ (∀ n ∈ ns, n ≤ 255) ∧ addrTxt b.six b.hi b.lo = joinT 46 (ns.map (numT 10)) ∧ fourA ns = b ∧ (58 : UInt8) ∉ addrTxt b.six b.hi b.lo ∧ (46 : UInt8) ∈ addrTxt b.six b.hi b.lo := by
  have hr := read_txt hb
  obtain ⟨six, hi, lo⟩ := b
  simp only at h6 hr ⊢
  subst h6
  have ht : addrTxt false hi lo = joinT 46 (((octs4 ⟨false, hi, lo⟩).map Int.toNat).map (numT 10)) := by
    unfold addrTxt
    simp only [Bool.false_eq_true, if_false]
    exact fourT_eq _
  have hlt : ∀ n ∈ (octs4 ⟨false, hi, lo⟩).map Int.toNat, n ≤ 255 := fun n hn => by
    obtain ⟨x, hx, rfl⟩ := List.mem_map.1 hn
    have := octs4_lt ⟨false, hi, lo⟩ x hx
    omega
  have hl : ((octs4 ⟨false, hi, lo⟩).map Int.toNat).length = 4 := by simp [octs4]
  rw [ht] at hr ⊢
  generalize (octs4 ⟨false, hi, lo⟩).map Int.toNat = ns at *
  have h58 : (58 : UInt8) ∉ joinT 46 (ns.map (numT 10)) := fun h => by
    rcases mem_joinT h with h | ⟨x, hx, h⟩
    · cases h
    · obtain ⟨n, _, rfl⟩ := List.mem_map.1 hx
      exact (numT_sign (by omega) (by omega)).2.1 h
  have hn : numsO 10 46 (joinT 46 (ns.map (numT 10))) = some ns := numsO_join (.inl rfl) (.inl rfl) ns (fun n hn => hlt n hn)
  refine ⟨ns, hl, hlt, rfl, ?_, h58, ?_⟩
  · rw [readP_four h58, hn] at hr
    simp only at hr
    rw [if_pos hl] at hr
    exact Option.some.inj hr
  · obtain ⟨a, b, c, d, rfl⟩ := lenE4 hl
    exact sign_joinT
theorem six_parts {b : AV} (hb : b.Ok) (h6 : b.six = true) : (∃ ns : List Nat, ns.length = 8 ∧ (∀ n ∈ ns, n ≤ 65535) ∧ addrTxt b.six b.hi b.lo = joinT 58 (ns.map (numT 16)) ∧ sixA ns = b) ∨
    ∃ l r : List Nat, l.length + r.length ≤ 6 ∧ (∀ n ∈ l, n ≤ 65535) ∧ (∀ n ∈ r, n ≤ 65535) ∧ addrTxt b.six b.hi b.lo = joinT 58 (l.map (numT 16)) ++ 58 :: 58 :: joinT 58 (r.map (numT 16)) ∧ sixA (l ++ List.replicate (8 - l.length - r.length) 0 ++ r) = b := by
  obtain ⟨six, hi, lo⟩ := b
  simp only at h6
  subst h6
  obtain ⟨h1, h2, _⟩ := hb
  simp only at h1 h2 ⊢
  have hg := gps_lt hi lo h1.1 h2.1
  have hl := gps_len hi lo
  have hbk := gps_back hi lo h1 h2
  have hz := runP_zero (gps hi lo) 8 (by omega)
  unfold addrTxt
  simp only [if_true]
  generalize gps hi lo = g at *
  generalize runP g 8 = fm at *
  obtain ⟨f, m⟩ := fm
  simp only at hz ⊢
  have hle : ∀ (g' : List Int), (∀ x ∈ g', x ∈ g) → ∀ n ∈ g'.map Int.toNat, n ≤ 65535 := fun g' hs n hn => by
    obtain ⟨x, hx, rfl⟩ := List.mem_map.1 hn
    have := hg x (hs x hx)
    omega
  unfold sixT
  by_cases hm : m < 2
  · rw [if_pos hm]
    exact .inl ⟨g.map Int.toNat, by rw [List.length_map, hl], hle g (fun _ h => h), hexT_eq g, hbk⟩
  · rw [if_neg hm]
    refine .inr ⟨(g.take f).map Int.toNat, (g.drop (f + m)).map Int.toNat, ?_, hle _ (fun _ h => List.mem_of_mem_take h), hle _ (fun _ h => List.mem_of_mem_drop h), ?_, ?_⟩
    · simp
      omega
    · rw [← hexT_eq, ← hexT_eq]
      simp
    · have hlen : ((g.take f).map Int.toNat).length + ((g.drop (f + m)).map Int.toNat).length = 8 - m := by simp; omega
      have hr : 8 - ((g.take f).map Int.toNat).length - ((g.drop (f + m)).map Int.toNat).length = m := by omega
      rw [hr, fill_gap hz.1 hz.2, hbk]
/-- Four numbers: what the closure answers is what is parsed. -/
theorem way_four {L : List UInt8} {l : List Nat} (hL : ¬ 600 < L.length) (hr : refGo 10 255 46 L (-1) = some l) (h4 : l.length = 4) : tryR 8 l L = parsA L := by
  have hle := refGo_le hr
  have hok : (tryA 8 l).Ok := fourA_ok h4 (fun n hn => by have := hle n hn; omega)
  unfold tryR
  by_cases ht : addrTxt (tryA 8 l).six (tryA 8 l).hi (tryA 8 l).lo = L
  · rw [if_pos ht, parsA_txt hL hok ht]
  · rw [if_neg ht]
    refine (parsA_bad hL fun b hb he => ?_).symm
    cases h6 : b.six with
    | false =>
      obtain ⟨ns, k1, k2, k3, k4, -, -⟩ := four_parts hb h6
      rw [he] at k3
      have hj := refGo_join (.inl rfl) (most := 255) (c := 46) (.inl rfl) ns (fun h => by rw [h] at k1; cases k1) (fun n hn => by have := k2 n hn; omega)
      rw [← k3, hr] at hj
      have := Option.some.inj hj
      subst this
      exact ht (by rw [show tryA 8 l = fourA l from rfl, k4]; exact he)
    | true =>
      have h58 : (58 : UInt8) ∈ L := by
        rw [← he]
        rcases six_parts hb h6 with ⟨ns, k1, -, k3, -⟩ | ⟨l', r', -, -, -, k3, -⟩
        · rw [k3]
          obtain ⟨a, b, c, d, e, f, g, k, rfl⟩ := lenE8 k1
          exact sign_joinT
        · rw [k3]
          simp
      rw [refGo_none (by decide) (by decide) h58] at hr
      cases hr
/-- Eight numbers. -/
theorem way_eight {L : List UInt8} {l : List Nat} (hL : ¬ 600 < L.length) (hr : refGo 16 65535 58 L (-1) = some l) (h8 : l.length = 8) : tryR 16 l L = parsA L := by
  have hle := refGo_le hr
  have hok : (tryA 16 l).Ok := sixA_ok h8 (fun n hn => by have := hle n hn; omega)
  unfold tryR
  by_cases ht : addrTxt (tryA 16 l).six (tryA 16 l).hi (tryA 16 l).lo = L
  · rw [if_pos ht, parsA_txt hL hok ht]
  · rw [if_neg ht]
    refine (parsA_bad hL fun b hb he => ?_).symm
    cases h6 : b.six with
    | false =>
      obtain ⟨ns, -, -, -, -, -, h46⟩ := four_parts hb h6
      rw [he] at h46
      rw [refGo_none (by decide) (by decide) h46] at hr
      cases hr
    | true =>
      rcases six_parts hb h6 with ⟨ns, k1, k2, k3, k4⟩ | ⟨l', r', -, -, -, k3, -⟩
      · rw [he] at k3
        have hj := refGo_join (.inr rfl) (most := 65535) (c := 58) (.inr (.inl rfl)) ns (fun h => by rw [h] at k1; cases k1) (fun n hn => by have := k2 n hn; omega)
        rw [← k3, hr] at hj
        have := Option.some.inj hj
        subst this
        exact ht (by rw [show tryA 16 l = sixA l from rfl, k4]; exact he)
      · rw [he] at k3
        rw [k3, refGo_two] at hr
        cases hr
end Go.Proofs.YticikknfkkmoaaaDoor

namespace Go.Proofs.YticikknfkkmoaaaDoor
open Go.RowKit

def headO (x : List UInt8) : Option (List Nat) := if x = [] then some [] else refGo 16 65535 58 x (-1)
theorem headO_join {l : List Nat} (h : ∀ n ∈ l, n ≤ 65535) : headO (joinT 58 (l.map (numT 16))) = some l := by
  unfold headO
  cases l with
  | nil => rfl
  | cons n l =>
    rw [if_neg (by rw [List.map_cons]; exact joinT_ne (numT_ne (by omega)))]
    exact refGo_join (.inr rfl) (.inr (.inl rfl)) _ (by simp) (fun m hm => by have := h m hm; omega)
theorem headO_le {x : List UInt8} {l : List Nat} (h : headO x = some l) : ∀ n ∈ l, n ≤ 65535 := fun n hn => by
  unfold headO at h
  split at h
  · have := Option.some.inj h
    subst this
    simp at hn
  · have := refGo_le h n hn
    omega
theorem nums_noCC (l : List Nat) : NoCC 58 (joinT 58 (l.map (numT 16))) := noCC_join _ fun x hx => by
  obtain ⟨n, _, rfl⟩ := List.mem_map.1 hx
  exact ⟨numT_ne (by omega), (numT_sign (by omega) (by omega)).2.1⟩
theorem first_same {x x' y y' : List UInt8} (hf : ∀ j, j < x.length → ¬ ((x ++ 58 :: 58 :: y)[j]? = some 58 ∧ (x ++ 58 :: 58 :: y)[j + 1]? = some 58)) (hn : NoCC 58 x') (he : x ++ 58 :: 58 :: y = x' ++ 58 :: 58 :: y') : x = x' ∧ y = y' := by
  have hlen : x.length = x'.length := by
    rcases Nat.lt_trichotomy x.length x'.length with h | h | h
    · have h1 : (x' ++ 58 :: 58 :: y')[x.length]? = some 58 := by rw [← he]; simp
      have h2 : (x' ++ 58 :: 58 :: y')[x.length + 1]? = some 58 := by rw [← he]; simp
      rw [List.getElem?_append_left h] at h1
      obtain ⟨b, hb, hbc⟩ := hn _ h1
      have hlt : x.length + 1 < x'.length := (List.getElem?_eq_some_iff.1 hb).1
      rw [List.getElem?_append_left hlt, hb] at h2
      exact absurd (Option.some.inj h2) hbc
    · exact h
    · refine absurd ⟨?_, ?_⟩ (hf x'.length h)
      · rw [he]; simp
      · rw [he]; simp
  obtain ⟨e1, e2⟩ := List.append_inj he hlen
  refine ⟨e1, ?_⟩
  injection e2 with _ e2
  injection e2
structure Ways (L : List UInt8) : Prop where
  len : ¬ 600 < L.length
  four : ∀ l, refGo 10 255 46 L (-1) = some l → ¬ l.length = 4
  eight : ∀ l, refGo 16 65535 58 L (-1) = some l → ¬ l.length = 8
theorem Ways.gap {L : List UInt8} (h : Ways L) {b : AV} (hb : b.Ok) (he : addrTxt b.six b.hi b.lo = L) : ∃ l r : List Nat, l.length + r.length ≤ 6 ∧ (∀ n ∈ l, n ≤ 65535) ∧ (∀ n ∈ r, n ≤ 65535) ∧ L = joinT 58 (l.map (numT 16)) ++ 58 :: 58 :: joinT 58 (r.map (numT 16)) ∧ sixA (l ++ List.replicate (8 - l.length - r.length) 0 ++ r) = b := by
  cases h6 : b.six with
  | false =>
    obtain ⟨ns, k1, k2, k3, -, -, -⟩ := four_parts hb h6
    rw [he] at k3
    have hj := refGo_join (.inl rfl) (most := 255) (c := 46) (.inl rfl) ns (fun h => by rw [h] at k1; cases k1) (fun n hn => by have := k2 n hn; omega)
    rw [← k3] at hj
    exact absurd k1 (h.four ns hj)
  | true =>
    rcases six_parts hb h6 with ⟨ns, k1, k2, k3, -⟩ | ⟨l, r, k1, k2, k3, k4, k5⟩
    · rw [he] at k3
      have hj := refGo_join (.inr rfl) (most := 65535) (c := 58) (.inr (.inl rfl)) ns (fun h => by rw [h] at k1; cases k1) (fun n hn => by have := k2 n hn; omega)
      rw [← k3] at hj
      exact absurd k1 (h.eight ns hj)
    · exact ⟨l, r, k1, k2, k3, by rw [← he]; exact k4, k5⟩
theorem way_none {L : List UInt8} (h : Ways L) (hn : ∀ j : Nat, ¬ (L[j]? = some 58 ∧ L[j + 1]? = some 58)) : parsA L = (noA, 4) := by
  refine parsA_bad h.len fun b hb he => ?_
  obtain ⟨l, r, -, -, -, k, -⟩ := h.gap hb he
  refine hn (joinT 58 (l.map (numT 16))).length ⟨?_, ?_⟩
  · rw [k]; simp
  · rw [k]; simp
theorem way_gap {x y : List UInt8} (h : Ways (x ++ 58 :: 58 :: y)) (hf : ∀ j, j < x.length → ¬ ((x ++ 58 :: 58 :: y)[j]? = some 58 ∧ (x ++ 58 :: 58 :: y)[j + 1]? = some 58)) {l r : List Nat} (hl : headO x = some l) (hr : headO y = some r) (h6 : l.length + r.length ≤ 6) :
    tryR 16 (l ++ List.replicate (8 - l.length - r.length) 0 ++ r) (x ++ 58 :: 58 :: y) = parsA (x ++ 58 :: 58 :: y) := by
  have hok : (tryA 16 (l ++ List.replicate (8 - l.length - r.length) 0 ++ r)).Ok := sixA_ok (by simp; omega) (fun n hn => by
    simp only [List.mem_append, List.mem_replicate] at hn
    rcases hn with (hn | hn) | hn
    · exact headO_le hl n hn
    · omega
    · exact headO_le hr n hn)
  unfold tryR
  generalize hL : x ++ 58 :: 58 :: y = L at *
  by_cases ht : addrTxt (tryA 16 (l ++ List.replicate (8 - l.length - r.length) 0 ++ r)).six (tryA 16 (l ++ List.replicate (8 - l.length - r.length) 0 ++ r)).hi (tryA 16 (l ++ List.replicate (8 - l.length - r.length) 0 ++ r)).lo = L
  · rw [if_pos ht, parsA_txt h.len hok ht]
  · rw [if_neg ht]
    refine (parsA_bad h.len fun b hb he => ?_).symm
    obtain ⟨l', r', k1, k2, k3, k4, k5⟩ := h.gap hb he
    rw [← hL] at hf
    obtain ⟨e1, e2⟩ := first_same hf (nums_noCC l') (hL.trans k4)
    rw [e1, headO_join k2] at hl
    rw [e2, headO_join k3] at hr
    have := Option.some.inj hl
    subst this
    have := Option.some.inj hr
    subst this
    exact ht (by rw [show tryA 16 (l' ++ List.replicate (8 - l'.length - r'.length) 0 ++ r') = sixA (l' ++ List.replicate (8 - l'.length - r'.length) 0 ++ r') from rfl, k5]; exact he)
theorem way_gap_bad {x y : List UInt8} (h : Ways (x ++ 58 :: 58 :: y)) (hf : ∀ j, j < x.length → ¬ ((x ++ 58 :: 58 :: y)[j]? = some 58 ∧ (x ++ 58 :: 58 :: y)[j + 1]? = some 58)) (hb : ∀ l r, headO x = some l → headO y = some r → ¬ l.length + r.length ≤ 6) :
    parsA (x ++ 58 :: 58 :: y) = (noA, 4) := by
  refine parsA_bad h.len fun b hbo he => ?_
  obtain ⟨l', r', k1, k2, k3, k4, k5⟩ := h.gap hbo he
  obtain ⟨e1, e2⟩ := first_same hf (nums_noCC l') k4
  exact hb l' r' (by rw [e1]; exact headO_join k2) (by rw [e2]; exact headO_join k3) k1
end Go.Proofs.YticikknfkkmoaaaDoor
