/-
  
  
-/
import Derived.Test.YticikknfkkmoaaaDoorC7
import Derived.Deep.DeepCutAuto
import Derived.Deep.CutBlock
import Derived.Test.YticikknfkkmoaaaDoorRows
import Derived.Test.YticikknfkkmoaaaDoorC6
import Derived.ChangeMaps5
namespace Go.Proofs.YticikknfkkmoaaaDoor
open Go.ChangeShapes Go.WideShapes Go.ChangeAt Go.RowKit


theorem ext_take (s : ByteArray) (k : Nat) : (s.extract 0 k).data.toList = s.data.toList.take k := by
  rw [ByteArray.data_extract, Array.toList_extract]
  simp
theorem ext_drop (s : ByteArray) (k : Nat) : (s.extract k s.size).data.toList = s.data.toList.drop k := by
  rw [ByteArray.data_extract, Array.toList_extract, List.extract_eq_take_drop]
  exact List.take_of_length_le (by rw [List.length_drop, ← Lib.size_eq s]; exact Nat.le_refl _)
theorem cut_cc {L : List UInt8} {k : Nat} (h1 : L[k]? = some 58) (h2 : L[k + 1]? = some 58) : L = L.take k ++ 58 :: 58 :: L.drop (k + 2) := by
  obtain ⟨a1, a2⟩ := List.getElem?_eq_some_iff.1 h1
  obtain ⟨b1, b2⟩ := List.getElem?_eq_some_iff.1 h2
  have e : L.drop k = 58 :: 58 :: L.drop (k + 2) := by rw [List.drop_eq_getElem_cons a1, a2, List.drop_eq_getElem_cons b1, b2]
  rw [← e, List.take_append_drop]
theorem RowAt.first {w : World} {base : Nat} {e : TypeId} {size n : Nat} {v : Value} {xs : List Value} (h : w.ownsRow base e size v n xs) (hb : base ≤ w.heap.size) : ∃ G, RowAt w G base e size w v n xs ∧ (G = 0 ∨ v.ownBlock = some G) := by
  refine ⟨v.ownBlock.getD 0, ⟨h, fun k hk => .inl (by rw [hk]; rfl), Below.refl _ _, fun _ _ _ => rfl, hb⟩, ?_⟩
  cases v.ownBlock with
  | none => exact .inl rfl
  | some k => exact .inr rfl
theorem RowAt.reads {w3 wr : World} {G base : Nat} {e : TypeId} {size n : Nat} {v : Value} {xs : List Value} (h : RowAt w3 G base e size wr v n xs) {A : Option Addr} {m : Nat} {ys : List Value} (hr : Reads w3 w3.heap.size 1 A m ys) (hne : ∀ ad, A = some ad → ad.block ≠ G) : Reads wr wr.heap.size 1 A m ys :=
  ⟨hr.1, fun hm => by
    obtain ⟨ad, e1, hb, hc⟩ := hr.2 hm
    refine ⟨ad, e1, by have := h.below.size; omega, fun j u hu => ?_⟩
    exact (World.cell?_of_block (by rw [block_of_add]; exact h.kept _ hb (hne ad e1))).trans (hc j u hu)⟩
theorem head_of {x : List UInt8} (h : x ≠ []) : headO x = refGo 16 65535 58 x (-1) := if_neg h
theorem fine_of {l : List Nat} {fine : Bool} {x : List UInt8} (h : x ≠ []) (hor : (fine = true ∧ refGo 16 65535 58 x (-1) = some l) ∨ (fine = false ∧ refGo 16 65535 58 x (-1) = none ∧ l = [])) : (fine = true ∧ headO x = some l) ∨ (fine = false ∧ headO x = none) := by
  rw [head_of h]
  rcases hor with h | ⟨h1, h2, _⟩
  · exact .inl h
  · exact .inr ⟨h1, h2⟩

set_option maxRecDepth 100000 in
set_option maxHeartbeats 16000000 in
theorem refParse_any (s : ByteArray) (w : World) : Calls Tryd.prog 6 #[.string s] w (ParsRet w (parsA s.data.toList)) := by
  have hsz : s.data.toList.length = s.size := (Lib.size_eq s).symm
  obtain ⟨post, hpost⟩ : ∃ post, ParsRet w (parsA s.data.toList) = post := ⟨_, rfl⟩
  have HP := Lib.hid hpost
  rw [hpost]
  clear hpost
  by_cases hbig : 600 < s.size
  · have hres : Hid (parsA s.data.toList = (noA, 1)) := parsA_big (by rw [hsz]; exact hbig)
    have hbi : (600 : Int) < (s.size : Int) := by omega
    clear hsz
    go_enter Tryd.func6, Tryd.ntmps6
    go_wp2
    refine bodyPost_ret (v := .tuple #[.agg #[.bool false, .int .u64 0, .int .u64 0], .int .i64 1]) ?_ rfl ?_
    · simp [results, Tryd.results6, go_sem]
    · rw [← HP.out, hres.out]
      refine ⟨rfl, ?_⟩
      (repeat' first | with_reducible exact Below.refl _ _ | with_reducible refine Below.drew ?_ | with_reducible refine Below.setCell ?_ ?_ _ | with_reducible refine Below.alloc ?_ ?_ _ | exact Nat.le_refl _ | (simp; done) | (simp; omega))
  have hnb : ¬ (600 : Int) < (s.size : Int) := by omega
  have hnl : ¬ 600 < s.data.toList.length := by rw [hsz]; exact hbig
  have CF := Lib.hid (fun (W : World) => refNums_any (.inl rfl) (most := 255) (by omega) 46 s (by omega) W)
  have CE := Lib.hid (fun (W : World) => refNums_any (.inr rfl) (most := 65535) (by omega) 58 s (by omega) W)
  have HNL := Lib.hid hnl
  clear hnl
  go_enter Tryd.func6, Tryd.ntmps6
  go_wp2_with fail
  refine (CF.out _).mono ?_
  rintro e w2 ⟨v1, l1, fine1, rfl, hown1, hlen1, hor1, hb2⟩
  obtain ⟨A1, c1, rfl, hc1, hr1⟩ := own_reads hown1
  have hbw2 : Below w.heap.size w w2 := below_step (((Below.refl _ _).alloc (Nat.le_refl _) _).alloc (by simp) _) hb2
  have hgs : w2.cell? ⟨w.heap.size, 0, none⟩ = some (.string s) := by
    refine (hb2.cell (p := ⟨w.heap.size, 0, none⟩) (by simp; omega)).trans ?_
    go_simp
  have hbx : Blk w2 (w.heap.size + 1) 24 #[.bool false, .int .u64 0, .int .u64 0] := by
    refine Blk.below (w := (w.alloc (.cells #[.string s] 9)).alloc (.cells #[.bool false, .int .u64 0, .int .u64 0] 24)) ?_ hb2 (by simp)
    have := Blk.new (w.alloc (.cells #[.string s] 9)) 24 #[.bool false, .int .u64 0, .int .u64 0]
    simpa using this
  have HBW2 := Lib.hid hbw2
  have HBX := Lib.hid hbx
  have HR1 := Lib.hid hr1
  have hz2 := hbx.lt
  clear hb2 hbw2 hbx hr1 hown1 CF
  rcases hor1 with ⟨rfl, hsome⟩ | ⟨rfl, hnone, rfl⟩
  · by_cases h4 : l1.length = 4
    · have CT := try_any (wd := 8) (.inl ⟨rfl, h4⟩) (fun n hn => by have := refGo_le hsome n hn; omega) (c := c1) s w.heap.size w2 hgs HR1.out
      rw [way_four HNL.out hsome h4] at CT
      generalize parsA s.data.toList = res at *
      obtain ⟨⟨six, hi, lo⟩, E⟩ := res
      have HCT : Hid (Calls Tryd.prog 11 #[.slice A1 4 c1, .int .i64 8, .pointer (some ⟨w.heap.size, 0, none⟩)] w2 (ParsRet w2 (⟨six, hi, lo⟩, E))) := by rw [h4] at CT; exact CT
      unfold ParsRet at HCT
      have h4i : (l1.length : Int) = 4 := by omega
      clear CT hsome
      go_wp2_with fail
      refine HCT.out.mono ?_
      rintro e w3 ⟨rfl, hb3⟩
      have HB3 := Lib.hid (below_step HBW2.out hb3)
      have hbx3 := HBX.out.below hb3 hz2
      have d0 := hbx3.cell 0
      have d1 := hbx3.cell 1
      have d2 := hbx3.cell 2
      simp at d0 d1 d2
      have e0 := hbx3.frozen 0
      have e1 := hbx3.frozen 1
      have e2 := hbx3.frozen 2
      clear hb3 hbx3
      go_wp2
      refine bodyPost_ret (v := .tuple #[.agg #[.bool six, .int .u64 hi, .int .u64 lo], .int .i64 E]) ?_ rfl ?_
      · simp [results, Tryd.results6, go_sem, d0, d1, d2]
      · rw [← HP.out]
        refine ⟨rfl, ?_⟩
        (repeat' first | with_reducible exact HB3.out | with_reducible refine Below.drew ?_ | with_reducible refine Below.setCell ?_ ?_ _ | exact Nat.le_refl _ | (simp; done) | omega)
    · have HW4 : Hid (∀ l, refGo 10 255 46 s.data.toList (-1) = some l → ¬ l.length = 4) := fun l hl => by
        rw [hsome] at hl
        have := Option.some.inj hl
        subst this
        exact h4
      have h4i : ¬ (l1.length : Int) = 4 := by omega
      have h4b : ((l1.length : Int) == 4) = false := by simpa using h4i
      clear hsome
      go_wp2_with fail
      refine (CE.out _).mono ?_
      rintro e w3 ⟨v2, l2, fine2, rfl, hown2, hlen2, hor2, hb3⟩
      obtain ⟨A2, c2, rfl, hc2, hr2⟩ := own_reads hown2
      have HBW3 := Lib.hid (below_step HBW2.out hb3)
      have hgs3 := (hb3.cell (p := ⟨w.heap.size, 0, none⟩) (show w.heap.size < w2.heap.size by omega)).trans hgs
      have hbx3 := HBX.out.below hb3 hz2
      have HBX3 := Lib.hid hbx3
      have HR2 := Lib.hid hr2
      have hz3 := hbx3.lt
      clear hb3 hr2 hown2 hbx3 CE
      rcases hor2 with ⟨rfl, hsome2⟩ | ⟨rfl, hnone2, rfl⟩
      · by_cases h8 : l2.length = 8
        · have CT := try_any (wd := 16) (.inr ⟨rfl, h8⟩) (fun n hn => by have := refGo_le hsome2 n hn; omega) (c := c2) s w.heap.size w3 hgs3 HR2.out
          rw [way_eight HNL.out hsome2 h8] at CT
          generalize parsA s.data.toList = res at *
          obtain ⟨⟨six, hi, lo⟩, E⟩ := res
          have HCT : Hid (Calls Tryd.prog 11 #[.slice A2 8 c2, .int .i64 16, .pointer (some ⟨w.heap.size, 0, none⟩)] w3 (ParsRet w3 (⟨six, hi, lo⟩, E))) := by rw [h8] at CT; exact CT
          unfold ParsRet at HCT
          have h8i : (l2.length : Int) = 8 := by omega
          clear CT hsome2
          go_wp2_with fail
          refine HCT.out.mono ?_
          rintro e w4 ⟨rfl, hb4⟩
          have HB4 := Lib.hid (below_step HBW3.out hb4)
          have hbx4 := HBX3.out.below hb4 hz3
          have d0 := hbx4.cell 0
          have d1 := hbx4.cell 1
          have d2 := hbx4.cell 2
          simp at d0 d1 d2
          have e0 := hbx4.frozen 0
          have e1 := hbx4.frozen 1
          have e2 := hbx4.frozen 2
          clear hb4 hbx4
          go_wp2
          refine bodyPost_ret (v := .tuple #[.agg #[.bool six, .int .u64 hi, .int .u64 lo], .int .i64 E]) ?_ rfl ?_
          · simp [results, Tryd.results6, go_sem, d0, d1, d2]
          · rw [← HP.out]
            refine ⟨rfl, ?_⟩
            (repeat' first | with_reducible exact HB4.out | with_reducible refine Below.drew ?_ | with_reducible refine Below.setCell ?_ ?_ _ | exact Nat.le_refl _ | (simp; done) | omega)
        · have HW8 : Hid (∀ l, refGo 16 65535 58 s.data.toList (-1) = some l → ¬ l.length = 8) := fun l hl => by
            rw [hsome2] at hl
            have := Option.some.inj hl
            subst this
            exact h8
          have h8i : ¬ (l2.length : Int) = 8 := by omega
          have h8b : ((l2.length : Int) == 8) = false := by simpa using h8i
          clear hsome2
          have HWY : Hid (Ways s.data.toList) := ⟨HNL.out, HW4.out, HW8.out⟩
          have CX := Lib.hid (fun (k : Nat) (W : World) => refNums_any (.inr rfl) (most := 65535) (by omega) 58 (s.extract 0 k) (by rw [ByteArray.size_extract]; omega) W)
          have CY := Lib.hid (fun (k : Nat) (W : World) => refNums_any (.inr rfl) (most := 65535) (by omega) 58 (s.extract k s.size) (by rw [ByteArray.size_extract]; omega) W)
          have hs6 : s.size ≤ 600 := by omega
          have hgl3 : w.heap.size < w3.heap.size := by omega
          have hLS : Hid (s.data.toList.length = s.size) := (Lib.size_eq s).symm
          clear HNL HW4 HW8
          go_wp2
          go_loopw [9] (fun i wr => ∃ k : Nat, k ≤ s.size ∧ i = .int .i64 k ∧ Hid (∀ j, j < k → ¬ (s.data.toList[j]? = some 58 ∧ s.data.toList[j + 1]? = some 58)) ∧ Hid (Below w3.heap.size w3 wr)) (fun i _ => s.size - (RowKit.intOf i).toNat)
          case atStart => exact ⟨0, by omega, rfl, fun j hj => absurd hj (by omega), Below.refl _ _⟩
          case round =>
            obtain ⟨k, hk, rfl, hno, hbl⟩ := hrel
            obtain ⟨wo, rfl⟩ : ∃ wo : World, wo = wr := ⟨_, rfl⟩
            have g0 : wo.cell? ⟨w.heap.size, 0, none⟩ = some (.string s) := (hbl.out.cell (p := ⟨w.heap.size, 0, none⟩) hgl3).trans hgs3
            have hwk : IntKind.i64.wrap ((k : Int) + 1) = (k : Int) + 1 := IntWalk.i64_in _ (by omega)
            have hwk2 : IntKind.i64.wrap ((k : Int) + 2) = (k : Int) + 2 := IntWalk.i64_in _ (by omega)
            have hwo3 : w3.heap.size ≤ wo.heap.size := hbl.out.size
            by_cases hlt : k + 1 < s.size
            rotate_left
            · have hli : ¬ (k : Int) + 1 < (s.size : Int) := by omega
              have HNO : Hid (parsA s.data.toList = (noA, 4)) := way_none HWY.out fun j h => by
                by_cases hj : j < k
                · exact hno.out j hj h
                · have := (List.getElem?_eq_some_iff.1 h.2).1
                  rw [hLS.out] at this
                  omega
              have hbx5 := HBX3.out.below hbl.out hz3
              have d0 := hbx5.cell 0
              have d1 := hbx5.cell 1
              have d2 := hbx5.cell 2
              simp at d0 d1 d2
              have e0 := hbx5.frozen 0
              have e1 := hbx5.frozen 1
              have e2 := hbx5.frozen 2
              have hz5 := hbx5.lt
              have HB5 := Lib.hid (below_step HBW3.out hbl.out)
              clear hbx5
              go_wp2
              refine bodyPost_ret (v := .tuple #[.agg #[.bool false, .int .u64 0, .int .u64 0], .int .i64 4]) ?_ rfl ?_
              · simp [results, Tryd.results6, go_sem, d0, d1, d2]
              · rw [← HP.out, HNO.out]
                refine ⟨rfl, ?_⟩
                (repeat' first | with_reducible exact HB5.out | with_reducible refine Below.drew ?_ | with_reducible refine Below.setCell ?_ ?_ _ | exact Nat.le_refl _ | (simp; done) | omega)
            have hli : (k : Int) + 1 < (s.size : Int) := by omega
            obtain ⟨b, hbk⟩ : ∃ b, s.data.toList[k]? = some b := ⟨_, List.getElem?_eq_getElem (by rw [hLS.out]; omega)⟩
            obtain ⟨c, hck⟩ : ∃ c, s.data.toList[k + 1]? = some c := ⟨_, List.getElem?_eq_getElem (by rw [hLS.out]; omega)⟩
            have HBK := Lib.hid hbk
            have HCK := Lib.hid hck
            have HNX : Hid (¬ (b = 58 ∧ c = 58) → ∀ j, j < k + 1 → ¬ (s.data.toList[j]? = some 58 ∧ s.data.toList[j + 1]? = some 58)) := fun hn j hj h => by
              by_cases hjk : j = k
              · subst hjk
                rw [HBK.out, HCK.out] at h
                exact hn ⟨Option.some.inj h.1, Option.some.inj h.2⟩
              · exact hno.out j (by omega) h
            clear hbk hck
            by_cases hb58 : b = 58
            rotate_left
            · have hn58 : ((b.toNat : Int) == 58) = false := by
                simp
                intro h
                exact hb58 (UInt8.toNat_inj.1 (by have : (58 : UInt8).toNat = 58 := rfl; omega))
              have hne58 : ((b.toNat : Int) != 58) = true := by rw [bne, hn58]; rfl
              have hat := fun W => str_at s k b HBK.out W
              have HN1 := Lib.hid (HNX.out (fun h => hb58 h.1))
              clear HNX hb58
              go_wp2
              go_roundw
              case rel => exact ⟨k + 1, by omega, by go_num, HN1, Lib.hid (by (repeat' first | with_reducible exact hbl.out | with_reducible refine Below.drew ?_ | with_reducible refine below_drewN ?_ _))⟩
              case measure => (simp [RowKit.intOf] <;> omega)
            subst hb58
            have hat : ∀ W, (Instr.index 9 (.string s) (.int .i64 (k : Int))).run Tryd.prog W = .ok (.int .u8 58) W := fun W => str_at s k 58 HBK.out W
            by_cases hc58 : c = 58
            rotate_left
            · have hn58 : ((c.toNat : Int) == 58) = false := by
                simp
                intro h
                exact hc58 (UInt8.toNat_inj.1 (by have : (58 : UInt8).toNat = 58 := rfl; omega))
              have hne58 : ((c.toNat : Int) != 58) = true := by rw [bne, hn58]; rfl
              have hat1 : ∀ W, (Instr.index 9 (.string s) (.int .i64 ((k : Int) + 1))).run Tryd.prog W = .ok (.int .u8 (c.toNat : Int)) W := fun W => str_at s (k + 1) c HCK.out W
              have HN1 := Lib.hid (HNX.out (fun h => hc58 h.2))
              clear HNX hc58
              go_wp2
              go_roundw
              case rel => exact ⟨k + 1, by omega, by go_num, HN1, Lib.hid (by (repeat' first | with_reducible exact hbl.out | with_reducible refine Below.drew ?_ | with_reducible refine below_drewN ?_ _))⟩
              case measure => (simp [RowKit.intOf] <;> omega)
            subst hc58
            have hat1 : ∀ W, (Instr.index 9 (.string s) (.int .i64 ((k : Int) + 1))).run Tryd.prog W = .ok (.int .u8 58) W := fun W => str_at s (k + 1) 58 HCK.out W
            have hL := cut_cc HBK.out HCK.out
            have hx0 := ext_take s k
            have hy0 := ext_drop s (k + 2)
            have hxl : (s.data.toList.take k).length = k := by rw [List.length_take, hLS.out]; omega
            have hyl : (s.data.toList.drop (k + 2)).length = s.size - (k + 2) := by rw [List.length_drop, hLS.out]
            generalize s.data.toList.take k = x at *
            generalize s.data.toList.drop (k + 2) = y at *
            have HWG : Hid (∀ l r : List Nat, headO x = some l → headO y = some r → l.length + r.length ≤ 6 → tryR 16 (l ++ List.replicate (8 - l.length - r.length) 0 ++ r) s.data.toList = parsA s.data.toList) := fun l r h1 h2 h3 => by
              have hf := hno.out
              have hw := HWY.out
              rw [hL] at hf hw ⊢
              exact way_gap hw (fun j hj => hf j (by omega)) h1 h2 h3
            have HWB : Hid ((∀ l r : List Nat, headO x = some l → headO y = some r → ¬ l.length + r.length ≤ 6) → parsA s.data.toList = (noA, 4)) := fun h => by
              have hf := hno.out
              have hw := HWY.out
              rw [hL] at hf hw ⊢
              exact way_gap_bad hw (fun j hj => hf j (by omega)) h
            have CX := Lib.hid (CX.out k)
            have CY := Lib.hid (CY.out (k + 2))
            rw [hx0] at CX
            rw [hy0] at CY
            have HXE : Hid (0 < k → x ≠ []) := fun h e => by rw [e] at hxl; simp at hxl; omega
            have HXN : Hid (¬ 0 < k → headO x = some []) := fun h => by
              obtain rfl : x = [] := List.eq_nil_of_length_eq_zero (by omega)
              rfl
            have HYE : Hid (k + 2 < s.size → y ≠ []) := fun h e => by rw [e] at hyl; simp at hyl; omega
            have HYN : Hid (¬ k + 2 < s.size → headO y = some []) := fun h => by
              obtain rfl : y = [] := List.eq_nil_of_length_eq_zero (by omega)
              rfl
            clear hL hx0 hy0 hxl hyl HNX HBK HCK hno HWY
            have HBO := Lib.hid (below_step HBW3.out hbl.out)
            go_upto_if 70 with fail
            go_cut [10, 12] (fun v10 v12 wx => ∃ (l : List Nat) (fine : Bool), v12 = .bool fine ∧ Hid (wx.ownsRow w3.heap.size 3 1 v10 l.length (l.map intV)) ∧ l.length ≤ 1000 ∧ Hid ((fine = true ∧ headO x = some l) ∨ (fine = false ∧ headO x = none)) ∧ Hid (Below w3.heap.size w3 wx))
            case first =>
              by_cases hk0 : 0 < k
              · have hk0i : decide ((0 : Int) < (k : Int)) = true := by simpa using hk0
                go_wp2_with fail
                refine (CX.out _).mono ?_
                rintro e w4 ⟨v1, l, fine, rfl, hown, hlen, hor, hb4⟩
                have HX1 := Lib.hid (own_mono hown hwo3)
                have HX2 := Lib.hid (fine_of (HXE.out hk0) hor)
                have HX3 := Lib.hid (below_step hbl.out hb4)
                clear hown hor hb4
                go_wp2_with fail
                go_meet
                case rel => exact ⟨l, fine, rfl, HX1, hlen, HX2, HX3⟩
              · have hk0i : decide ((0 : Int) < (k : Int)) = false := by simpa using hk0
                go_wp2_with fail
                go_meet
                case rel => exact ⟨[], true, rfl, World.ownsRow_nil _ _ _ _, by simp, .inl ⟨rfl, HXN.out hk0⟩, hbl⟩
            case rest =>
            obtain ⟨l, finl, rfl, hownl, hlenl, horl, hb4⟩ := hcut
            obtain ⟨w4, rfl⟩ : ∃ w4 : World, w4 = wc := ⟨_, rfl⟩
            have g4 : w4.cell? ⟨w.heap.size, 0, none⟩ = some (.string s) := (hb4.out.cell (p := ⟨w.heap.size, 0, none⟩) hgl3).trans hgs3
            have hw43 : w3.heap.size ≤ w4.heap.size := hb4.out.size
            go_upto_if 82 with fail
            go_cut [11, 13] (fun v11 v13 wx => ∃ (r : List Nat) (fine : Bool), v13 = .bool fine ∧ Hid (wx.ownsRow w4.heap.size 3 1 v11 r.length (r.map intV)) ∧ r.length ≤ 1000 ∧ Hid ((fine = true ∧ headO y = some r) ∨ (fine = false ∧ headO y = none)) ∧ Hid (Below w4.heap.size w4 wx))
            case first =>
              by_cases hk0 : k + 2 < s.size
              · have hk0i : decide ((k : Int) + 2 < (s.size : Int)) = true := by simp; omega
                go_wp2_with fail
                refine (CY.out _).mono ?_
                rintro e w5 ⟨v1, r, fine, rfl, hown, hlen, hor, hb5⟩
                have HX1 := Lib.hid hown
                have HX2 := Lib.hid (fine_of (HYE.out hk0) hor)
                have HX3 := Lib.hid hb5
                clear hown hor hb5
                go_wp2_with fail
                go_meet
                case rel => exact ⟨r, fine, rfl, HX1, hlen, HX2, HX3⟩
              · have hk0i : decide ((k : Int) + 2 < (s.size : Int)) = false := by simp; omega
                go_wp2_with fail
                go_meet
                case rel => exact ⟨[], true, rfl, World.ownsRow_nil _ _ _ _, by simp, .inl ⟨rfl, HYN.out hk0⟩, Below.refl _ _⟩
            case rest =>
            obtain ⟨r, finr, rfl, hownr, hlenr, horr, hb5⟩ := hcut
            obtain ⟨w5, rfl⟩ : ∃ w5 : World, w5 = wc := ⟨_, rfl⟩
            have hb35 : Hid (Below w3.heap.size w3 w5) := below_step hb4.out hb5.out
            have hw54 : w4.heap.size ≤ w5.heap.size := hb5.out.size
            have hownl5 := Lib.hid (own_below hownl.out hb5.out)
            have hlt4 := hownl.out.lt
            have hbx5 := HBX3.out.below hb35.out hz3
            have hgs5 : w5.cell? ⟨w.heap.size, 0, none⟩ = some (.string s) := (hb35.out.cell (p := ⟨w.heap.size, 0, none⟩) hgl3).trans hgs3
            have HBX5 := Lib.hid hbx5
            have hz5 := hbx5.lt
            have d0 := hbx5.cell 0
            have d1 := hbx5.cell 1
            have d2 := hbx5.cell 2
            simp at d0 d1 d2
            have e0 := hbx5.frozen 0
            have e1 := hbx5.frozen 1
            have e2 := hbx5.frozen 2
            have HB5 := Lib.hid (below_step HBW3.out hb35.out)
            obtain ⟨A1, c1, rfl, hc1, hr1⟩ := own_reads hownl5.out
            obtain ⟨A2, c2, rfl, hc2, hr2, hat2⟩ := own_reads_at hownr.out
            have HR2 := Lib.hid hr2
            have ew : IntKind.i64.wrap ((l.length : Int) + (r.length : Int)) = (l.length : Int) + (r.length : Int) := IntWalk.i64_in _ (by omega)
            clear hbx5 hr1 hr2 hownl hbl HBO
            by_cases hgood : finl = true ∧ finr = true ∧ l.length + r.length ≤ 6
            rotate_left
            · have HNO : Hid (parsA s.data.toList = (noA, 4)) := HWB.out fun l' r' h1 h2 h3 => by
                refine hgood ⟨?_, ?_, ?_⟩
                · rcases horl.out with ⟨h, _⟩ | ⟨_, h⟩
                  · exact h
                  · rw [h1] at h; cases h
                · rcases horr.out with ⟨h, _⟩ | ⟨_, h⟩
                  · exact h
                  · rw [h2] at h; cases h
                · rcases horl.out with ⟨_, h⟩ | ⟨_, h⟩
                  · rw [h1] at h
                    have := Option.some.inj h
                    subst this
                    rcases horr.out with ⟨_, h'⟩ | ⟨_, h'⟩
                    · rw [h2] at h'
                      have := Option.some.inj h'
                      subst this
                      exact h3
                    · rw [h2] at h'; cases h'
                  · rw [h1] at h; cases h
              clear HWG HWB horl horr
              have hcase : finl = false ∨ (finl = true ∧ finr = false) ∨ (finl = true ∧ finr = true ∧ (6 : Int) < (l.length : Int) + (r.length : Int)) := by
                cases finl
                · exact .inl rfl
                · cases finr
                  · exact .inr (.inl ⟨rfl, rfl⟩)
                  · refine .inr (.inr ⟨rfl, rfl, ?_⟩)
                    have : ¬ l.length + r.length ≤ 6 := fun h => hgood ⟨rfl, rfl, h⟩
                    omega
              clear hgood
              rcases hcase with rfl | ⟨rfl, rfl⟩ | ⟨rfl, rfl, h6⟩
              all_goals
                go_wp2
                refine bodyPost_ret (v := .tuple #[.agg #[.bool false, .int .u64 0, .int .u64 0], .int .i64 4]) ?_ rfl ?_
                · simp [results, Tryd.results6, go_sem, d0, d1, d2]
                · rw [← HP.out, HNO.out]
                  refine ⟨rfl, ?_⟩
                  (repeat' first | with_reducible exact HB5.out | with_reducible refine Below.drew ?_ | with_reducible refine Below.setCell ?_ ?_ _ | exact Nat.le_refl _ | (simp; done) | omega)
            obtain ⟨rfl, rfl, h6⟩ := hgood
            have hol : headO x = some l := by
              rcases horl.out with ⟨_, h⟩ | ⟨h, _⟩
              · exact h
              · cases h
            have hor : headO y = some r := by
              rcases horr.out with ⟨_, h⟩ | ⟨h, _⟩
              · exact h
              · cases h
            have HGO := Lib.hid (HWG.out l r hol hor h6)
            have HLL := Lib.hid (headO_le hol)
            have HLR := Lib.hid (headO_le hor)
            have h6i : ¬ (6 : Int) < (l.length : Int) + (r.length : Int) := by omega
            clear horl horr hol hor HWG HWB
            obtain ⟨G, hrow0, hGb⟩ := RowAt.first hownl5.out (by omega)
            have HRW := Lib.hid hrow0
            have hGne : ∀ ad, A2 = some ad → ad.block ≠ G := fun ad h e => by
              have h1 := hat2 ad h
              rcases hGb with h2 | h2
              · omega
              · have := (hlt4 G h2).2
                omega
            have HGN := Lib.hid hGne
            clear hrow0 hGne hownl5 hGb hat2 hlt4 CX CY HXE HXN HYE HYN hat hat1
            go_wp2
            go_loopw [10] (fun v wr => ∃ m : Nat, l.length ≤ m ∧ m + r.length ≤ 8 ∧ Hid (RowAt w5 G w3.heap.size 3 1 wr v m ((l ++ List.replicate (m - l.length) 0).map intV))) (fun v _ => match v with | .slice _ n _ => 8 - n | _ => 0)
            case atStart =>
              refine ⟨l.length, Nat.le_refl _, by omega, ?_⟩
              show RowAt _ _ _ _ _ _ _ _ _
              rw [Nat.sub_self, List.replicate_zero, List.append_nil]
              exact HRW.out
            case round =>
              obtain ⟨m, hm1, hm2, hrow⟩ := hrel
              obtain ⟨wp, rfl⟩ : ∃ wp : World, wp = wr := ⟨_, rfl⟩
              obtain ⟨A3, c3, rfl, hc3, -⟩ := own_reads hrow.out.own
              have ew3 : IntKind.i64.wrap ((m : Int) + (r.length : Int)) = (m : Int) + (r.length : Int) := IntWalk.i64_in _ (by omega)
              by_cases hlt8 : m + r.length < 8
              · have hlt8i : (m : Int) + (r.length : Int) < 8 := by omega
                go_wp2_with (at_builtin; go_loud (refine wpList_append_row (us := [intV 0]) rfl _ _ 36 rfl w5 G w3.heap.size (.int .i64 0) 1 8 Tryd.underlying36 infoIntN rfl (by decide) _ _ _ rfl rfl rfl hrow.out rfl ?b2a ?b3a ?b4a ?_))
                case b2a => intro u hu; simp at hu; subst hu; rfl
                case b3a => unfold maxLen; omega
                case b4a => omega
                intro v7 w7 hrow7 hs7 hk7
                have HR7 : Hid (RowAt w5 G w3.heap.size 3 1 w7 v7 (m + 1) ((l ++ List.replicate (m + 1 - l.length) 0).map intV)) := by
                  show RowAt _ _ _ _ _ _ _ _ _
                  rw [show m + 1 - l.length = (m - l.length) + 1 by omega, List.replicate_succ']
                  have hh := hrow7
                  simp only [List.map_append, List.map_cons, List.map_nil, List.map_replicate] at hh ⊢
                  exact hh
                obtain ⟨A7, c7, rfl, -, -⟩ := own_reads hrow7.own
                clear hrow7 hk7
                go_wp2
                go_roundw
                case rel => exact ⟨m + 1, by omega, by omega, HR7⟩
                case measure => simp only []; omega
              · have hlt8i : ¬ (m : Int) + (r.length : Int) < 8 := by omega
                have HRD := Lib.hid (RowAt.reads hrow.out HR2.out HGN.out)
                have hwp5 : w5.heap.size ≤ wp.heap.size := by
                  have := hrow.out.below.size
                  exact this
                have hwp3 : w3.heap.size ≤ wp.heap.size := by omega
                go_wp2_with (at_builtin; go_loud (refine wpList_append_reads rfl _ _ 36 rfl w3.heap.size 3 _ 1 8 Tryd.underlying36 infoIntN rfl (by decide) _ _ _ rfl _ _ _ rfl hrow.out.own _ _ HRD.out ?c1a ?c2a ?c3a hwp3 ?_))
                case c1a =>
                  intro u hu
                  rfl
                case c2a => unfold maxLen; omega
                case c3a => omega
                intro v6 w6 hown6 hb6
                have hm8 : m + r.length = 8 := by omega
                have hl8 : (l ++ List.replicate (8 - l.length - r.length) 0 ++ r).length = 8 := by simp; omega
                have hown6' : w6.ownsRow w3.heap.size 3 1 v6 8 ((l ++ List.replicate (8 - l.length - r.length) 0 ++ r).map intV) := by
                  rw [hm8, show m - l.length = 8 - l.length - r.length by omega] at hown6
                  simp only [List.map_append, List.map_replicate, List.append_assoc] at hown6 ⊢
                  exact hown6
                obtain ⟨A6, c6, rfl, hc6, hr6⟩ := own_reads hown6'
                have hb36 : Below w3.heap.size w3 w6 := (hb35.out.trans (hrow.out.below)).trans hb6
                have hgs6 : w6.cell? ⟨w.heap.size, 0, none⟩ = some (.string s) := (hb36.cell (p := ⟨w.heap.size, 0, none⟩) hgl3).trans hgs3
                have CT := try_any (wd := 16) (l := l ++ List.replicate (8 - l.length - r.length) 0 ++ r) (.inr ⟨rfl, hl8⟩) (fun n hn => by
                  have : n ≤ 65535 := by
                    simp only [List.mem_append, List.mem_replicate] at hn
                    rcases hn with (h | h) | h
                    · exact HLL.out n h
                    · omega
                    · exact HLR.out n h
                  omega) (A := A6) (c := c6) s w.heap.size w6 hgs6 (by rw [hl8]; exact hr6)
                rw [HGO.out, hl8] at CT
                have HBX6 := Lib.hid (HBX3.out.below hb36 hz3)
                have hz6 := HBX6.out.lt
                have HBW6 := Lib.hid (below_step HBW3.out hb36)
                generalize parsA s.data.toList = res at *
                obtain ⟨⟨six, hi, lo⟩, E⟩ := res
                have HCT := Lib.hid CT
                unfold ParsRet at HCT
                clear CT hown6 hown6' hr6 hb6 hb36 hrow HRD hgs6
                go_wp2_with fail
                refine HCT.out.mono ?_
                rintro e w8 ⟨rfl, hb8⟩
                have HB8 := Lib.hid (below_step HBW6.out hb8)
                have hbx8 := HBX6.out.below hb8 hz6
                have d0 := hbx8.cell 0
                have d1 := hbx8.cell 1
                have d2 := hbx8.cell 2
                simp at d0 d1 d2
                have e0 := hbx8.frozen 0
                have e1 := hbx8.frozen 1
                have e2 := hbx8.frozen 2
                clear hb8 hbx8
                go_wp2
                refine bodyPost_ret (v := .tuple #[.agg #[.bool six, .int .u64 hi, .int .u64 lo], .int .i64 E]) ?_ rfl ?_
                · simp [results, Tryd.results6, go_sem, d0, d1, d2]
                · rw [← HP.out]
                  refine ⟨rfl, ?_⟩
                  (repeat' first | with_reducible exact HB8.out | with_reducible refine Below.drew ?_ | with_reducible refine Below.setCell ?_ ?_ _ | exact Nat.le_refl _ | (simp; done) | omega)
      · have HW8 : Hid (∀ l, refGo 16 65535 58 s.data.toList (-1) = some l → ¬ l.length = 8) := fun l hl => by
          rw [hnone2] at hl
          cases hl
        clear hnone2
        have HWY : Hid (Ways s.data.toList) := ⟨HNL.out, HW4.out, HW8.out⟩
        have CX := Lib.hid (fun (k : Nat) (W : World) => refNums_any (.inr rfl) (most := 65535) (by omega) 58 (s.extract 0 k) (by rw [ByteArray.size_extract]; omega) W)
        have CY := Lib.hid (fun (k : Nat) (W : World) => refNums_any (.inr rfl) (most := 65535) (by omega) 58 (s.extract k s.size) (by rw [ByteArray.size_extract]; omega) W)
        have hs6 : s.size ≤ 600 := by omega
        have hgl3 : w.heap.size < w3.heap.size := by omega
        have hLS : Hid (s.data.toList.length = s.size) := (Lib.size_eq s).symm
        clear HNL HW4 HW8
        go_wp2
        go_loopw [9] (fun i wr => ∃ k : Nat, k ≤ s.size ∧ i = .int .i64 k ∧ Hid (∀ j, j < k → ¬ (s.data.toList[j]? = some 58 ∧ s.data.toList[j + 1]? = some 58)) ∧ Hid (Below w3.heap.size w3 wr)) (fun i _ => s.size - (RowKit.intOf i).toNat)
        case atStart => exact ⟨0, by omega, rfl, fun j hj => absurd hj (by omega), Below.refl _ _⟩
        case round =>
          obtain ⟨k, hk, rfl, hno, hbl⟩ := hrel
          obtain ⟨wo, rfl⟩ : ∃ wo : World, wo = wr := ⟨_, rfl⟩
          have g0 : wo.cell? ⟨w.heap.size, 0, none⟩ = some (.string s) := (hbl.out.cell (p := ⟨w.heap.size, 0, none⟩) hgl3).trans hgs3
          have hwk : IntKind.i64.wrap ((k : Int) + 1) = (k : Int) + 1 := IntWalk.i64_in _ (by omega)
          have hwk2 : IntKind.i64.wrap ((k : Int) + 2) = (k : Int) + 2 := IntWalk.i64_in _ (by omega)
          have hwo3 : w3.heap.size ≤ wo.heap.size := hbl.out.size
          by_cases hlt : k + 1 < s.size
          rotate_left
          · have hli : ¬ (k : Int) + 1 < (s.size : Int) := by omega
            have HNO : Hid (parsA s.data.toList = (noA, 4)) := way_none HWY.out fun j h => by
              by_cases hj : j < k
              · exact hno.out j hj h
              · have := (List.getElem?_eq_some_iff.1 h.2).1
                rw [hLS.out] at this
                omega
            have hbx5 := HBX3.out.below hbl.out hz3
            have d0 := hbx5.cell 0
            have d1 := hbx5.cell 1
            have d2 := hbx5.cell 2
            simp at d0 d1 d2
            have e0 := hbx5.frozen 0
            have e1 := hbx5.frozen 1
            have e2 := hbx5.frozen 2
            have hz5 := hbx5.lt
            have HB5 := Lib.hid (below_step HBW3.out hbl.out)
            clear hbx5
            go_wp2
            refine bodyPost_ret (v := .tuple #[.agg #[.bool false, .int .u64 0, .int .u64 0], .int .i64 4]) ?_ rfl ?_
            · simp [results, Tryd.results6, go_sem, d0, d1, d2]
            · rw [← HP.out, HNO.out]
              refine ⟨rfl, ?_⟩
              (repeat' first | with_reducible exact HB5.out | with_reducible refine Below.drew ?_ | with_reducible refine Below.setCell ?_ ?_ _ | exact Nat.le_refl _ | (simp; done) | omega)
          have hli : (k : Int) + 1 < (s.size : Int) := by omega
          obtain ⟨b, hbk⟩ : ∃ b, s.data.toList[k]? = some b := ⟨_, List.getElem?_eq_getElem (by rw [hLS.out]; omega)⟩
          obtain ⟨c, hck⟩ : ∃ c, s.data.toList[k + 1]? = some c := ⟨_, List.getElem?_eq_getElem (by rw [hLS.out]; omega)⟩
          have HBK := Lib.hid hbk
          have HCK := Lib.hid hck
          have HNX : Hid (¬ (b = 58 ∧ c = 58) → ∀ j, j < k + 1 → ¬ (s.data.toList[j]? = some 58 ∧ s.data.toList[j + 1]? = some 58)) := fun hn j hj h => by
            by_cases hjk : j = k
            · subst hjk
              rw [HBK.out, HCK.out] at h
              exact hn ⟨Option.some.inj h.1, Option.some.inj h.2⟩
            · exact hno.out j (by omega) h
          clear hbk hck
          by_cases hb58 : b = 58
          rotate_left
          · have hn58 : ((b.toNat : Int) == 58) = false := by
              simp
              intro h
              exact hb58 (UInt8.toNat_inj.1 (by have : (58 : UInt8).toNat = 58 := rfl; omega))
            have hne58 : ((b.toNat : Int) != 58) = true := by rw [bne, hn58]; rfl
            have hat := fun W => str_at s k b HBK.out W
            have HN1 := Lib.hid (HNX.out (fun h => hb58 h.1))
            clear HNX hb58
            go_wp2
            go_roundw
            case rel => exact ⟨k + 1, by omega, by go_num, HN1, Lib.hid (by (repeat' first | with_reducible exact hbl.out | with_reducible refine Below.drew ?_ | with_reducible refine below_drewN ?_ _))⟩
            case measure => (simp [RowKit.intOf] <;> omega)
          subst hb58
          have hat : ∀ W, (Instr.index 9 (.string s) (.int .i64 (k : Int))).run Tryd.prog W = .ok (.int .u8 58) W := fun W => str_at s k 58 HBK.out W
          by_cases hc58 : c = 58
          rotate_left
          · have hn58 : ((c.toNat : Int) == 58) = false := by
              simp
              intro h
              exact hc58 (UInt8.toNat_inj.1 (by have : (58 : UInt8).toNat = 58 := rfl; omega))
            have hne58 : ((c.toNat : Int) != 58) = true := by rw [bne, hn58]; rfl
            have hat1 : ∀ W, (Instr.index 9 (.string s) (.int .i64 ((k : Int) + 1))).run Tryd.prog W = .ok (.int .u8 (c.toNat : Int)) W := fun W => str_at s (k + 1) c HCK.out W
            have HN1 := Lib.hid (HNX.out (fun h => hc58 h.2))
            clear HNX hc58
            go_wp2
            go_roundw
            case rel => exact ⟨k + 1, by omega, by go_num, HN1, Lib.hid (by (repeat' first | with_reducible exact hbl.out | with_reducible refine Below.drew ?_ | with_reducible refine below_drewN ?_ _))⟩
            case measure => (simp [RowKit.intOf] <;> omega)
          subst hc58
          have hat1 : ∀ W, (Instr.index 9 (.string s) (.int .i64 ((k : Int) + 1))).run Tryd.prog W = .ok (.int .u8 58) W := fun W => str_at s (k + 1) 58 HCK.out W
          have hL := cut_cc HBK.out HCK.out
          have hx0 := ext_take s k
          have hy0 := ext_drop s (k + 2)
          have hxl : (s.data.toList.take k).length = k := by rw [List.length_take, hLS.out]; omega
          have hyl : (s.data.toList.drop (k + 2)).length = s.size - (k + 2) := by rw [List.length_drop, hLS.out]
          generalize s.data.toList.take k = x at *
          generalize s.data.toList.drop (k + 2) = y at *
          have HWG : Hid (∀ l r : List Nat, headO x = some l → headO y = some r → l.length + r.length ≤ 6 → tryR 16 (l ++ List.replicate (8 - l.length - r.length) 0 ++ r) s.data.toList = parsA s.data.toList) := fun l r h1 h2 h3 => by
            have hf := hno.out
            have hw := HWY.out
            rw [hL] at hf hw ⊢
            exact way_gap hw (fun j hj => hf j (by omega)) h1 h2 h3
          have HWB : Hid ((∀ l r : List Nat, headO x = some l → headO y = some r → ¬ l.length + r.length ≤ 6) → parsA s.data.toList = (noA, 4)) := fun h => by
            have hf := hno.out
            have hw := HWY.out
            rw [hL] at hf hw ⊢
            exact way_gap_bad hw (fun j hj => hf j (by omega)) h
          have CX := Lib.hid (CX.out k)
          have CY := Lib.hid (CY.out (k + 2))
          rw [hx0] at CX
          rw [hy0] at CY
          have HXE : Hid (0 < k → x ≠ []) := fun h e => by rw [e] at hxl; simp at hxl; omega
          have HXN : Hid (¬ 0 < k → headO x = some []) := fun h => by
            obtain rfl : x = [] := List.eq_nil_of_length_eq_zero (by omega)
            rfl
          have HYE : Hid (k + 2 < s.size → y ≠ []) := fun h e => by rw [e] at hyl; simp at hyl; omega
          have HYN : Hid (¬ k + 2 < s.size → headO y = some []) := fun h => by
            obtain rfl : y = [] := List.eq_nil_of_length_eq_zero (by omega)
            rfl
          clear hL hx0 hy0 hxl hyl HNX HBK HCK hno HWY
          have HBO := Lib.hid (below_step HBW3.out hbl.out)
          go_upto_if 70 with fail
          go_cut [10, 12] (fun v10 v12 wx => ∃ (l : List Nat) (fine : Bool), v12 = .bool fine ∧ Hid (wx.ownsRow w3.heap.size 3 1 v10 l.length (l.map intV)) ∧ l.length ≤ 1000 ∧ Hid ((fine = true ∧ headO x = some l) ∨ (fine = false ∧ headO x = none)) ∧ Hid (Below w3.heap.size w3 wx))
          case first =>
            by_cases hk0 : 0 < k
            · have hk0i : decide ((0 : Int) < (k : Int)) = true := by simpa using hk0
              go_wp2_with fail
              refine (CX.out _).mono ?_
              rintro e w4 ⟨v1, l, fine, rfl, hown, hlen, hor, hb4⟩
              have HX1 := Lib.hid (own_mono hown hwo3)
              have HX2 := Lib.hid (fine_of (HXE.out hk0) hor)
              have HX3 := Lib.hid (below_step hbl.out hb4)
              clear hown hor hb4
              go_wp2_with fail
              go_meet
              case rel => exact ⟨l, fine, rfl, HX1, hlen, HX2, HX3⟩
            · have hk0i : decide ((0 : Int) < (k : Int)) = false := by simpa using hk0
              go_wp2_with fail
              go_meet
              case rel => exact ⟨[], true, rfl, World.ownsRow_nil _ _ _ _, by simp, .inl ⟨rfl, HXN.out hk0⟩, hbl⟩
          case rest =>
          obtain ⟨l, finl, rfl, hownl, hlenl, horl, hb4⟩ := hcut
          obtain ⟨w4, rfl⟩ : ∃ w4 : World, w4 = wc := ⟨_, rfl⟩
          have g4 : w4.cell? ⟨w.heap.size, 0, none⟩ = some (.string s) := (hb4.out.cell (p := ⟨w.heap.size, 0, none⟩) hgl3).trans hgs3
          have hw43 : w3.heap.size ≤ w4.heap.size := hb4.out.size
          go_upto_if 82 with fail
          go_cut [11, 13] (fun v11 v13 wx => ∃ (r : List Nat) (fine : Bool), v13 = .bool fine ∧ Hid (wx.ownsRow w4.heap.size 3 1 v11 r.length (r.map intV)) ∧ r.length ≤ 1000 ∧ Hid ((fine = true ∧ headO y = some r) ∨ (fine = false ∧ headO y = none)) ∧ Hid (Below w4.heap.size w4 wx))
          case first =>
            by_cases hk0 : k + 2 < s.size
            · have hk0i : decide ((k : Int) + 2 < (s.size : Int)) = true := by simp; omega
              go_wp2_with fail
              refine (CY.out _).mono ?_
              rintro e w5 ⟨v1, r, fine, rfl, hown, hlen, hor, hb5⟩
              have HX1 := Lib.hid hown
              have HX2 := Lib.hid (fine_of (HYE.out hk0) hor)
              have HX3 := Lib.hid hb5
              clear hown hor hb5
              go_wp2_with fail
              go_meet
              case rel => exact ⟨r, fine, rfl, HX1, hlen, HX2, HX3⟩
            · have hk0i : decide ((k : Int) + 2 < (s.size : Int)) = false := by simp; omega
              go_wp2_with fail
              go_meet
              case rel => exact ⟨[], true, rfl, World.ownsRow_nil _ _ _ _, by simp, .inl ⟨rfl, HYN.out hk0⟩, Below.refl _ _⟩
          case rest =>
          obtain ⟨r, finr, rfl, hownr, hlenr, horr, hb5⟩ := hcut
          obtain ⟨w5, rfl⟩ : ∃ w5 : World, w5 = wc := ⟨_, rfl⟩
          have hb35 : Hid (Below w3.heap.size w3 w5) := below_step hb4.out hb5.out
          have hw54 : w4.heap.size ≤ w5.heap.size := hb5.out.size
          have hownl5 := Lib.hid (own_below hownl.out hb5.out)
          have hlt4 := hownl.out.lt
          have hbx5 := HBX3.out.below hb35.out hz3
          have hgs5 : w5.cell? ⟨w.heap.size, 0, none⟩ = some (.string s) := (hb35.out.cell (p := ⟨w.heap.size, 0, none⟩) hgl3).trans hgs3
          have HBX5 := Lib.hid hbx5
          have hz5 := hbx5.lt
          have d0 := hbx5.cell 0
          have d1 := hbx5.cell 1
          have d2 := hbx5.cell 2
          simp at d0 d1 d2
          have e0 := hbx5.frozen 0
          have e1 := hbx5.frozen 1
          have e2 := hbx5.frozen 2
          have HB5 := Lib.hid (below_step HBW3.out hb35.out)
          obtain ⟨A1, c1, rfl, hc1, hr1⟩ := own_reads hownl5.out
          obtain ⟨A2, c2, rfl, hc2, hr2, hat2⟩ := own_reads_at hownr.out
          have HR2 := Lib.hid hr2
          have ew : IntKind.i64.wrap ((l.length : Int) + (r.length : Int)) = (l.length : Int) + (r.length : Int) := IntWalk.i64_in _ (by omega)
          clear hbx5 hr1 hr2 hownl hbl HBO
          by_cases hgood : finl = true ∧ finr = true ∧ l.length + r.length ≤ 6
          rotate_left
          · have HNO : Hid (parsA s.data.toList = (noA, 4)) := HWB.out fun l' r' h1 h2 h3 => by
              refine hgood ⟨?_, ?_, ?_⟩
              · rcases horl.out with ⟨h, _⟩ | ⟨_, h⟩
                · exact h
                · rw [h1] at h; cases h
              · rcases horr.out with ⟨h, _⟩ | ⟨_, h⟩
                · exact h
                · rw [h2] at h; cases h
              · rcases horl.out with ⟨_, h⟩ | ⟨_, h⟩
                · rw [h1] at h
                  have := Option.some.inj h
                  subst this
                  rcases horr.out with ⟨_, h'⟩ | ⟨_, h'⟩
                  · rw [h2] at h'
                    have := Option.some.inj h'
                    subst this
                    exact h3
                  · rw [h2] at h'; cases h'
                · rw [h1] at h; cases h
            clear HWG HWB horl horr
            have hcase : finl = false ∨ (finl = true ∧ finr = false) ∨ (finl = true ∧ finr = true ∧ (6 : Int) < (l.length : Int) + (r.length : Int)) := by
              cases finl
              · exact .inl rfl
              · cases finr
                · exact .inr (.inl ⟨rfl, rfl⟩)
                · refine .inr (.inr ⟨rfl, rfl, ?_⟩)
                  have : ¬ l.length + r.length ≤ 6 := fun h => hgood ⟨rfl, rfl, h⟩
                  omega
            clear hgood
            rcases hcase with rfl | ⟨rfl, rfl⟩ | ⟨rfl, rfl, h6⟩
            all_goals
              go_wp2
              refine bodyPost_ret (v := .tuple #[.agg #[.bool false, .int .u64 0, .int .u64 0], .int .i64 4]) ?_ rfl ?_
              · simp [results, Tryd.results6, go_sem, d0, d1, d2]
              · rw [← HP.out, HNO.out]
                refine ⟨rfl, ?_⟩
                (repeat' first | with_reducible exact HB5.out | with_reducible refine Below.drew ?_ | with_reducible refine Below.setCell ?_ ?_ _ | exact Nat.le_refl _ | (simp; done) | omega)
          obtain ⟨rfl, rfl, h6⟩ := hgood
          have hol : headO x = some l := by
            rcases horl.out with ⟨_, h⟩ | ⟨h, _⟩
            · exact h
            · cases h
          have hor : headO y = some r := by
            rcases horr.out with ⟨_, h⟩ | ⟨h, _⟩
            · exact h
            · cases h
          have HGO := Lib.hid (HWG.out l r hol hor h6)
          have HLL := Lib.hid (headO_le hol)
          have HLR := Lib.hid (headO_le hor)
          have h6i : ¬ (6 : Int) < (l.length : Int) + (r.length : Int) := by omega
          clear horl horr hol hor HWG HWB
          obtain ⟨G, hrow0, hGb⟩ := RowAt.first hownl5.out (by omega)
          have HRW := Lib.hid hrow0
          have hGne : ∀ ad, A2 = some ad → ad.block ≠ G := fun ad h e => by
            have h1 := hat2 ad h
            rcases hGb with h2 | h2
            · omega
            · have := (hlt4 G h2).2
              omega
          have HGN := Lib.hid hGne
          clear hrow0 hGne hownl5 hGb hat2 hlt4 CX CY HXE HXN HYE HYN hat hat1
          go_wp2
          go_loopw [10] (fun v wr => ∃ m : Nat, l.length ≤ m ∧ m + r.length ≤ 8 ∧ Hid (RowAt w5 G w3.heap.size 3 1 wr v m ((l ++ List.replicate (m - l.length) 0).map intV))) (fun v _ => match v with | .slice _ n _ => 8 - n | _ => 0)
          case atStart =>
            refine ⟨l.length, Nat.le_refl _, by omega, ?_⟩
            show RowAt _ _ _ _ _ _ _ _ _
            rw [Nat.sub_self, List.replicate_zero, List.append_nil]
            exact HRW.out
          case round =>
            obtain ⟨m, hm1, hm2, hrow⟩ := hrel
            obtain ⟨wp, rfl⟩ : ∃ wp : World, wp = wr := ⟨_, rfl⟩
            obtain ⟨A3, c3, rfl, hc3, -⟩ := own_reads hrow.out.own
            have ew3 : IntKind.i64.wrap ((m : Int) + (r.length : Int)) = (m : Int) + (r.length : Int) := IntWalk.i64_in _ (by omega)
            by_cases hlt8 : m + r.length < 8
            · have hlt8i : (m : Int) + (r.length : Int) < 8 := by omega
              go_wp2_with (at_builtin; go_loud (refine wpList_append_row (us := [intV 0]) rfl _ _ 36 rfl w5 G w3.heap.size (.int .i64 0) 1 8 Tryd.underlying36 infoIntN rfl (by decide) _ _ _ rfl rfl rfl hrow.out rfl ?b2b ?b3b ?b4b ?_))
              case b2b => intro u hu; simp at hu; subst hu; rfl
              case b3b => unfold maxLen; omega
              case b4b => omega
              intro v7 w7 hrow7 hs7 hk7
              have HR7 : Hid (RowAt w5 G w3.heap.size 3 1 w7 v7 (m + 1) ((l ++ List.replicate (m + 1 - l.length) 0).map intV)) := by
                show RowAt _ _ _ _ _ _ _ _ _
                rw [show m + 1 - l.length = (m - l.length) + 1 by omega, List.replicate_succ']
                have hh := hrow7
                simp only [List.map_append, List.map_cons, List.map_nil, List.map_replicate] at hh ⊢
                exact hh
              obtain ⟨A7, c7, rfl, -, -⟩ := own_reads hrow7.own
              clear hrow7 hk7
              go_wp2
              go_roundw
              case rel => exact ⟨m + 1, by omega, by omega, HR7⟩
              case measure => simp only []; omega
            · have hlt8i : ¬ (m : Int) + (r.length : Int) < 8 := by omega
              have HRD := Lib.hid (RowAt.reads hrow.out HR2.out HGN.out)
              have hwp5 : w5.heap.size ≤ wp.heap.size := by
                have := hrow.out.below.size
                exact this
              have hwp3 : w3.heap.size ≤ wp.heap.size := by omega
              go_wp2_with (at_builtin; go_loud (refine wpList_append_reads rfl _ _ 36 rfl w3.heap.size 3 _ 1 8 Tryd.underlying36 infoIntN rfl (by decide) _ _ _ rfl _ _ _ rfl hrow.out.own _ _ HRD.out ?c1b ?c2b ?c3b hwp3 ?_))
              case c1b =>
                intro u hu
                rfl
              case c2b => unfold maxLen; omega
              case c3b => omega
              intro v6 w6 hown6 hb6
              have hm8 : m + r.length = 8 := by omega
              have hl8 : (l ++ List.replicate (8 - l.length - r.length) 0 ++ r).length = 8 := by simp; omega
              have hown6' : w6.ownsRow w3.heap.size 3 1 v6 8 ((l ++ List.replicate (8 - l.length - r.length) 0 ++ r).map intV) := by
                rw [hm8, show m - l.length = 8 - l.length - r.length by omega] at hown6
                simp only [List.map_append, List.map_replicate, List.append_assoc] at hown6 ⊢
                exact hown6
              obtain ⟨A6, c6, rfl, hc6, hr6⟩ := own_reads hown6'
              have hb36 : Below w3.heap.size w3 w6 := (hb35.out.trans (hrow.out.below)).trans hb6
              have hgs6 : w6.cell? ⟨w.heap.size, 0, none⟩ = some (.string s) := (hb36.cell (p := ⟨w.heap.size, 0, none⟩) hgl3).trans hgs3
              have CT := try_any (wd := 16) (l := l ++ List.replicate (8 - l.length - r.length) 0 ++ r) (.inr ⟨rfl, hl8⟩) (fun n hn => by
                have : n ≤ 65535 := by
                  simp only [List.mem_append, List.mem_replicate] at hn
                  rcases hn with (h | h) | h
                  · exact HLL.out n h
                  · omega
                  · exact HLR.out n h
                omega) (A := A6) (c := c6) s w.heap.size w6 hgs6 (by rw [hl8]; exact hr6)
              rw [HGO.out, hl8] at CT
              have HBX6 := Lib.hid (HBX3.out.below hb36 hz3)
              have hz6 := HBX6.out.lt
              have HBW6 := Lib.hid (below_step HBW3.out hb36)
              generalize parsA s.data.toList = res at *
              obtain ⟨⟨six, hi, lo⟩, E⟩ := res
              have HCT := Lib.hid CT
              unfold ParsRet at HCT
              clear CT hown6 hown6' hr6 hb6 hb36 hrow HRD hgs6
              go_wp2_with fail
              refine HCT.out.mono ?_
              rintro e w8 ⟨rfl, hb8⟩
              have HB8 := Lib.hid (below_step HBW6.out hb8)
              have hbx8 := HBX6.out.below hb8 hz6
              have d0 := hbx8.cell 0
              have d1 := hbx8.cell 1
              have d2 := hbx8.cell 2
              simp at d0 d1 d2
              have e0 := hbx8.frozen 0
              have e1 := hbx8.frozen 1
              have e2 := hbx8.frozen 2
              clear hb8 hbx8
              go_wp2
              refine bodyPost_ret (v := .tuple #[.agg #[.bool six, .int .u64 hi, .int .u64 lo], .int .i64 E]) ?_ rfl ?_
              · simp [results, Tryd.results6, go_sem, d0, d1, d2]
              · rw [← HP.out]
                refine ⟨rfl, ?_⟩
                (repeat' first | with_reducible exact HB8.out | with_reducible refine Below.drew ?_ | with_reducible refine Below.setCell ?_ ?_ _ | exact Nat.le_refl _ | (simp; done) | omega)
  · have HW4 : Hid (∀ l, refGo 10 255 46 s.data.toList (-1) = some l → ¬ l.length = 4) := fun l hl => by
      rw [hnone] at hl
      cases hl
    clear hnone
    go_wp2_with fail
    refine (CE.out _).mono ?_
    rintro e w3 ⟨v2, l2, fine2, rfl, hown2, hlen2, hor2, hb3⟩
    obtain ⟨A2, c2, rfl, hc2, hr2⟩ := own_reads hown2
    have HBW3 := Lib.hid (below_step HBW2.out hb3)
    have hgs3 := (hb3.cell (p := ⟨w.heap.size, 0, none⟩) (show w.heap.size < w2.heap.size by omega)).trans hgs
    have hbx3 := HBX.out.below hb3 hz2
    have HBX3 := Lib.hid hbx3
    have HR2 := Lib.hid hr2
    have hz3 := hbx3.lt
    clear hb3 hr2 hown2 hbx3 CE
    rcases hor2 with ⟨rfl, hsome2⟩ | ⟨rfl, hnone2, rfl⟩
    · by_cases h8 : l2.length = 8
      · have CT := try_any (wd := 16) (.inr ⟨rfl, h8⟩) (fun n hn => by have := refGo_le hsome2 n hn; omega) (c := c2) s w.heap.size w3 hgs3 HR2.out
        rw [way_eight HNL.out hsome2 h8] at CT
        generalize parsA s.data.toList = res at *
        obtain ⟨⟨six, hi, lo⟩, E⟩ := res
        have HCT : Hid (Calls Tryd.prog 11 #[.slice A2 8 c2, .int .i64 16, .pointer (some ⟨w.heap.size, 0, none⟩)] w3 (ParsRet w3 (⟨six, hi, lo⟩, E))) := by rw [h8] at CT; exact CT
        unfold ParsRet at HCT
        have h8i : (l2.length : Int) = 8 := by omega
        clear CT hsome2
        go_wp2_with fail
        refine HCT.out.mono ?_
        rintro e w4 ⟨rfl, hb4⟩
        have HB4 := Lib.hid (below_step HBW3.out hb4)
        have hbx4 := HBX3.out.below hb4 hz3
        have d0 := hbx4.cell 0
        have d1 := hbx4.cell 1
        have d2 := hbx4.cell 2
        simp at d0 d1 d2
        have e0 := hbx4.frozen 0
        have e1 := hbx4.frozen 1
        have e2 := hbx4.frozen 2
        clear hb4 hbx4
        go_wp2
        refine bodyPost_ret (v := .tuple #[.agg #[.bool six, .int .u64 hi, .int .u64 lo], .int .i64 E]) ?_ rfl ?_
        · simp [results, Tryd.results6, go_sem, d0, d1, d2]
        · rw [← HP.out]
          refine ⟨rfl, ?_⟩
          (repeat' first | with_reducible exact HB4.out | with_reducible refine Below.drew ?_ | with_reducible refine Below.setCell ?_ ?_ _ | exact Nat.le_refl _ | (simp; done) | omega)
      · have HW8 : Hid (∀ l, refGo 16 65535 58 s.data.toList (-1) = some l → ¬ l.length = 8) := fun l hl => by
          rw [hsome2] at hl
          have := Option.some.inj hl
          subst this
          exact h8
        have h8i : ¬ (l2.length : Int) = 8 := by omega
        have h8b : ((l2.length : Int) == 8) = false := by simpa using h8i
        clear hsome2
        have HWY : Hid (Ways s.data.toList) := ⟨HNL.out, HW4.out, HW8.out⟩
        have CX := Lib.hid (fun (k : Nat) (W : World) => refNums_any (.inr rfl) (most := 65535) (by omega) 58 (s.extract 0 k) (by rw [ByteArray.size_extract]; omega) W)
        have CY := Lib.hid (fun (k : Nat) (W : World) => refNums_any (.inr rfl) (most := 65535) (by omega) 58 (s.extract k s.size) (by rw [ByteArray.size_extract]; omega) W)
        have hs6 : s.size ≤ 600 := by omega
        have hgl3 : w.heap.size < w3.heap.size := by omega
        have hLS : Hid (s.data.toList.length = s.size) := (Lib.size_eq s).symm
        clear HNL HW4 HW8
        go_wp2
        go_loopw [9] (fun i wr => ∃ k : Nat, k ≤ s.size ∧ i = .int .i64 k ∧ Hid (∀ j, j < k → ¬ (s.data.toList[j]? = some 58 ∧ s.data.toList[j + 1]? = some 58)) ∧ Hid (Below w3.heap.size w3 wr)) (fun i _ => s.size - (RowKit.intOf i).toNat)
        case atStart => exact ⟨0, by omega, rfl, fun j hj => absurd hj (by omega), Below.refl _ _⟩
        case round =>
          obtain ⟨k, hk, rfl, hno, hbl⟩ := hrel
          obtain ⟨wo, rfl⟩ : ∃ wo : World, wo = wr := ⟨_, rfl⟩
          have g0 : wo.cell? ⟨w.heap.size, 0, none⟩ = some (.string s) := (hbl.out.cell (p := ⟨w.heap.size, 0, none⟩) hgl3).trans hgs3
          have hwk : IntKind.i64.wrap ((k : Int) + 1) = (k : Int) + 1 := IntWalk.i64_in _ (by omega)
          have hwk2 : IntKind.i64.wrap ((k : Int) + 2) = (k : Int) + 2 := IntWalk.i64_in _ (by omega)
          have hwo3 : w3.heap.size ≤ wo.heap.size := hbl.out.size
          by_cases hlt : k + 1 < s.size
          rotate_left
          · have hli : ¬ (k : Int) + 1 < (s.size : Int) := by omega
            have HNO : Hid (parsA s.data.toList = (noA, 4)) := way_none HWY.out fun j h => by
              by_cases hj : j < k
              · exact hno.out j hj h
              · have := (List.getElem?_eq_some_iff.1 h.2).1
                rw [hLS.out] at this
                omega
            have hbx5 := HBX3.out.below hbl.out hz3
            have d0 := hbx5.cell 0
            have d1 := hbx5.cell 1
            have d2 := hbx5.cell 2
            simp at d0 d1 d2
            have e0 := hbx5.frozen 0
            have e1 := hbx5.frozen 1
            have e2 := hbx5.frozen 2
            have hz5 := hbx5.lt
            have HB5 := Lib.hid (below_step HBW3.out hbl.out)
            clear hbx5
            go_wp2
            refine bodyPost_ret (v := .tuple #[.agg #[.bool false, .int .u64 0, .int .u64 0], .int .i64 4]) ?_ rfl ?_
            · simp [results, Tryd.results6, go_sem, d0, d1, d2]
            · rw [← HP.out, HNO.out]
              refine ⟨rfl, ?_⟩
              (repeat' first | with_reducible exact HB5.out | with_reducible refine Below.drew ?_ | with_reducible refine Below.setCell ?_ ?_ _ | exact Nat.le_refl _ | (simp; done) | omega)
          have hli : (k : Int) + 1 < (s.size : Int) := by omega
          obtain ⟨b, hbk⟩ : ∃ b, s.data.toList[k]? = some b := ⟨_, List.getElem?_eq_getElem (by rw [hLS.out]; omega)⟩
          obtain ⟨c, hck⟩ : ∃ c, s.data.toList[k + 1]? = some c := ⟨_, List.getElem?_eq_getElem (by rw [hLS.out]; omega)⟩
          have HBK := Lib.hid hbk
          have HCK := Lib.hid hck
          have HNX : Hid (¬ (b = 58 ∧ c = 58) → ∀ j, j < k + 1 → ¬ (s.data.toList[j]? = some 58 ∧ s.data.toList[j + 1]? = some 58)) := fun hn j hj h => by
            by_cases hjk : j = k
            · subst hjk
              rw [HBK.out, HCK.out] at h
              exact hn ⟨Option.some.inj h.1, Option.some.inj h.2⟩
            · exact hno.out j (by omega) h
          clear hbk hck
          by_cases hb58 : b = 58
          rotate_left
          · have hn58 : ((b.toNat : Int) == 58) = false := by
              simp
              intro h
              exact hb58 (UInt8.toNat_inj.1 (by have : (58 : UInt8).toNat = 58 := rfl; omega))
            have hne58 : ((b.toNat : Int) != 58) = true := by rw [bne, hn58]; rfl
            have hat := fun W => str_at s k b HBK.out W
            have HN1 := Lib.hid (HNX.out (fun h => hb58 h.1))
            clear HNX hb58
            go_wp2
            go_roundw
            case rel => exact ⟨k + 1, by omega, by go_num, HN1, Lib.hid (by (repeat' first | with_reducible exact hbl.out | with_reducible refine Below.drew ?_ | with_reducible refine below_drewN ?_ _))⟩
            case measure => (simp [RowKit.intOf] <;> omega)
          subst hb58
          have hat : ∀ W, (Instr.index 9 (.string s) (.int .i64 (k : Int))).run Tryd.prog W = .ok (.int .u8 58) W := fun W => str_at s k 58 HBK.out W
          by_cases hc58 : c = 58
          rotate_left
          · have hn58 : ((c.toNat : Int) == 58) = false := by
              simp
              intro h
              exact hc58 (UInt8.toNat_inj.1 (by have : (58 : UInt8).toNat = 58 := rfl; omega))
            have hne58 : ((c.toNat : Int) != 58) = true := by rw [bne, hn58]; rfl
            have hat1 : ∀ W, (Instr.index 9 (.string s) (.int .i64 ((k : Int) + 1))).run Tryd.prog W = .ok (.int .u8 (c.toNat : Int)) W := fun W => str_at s (k + 1) c HCK.out W
            have HN1 := Lib.hid (HNX.out (fun h => hc58 h.2))
            clear HNX hc58
            go_wp2
            go_roundw
            case rel => exact ⟨k + 1, by omega, by go_num, HN1, Lib.hid (by (repeat' first | with_reducible exact hbl.out | with_reducible refine Below.drew ?_ | with_reducible refine below_drewN ?_ _))⟩
            case measure => (simp [RowKit.intOf] <;> omega)
          subst hc58
          have hat1 : ∀ W, (Instr.index 9 (.string s) (.int .i64 ((k : Int) + 1))).run Tryd.prog W = .ok (.int .u8 58) W := fun W => str_at s (k + 1) 58 HCK.out W
          have hL := cut_cc HBK.out HCK.out
          have hx0 := ext_take s k
          have hy0 := ext_drop s (k + 2)
          have hxl : (s.data.toList.take k).length = k := by rw [List.length_take, hLS.out]; omega
          have hyl : (s.data.toList.drop (k + 2)).length = s.size - (k + 2) := by rw [List.length_drop, hLS.out]
          generalize s.data.toList.take k = x at *
          generalize s.data.toList.drop (k + 2) = y at *
          have HWG : Hid (∀ l r : List Nat, headO x = some l → headO y = some r → l.length + r.length ≤ 6 → tryR 16 (l ++ List.replicate (8 - l.length - r.length) 0 ++ r) s.data.toList = parsA s.data.toList) := fun l r h1 h2 h3 => by
            have hf := hno.out
            have hw := HWY.out
            rw [hL] at hf hw ⊢
            exact way_gap hw (fun j hj => hf j (by omega)) h1 h2 h3
          have HWB : Hid ((∀ l r : List Nat, headO x = some l → headO y = some r → ¬ l.length + r.length ≤ 6) → parsA s.data.toList = (noA, 4)) := fun h => by
            have hf := hno.out
            have hw := HWY.out
            rw [hL] at hf hw ⊢
            exact way_gap_bad hw (fun j hj => hf j (by omega)) h
          have CX := Lib.hid (CX.out k)
          have CY := Lib.hid (CY.out (k + 2))
          rw [hx0] at CX
          rw [hy0] at CY
          have HXE : Hid (0 < k → x ≠ []) := fun h e => by rw [e] at hxl; simp at hxl; omega
          have HXN : Hid (¬ 0 < k → headO x = some []) := fun h => by
            obtain rfl : x = [] := List.eq_nil_of_length_eq_zero (by omega)
            rfl
          have HYE : Hid (k + 2 < s.size → y ≠ []) := fun h e => by rw [e] at hyl; simp at hyl; omega
          have HYN : Hid (¬ k + 2 < s.size → headO y = some []) := fun h => by
            obtain rfl : y = [] := List.eq_nil_of_length_eq_zero (by omega)
            rfl
          clear hL hx0 hy0 hxl hyl HNX HBK HCK hno HWY
          have HBO := Lib.hid (below_step HBW3.out hbl.out)
          go_upto_if 70 with fail
          go_cut [10, 12] (fun v10 v12 wx => ∃ (l : List Nat) (fine : Bool), v12 = .bool fine ∧ Hid (wx.ownsRow w3.heap.size 3 1 v10 l.length (l.map intV)) ∧ l.length ≤ 1000 ∧ Hid ((fine = true ∧ headO x = some l) ∨ (fine = false ∧ headO x = none)) ∧ Hid (Below w3.heap.size w3 wx))
          case first =>
            by_cases hk0 : 0 < k
            · have hk0i : decide ((0 : Int) < (k : Int)) = true := by simpa using hk0
              go_wp2_with fail
              refine (CX.out _).mono ?_
              rintro e w4 ⟨v1, l, fine, rfl, hown, hlen, hor, hb4⟩
              have HX1 := Lib.hid (own_mono hown hwo3)
              have HX2 := Lib.hid (fine_of (HXE.out hk0) hor)
              have HX3 := Lib.hid (below_step hbl.out hb4)
              clear hown hor hb4
              go_wp2_with fail
              go_meet
              case rel => exact ⟨l, fine, rfl, HX1, hlen, HX2, HX3⟩
            · have hk0i : decide ((0 : Int) < (k : Int)) = false := by simpa using hk0
              go_wp2_with fail
              go_meet
              case rel => exact ⟨[], true, rfl, World.ownsRow_nil _ _ _ _, by simp, .inl ⟨rfl, HXN.out hk0⟩, hbl⟩
          case rest =>
          obtain ⟨l, finl, rfl, hownl, hlenl, horl, hb4⟩ := hcut
          obtain ⟨w4, rfl⟩ : ∃ w4 : World, w4 = wc := ⟨_, rfl⟩
          have g4 : w4.cell? ⟨w.heap.size, 0, none⟩ = some (.string s) := (hb4.out.cell (p := ⟨w.heap.size, 0, none⟩) hgl3).trans hgs3
          have hw43 : w3.heap.size ≤ w4.heap.size := hb4.out.size
          go_upto_if 82 with fail
          go_cut [11, 13] (fun v11 v13 wx => ∃ (r : List Nat) (fine : Bool), v13 = .bool fine ∧ Hid (wx.ownsRow w4.heap.size 3 1 v11 r.length (r.map intV)) ∧ r.length ≤ 1000 ∧ Hid ((fine = true ∧ headO y = some r) ∨ (fine = false ∧ headO y = none)) ∧ Hid (Below w4.heap.size w4 wx))
          case first =>
            by_cases hk0 : k + 2 < s.size
            · have hk0i : decide ((k : Int) + 2 < (s.size : Int)) = true := by simp; omega
              go_wp2_with fail
              refine (CY.out _).mono ?_
              rintro e w5 ⟨v1, r, fine, rfl, hown, hlen, hor, hb5⟩
              have HX1 := Lib.hid hown
              have HX2 := Lib.hid (fine_of (HYE.out hk0) hor)
              have HX3 := Lib.hid hb5
              clear hown hor hb5
              go_wp2_with fail
              go_meet
              case rel => exact ⟨r, fine, rfl, HX1, hlen, HX2, HX3⟩
            · have hk0i : decide ((k : Int) + 2 < (s.size : Int)) = false := by simp; omega
              go_wp2_with fail
              go_meet
              case rel => exact ⟨[], true, rfl, World.ownsRow_nil _ _ _ _, by simp, .inl ⟨rfl, HYN.out hk0⟩, Below.refl _ _⟩
          case rest =>
          obtain ⟨r, finr, rfl, hownr, hlenr, horr, hb5⟩ := hcut
          obtain ⟨w5, rfl⟩ : ∃ w5 : World, w5 = wc := ⟨_, rfl⟩
          have hb35 : Hid (Below w3.heap.size w3 w5) := below_step hb4.out hb5.out
          have hw54 : w4.heap.size ≤ w5.heap.size := hb5.out.size
          have hownl5 := Lib.hid (own_below hownl.out hb5.out)
          have hlt4 := hownl.out.lt
          have hbx5 := HBX3.out.below hb35.out hz3
          have hgs5 : w5.cell? ⟨w.heap.size, 0, none⟩ = some (.string s) := (hb35.out.cell (p := ⟨w.heap.size, 0, none⟩) hgl3).trans hgs3
          have HBX5 := Lib.hid hbx5
          have hz5 := hbx5.lt
          have d0 := hbx5.cell 0
          have d1 := hbx5.cell 1
          have d2 := hbx5.cell 2
          simp at d0 d1 d2
          have e0 := hbx5.frozen 0
          have e1 := hbx5.frozen 1
          have e2 := hbx5.frozen 2
          have HB5 := Lib.hid (below_step HBW3.out hb35.out)
          obtain ⟨A1, c1, rfl, hc1, hr1⟩ := own_reads hownl5.out
          obtain ⟨A2, c2, rfl, hc2, hr2, hat2⟩ := own_reads_at hownr.out
          have HR2 := Lib.hid hr2
          have ew : IntKind.i64.wrap ((l.length : Int) + (r.length : Int)) = (l.length : Int) + (r.length : Int) := IntWalk.i64_in _ (by omega)
          clear hbx5 hr1 hr2 hownl hbl HBO
          by_cases hgood : finl = true ∧ finr = true ∧ l.length + r.length ≤ 6
          rotate_left
          · have HNO : Hid (parsA s.data.toList = (noA, 4)) := HWB.out fun l' r' h1 h2 h3 => by
              refine hgood ⟨?_, ?_, ?_⟩
              · rcases horl.out with ⟨h, _⟩ | ⟨_, h⟩
                · exact h
                · rw [h1] at h; cases h
              · rcases horr.out with ⟨h, _⟩ | ⟨_, h⟩
                · exact h
                · rw [h2] at h; cases h
              · rcases horl.out with ⟨_, h⟩ | ⟨_, h⟩
                · rw [h1] at h
                  have := Option.some.inj h
                  subst this
                  rcases horr.out with ⟨_, h'⟩ | ⟨_, h'⟩
                  · rw [h2] at h'
                    have := Option.some.inj h'
                    subst this
                    exact h3
                  · rw [h2] at h'; cases h'
                · rw [h1] at h; cases h
            clear HWG HWB horl horr
            have hcase : finl = false ∨ (finl = true ∧ finr = false) ∨ (finl = true ∧ finr = true ∧ (6 : Int) < (l.length : Int) + (r.length : Int)) := by
              cases finl
              · exact .inl rfl
              · cases finr
                · exact .inr (.inl ⟨rfl, rfl⟩)
                · refine .inr (.inr ⟨rfl, rfl, ?_⟩)
                  have : ¬ l.length + r.length ≤ 6 := fun h => hgood ⟨rfl, rfl, h⟩
                  omega
            clear hgood
            rcases hcase with rfl | ⟨rfl, rfl⟩ | ⟨rfl, rfl, h6⟩
            all_goals
              go_wp2
              refine bodyPost_ret (v := .tuple #[.agg #[.bool false, .int .u64 0, .int .u64 0], .int .i64 4]) ?_ rfl ?_
              · simp [results, Tryd.results6, go_sem, d0, d1, d2]
              · rw [← HP.out, HNO.out]
                refine ⟨rfl, ?_⟩
                (repeat' first | with_reducible exact HB5.out | with_reducible refine Below.drew ?_ | with_reducible refine Below.setCell ?_ ?_ _ | exact Nat.le_refl _ | (simp; done) | omega)
          obtain ⟨rfl, rfl, h6⟩ := hgood
          have hol : headO x = some l := by
            rcases horl.out with ⟨_, h⟩ | ⟨h, _⟩
            · exact h
            · cases h
          have hor : headO y = some r := by
            rcases horr.out with ⟨_, h⟩ | ⟨h, _⟩
            · exact h
            · cases h
          have HGO := Lib.hid (HWG.out l r hol hor h6)
          have HLL := Lib.hid (headO_le hol)
          have HLR := Lib.hid (headO_le hor)
          have h6i : ¬ (6 : Int) < (l.length : Int) + (r.length : Int) := by omega
          clear horl horr hol hor HWG HWB
          obtain ⟨G, hrow0, hGb⟩ := RowAt.first hownl5.out (by omega)
          have HRW := Lib.hid hrow0
          have hGne : ∀ ad, A2 = some ad → ad.block ≠ G := fun ad h e => by
            have h1 := hat2 ad h
            rcases hGb with h2 | h2
            · omega
            · have := (hlt4 G h2).2
              omega
          have HGN := Lib.hid hGne
          clear hrow0 hGne hownl5 hGb hat2 hlt4 CX CY HXE HXN HYE HYN hat hat1
          go_wp2
          go_loopw [10] (fun v wr => ∃ m : Nat, l.length ≤ m ∧ m + r.length ≤ 8 ∧ Hid (RowAt w5 G w3.heap.size 3 1 wr v m ((l ++ List.replicate (m - l.length) 0).map intV))) (fun v _ => match v with | .slice _ n _ => 8 - n | _ => 0)
          case atStart =>
            refine ⟨l.length, Nat.le_refl _, by omega, ?_⟩
            show RowAt _ _ _ _ _ _ _ _ _
            rw [Nat.sub_self, List.replicate_zero, List.append_nil]
            exact HRW.out
          case round =>
            obtain ⟨m, hm1, hm2, hrow⟩ := hrel
            obtain ⟨wp, rfl⟩ : ∃ wp : World, wp = wr := ⟨_, rfl⟩
            obtain ⟨A3, c3, rfl, hc3, -⟩ := own_reads hrow.out.own
            have ew3 : IntKind.i64.wrap ((m : Int) + (r.length : Int)) = (m : Int) + (r.length : Int) := IntWalk.i64_in _ (by omega)
            by_cases hlt8 : m + r.length < 8
            · have hlt8i : (m : Int) + (r.length : Int) < 8 := by omega
              go_wp2_with (at_builtin; go_loud (refine wpList_append_row (us := [intV 0]) rfl _ _ 36 rfl w5 G w3.heap.size (.int .i64 0) 1 8 Tryd.underlying36 infoIntN rfl (by decide) _ _ _ rfl rfl rfl hrow.out rfl ?b2c ?b3c ?b4c ?_))
              case b2c => intro u hu; simp at hu; subst hu; rfl
              case b3c => unfold maxLen; omega
              case b4c => omega
              intro v7 w7 hrow7 hs7 hk7
              have HR7 : Hid (RowAt w5 G w3.heap.size 3 1 w7 v7 (m + 1) ((l ++ List.replicate (m + 1 - l.length) 0).map intV)) := by
                show RowAt _ _ _ _ _ _ _ _ _
                rw [show m + 1 - l.length = (m - l.length) + 1 by omega, List.replicate_succ']
                have hh := hrow7
                simp only [List.map_append, List.map_cons, List.map_nil, List.map_replicate] at hh ⊢
                exact hh
              obtain ⟨A7, c7, rfl, -, -⟩ := own_reads hrow7.own
              clear hrow7 hk7
              go_wp2
              go_roundw
              case rel => exact ⟨m + 1, by omega, by omega, HR7⟩
              case measure => simp only []; omega
            · have hlt8i : ¬ (m : Int) + (r.length : Int) < 8 := by omega
              have HRD := Lib.hid (RowAt.reads hrow.out HR2.out HGN.out)
              have hwp5 : w5.heap.size ≤ wp.heap.size := by
                have := hrow.out.below.size
                exact this
              have hwp3 : w3.heap.size ≤ wp.heap.size := by omega
              go_wp2_with (at_builtin; go_loud (refine wpList_append_reads rfl _ _ 36 rfl w3.heap.size 3 _ 1 8 Tryd.underlying36 infoIntN rfl (by decide) _ _ _ rfl _ _ _ rfl hrow.out.own _ _ HRD.out ?c1c ?c2c ?c3c hwp3 ?_))
              case c1c =>
                intro u hu
                rfl
              case c2c => unfold maxLen; omega
              case c3c => omega
              intro v6 w6 hown6 hb6
              have hm8 : m + r.length = 8 := by omega
              have hl8 : (l ++ List.replicate (8 - l.length - r.length) 0 ++ r).length = 8 := by simp; omega
              have hown6' : w6.ownsRow w3.heap.size 3 1 v6 8 ((l ++ List.replicate (8 - l.length - r.length) 0 ++ r).map intV) := by
                rw [hm8, show m - l.length = 8 - l.length - r.length by omega] at hown6
                simp only [List.map_append, List.map_replicate, List.append_assoc] at hown6 ⊢
                exact hown6
              obtain ⟨A6, c6, rfl, hc6, hr6⟩ := own_reads hown6'
              have hb36 : Below w3.heap.size w3 w6 := (hb35.out.trans (hrow.out.below)).trans hb6
              have hgs6 : w6.cell? ⟨w.heap.size, 0, none⟩ = some (.string s) := (hb36.cell (p := ⟨w.heap.size, 0, none⟩) hgl3).trans hgs3
              have CT := try_any (wd := 16) (l := l ++ List.replicate (8 - l.length - r.length) 0 ++ r) (.inr ⟨rfl, hl8⟩) (fun n hn => by
                have : n ≤ 65535 := by
                  simp only [List.mem_append, List.mem_replicate] at hn
                  rcases hn with (h | h) | h
                  · exact HLL.out n h
                  · omega
                  · exact HLR.out n h
                omega) (A := A6) (c := c6) s w.heap.size w6 hgs6 (by rw [hl8]; exact hr6)
              rw [HGO.out, hl8] at CT
              have HBX6 := Lib.hid (HBX3.out.below hb36 hz3)
              have hz6 := HBX6.out.lt
              have HBW6 := Lib.hid (below_step HBW3.out hb36)
              generalize parsA s.data.toList = res at *
              obtain ⟨⟨six, hi, lo⟩, E⟩ := res
              have HCT := Lib.hid CT
              unfold ParsRet at HCT
              clear CT hown6 hown6' hr6 hb6 hb36 hrow HRD hgs6
              go_wp2_with fail
              refine HCT.out.mono ?_
              rintro e w8 ⟨rfl, hb8⟩
              have HB8 := Lib.hid (below_step HBW6.out hb8)
              have hbx8 := HBX6.out.below hb8 hz6
              have d0 := hbx8.cell 0
              have d1 := hbx8.cell 1
              have d2 := hbx8.cell 2
              simp at d0 d1 d2
              have e0 := hbx8.frozen 0
              have e1 := hbx8.frozen 1
              have e2 := hbx8.frozen 2
              clear hb8 hbx8
              go_wp2
              refine bodyPost_ret (v := .tuple #[.agg #[.bool six, .int .u64 hi, .int .u64 lo], .int .i64 E]) ?_ rfl ?_
              · simp [results, Tryd.results6, go_sem, d0, d1, d2]
              · rw [← HP.out]
                refine ⟨rfl, ?_⟩
                (repeat' first | with_reducible exact HB8.out | with_reducible refine Below.drew ?_ | with_reducible refine Below.setCell ?_ ?_ _ | exact Nat.le_refl _ | (simp; done) | omega)
    · have HW8 : Hid (∀ l, refGo 16 65535 58 s.data.toList (-1) = some l → ¬ l.length = 8) := fun l hl => by
        rw [hnone2] at hl
        cases hl
      clear hnone2
      have HWY : Hid (Ways s.data.toList) := ⟨HNL.out, HW4.out, HW8.out⟩
      have CX := Lib.hid (fun (k : Nat) (W : World) => refNums_any (.inr rfl) (most := 65535) (by omega) 58 (s.extract 0 k) (by rw [ByteArray.size_extract]; omega) W)
      have CY := Lib.hid (fun (k : Nat) (W : World) => refNums_any (.inr rfl) (most := 65535) (by omega) 58 (s.extract k s.size) (by rw [ByteArray.size_extract]; omega) W)
      have hs6 : s.size ≤ 600 := by omega
      have hgl3 : w.heap.size < w3.heap.size := by omega
      have hLS : Hid (s.data.toList.length = s.size) := (Lib.size_eq s).symm
      clear HNL HW4 HW8
      go_wp2
      go_loopw [9] (fun i wr => ∃ k : Nat, k ≤ s.size ∧ i = .int .i64 k ∧ Hid (∀ j, j < k → ¬ (s.data.toList[j]? = some 58 ∧ s.data.toList[j + 1]? = some 58)) ∧ Hid (Below w3.heap.size w3 wr)) (fun i _ => s.size - (RowKit.intOf i).toNat)
      case atStart => exact ⟨0, by omega, rfl, fun j hj => absurd hj (by omega), Below.refl _ _⟩
      case round =>
        obtain ⟨k, hk, rfl, hno, hbl⟩ := hrel
        obtain ⟨wo, rfl⟩ : ∃ wo : World, wo = wr := ⟨_, rfl⟩
        have g0 : wo.cell? ⟨w.heap.size, 0, none⟩ = some (.string s) := (hbl.out.cell (p := ⟨w.heap.size, 0, none⟩) hgl3).trans hgs3
        have hwk : IntKind.i64.wrap ((k : Int) + 1) = (k : Int) + 1 := IntWalk.i64_in _ (by omega)
        have hwk2 : IntKind.i64.wrap ((k : Int) + 2) = (k : Int) + 2 := IntWalk.i64_in _ (by omega)
        have hwo3 : w3.heap.size ≤ wo.heap.size := hbl.out.size
        by_cases hlt : k + 1 < s.size
        rotate_left
        · have hli : ¬ (k : Int) + 1 < (s.size : Int) := by omega
          have HNO : Hid (parsA s.data.toList = (noA, 4)) := way_none HWY.out fun j h => by
            by_cases hj : j < k
            · exact hno.out j hj h
            · have := (List.getElem?_eq_some_iff.1 h.2).1
              rw [hLS.out] at this
              omega
          have hbx5 := HBX3.out.below hbl.out hz3
          have d0 := hbx5.cell 0
          have d1 := hbx5.cell 1
          have d2 := hbx5.cell 2
          simp at d0 d1 d2
          have e0 := hbx5.frozen 0
          have e1 := hbx5.frozen 1
          have e2 := hbx5.frozen 2
          have hz5 := hbx5.lt
          have HB5 := Lib.hid (below_step HBW3.out hbl.out)
          clear hbx5
          go_wp2
          refine bodyPost_ret (v := .tuple #[.agg #[.bool false, .int .u64 0, .int .u64 0], .int .i64 4]) ?_ rfl ?_
          · simp [results, Tryd.results6, go_sem, d0, d1, d2]
          · rw [← HP.out, HNO.out]
            refine ⟨rfl, ?_⟩
            (repeat' first | with_reducible exact HB5.out | with_reducible refine Below.drew ?_ | with_reducible refine Below.setCell ?_ ?_ _ | exact Nat.le_refl _ | (simp; done) | omega)
        have hli : (k : Int) + 1 < (s.size : Int) := by omega
        obtain ⟨b, hbk⟩ : ∃ b, s.data.toList[k]? = some b := ⟨_, List.getElem?_eq_getElem (by rw [hLS.out]; omega)⟩
        obtain ⟨c, hck⟩ : ∃ c, s.data.toList[k + 1]? = some c := ⟨_, List.getElem?_eq_getElem (by rw [hLS.out]; omega)⟩
        have HBK := Lib.hid hbk
        have HCK := Lib.hid hck
        have HNX : Hid (¬ (b = 58 ∧ c = 58) → ∀ j, j < k + 1 → ¬ (s.data.toList[j]? = some 58 ∧ s.data.toList[j + 1]? = some 58)) := fun hn j hj h => by
          by_cases hjk : j = k
          · subst hjk
            rw [HBK.out, HCK.out] at h
            exact hn ⟨Option.some.inj h.1, Option.some.inj h.2⟩
          · exact hno.out j (by omega) h
        clear hbk hck
        by_cases hb58 : b = 58
        rotate_left
        · have hn58 : ((b.toNat : Int) == 58) = false := by
            simp
            intro h
            exact hb58 (UInt8.toNat_inj.1 (by have : (58 : UInt8).toNat = 58 := rfl; omega))
          have hne58 : ((b.toNat : Int) != 58) = true := by rw [bne, hn58]; rfl
          have hat := fun W => str_at s k b HBK.out W
          have HN1 := Lib.hid (HNX.out (fun h => hb58 h.1))
          clear HNX hb58
          go_wp2
          go_roundw
          case rel => exact ⟨k + 1, by omega, by go_num, HN1, Lib.hid (by (repeat' first | with_reducible exact hbl.out | with_reducible refine Below.drew ?_ | with_reducible refine below_drewN ?_ _))⟩
          case measure => (simp [RowKit.intOf] <;> omega)
        subst hb58
        have hat : ∀ W, (Instr.index 9 (.string s) (.int .i64 (k : Int))).run Tryd.prog W = .ok (.int .u8 58) W := fun W => str_at s k 58 HBK.out W
        by_cases hc58 : c = 58
        rotate_left
        · have hn58 : ((c.toNat : Int) == 58) = false := by
            simp
            intro h
            exact hc58 (UInt8.toNat_inj.1 (by have : (58 : UInt8).toNat = 58 := rfl; omega))
          have hne58 : ((c.toNat : Int) != 58) = true := by rw [bne, hn58]; rfl
          have hat1 : ∀ W, (Instr.index 9 (.string s) (.int .i64 ((k : Int) + 1))).run Tryd.prog W = .ok (.int .u8 (c.toNat : Int)) W := fun W => str_at s (k + 1) c HCK.out W
          have HN1 := Lib.hid (HNX.out (fun h => hc58 h.2))
          clear HNX hc58
          go_wp2
          go_roundw
          case rel => exact ⟨k + 1, by omega, by go_num, HN1, Lib.hid (by (repeat' first | with_reducible exact hbl.out | with_reducible refine Below.drew ?_ | with_reducible refine below_drewN ?_ _))⟩
          case measure => (simp [RowKit.intOf] <;> omega)
        subst hc58
        have hat1 : ∀ W, (Instr.index 9 (.string s) (.int .i64 ((k : Int) + 1))).run Tryd.prog W = .ok (.int .u8 58) W := fun W => str_at s (k + 1) 58 HCK.out W
        have hL := cut_cc HBK.out HCK.out
        have hx0 := ext_take s k
        have hy0 := ext_drop s (k + 2)
        have hxl : (s.data.toList.take k).length = k := by rw [List.length_take, hLS.out]; omega
        have hyl : (s.data.toList.drop (k + 2)).length = s.size - (k + 2) := by rw [List.length_drop, hLS.out]
        generalize s.data.toList.take k = x at *
        generalize s.data.toList.drop (k + 2) = y at *
        have HWG : Hid (∀ l r : List Nat, headO x = some l → headO y = some r → l.length + r.length ≤ 6 → tryR 16 (l ++ List.replicate (8 - l.length - r.length) 0 ++ r) s.data.toList = parsA s.data.toList) := fun l r h1 h2 h3 => by
          have hf := hno.out
          have hw := HWY.out
          rw [hL] at hf hw ⊢
          exact way_gap hw (fun j hj => hf j (by omega)) h1 h2 h3
        have HWB : Hid ((∀ l r : List Nat, headO x = some l → headO y = some r → ¬ l.length + r.length ≤ 6) → parsA s.data.toList = (noA, 4)) := fun h => by
          have hf := hno.out
          have hw := HWY.out
          rw [hL] at hf hw ⊢
          exact way_gap_bad hw (fun j hj => hf j (by omega)) h
        have CX := Lib.hid (CX.out k)
        have CY := Lib.hid (CY.out (k + 2))
        rw [hx0] at CX
        rw [hy0] at CY
        have HXE : Hid (0 < k → x ≠ []) := fun h e => by rw [e] at hxl; simp at hxl; omega
        have HXN : Hid (¬ 0 < k → headO x = some []) := fun h => by
          obtain rfl : x = [] := List.eq_nil_of_length_eq_zero (by omega)
          rfl
        have HYE : Hid (k + 2 < s.size → y ≠ []) := fun h e => by rw [e] at hyl; simp at hyl; omega
        have HYN : Hid (¬ k + 2 < s.size → headO y = some []) := fun h => by
          obtain rfl : y = [] := List.eq_nil_of_length_eq_zero (by omega)
          rfl
        clear hL hx0 hy0 hxl hyl HNX HBK HCK hno HWY
        have HBO := Lib.hid (below_step HBW3.out hbl.out)
        go_upto_if 70 with fail
        go_cut [10, 12] (fun v10 v12 wx => ∃ (l : List Nat) (fine : Bool), v12 = .bool fine ∧ Hid (wx.ownsRow w3.heap.size 3 1 v10 l.length (l.map intV)) ∧ l.length ≤ 1000 ∧ Hid ((fine = true ∧ headO x = some l) ∨ (fine = false ∧ headO x = none)) ∧ Hid (Below w3.heap.size w3 wx))
        case first =>
          by_cases hk0 : 0 < k
          · have hk0i : decide ((0 : Int) < (k : Int)) = true := by simpa using hk0
            go_wp2_with fail
            refine (CX.out _).mono ?_
            rintro e w4 ⟨v1, l, fine, rfl, hown, hlen, hor, hb4⟩
            have HX1 := Lib.hid (own_mono hown hwo3)
            have HX2 := Lib.hid (fine_of (HXE.out hk0) hor)
            have HX3 := Lib.hid (below_step hbl.out hb4)
            clear hown hor hb4
            go_wp2_with fail
            go_meet
            case rel => exact ⟨l, fine, rfl, HX1, hlen, HX2, HX3⟩
          · have hk0i : decide ((0 : Int) < (k : Int)) = false := by simpa using hk0
            go_wp2_with fail
            go_meet
            case rel => exact ⟨[], true, rfl, World.ownsRow_nil _ _ _ _, by simp, .inl ⟨rfl, HXN.out hk0⟩, hbl⟩
        case rest =>
        obtain ⟨l, finl, rfl, hownl, hlenl, horl, hb4⟩ := hcut
        obtain ⟨w4, rfl⟩ : ∃ w4 : World, w4 = wc := ⟨_, rfl⟩
        have g4 : w4.cell? ⟨w.heap.size, 0, none⟩ = some (.string s) := (hb4.out.cell (p := ⟨w.heap.size, 0, none⟩) hgl3).trans hgs3
        have hw43 : w3.heap.size ≤ w4.heap.size := hb4.out.size
        go_upto_if 82 with fail
        go_cut [11, 13] (fun v11 v13 wx => ∃ (r : List Nat) (fine : Bool), v13 = .bool fine ∧ Hid (wx.ownsRow w4.heap.size 3 1 v11 r.length (r.map intV)) ∧ r.length ≤ 1000 ∧ Hid ((fine = true ∧ headO y = some r) ∨ (fine = false ∧ headO y = none)) ∧ Hid (Below w4.heap.size w4 wx))
        case first =>
          by_cases hk0 : k + 2 < s.size
          · have hk0i : decide ((k : Int) + 2 < (s.size : Int)) = true := by simp; omega
            go_wp2_with fail
            refine (CY.out _).mono ?_
            rintro e w5 ⟨v1, r, fine, rfl, hown, hlen, hor, hb5⟩
            have HX1 := Lib.hid hown
            have HX2 := Lib.hid (fine_of (HYE.out hk0) hor)
            have HX3 := Lib.hid hb5
            clear hown hor hb5
            go_wp2_with fail
            go_meet
            case rel => exact ⟨r, fine, rfl, HX1, hlen, HX2, HX3⟩
          · have hk0i : decide ((k : Int) + 2 < (s.size : Int)) = false := by simp; omega
            go_wp2_with fail
            go_meet
            case rel => exact ⟨[], true, rfl, World.ownsRow_nil _ _ _ _, by simp, .inl ⟨rfl, HYN.out hk0⟩, Below.refl _ _⟩
        case rest =>
        obtain ⟨r, finr, rfl, hownr, hlenr, horr, hb5⟩ := hcut
        obtain ⟨w5, rfl⟩ : ∃ w5 : World, w5 = wc := ⟨_, rfl⟩
        have hb35 : Hid (Below w3.heap.size w3 w5) := below_step hb4.out hb5.out
        have hw54 : w4.heap.size ≤ w5.heap.size := hb5.out.size
        have hownl5 := Lib.hid (own_below hownl.out hb5.out)
        have hlt4 := hownl.out.lt
        have hbx5 := HBX3.out.below hb35.out hz3
        have hgs5 : w5.cell? ⟨w.heap.size, 0, none⟩ = some (.string s) := (hb35.out.cell (p := ⟨w.heap.size, 0, none⟩) hgl3).trans hgs3
        have HBX5 := Lib.hid hbx5
        have hz5 := hbx5.lt
        have d0 := hbx5.cell 0
        have d1 := hbx5.cell 1
        have d2 := hbx5.cell 2
        simp at d0 d1 d2
        have e0 := hbx5.frozen 0
        have e1 := hbx5.frozen 1
        have e2 := hbx5.frozen 2
        have HB5 := Lib.hid (below_step HBW3.out hb35.out)
        obtain ⟨A1, c1, rfl, hc1, hr1⟩ := own_reads hownl5.out
        obtain ⟨A2, c2, rfl, hc2, hr2, hat2⟩ := own_reads_at hownr.out
        have HR2 := Lib.hid hr2
        have ew : IntKind.i64.wrap ((l.length : Int) + (r.length : Int)) = (l.length : Int) + (r.length : Int) := IntWalk.i64_in _ (by omega)
        clear hbx5 hr1 hr2 hownl hbl HBO
        by_cases hgood : finl = true ∧ finr = true ∧ l.length + r.length ≤ 6
        rotate_left
        · have HNO : Hid (parsA s.data.toList = (noA, 4)) := HWB.out fun l' r' h1 h2 h3 => by
            refine hgood ⟨?_, ?_, ?_⟩
            · rcases horl.out with ⟨h, _⟩ | ⟨_, h⟩
              · exact h
              · rw [h1] at h; cases h
            · rcases horr.out with ⟨h, _⟩ | ⟨_, h⟩
              · exact h
              · rw [h2] at h; cases h
            · rcases horl.out with ⟨_, h⟩ | ⟨_, h⟩
              · rw [h1] at h
                have := Option.some.inj h
                subst this
                rcases horr.out with ⟨_, h'⟩ | ⟨_, h'⟩
                · rw [h2] at h'
                  have := Option.some.inj h'
                  subst this
                  exact h3
                · rw [h2] at h'; cases h'
              · rw [h1] at h; cases h
          clear HWG HWB horl horr
          have hcase : finl = false ∨ (finl = true ∧ finr = false) ∨ (finl = true ∧ finr = true ∧ (6 : Int) < (l.length : Int) + (r.length : Int)) := by
            cases finl
            · exact .inl rfl
            · cases finr
              · exact .inr (.inl ⟨rfl, rfl⟩)
              · refine .inr (.inr ⟨rfl, rfl, ?_⟩)
                have : ¬ l.length + r.length ≤ 6 := fun h => hgood ⟨rfl, rfl, h⟩
                omega
          clear hgood
          rcases hcase with rfl | ⟨rfl, rfl⟩ | ⟨rfl, rfl, h6⟩
          all_goals
            go_wp2
            refine bodyPost_ret (v := .tuple #[.agg #[.bool false, .int .u64 0, .int .u64 0], .int .i64 4]) ?_ rfl ?_
            · simp [results, Tryd.results6, go_sem, d0, d1, d2]
            · rw [← HP.out, HNO.out]
              refine ⟨rfl, ?_⟩
              (repeat' first | with_reducible exact HB5.out | with_reducible refine Below.drew ?_ | with_reducible refine Below.setCell ?_ ?_ _ | exact Nat.le_refl _ | (simp; done) | omega)
        obtain ⟨rfl, rfl, h6⟩ := hgood
        have hol : headO x = some l := by
          rcases horl.out with ⟨_, h⟩ | ⟨h, _⟩
          · exact h
          · cases h
        have hor : headO y = some r := by
          rcases horr.out with ⟨_, h⟩ | ⟨h, _⟩
          · exact h
          · cases h
        have HGO := Lib.hid (HWG.out l r hol hor h6)
        have HLL := Lib.hid (headO_le hol)
        have HLR := Lib.hid (headO_le hor)
        have h6i : ¬ (6 : Int) < (l.length : Int) + (r.length : Int) := by omega
        clear horl horr hol hor HWG HWB
        obtain ⟨G, hrow0, hGb⟩ := RowAt.first hownl5.out (by omega)
        have HRW := Lib.hid hrow0
        have hGne : ∀ ad, A2 = some ad → ad.block ≠ G := fun ad h e => by
          have h1 := hat2 ad h
          rcases hGb with h2 | h2
          · omega
          · have := (hlt4 G h2).2
            omega
        have HGN := Lib.hid hGne
        clear hrow0 hGne hownl5 hGb hat2 hlt4 CX CY HXE HXN HYE HYN hat hat1
        go_wp2
        go_loopw [10] (fun v wr => ∃ m : Nat, l.length ≤ m ∧ m + r.length ≤ 8 ∧ Hid (RowAt w5 G w3.heap.size 3 1 wr v m ((l ++ List.replicate (m - l.length) 0).map intV))) (fun v _ => match v with | .slice _ n _ => 8 - n | _ => 0)
        case atStart =>
          refine ⟨l.length, Nat.le_refl _, by omega, ?_⟩
          show RowAt _ _ _ _ _ _ _ _ _
          rw [Nat.sub_self, List.replicate_zero, List.append_nil]
          exact HRW.out
        case round =>
          obtain ⟨m, hm1, hm2, hrow⟩ := hrel
          obtain ⟨wp, rfl⟩ : ∃ wp : World, wp = wr := ⟨_, rfl⟩
          obtain ⟨A3, c3, rfl, hc3, -⟩ := own_reads hrow.out.own
          have ew3 : IntKind.i64.wrap ((m : Int) + (r.length : Int)) = (m : Int) + (r.length : Int) := IntWalk.i64_in _ (by omega)
          by_cases hlt8 : m + r.length < 8
          · have hlt8i : (m : Int) + (r.length : Int) < 8 := by omega
            go_wp2_with (at_builtin; go_loud (refine wpList_append_row (us := [intV 0]) rfl _ _ 36 rfl w5 G w3.heap.size (.int .i64 0) 1 8 Tryd.underlying36 infoIntN rfl (by decide) _ _ _ rfl rfl rfl hrow.out rfl ?b2d ?b3d ?b4d ?_))
            case b2d => intro u hu; simp at hu; subst hu; rfl
            case b3d => unfold maxLen; omega
            case b4d => omega
            intro v7 w7 hrow7 hs7 hk7
            have HR7 : Hid (RowAt w5 G w3.heap.size 3 1 w7 v7 (m + 1) ((l ++ List.replicate (m + 1 - l.length) 0).map intV)) := by
              show RowAt _ _ _ _ _ _ _ _ _
              rw [show m + 1 - l.length = (m - l.length) + 1 by omega, List.replicate_succ']
              have hh := hrow7
              simp only [List.map_append, List.map_cons, List.map_nil, List.map_replicate] at hh ⊢
              exact hh
            obtain ⟨A7, c7, rfl, -, -⟩ := own_reads hrow7.own
            clear hrow7 hk7
            go_wp2
            go_roundw
            case rel => exact ⟨m + 1, by omega, by omega, HR7⟩
            case measure => simp only []; omega
          · have hlt8i : ¬ (m : Int) + (r.length : Int) < 8 := by omega
            have HRD := Lib.hid (RowAt.reads hrow.out HR2.out HGN.out)
            have hwp5 : w5.heap.size ≤ wp.heap.size := by
              have := hrow.out.below.size
              exact this
            have hwp3 : w3.heap.size ≤ wp.heap.size := by omega
            go_wp2_with (at_builtin; go_loud (refine wpList_append_reads rfl _ _ 36 rfl w3.heap.size 3 _ 1 8 Tryd.underlying36 infoIntN rfl (by decide) _ _ _ rfl _ _ _ rfl hrow.out.own _ _ HRD.out ?c1d ?c2d ?c3d hwp3 ?_))
            case c1d =>
              intro u hu
              rfl
            case c2d => unfold maxLen; omega
            case c3d => omega
            intro v6 w6 hown6 hb6
            have hm8 : m + r.length = 8 := by omega
            have hl8 : (l ++ List.replicate (8 - l.length - r.length) 0 ++ r).length = 8 := by simp; omega
            have hown6' : w6.ownsRow w3.heap.size 3 1 v6 8 ((l ++ List.replicate (8 - l.length - r.length) 0 ++ r).map intV) := by
              rw [hm8, show m - l.length = 8 - l.length - r.length by omega] at hown6
              simp only [List.map_append, List.map_replicate, List.append_assoc] at hown6 ⊢
              exact hown6
            obtain ⟨A6, c6, rfl, hc6, hr6⟩ := own_reads hown6'
            have hb36 : Below w3.heap.size w3 w6 := (hb35.out.trans (hrow.out.below)).trans hb6
            have hgs6 : w6.cell? ⟨w.heap.size, 0, none⟩ = some (.string s) := (hb36.cell (p := ⟨w.heap.size, 0, none⟩) hgl3).trans hgs3
            have CT := try_any (wd := 16) (l := l ++ List.replicate (8 - l.length - r.length) 0 ++ r) (.inr ⟨rfl, hl8⟩) (fun n hn => by
              have : n ≤ 65535 := by
                simp only [List.mem_append, List.mem_replicate] at hn
                rcases hn with (h | h) | h
                · exact HLL.out n h
                · omega
                · exact HLR.out n h
              omega) (A := A6) (c := c6) s w.heap.size w6 hgs6 (by rw [hl8]; exact hr6)
            rw [HGO.out, hl8] at CT
            have HBX6 := Lib.hid (HBX3.out.below hb36 hz3)
            have hz6 := HBX6.out.lt
            have HBW6 := Lib.hid (below_step HBW3.out hb36)
            generalize parsA s.data.toList = res at *
            obtain ⟨⟨six, hi, lo⟩, E⟩ := res
            have HCT := Lib.hid CT
            unfold ParsRet at HCT
            clear CT hown6 hown6' hr6 hb6 hb36 hrow HRD hgs6
            go_wp2_with fail
            refine HCT.out.mono ?_
            rintro e w8 ⟨rfl, hb8⟩
            have HB8 := Lib.hid (below_step HBW6.out hb8)
            have hbx8 := HBX6.out.below hb8 hz6
            have d0 := hbx8.cell 0
            have d1 := hbx8.cell 1
            have d2 := hbx8.cell 2
            simp at d0 d1 d2
            have e0 := hbx8.frozen 0
            have e1 := hbx8.frozen 1
            have e2 := hbx8.frozen 2
            clear hb8 hbx8
            go_wp2
            refine bodyPost_ret (v := .tuple #[.agg #[.bool six, .int .u64 hi, .int .u64 lo], .int .i64 E]) ?_ rfl ?_
            · simp [results, Tryd.results6, go_sem, d0, d1, d2]
            · rw [← HP.out]
              refine ⟨rfl, ?_⟩
              (repeat' first | with_reducible exact HB8.out | with_reducible refine Below.drew ?_ | with_reducible refine Below.setCell ?_ ?_ _ | exact Nat.le_refl _ | (simp; done) | omega)
end Go.Proofs.YticikknfkkmoaaaDoor

namespace Go.Proofs.YticikknfkkmoaaaDoor
open Go.ChangeShapes Go.WideShapes Go.ChangeAt Go.RowKit

set_option maxRecDepth 100000 in
set_option maxHeartbeats 800000 in
theorem addrParses_any (s : ByteArray) (w : World) (hg : Glo w) :
    Calls Tryd.prog 3 #[.string s] w fun e w' => e = .returned (.bool true) ∧ Below w.heap.size w w' := by
  have CT := Lib.hid (parse_any s w hg)
  have CR := Lib.hid (fun (W : World) => refParse_any s W)
  generalize parsA s.data.toList = res at *
  obtain ⟨⟨six, hi, lo⟩, E⟩ := res
  unfold ParsRet at CT CR
  clear hg
  go_enter Tryd.func3, Tryd.ntmps3
  go_wp2_with fail
  refine CT.out.mono ?_
  rintro e w1 ⟨rfl, hb⟩
  obtain ⟨fc, ff⟩ := bcell hb
  have s1 := hb.size
  have HB := Lib.hid hb
  clear hb
  go_wp2_with fail
  refine (CR.out _).mono ?_
  rintro e w2 ⟨rfl, hb⟩
  obtain ⟨fc2, ff2⟩ := bcell hb
  have s2 := bsize1 hb
  have HB2 := Lib.hid (below_step HB.out (balloc1 hb))
  clear hb
  go_wp2
  all_goals go_ret
  all_goals refine ⟨by simp, ?_⟩
  all_goals (repeat' first | with_reducible exact HB2.out | with_reducible exact Below.refl _ _ | with_reducible refine Below.drew ?_ | with_reducible refine below_drewN ?_ _ | with_reducible refine Below.setCell ?_ ?_ _ | with_reducible refine Below.alloc ?_ ?_ _ | (simp; done) | (simp; omega) | omega)

theorem addrParses_pow : (Rows.addrParsesRow.laid).filter (fun x => x.1 == "internal/strconv.uint64pow10") = [("internal/strconv.uint64pow10", Rows.laid_internal_strconv_uint64pow10)] := by
  unfold Rows.addrParsesRow
  simp only [List.filter]
  rfl
theorem addrParses_bru : (Rows.addrParsesRow.laid).filter (fun x => x.1 == "math/bits.deBruijn64tab") = [("math/bits.deBruijn64tab", Rows.laid_math_bits_deBruijn64tab)] := by
  unfold Rows.addrParsesRow
  simp only [List.filter]
  rfl
theorem addrParses_syn : (Rows.addrParsesRow.laid).filter (fun x => x.1 == "strconv.ErrSyntax") = [("strconv.ErrSyntax", Rows.laid_strconv_ErrSyntax)] := by
  unfold Rows.addrParsesRow
  simp only [List.filter]
  rfl
theorem addrParses_ran : (Rows.addrParsesRow.laid).filter (fun x => x.1 == "strconv.ErrRange") = [("strconv.ErrRange", Rows.laid_strconv_ErrRange)] := by
  unfold Rows.addrParsesRow
  simp only [List.filter]
  rfl
set_option maxRecDepth 100000 in
theorem addrParses_walk {H : Type} {enc : TypeId × Value → H} (W : World) (vs : Array Value) (ds : List (DataW H)) (ps : List MemPlace)
    (h : ArgsOk Tryd.prog [9] H enc W vs.toList ds ps) (hL : laidMetH Tryd.prog Rows.addrParsesRow.laid W) (hS : W.ShapedOpen Tryd.prog) :
    Calls Tryd.prog 3 vs W fun e W' => e = .returned (.bool true) ∧ Below W.heap.size W W' := by
  obtain ⟨hA, ⟨base, hval⟩, _, _⟩ := h
  obtain ⟨v0, d0, e0, _, h0⟩ := trodAll_one hA
  obtain ⟨s, rfl, _, _, _⟩ := Go.ChangeMaps.open_string Tryd.underlying9 (hval 0 _ v0 rfl (by rw [e0]; rfl)) h0
  obtain rfl : vs = #[.string s] := by cases vs; simp_all
  exact addrParses_any s W (glo_of_laid hL hS addrParses_pow addrParses_bru addrParses_syn addrParses_ran)

end Go.Proofs.YticikknfkkmoaaaDoor
