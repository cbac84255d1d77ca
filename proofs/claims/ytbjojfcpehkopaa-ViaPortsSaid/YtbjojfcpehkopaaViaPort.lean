/-
  Proved here: the contract of via.port: hop by hop.
-/
import Derived.Test.YtbjojfcpehkopaaViaKnown
import Derived.Test.YtbjojfcpehkopaaAddr
import Derived.Test.YtbjojfcpehkopaaShelf
import Derived.Maps.OwnOps
namespace Go.Proofs.Ytbjojfcpehkopaa
open Go.ChangeShapes Go.WideShapes Go.ChangeAt Go.RowKit
open Go.Maps (Keyed)

/-- The first via of a hop. -/
def viaGet (l : List ViaV) (h : Int) : Option ViaV := l.find? (fun v => v.hop == h)
/-- The port of a hop, when others were come to: the port, how many, and the error. -/
def portR (l : List ViaV) : Nat → Int → List Int → Int × Int × Int
  | 0, _, _ => (0, 0, 9)
  | f + 1, h, seen => match viaGet l h with
    | none => (0, 0, 7)
    | some v => if seen.contains h = true then (0, 0, 10) else if 8 < seen.length then (0, 0, 9) else if 0 < v.port then (v.port, seen.length, 0) else portR l f v.next (seen ++ [h])

/-- No hop twice. -/
def Dist (l : List ViaV) : Prop := ∀ i v, l[i]? = some v → (l.take i).any (fun t => t.hop == v.hop) = false
theorem Dist.snoc {l : List ViaV} {v : ViaV} (h : Dist (l ++ [v])) : Dist l ∧ l.any (fun t => t.hop == v.hop) = false := by
  constructor
  · intro i u hu
    have hi := (List.getElem?_eq_some_iff.1 hu).1
    have := h i u (by rw [List.getElem?_append_left hi]; exact hu)
    rwa [List.take_append_of_le_length (by omega)] at this
  · have := h l.length v (by rw [List.getElem?_append_right (Nat.le_refl _)]; simp)
    rwa [List.take_append_of_le_length (Nat.le_refl _), List.take_length] at this
theorem viaMap_get (h : Int) (l : List ViaV) (hd : Dist l) : viaMap l (.int .i64 h) = (viaGet l h).map ViaV.val := by
  induction hn : l.length generalizing l with
  | zero =>
    have : l = [] := List.eq_nil_of_length_eq_zero hn
    subst this
    rfl
  | succ n ih =>
    rcases List.eq_nil_or_concat l with rfl | ⟨l', v, rfl⟩
    · simp at hn
    · rw [List.concat_eq_append] at *
      obtain ⟨h1, h2⟩ := hd.snoc
      have ih' := ih l' h1 (by simpa using hn)
      rw [viaMap_snoc]
      unfold putF viaGet
      rw [List.find?_append]
      by_cases he : h = v.hop
      · subst he
        rw [if_pos rfl]
        have : l'.find? (fun t => t.hop == v.hop) = none := by
          rw [List.find?_eq_none]
          intro x hx
          rw [List.any_eq_false] at h2
          exact h2 x hx
        rw [this]
        simp
      · rw [if_neg (lit_ne he), ih']
        have : (v.hop == h) = false := by simpa using fun hh => he hh.symm
        unfold viaGet
        cases l'.find? (fun v => v.hop == h) <;> simp [this]

theorem firstF_zero {α : Type} {f : α → Int} : ∀ {l : List α}, firstF f l = 0 → ∀ x ∈ l, f x = 0
  | [], _, x, hx => by simp at hx
  | y :: l, h, x, hx => by
    unfold firstF at h
    by_cases hy : f y = 0
    · rw [if_pos hy] at h
      rcases List.mem_cons.1 hx with rfl | hx
      · exact hy
      · exact firstF_zero h x hx
    · rw [if_neg hy] at h
      exact absurd h hy
theorem valid_at {l : List ViaV} (h : viasF l = 0) {i : Nat} {v : ViaV} (hi : l[i]? = some v) :
    (1 ≤ v.hop ∧ v.hop ≤ 999) ∧ (0 ≤ v.port ∧ v.port ≤ 999) ∧ (0 ≤ v.next ∧ v.next ≤ 999) ∧ (l.take i).any (fun t => t.hop == v.hop) = false := by
  have hE : viasE l = 0 := by
    unfold viasF at h
    by_cases hn : 60 < l.length
    · rw [if_pos hn] at h; omega
    · rwa [if_neg hn] at h
  have hlt := (List.getElem?_eq_some_iff.1 hi).1
  have hz := firstF_zero hE i (by simpa using hlt)
  unfold viaAt at hz
  rw [hi] at hz
  simp only [viaF] at hz
  by_cases c1 : v.hop < 1 ∨ 999 < v.hop
  · rw [if_pos c1] at hz; omega
  · rw [if_neg c1] at hz
    by_cases c2 : (v.port = 0 ↔ v.next = 0)
    · rw [if_pos c2] at hz; omega
    · rw [if_neg c2] at hz
      by_cases c3 : v.port < 0 ∨ 999 < v.port ∨ v.next < 0 ∨ 999 < v.next
      · rw [if_pos c3] at hz; omega
      · rw [if_neg c3] at hz
        by_cases c4 : (l.take i).any (fun t => t.hop == v.hop) = true
        · rw [if_pos c4] at hz; omega
        · exact ⟨by omega, by omega, by omega, by simpa using c4⟩
theorem valid_dist {l : List ViaV} (h : viasF l = 0) : Dist l := fun _ _ hi => (valid_at h hi).2.2.2

/-- slices.Contains of a row of ints, wherever it lies. -/
theorem contains_any (A : Option Addr) (n c : Nat) (l : List Int) (x : Int) (w : World) (B : Nat) (hm : n ≤ maxLen) (hr : Reads w B 1 A n (l.map (Value.int .i64))) :
    Calls Try.prog 102 #[.slice A n c, .int .i64 x] w fun e w' => e = .returned (.bool (l.contains x)) ∧ w = w' := by
  have hl : l.length = n := by have := hr.1; simpa using this
  rcases Nat.eq_zero_or_pos n with hn | hn
  · subst hn
    have : l = [] := List.eq_nil_of_length_eq_zero hl
    subst this
    refine (Try.slices_Contains_int_empty A c x w).mono ?_
    rintro e w' ⟨rfl, rfl⟩
    exact ⟨rfl, rfl⟩
  · obtain ⟨ad, rfl, hb, hc⟩ := hr.2 hn
    obtain ⟨x0, hx0⟩ : ∃ x0, l[0]? = some x0 := ⟨_, List.getElem?_eq_getElem (by omega)⟩
    have hc0 := hc 0 (.int .i64 x0) (by rw [List.getElem?_map, hx0]; rfl)
    have hs := World.cell?_spot hc0
    obtain ⟨b, o, s⟩ := ad
    simp [Addr.add] at hs
    subst hs
    unfold maxLen at hm
    refine (Try.slices_Contains_int b o n c l x w (by omega) (by omega) (fun j hj => ?_)).mono ?_
    · have := hc j (.int .i64 (l.getD j 0)) (by rw [List.getElem?_map, List.getElem?_eq_getElem hj, List.getD_eq_getElem?_getD, List.getElem?_eq_getElem hj]; rfl)
      rw [show (⟨b, o, none⟩ : Addr).add j = ⟨b, o + j, none⟩ from by unfold Addr.add; split <;> simp_all] at this
      exact this
    · rintro e w' ⟨rfl, rfl⟩
      exact ⟨by rw [List.take_of_length_le (by omega)], rfl⟩

theorem own_slice {w : World} {base : Nat} {e : TypeId} {size n : Nat} {v : Value} {xs : List Value} (h : w.ownsRow base e size v n xs) : ∃ A cap, v = .slice A n cap ∧ n ≤ maxLen := by
  rcases h.2 with ⟨rfl, rfl⟩ | ⟨g, cap, cur, rfl, _, _, h1, h2, _⟩
  · exact ⟨none, 0, rfl, by unfold maxLen; omega⟩
  · exact ⟨_, cap, rfl, by omega⟩

theorem ret3i {a b c a' b' c' : Int} (h : (a, b, c) = (a', b', c')) : Ending.returned (.tuple #[.int .i64 a, .int .i64 b, .int .i64 c]) = Ending.returned (.tuple #[.int .i64 a', .int .i64 b', .int .i64 c']) := by
  injection h with h1 h2
  injection h2 with h2 h3
  rw [h1, h2, h3]

set_option maxRecDepth 100000 in
set_option maxHeartbeats 1600000 in
theorem port_any (l : List ViaV) (hop : Int) (b m : Nat) (w : World) (hv : viasF l = 0) (ho : -9223372036854775808 ≤ hop ∧ hop ≤ 9223372036854775807) (hmap : MapF w Try.prog 3 b m (viaMap l)) :
    Calls Try.prog 68 #[.map (some b), .int .i64 hop] w fun e w' => e = .returned (.tuple #[.int .i64 (portR l 10 hop []).1, .int .i64 (portR l 10 hop []).2.1, .int .i64 (portR l 10 hop []).2.2]) ∧ Below w.heap.size w w' := by
  have HV := Lib.hid hv
  have HM := Lib.hid hmap
  have hbl := hmap.lt
  obtain ⟨R, hR⟩ : ∃ R, R = portR l 10 hop [] := ⟨_, rfl⟩
  rw [← hR]
  have HR := Lib.hid hR
  clear hv hmap hR
  go_enter Try.func68, Try.ntmps68
  go_wp2
  go_loopw [1, 7, 8, 9, 10] (fun hs sv d _ _ wr => ∃ (seen : List Int) (h : Int), seen.length ≤ 9 ∧ hs = .int .i64 h ∧ d = .int .i64 seen.length ∧ (-9223372036854775808 ≤ h ∧ h ≤ 9223372036854775807) ∧ R = portR l (10 - seen.length) h seen ∧ wr.ownsRow w.heap.size 3 1 sv seen.length (seen.map (Value.int .i64)) ∧ Below w.heap.size w wr) (fun _ _ d _ _ _ => 10 - (intOf d).toNat)
  case atStart => exact ⟨[], hop, by simp, rfl, rfl, ho, HR.out, World.ownsRow_nil _ _ _ _, Below.refl _ _⟩
  case round =>
    obtain ⟨seen, h, hs9, rfl, rfl, hh, hRr, hown, hb⟩ := hrel
    obtain ⟨A, cap, rfl, hml⟩ := own_slice hown
    have HOW := Lib.hid hown
    have HRR := Lib.hid hRr
    have HB := Lib.hid hb
    have hsb := hb.size
    have HMW := Lib.hid (HM.out.below hb hbl)
    have hget := viaMap_get h l (valid_dist HV.out)
    have hlook := HMW.out.look keyInt Try.underlying99 (zeroVia _) (hopKey h hh) (keyLit_int _ _)
    rw [hget] at hlook
    obtain ⟨f, hf⟩ : ∃ f, 10 - seen.length = f + 1 := ⟨9 - seen.length, by omega⟩
    rw [hf] at HRR
    have HC := Lib.hid (fun w' (hb' : Below wr.heap.size wr w') => contains_any A seen.length cap seen h w' wr.heap.size hml ((Reads.of_own hown).below hb'))
    clear hown hRr hb hget
    cases hg : viaGet l h with
    | none =>
      rw [hg] at hlook
      have HFIN : Hid (R = (0, 0, 7)) := by show R = _; rw [HRR.out]; simp only [portR, hg]
      simp only [Option.map_none, Option.getD_none, Option.isSome_none] at hlook
      clear hg
      go_wp2
      go_ret3
      exact ⟨ret3i HFIN.out.symm, HB.out.alloc HB.out.size _⟩
    | some v =>
      rw [hg] at hlook
      have hvv : ∃ i, l[i]? = some v := List.getElem?_of_mem (List.mem_of_find?_eq_some hg)
      obtain ⟨i, hi⟩ := hvv
      obtain ⟨_, hp, hnx, _⟩ := valid_at HV.out hi
      obtain ⟨vh, vp, vn⟩ := v
      simp only at hp hnx
      simp only [Option.map_some, Option.getD_some, Option.isSome_some, ViaV.val] at hlook
      have HG := Lib.hid hg
      clear hg hi
      cases hct : seen.contains h
      · by_cases h8 : 8 < seen.length
        · have HFIN : Hid (R = (0, 0, 9)) := by show R = _; rw [HRR.out]; simp only [portR, HG.out]; rw [hct, if_neg (by simp), if_pos h8]
          rw [hct] at HC
          have h8i : (8 : Int) < (seen.length : Int) := by omega
          clear hct h8
          go_wp2_with fail
          refine (HC.out _ ((Below.refl _ _).alloc (Nat.le_refl _) _)).mono ?_
          rintro e w' ⟨rfl, rfl⟩
          go_wp2
          go_ret3
          exact ⟨ret3i HFIN.out.symm, HB.out.alloc HB.out.size _⟩
        · have h8i : ¬ (8 : Int) < (seen.length : Int) := by omega
          by_cases hpp : 0 < vp
          · have HFIN : Hid (R = (vp, (seen.length : Int), 0)) := by show R = _; rw [HRR.out]; simp only [portR, HG.out]; rw [hct, if_neg (by simp), if_neg h8, if_pos hpp]
            rw [hct] at HC
            clear hct h8
            go_wp2_with fail
            refine (HC.out _ ((Below.refl _ _).alloc (Nat.le_refl _) _)).mono ?_
            rintro e w' ⟨rfl, rfl⟩
            go_wp2
            go_ret3
            exact ⟨ret3i HFIN.out.symm, HB.out.alloc HB.out.size _⟩
          · have HFIN : Hid (R = portR l f vn (seen ++ [h])) := by show R = _; rw [HRR.out]; simp only [portR, HG.out]; rw [hct, if_neg (by simp), if_neg h8, if_neg hpp]
            rw [hct] at HC
            clear hct
            go_wp2_with fail
            refine (HC.out _ ((Below.refl _ _).alloc (Nat.le_refl _) _)).mono ?_
            rintro e w' ⟨rfl, rfl⟩
            go_wp2_with (at_builtin; go_loud (refine wpList_append_oneN rfl _ _ 49 rfl w.heap.size (.int .i64 0) 1 8 Try.underlying49 infoInt rfl (by decide) _ _ _ rfl rfl ?c0 (HOW.out.alloc _) ?c1 rfl ?c2 ?c3 ?c4 ?_))
            case c0 => simp
            case c1 => simp; omega
            case c2 => intro u hu; simp at hu; subst hu; rfl
            case c3 => unfold maxLen; omega
            case c4 => omega
            intro v' w' hown' hb' _ hblk
            have HO2 : Hid (w'.ownsRow w.heap.size 3 1 v' (seen ++ [h]).length ((seen ++ [h]).map (Value.int .i64))) := by
              show World.ownsRow _ _ _ _ _ _ _
              rw [List.map_append, List.length_append]
              exact hown'
            have HB2 := Lib.hid ((HB.out.alloc HB.out.size _).trans hb')
            clear hown'
            have hvn : (-9223372036854775808 : Int) ≤ vn ∧ vn ≤ 9223372036854775807 := by omega
            have hcell : w'.cell? ⟨wr.heap.size, 2, none⟩ = some (.int .i64 vn) := by
              rw [World.cell?_of_block (w := wr.alloc (.cells #[.int .i64 vh, .int .i64 vp, .int .i64 vn] 155)) (a := ⟨wr.heap.size, 2, none⟩) (hblk wr.heap.size (by simp) (own_block_lt HOW.out (Nat.le_refl _)))]
              rw [World.cell?_alloc_at _ _ _ _ rfl]
              rfl
            clear hblk
            go_wp2
            go_roundw
            case rel => exact ⟨seen ++ [h], vn, by simp <;> omega, rfl, by simp, hvn, by rw [HFIN.out]; congr 1; simp <;> omega, HO2.out, HB2.out⟩
            case measure => simp [intOf]; omega
      · have HFIN : Hid (R = (0, 0, 10)) := by show R = _; rw [HRR.out]; simp only [portR, HG.out]; rw [hct, if_pos rfl]
        rw [hct] at HC
        clear hct
        go_wp2_with fail
        refine (HC.out _ ((Below.refl _ _).alloc (Nat.le_refl _) _)).mono ?_
        rintro e w' ⟨rfl, rfl⟩
        go_wp2
        go_ret3
        exact ⟨ret3i HFIN.out.symm, HB.out.alloc HB.out.size _⟩

end Go.Proofs.Ytbjojfcpehkopaa
