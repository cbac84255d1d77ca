
/-
  Proved here: the contracts of table.Look and of the reference's TableLook; the walk of the law TableLooks.
-/
import Derived.Test.YtonelibgaceflaaGoes
import Derived.Test.YtonelibgaceflaaTableFault
import Derived.Test.YtonelibgaceflaaMay
namespace Go.Proofs.Ytonelibgaceflaa
open Go.ChangeShapes Go.WideShapes Go.ChangeAt Go.RowKit

theorem firstF_zero2 {α : Type} {f : α → Int} : ∀ {l : List α}, firstF f l = 0 → ∀ x ∈ l, f x = 0
  | [], _, x, hx => by simp at hx
  | y :: l, h, x, hx => by
    unfold firstF at h
    by_cases hy : f y = 0
    · rw [if_pos hy] at h
      rcases List.mem_cons.1 hx with rfl | hx
      · exact hy
      · exact firstF_zero2 h x hx
    · rw [if_neg hy] at h
      exact absurd h hy
theorem valid_of {l : List RouteV} (ho : ∀ r ∈ l, r.Ok) (h : routesF l = 0) : Valid l ∧ l.length ≤ 60 := by
  unfold routesF at h
  by_cases hn : 60 < l.length
  · rw [if_pos hn] at h; omega
  rw [if_neg hn] at h
  have hz := firstF_zero2 h
  have key : ∀ k, k ≤ l.length → Valid (l.take k) := by
    intro k
    induction k with
    | zero => intro _; exact ⟨by simp, by simp⟩
    | succ k ih =>
      intro hk
      obtain ⟨r, hr⟩ : ∃ r, l[k]? = some r := ⟨l[k], List.getElem?_eq_getElem (by omega)⟩
      have h0 := hz k (List.mem_range.2 (by omega))
      unfold routeAt at h0
      rw [hr] at h0
      simp only at h0
      have hro := ho r (List.mem_of_getElem? hr)
      unfold routeF at h0
      by_cases h1 : r.p.chk = 0
      · rw [if_neg (by simp [h1])] at h0
        by_cases h2 : r.hop < 1 ∨ 999 < r.hop
        · rw [if_pos h2] at h0; omega
        · rw [if_neg h2] at h0
          by_cases h3 : hasR (l.take k) r.p = true
          · rw [if_pos h3] at h0; omega
          · rw [List.take_add_one, hr]
            obtain ⟨p, hop⟩ := r
            exact valid_snoc (ih (by omega)) (chk_zero hro.a hro.b h1) (by simp only at h2; omega) (by simpa using h3)
      · rw [if_pos (by simpa using h1)] at h0
        exact absurd h0 h1
  refine ⟨?_, by omega⟩
  have := key l.length (Nat.le_refl _)
  rwa [List.take_length] at this

/-- What Look says: hop, length, error. -/
def lookR (l : List RouteV) (six : Bool) (hi lo : Int) : Int × Int × Int :=
  if ¬ routesF l = 0 then (0, 0, routesF l) else if mayB six hi lo = false then (0, 0, 4) else ((goesR l six hi lo).1, (goesR l six hi lo).2, 0)
def Looked (r : Int × Int × Int) (w : World) (e : Ending) (w' : World) : Prop := e = .returned (.tuple #[.agg #[.int .i64 0, .int .i64 r.1, .int .i64 r.2.1], .int .i64 r.2.2]) ∧ Below w.heap.size w w'

set_option maxRecDepth 100000 in
set_option maxHeartbeats 1600000 in
theorem tableLook_is (A : Option Addr) (n c : Nat) (l : List RouteV) (six : Bool) (hi lo : Int) (w : World) (h : IsRoutes w A n c l) (h3 : 0 ≤ hi ∧ hi < 18446744073709551616) (h4 : 0 ≤ lo ∧ lo < 18446744073709551616) :
    Calls Try.prog 28 #[.slice A n c, .agg #[.bool six, .int .u64 hi, .int .u64 lo]] w (Looked (lookR l six hi lo) w) := by
  have CN := Lib.hid (fun (w' : World) (hb : Below w.heap.size w w') => new_is (h.below hb))
  have CM := Lib.hid (fun w => may_any six hi lo w h4.1)
  unfold Looked
  by_cases hz : routesF l = 0
  · have CN2 : Hid (∀ (w' : World) (_ : Below w.heap.size w w'), Calls Try.prog 75 #[.slice A n c] w' (NewPost l 0 w')) := by
      intro w' hb
      have := CN.out w' hb
      rwa [hz] at this
    clear CN
    cases hm : mayB six hi lo with
    | false =>
      have hr : lookR l six hi lo = (0, 0, 4) := by unfold lookR; rw [if_neg (by simp [hz]), if_pos hm]
      rw [hr]
      rw [hm] at CM
      clear hr hz hm h
      go_enter Try.func28, Try.ntmps28
      go_wp2_with fail
      refine (CN2.out _ (((Below.refl _ _).alloc (Nat.le_refl _) _).alloc (by simp) _)).mono ?_
      rintro e w1 ⟨hb1, ⟨hx, _⟩ | ⟨_, rfl, _, _⟩⟩
      · exact absurd rfl hx
      obtain ⟨fc, ff⟩ := bcell hb1
      obtain ⟨s1, s2⟩ := bsize2 hb1
      have HB := Lib.hid (balloc2 hb1)
      clear hb1
      go_wp2_with fail
      refine (CM.out _).mono ?_
      rintro e w2 ⟨rfl, hb2⟩
      obtain ⟨fc2, ff2⟩ := bcell hb2
      have HB2 := Lib.hid (below_step HB.out hb2)
      have s3 := hb2.size
      have s4 : w.heap.size + 1 < w2.heap.size := by omega
      clear hb2
      go_wp2
      refine bodyPost_ret (v := .tuple #[.agg #[.int .i64 0, .int .i64 0, .int .i64 0], .int .i64 4]) ?_ rfl ⟨rfl, ?_⟩
      · simp [results, Try.results28, go_sem, fc, fc2, s1, s2, s4]
      · (repeat' first | with_reducible exact HB2.out | with_reducible refine Below.drew ?_ | with_reducible refine below_drewN ?_ _ | with_reducible refine Below.setCell ?_ ?_ _ | (simp; done) | (simp; omega) | omega)
    | true =>
      have hr : lookR l six hi lo = ((goesR l six hi lo).1, (goesR l six hi lo).2, 0) := by unfold lookR; rw [if_neg (by simp [hz]), if_neg (by simp [hm])]
      rw [hr]
      have HAO : Hid (AV.Ok ⟨six, hi, lo⟩) := ⟨h3, h4, hm⟩
      rw [hm] at CM
      obtain ⟨res, hres⟩ : ∃ res, goesR l six hi lo = res := ⟨_, rfl⟩
      rw [hres]
      have HRES := Lib.hid hres
      clear hr hz hm h hres
      go_enter Try.func28, Try.ntmps28
      go_wp2_with fail
      refine (CN2.out _ (((Below.refl _ _).alloc (Nat.le_refl _) _).alloc (by simp) _)).mono ?_
      rintro e w1 ⟨hb1, ⟨hx, _⟩ | ⟨_, rfl, hhold, hval⟩⟩
      · exact absurd rfl hx
      obtain ⟨fc, ff⟩ := bcell hb1
      obtain ⟨s1, s2⟩ := bsize2 hb1
      have HB := Lib.hid (balloc2 hb1)
      have hhold2 : Holds w1 (w.heap.size + 1 + 1) (w.heap.size + 1 + 1) l := by simpa using hhold
      have HH := Lib.hid hhold2
      have HV := Lib.hid hval
      clear hb1 hhold hhold2 hval
      go_wp2_with fail
      refine (CM.out _).mono ?_
      rintro e w2 ⟨rfl, hb2⟩
      obtain ⟨fc2, ff2⟩ := bcell hb2
      have HB2 := Lib.hid (below_step HB.out hb2)
      have s3 := hb2.size
      have s4 : w.heap.size + 1 < w2.heap.size := by omega
      have s5 : w.heap.size < w2.heap.size := by omega
      obtain ⟨R, cc, hT, hI, hM, _⟩ := HH.out.below hb2
      have CL := Lib.hid (tlook_any hT hI six hi lo HAO.out)
      rw [look_goes HV.out (addr_pfx HAO.out) (hI six) (fun p hp h6 => by have := hM p hp; rw [h6] at this; exact this), HRES.out] at CL
      clear hb2 hT hI hM
      go_wp2_with fail
      refine CL.out.mono ?_
      rintro e w3 ⟨rfl, hb3⟩
      obtain ⟨fc3, ff3⟩ := bcell hb3
      have HB3 := Lib.hid (below_step HB2.out hb3)
      have s6 := hb3.size
      have s7 : w.heap.size + 1 < w3.heap.size := by omega
      clear hb3
      go_wp2
      refine bodyPost_ret (v := .tuple #[.agg #[.int .i64 0, .int .i64 res.1, .int .i64 res.2], .int .i64 0]) ?_ rfl ⟨rfl, ?_⟩
      · simp [results, Try.results28, go_sem, fc, fc2, fc3, s1, s2, s4, s5, s7]
      · (repeat' first | with_reducible exact HB3.out | with_reducible refine Below.drew ?_ | with_reducible refine below_drewN ?_ _ | with_reducible refine Below.setCell ?_ ?_ _ | (simp; done) | (simp; omega) | omega)
  · have hr : lookR l six hi lo = (0, 0, routesF l) := by unfold lookR; rw [if_pos hz]
    rw [hr]
    obtain ⟨E, hE⟩ : ∃ E, routesF l = E := ⟨_, rfl⟩
    rw [hE] at hz CN ⊢
    have hzb : (E != 0) = true := by simpa using hz
    clear hr hE h CM
    go_enter Try.func28, Try.ntmps28
    go_wp2_with fail
    refine (CN.out _ (((Below.refl _ _).alloc (Nat.le_refl _) _).alloc (by simp) _)).mono ?_
    rintro e w1 ⟨hb1, ⟨_, rfl⟩ | ⟨hx, _⟩⟩
    · obtain ⟨fc, ff⟩ := bcell hb1
      obtain ⟨s1, s2⟩ := bsize2 hb1
      have HB := Lib.hid (balloc2 hb1)
      clear hb1
      go_wp2
      refine bodyPost_ret (v := .tuple #[.agg #[.int .i64 0, .int .i64 0, .int .i64 0], .int .i64 E]) ?_ rfl ⟨rfl, ?_⟩
      · simp [results, Try.results28, go_sem, fc, s1, s2]
      · (repeat' first | with_reducible exact HB.out | with_reducible refine Below.drew ?_ | with_reducible refine below_drewN ?_ _ | with_reducible refine Below.setCell ?_ ?_ _ | (simp; done) | (simp; omega) | omega)
    · exact absurd hx hz

set_option maxRecDepth 100000 in
set_option maxHeartbeats 1600000 in
theorem refLook_is (A : Option Addr) (n c : Nat) (l : List RouteV) (six : Bool) (hi lo : Int) (w : World) (h : IsRoutes w A n c l) (h3 : 0 ≤ hi ∧ hi < 18446744073709551616) (h4 : 0 ≤ lo ∧ lo < 18446744073709551616) :
    Calls Try.prog 43 #[.slice A n c, .agg #[.bool six, .int .u64 hi, .int .u64 lo]] w (Looked (lookR l six hi lo) w) := by
  have CF := Lib.hid (fun (w' : World) (hb : Below w.heap.size w w') => tableFault_is (h.below hb))
  have CM := Lib.hid (fun w => refMay_any six hi lo w h4.1)
  unfold Looked
  by_cases hz : routesF l = 0
  · rw [hz] at CF
    have hv := valid_of h.2.2.1 hz
    cases hm : mayB six hi lo with
    | false =>
      have hr : lookR l six hi lo = (0, 0, 4) := by unfold lookR; rw [if_neg (by simp [hz]), if_pos hm]
      rw [hr]
      rw [hm] at CM
      clear hr hz hm h hv
      go_enter Try.func43, Try.ntmps43
      go_wp2_with fail
      refine (CF.out _ (((Below.refl _ _).alloc (Nat.le_refl _) _).alloc (by simp) _)).mono ?_
      rintro e w1 ⟨rfl, hb1⟩
      obtain ⟨fc, ff⟩ := bcell hb1
      obtain ⟨s1, s2⟩ := bsize2 hb1
      have HB := Lib.hid (balloc2 hb1)
      clear hb1
      go_wp2_with fail
      refine (CM.out _).mono ?_
      rintro e w2 ⟨rfl, hb2⟩
      obtain ⟨fc2, ff2⟩ := bcell hb2
      have HB2 := Lib.hid (below_step HB.out hb2)
      have s3 := hb2.size
      have s4 : w.heap.size + 1 < w2.heap.size := by omega
      clear hb2
      go_wp2
      refine bodyPost_ret (v := .tuple #[.agg #[.int .i64 0, .int .i64 0, .int .i64 0], .int .i64 4]) ?_ rfl ⟨rfl, ?_⟩
      · simp [results, Try.results43, go_sem, fc, fc2, s1, s2, s4]
      · (repeat' first | with_reducible exact HB2.out | with_reducible refine Below.drew ?_ | with_reducible refine below_drewN ?_ _ | with_reducible refine Below.setCell ?_ ?_ _ | (simp; done) | (simp; omega) | omega)
    | true =>
      have hr : lookR l six hi lo = ((goesR l six hi lo).1, (goesR l six hi lo).2, 0) := by unfold lookR; rw [if_neg (by simp [hz]), if_neg (by simp [hm])]
      rw [hr]
      have hn60 : n ≤ 60 := by rw [← h.1]; exact hv.2
      have CG := Lib.hid (fun (w' : World) (hb : Below w.heap.size w w') => goes_any A n c l six hi lo w' (h.below hb) hv.1 ⟨h3, h4, hm⟩ hn60)
      rw [hm] at CM
      obtain ⟨res, hres⟩ : ∃ res, goesR l six hi lo = res := ⟨_, rfl⟩
      rw [hres] at CG ⊢
      clear hr hz hm h hres hv hn60
      go_enter Try.func43, Try.ntmps43
      go_wp2_with fail
      refine (CF.out _ (((Below.refl _ _).alloc (Nat.le_refl _) _).alloc (by simp) _)).mono ?_
      rintro e w1 ⟨rfl, hb1⟩
      obtain ⟨fc, ff⟩ := bcell hb1
      obtain ⟨s1, s2⟩ := bsize2 hb1
      have HB := Lib.hid (balloc2 hb1)
      clear hb1
      go_wp2_with fail
      refine (CM.out _).mono ?_
      rintro e w2 ⟨rfl, hb2⟩
      obtain ⟨fc2, ff2⟩ := bcell hb2
      have HB2 := Lib.hid (below_step HB.out hb2)
      have s3 := hb2.size
      have s4 : w.heap.size + 1 < w2.heap.size := by omega
      have s5 : w.heap.size < w2.heap.size := by omega
      clear hb2
      go_wp2_with fail
      refine (CG.out _ HB2.out).mono ?_
      rintro e w3 ⟨rfl, hb3⟩
      obtain ⟨fc3, ff3⟩ := bcell hb3
      have HB3 := Lib.hid (below_step HB2.out hb3)
      have s6 := hb3.size
      have s7 : w.heap.size + 1 < w3.heap.size := by omega
      clear hb3
      go_wp2
      refine bodyPost_ret (v := .tuple #[.agg #[.int .i64 0, .int .i64 res.1, .int .i64 res.2], .int .i64 0]) ?_ rfl ⟨rfl, ?_⟩
      · simp [results, Try.results43, go_sem, fc, fc2, fc3, s1, s2, s4, s5, s7]
      · (repeat' first | with_reducible exact HB3.out | with_reducible refine Below.drew ?_ | with_reducible refine below_drewN ?_ _ | with_reducible refine Below.setCell ?_ ?_ _ | (simp; done) | (simp; omega) | omega)
  · have hr : lookR l six hi lo = (0, 0, routesF l) := by unfold lookR; rw [if_pos hz]
    rw [hr]
    obtain ⟨E, hE⟩ : ∃ E, routesF l = E := ⟨_, rfl⟩
    rw [hE] at hz CF ⊢
    have hzb : (E != 0) = true := by simpa using hz
    clear hr hE h CM hz
    go_enter Try.func43, Try.ntmps43
    go_wp2_with fail
    refine (CF.out _ (((Below.refl _ _).alloc (Nat.le_refl _) _).alloc (by simp) _)).mono ?_
    rintro e w1 ⟨rfl, hb1⟩
    obtain ⟨fc, ff⟩ := bcell hb1
    obtain ⟨s1, s2⟩ := bsize2 hb1
    have HB := Lib.hid (balloc2 hb1)
    clear hb1
    go_wp2
    refine bodyPost_ret (v := .tuple #[.agg #[.int .i64 0, .int .i64 0, .int .i64 0], .int .i64 E]) ?_ rfl ⟨rfl, ?_⟩
    · simp [results, Try.results43, go_sem, fc, s1, s2]
    · (repeat' first | with_reducible exact HB.out | with_reducible refine Below.drew ?_ | with_reducible refine below_drewN ?_ _ | with_reducible refine Below.setCell ?_ ?_ _ | (simp; done) | (simp; omega) | omega)

set_option maxRecDepth 100000 in
set_option maxHeartbeats 800000 in
theorem tableLooks_walk {H : Type} {enc : TypeId × Value → H} (W : World) (vs : Array Value) (ds : List (DataW H)) (ps : List MemPlace) (h : ArgsOk Try.prog [33, 24] H enc W vs.toList ds ps) :
    Calls Try.prog 10 vs W fun e W' => e = .returned (.bool true) ∧ Below W.heap.size W W' := by
  obtain ⟨hA, ⟨base, hval⟩, _, _⟩ := h
  obtain ⟨v0, v1, d0, d1, p0, p1, e0, _, _, h0, h1⟩ := trodAll_two hA
  obtain ⟨a0, n, c, rfl⟩ := okWide_slice Try.underlying33 (hval 0 _ v0 rfl (by rw [e0]; rfl))
  obtain ⟨l, hr⟩ := open_routes h0
  obtain ⟨six, hi, lo, rfl, b3, b4⟩ := open_addr (hval 1 _ v1 rfl (by rw [e0]; rfl)) h1
  obtain rfl : vs = #[.slice a0 n c, .agg #[.bool six, .int .u64 hi, .int .u64 lo]] := by cases vs; simp_all
  have C1 := Lib.hid (fun (w : World) (hb : Below W.heap.size W w) => tableLook_is a0 n c l six hi lo w (hr.below hb) b3 b4)
  have C2 := Lib.hid (fun (w : World) (hb : Below W.heap.size W w) => refLook_is a0 n c l six hi lo w (hr.below hb) b3 b4)
  unfold Looked at C1 C2
  generalize lookR l six hi lo = r at *
  clear hr h0 h1 hA hval e0
  go_enter Try.func10, Try.ntmps10
  go_wp2_with fail
  refine (C1.out _ ((Below.refl _ _).alloc (Nat.le_refl _) _)).mono ?_
  rintro e w1 ⟨rfl, hb1⟩
  obtain ⟨fc, ff⟩ := bcell hb1
  have s1 := bsize1 hb1
  have HB := Lib.hid (balloc1 hb1)
  clear hb1
  go_wp2_with fail
  refine (C2.out _ (HB.out.alloc HB.out.size _)).mono ?_
  rintro e w2 ⟨rfl, hb2⟩
  obtain ⟨fc2, ff2⟩ := bcell hb2
  have s2 := bsize1 hb2
  have HB2 := Lib.hid (below_step HB.out (balloc1 hb2))
  clear hb2
  go_wp2
  go_ret
  exact ⟨by simp, HB2.out.alloc HB2.out.size _⟩

end Go.Proofs.Ytonelibgaceflaa
