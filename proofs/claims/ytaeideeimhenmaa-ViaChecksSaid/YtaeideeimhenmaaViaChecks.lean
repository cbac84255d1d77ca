/-
  Proved here: the walk of the law ViaChecks.
-/
import Derived.Test.YtaeideeimhenmaaViaF
import Derived.Test.YtaeideeimhenmaaViaKnown
namespace Go.Proofs.Ytaeideeimhenmaa
open Go.ChangeShapes Go.WideShapes Go.ChangeAt Go.RowKit

set_option maxRecDepth 100000 in
set_option maxHeartbeats 400000 in
theorem viaCheck_is {A : Option Addr} {n c : Nat} {l : List ViaV} {w : World} (h : IsVias w A n c l) :
    Calls Try.prog 23 #[.slice A n c] w fun e w' => e = .returned (.int .i64 (viasF l)) ∧ Below w.heap.size w w' := by
  have HK := Lib.hid (known_is h)
  clear h
  go_enter Try.func23, Try.ntmps23
  go_wp2_with fail
  refine HK.out.mono ?_
  rintro e w1 ⟨hb, ⟨_, rfl⟩ | ⟨h0, rfl, _⟩⟩
  · go_wp2
    go_ret
    exact ⟨rfl, hb⟩
  · have H0 := Lib.hid h0
    clear h0
    go_wp2
    go_ret
    exact ⟨ret_int H0.out.symm, hb⟩

set_option maxRecDepth 100000 in
set_option maxHeartbeats 400000 in
theorem viaChecks_walk {H : Type} {enc : TypeId × Value → H} (W : World) (vs : Array Value) (ds : List (DataW H)) (ps : List MemPlace) (h : ArgsOk Try.prog [39] H enc W vs.toList ds ps) :
    Calls Try.prog 8 vs W fun e W' => e = .returned (.bool true) ∧ Below W.heap.size W W' := by
  obtain ⟨hA, ⟨base, hval⟩, _, _⟩ := h
  obtain ⟨v0, d0, e0, _, h0⟩ := trodAll_one hA
  obtain ⟨a0, n, c, rfl⟩ := okWide_slice Try.underlying39 (hval 0 _ v0 rfl (by rw [e0]; rfl))
  obtain ⟨l, hr⟩ := open_vias h0
  obtain rfl : vs = #[.slice a0 n c] := by cases vs; simp_all
  generalize hg : viasF l = r
  have C1 := Lib.hid (fun (w : World) (hb : Below W.heap.size W w) => viaCheck_is (hr.below hb))
  have C2 := Lib.hid (fun (w : World) (hb : Below W.heap.size W w) => viaFault_is (hr.below hb))
  rw [hg] at C1 C2
  clear hr h0 hA hval e0 hg
  go_enter Try.func8, Try.ntmps8
  go_wp2_with fail
  refine (C1.out _ (Below.refl _ _)).mono ?_
  rintro e w1 ⟨rfl, hb1⟩
  go_wp2_with fail
  refine (C2.out _ hb1).mono ?_
  rintro e w2 ⟨rfl, hb2⟩
  go_wp2
  go_ret
  exact ⟨by simp, below_step hb1 hb2⟩

end Go.Proofs.Ytaeideeimhenmaa
