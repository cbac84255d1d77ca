
/-
  Proved here: the statement of the law PreParses: for every input the call returns true and leaves its arguments as they were. No conditions.
-/
import Derived.Test.YticikknfkkmoaaaDoorRows
import Derived.Test.YticikknfkkmoaaaDoorTie
import Derived.Test.YticikknfkkmoaaaDoorCards
import Derived.Test.YticikknfkkmoaaaDoorC6
import Derived.SevenTiedAt
import Derived.Lay
import Derived.Test.YticikknfkkmoaaaDoorC9
namespace Go.Proofs.YticikknfkkmoaaaDoor.preParsesDone
open Go.ChangeShapes Go.WideShapes Go.ChangeAt Go.RowKit

theorem own : ownKnob Tryd.prog.godebug = none := by kernel_rfl
theorem laidOut : laidOutB Tryd.prog = true := by kernel_rfl

theorem readable0 : Tryd.prog.readableRec 9 = true := by kernel_rfl
theorem rowed0 : 9 < Tryd.prog.types.size := of_decide_eq_true (by kernel_rfl)

theorem paramsOk : ∀ t ∈ ([9] : List TypeId), Tryd.prog.readableRec t = true ∧ t < Tryd.prog.types.size := by
  intro t ht
  simp only [List.mem_cons, List.not_mem_nil, or_false] at ht
  subst ht
  exact ⟨readable0, rowed0⟩

theorem specIs {H : Type} (ds : List (DataW H)) (h : ds.length = ([9] : List TypeId).length) :
    (Rows.preParsesSpec.fn H (ds ++ [])).results = [.lit (.bool true)] ∧ (Rows.preParsesSpec.fn H (ds ++ [])).args = ds ∧ (Rows.preParsesSpec.fn H (ds ++ [])).vars = [] := by
  match ds, h with
  | [d0], _ => exact ⟨rfl, rfl, rfl⟩

set_option maxRecDepth 100000 in
theorem door_met (os : Os) (args : Array Value) : laidMetH Tryd.prog Rows.preParsesRow.laid ((World.laidAll Tryd.prog os Rows.preParsesRow.laid).forCall (fun _ _ => 0) ⟨#[], args, []⟩).memory := by
  rw [MakeChecks.laidMetH_plain _ _ _ (by kernel_rfl)]
  exact laidMet_laidAll _ (by kernel_rfl) (by kernel_rfl)

set_option maxRecDepth 100000 in
theorem lifted (os : Os) (started : os.Started) (H : Type) (enc : TypeId × Value → H) :
    ReturnsInHanded {} Tryd.checked os 4 .any (fun w args => (Rows.preParsesSpec.pre enc Tryd.prog Tryd.f4 [] false w args ∧ laidMetH Tryd.prog Rows.preParsesRow.laid w) ∧ sizedMet enc Tryd.prog Tryd.f4 (OpenSpec.ofChange Rows.preParsesSpec) false w args) (Rows.preParsesSpec.post enc Tryd.prog Tryd.f4 false true false false) :=
  law_lift_shaped (C := Tryd.checked) (tb := 4) (ts := [9]) own laidOut started (by kernel_rfl) Tryd.func4
    (ChangeSpec.witness_shaped (enc := enc) (C := Tryd.checked) (os := os) (X := fun w _ => laidMetH Tryd.prog Rows.preParsesRow.laid w) false (World.laidAll Tryd.prog os Rows.preParsesRow.laid) #[.string ByteArray.empty] 8 (World.laidAll_os _ _ _) (World.shaped_of_ZipB (by kernel_rfl) (by kernel_rfl)) (by kernel_rfl) (by kernel_rfl) (by kernel_rfl) (door_met os _))
    rfl paramsOk rfl Tryd.underlying4 rfl rfl specIs (fun W vs ds ps h hL hS => preParses_walk W vs ds ps h hL hS)

theorem facts : joinedFacts Tryd.pinned.checked.prog 4 Tryd.f4 Rows.preParsesSpec Rows.preParsesRow = true := by
  unfold joinedFacts
  rw [mayEnter_is, liftsFinal_is, make_is]
  kernel_rfl

theorem over : Rows.preParsesRow.holds Tryd.pinned (OpenSpec.ofChange Rows.preParsesSpec) :=
  OpenClaim.holds_of_wide 4 Tryd.f4 rfl rfl rfl rfl rfl rfl rfl ⟨rfl, rfl, rfl, rfl, rfl⟩ rfl rfl rfl rfl rfl (by kernel_rfl) Tryd.func4 facts
    (of_decide_eq_true (by kernel_rfl)) (by unfold Func.isWrapper; first | (rw [if_pos (by decide +kernel)]; kernel_rfl) | (rw [if_neg (by decide +kernel)]; exact ⟨rfl, rfl⟩))
    (fun os started H enc _ => lifted os started H enc)

theorem proved : Rows.PreParsesCardSaid :=
  Claim7.holds_tied_plain_at .later [] Rows.preParsesCard.laidKinds true Rows.preParsesCard.stood.harness true
    over (fun _ h => by cases h) (by kernel_rfl) (fun _ h => by cases h) preParses_row_tie rfl ⟨rfl, rfl⟩ (by kernel_rfl) rfl
    (fun g fn hg hfn => by
      obtain rfl : g = 4 := (Option.some.inj ((show Tryd.prog.funcNamed "whipcord/whipcordlaw.PreParses" = some 4 by kernel_rfl).symm.trans hg)).symm
      obtain rfl : fn = Tryd.f4 := (Option.some.inj (Tryd.func4.symm.trans hfn)).symm
      exact ⟨by kernel_rfl, fun j t ht => by
        have hm : t ∈ ([9] : List TypeId) := by simpa using Array.mem_of_getElem? ht
        have hall : (([9] : List TypeId).all fun u => !Tryd.prog.wantsStandIn u) = true := by kernel_rfl
        exact (show Tryd.prog.wantsStandIn t = false by simpa using List.all_eq_true.1 hall t hm)⟩)
    (by kernel_rfl)
#print axioms proved
end Go.Proofs.YticikknfkkmoaaaDoor.preParsesDone
