
/-
  Proved here: the statement of the law PreTexts: for every input the call returns true and leaves its arguments as they were. No conditions.
-/
import Derived.Test.YtpecpodchkglkaaDoorRows
import Derived.Test.YtpecpodchkglkaaDoorTie
import Derived.Test.YtpecpodchkglkaaDoorCards
import Derived.Test.YtpecpodchkglkaaDoorC1
import Derived.SevenTiedAt
import Derived.Test.YtpecpodchkglkaaDoorC5
namespace Go.Proofs.YtpecpodchkglkaaDoor.preTextsDone
open Go.ChangeShapes Go.WideShapes Go.ChangeAt Go.RowKit

theorem own : ownKnob Tryd.prog.godebug = none := by kernel_rfl
theorem laidOut : laidOutB Tryd.prog = true := by kernel_rfl

theorem readable0 : Tryd.prog.readableRec 38 = true := by kernel_rfl
theorem rowed0 : 38 < Tryd.prog.types.size := of_decide_eq_true (by kernel_rfl)

theorem paramsOk : ∀ t ∈ ([38] : List TypeId), Tryd.prog.readableRec t = true ∧ t < Tryd.prog.types.size := by
  intro t ht
  simp only [List.mem_cons, List.not_mem_nil, or_false] at ht
  subst ht
  exact ⟨readable0, rowed0⟩

theorem specIs {H : Type} (ds : List (DataW H)) (h : ds.length = ([38] : List TypeId).length) :
    (Rows.preTextsSpec.fn H (ds ++ [])).results = [.lit (.bool true)] ∧ (Rows.preTextsSpec.fn H (ds ++ [])).args = ds ∧ (Rows.preTextsSpec.fn H (ds ++ [])).vars = [] := by
  match ds, h with
  | [d0], _ => exact ⟨rfl, rfl, rfl⟩

set_option maxRecDepth 100000 in
theorem door_met (os : Os) (args : Array Value) : laidMetH Tryd.prog Rows.preTextsRow.laid ((World.doorLaid Tryd.prog 72 os).forCall (fun _ _ => 0) ⟨#[], args, []⟩).memory :=
  laidMetH_of_parts3 (fuel := 8) (laidMet_of_run' 8 (by kernel_rfl) (by kernel_rfl)) (by kernel_rfl) (by kernel_rfl)

set_option maxRecDepth 100000 in
theorem lifted (os : Os) (started : os.Started) (H : Type) (enc : TypeId × Value → H) :
    ReturnsInHanded {} Tryd.checked os 6 .any (fun w args => (Rows.preTextsSpec.pre enc Tryd.prog Tryd.f6 [] false w args ∧ laidMetH Tryd.prog Rows.preTextsRow.laid w) ∧ sizedMet enc Tryd.prog Tryd.f6 (OpenSpec.ofChange Rows.preTextsSpec) false w args) (Rows.preTextsSpec.post enc Tryd.prog Tryd.f6 false true false false) :=
  law_lift_laid (C := Tryd.checked) (tb := 4) (ts := [38]) own laidOut started (by kernel_rfl) Tryd.func6
    (ChangeSpec.witness_shaped (enc := enc) (C := Tryd.checked) (os := os) (X := fun w _ => laidMetH Tryd.prog Rows.preTextsRow.laid w) false (World.doorLaid Tryd.prog 72 os) #[.agg #[.bool false, .int .u64 0, .int .u64 0, .int .i64 0]] 8 rfl (World.shaped_of_RefB (by kernel_rfl) (by kernel_rfl)) (by kernel_rfl) (by kernel_rfl) (by kernel_rfl) (door_met os _))
    rfl paramsOk rfl Tryd.underlying4 rfl rfl specIs (fun W vs ds ps h hL => preTexts_walk W vs ds ps h hL)

theorem facts : joinedFacts Tryd.pinned.checked.prog 6 Tryd.f6 Rows.preTextsSpec Rows.preTextsRow = true := by
  unfold joinedFacts
  rw [mayEnter_is, liftsFinal_is, make_is]
  kernel_rfl

theorem over : Rows.preTextsRow.holds Tryd.pinned (OpenSpec.ofChange Rows.preTextsSpec) :=
  OpenClaim.holds_of_wide 6 Tryd.f6 rfl rfl rfl rfl rfl rfl rfl ⟨rfl, rfl, rfl, rfl, rfl⟩ rfl rfl rfl rfl rfl (by kernel_rfl) Tryd.func6 facts
    (of_decide_eq_true (by kernel_rfl)) (by unfold Func.isWrapper; first | (rw [if_pos (by decide +kernel)]; kernel_rfl) | (rw [if_neg (by decide +kernel)]; exact ⟨rfl, rfl⟩))
    (fun os started H enc _ => lifted os started H enc)

theorem proved : Rows.PreTextsCardSaid :=
  Claim7.holds_tied_plain_at .later [] Rows.preTextsCard.laidKinds true Rows.preTextsCard.stood.harness true
    over (fun _ h => by cases h) (by kernel_rfl) (fun _ h => by cases h) preTexts_row_tie rfl ⟨rfl, rfl⟩ (by kernel_rfl) rfl
    (fun g fn hg hfn => by
      obtain rfl : g = 6 := (Option.some.inj ((show Tryd.prog.funcNamed "whipcord/whipcordlaw.PreTexts" = some 6 by kernel_rfl).symm.trans hg)).symm
      obtain rfl : fn = Tryd.f6 := (Option.some.inj (Tryd.func6.symm.trans hfn)).symm
      exact ⟨by kernel_rfl, fun j t ht => by
        have hm : t ∈ ([38] : List TypeId) := by simpa using Array.mem_of_getElem? ht
        have hall : (([38] : List TypeId).all fun u => !Tryd.prog.wantsStandIn u) = true := by kernel_rfl
        exact (show Tryd.prog.wantsStandIn t = false by simpa using List.all_eq_true.1 hall t hm)⟩)
    (by kernel_rfl)
#print axioms proved
end Go.Proofs.YtpecpodchkglkaaDoor.preTextsDone
