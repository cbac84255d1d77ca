/-
  Proved here: the statement of the law Names: for every input the call returns true and leaves its arguments as they were. No conditions.
-/
import Derived.Test.YtaeideeimhenmaaRows
import Derived.Test.YtaeideeimhenmaaLaw
import Derived.Test.YtaeideeimhenmaaNames
namespace Go.Proofs.Ytaeideeimhenmaa.namesDone
open Go.ChangeShapes Go.WideShapes Go.ChangeAt Go.RowKit

theorem own : ownKnob Try.prog.godebug = none := by kernel_rfl
theorem laidOut : laidOutB Try.prog = true := by kernel_rfl


theorem paramsOk : ∀ t ∈ ([] : List TypeId), Try.prog.readableRec t = true ∧ t < Try.prog.types.size := by
  intro t ht
  cases ht

theorem specIs {H : Type} (ds : List (DataW H)) (h : ds.length = ([] : List TypeId).length) :
    (Rows.namesSpec.fn H (ds ++ [])).results = [.lit (.bool true)] ∧ (Rows.namesSpec.fn H (ds ++ [])).args = ds ∧ (Rows.namesSpec.fn H (ds ++ [])).vars = [] := by
  match ds, h with
  | [], _ => exact ⟨rfl, rfl, rfl⟩

set_option maxRecDepth 100000 in
theorem lifted (os : Os) (started : os.Started) (H : Type) (enc : TypeId × Value → H) :
    ReturnsInHanded {} Try.checked os 3 .any (Rows.namesSpec.pre6 enc Try.prog Try.f3 Rows.namesRow.domain false) (Rows.namesSpec.post enc Try.prog Try.f3 false true false false) :=
  law_lift (C := Try.checked) (tb := 4) (ts := []) own laidOut started (by kernel_rfl) Try.func3
    (ChangeSpec.witness6 (enc := enc) (C := Try.checked) false ⟨#[], #[], []⟩ 8 (by kernel_rfl) (by kernel_rfl) (by kernel_rfl) (by kernel_rfl))
    rfl paramsOk rfl Try.underlying4 rfl rfl specIs (fun W vs ds ps h => names_walk W vs ds ps h)

theorem over : Rows.namesRow.holds Try.pinned (OpenSpec.ofChange Rows.namesSpec) :=
  OpenClaim.holds_of_wide 3 Try.f3 rfl rfl rfl rfl rfl rfl rfl ⟨rfl, rfl, rfl, rfl, rfl⟩ rfl rfl rfl rfl rfl (by kernel_rfl) Try.func3 (by kernel_rfl)
    (of_decide_eq_true (by kernel_rfl)) (by unfold Func.isWrapper; first | (rw [if_pos (by decide +kernel)]; kernel_rfl) | (rw [if_neg (by decide +kernel)]; exact ⟨rfl, rfl⟩))
    (fun os started H enc _ => lifted os started H enc)

theorem proved : Rows.NamesSaid := over
#print axioms proved
end Go.Proofs.Ytaeideeimhenmaa.namesDone
