
/-
  Proved here: the statement of the law DeltaDiffs: for every input the call returns true and leaves its arguments as they were. No conditions.
-/
import Derived.Test.YtnflaaoapmhjgaaRows
import Derived.Test.YtnflaaoapmhjgaaC1
import Derived.Test.YtnflaaoapmhjgaaC15
namespace Go.Proofs.Ytnflaaoapmhjgaa.deltaDiffsDone
open Go.ChangeShapes Go.WideShapes Go.ChangeAt Go.RowKit

theorem own : ownKnob Try.prog.godebug = none := by kernel_rfl
theorem laidOut : laidOutB Try.prog = true := by kernel_rfl

theorem readable0 : Try.prog.readableRec 36 = true := by kernel_rfl
theorem rowed0 : 36 < Try.prog.types.size := of_decide_eq_true (by kernel_rfl)

theorem paramsOk : ∀ t ∈ ([36, 36] : List TypeId), Try.prog.readableRec t = true ∧ t < Try.prog.types.size := by
  intro t ht
  simp only [List.mem_cons, List.not_mem_nil, or_false] at ht
  rcases ht with rfl | rfl
  · exact ⟨readable0, rowed0⟩
  · exact ⟨readable0, rowed0⟩

theorem specIs {H : Type} (ds : List (DataW H)) (h : ds.length = ([36, 36] : List TypeId).length) :
    (Rows.deltaDiffsSpec.fn H (ds ++ [])).results = [.lit (.bool true)] ∧ (Rows.deltaDiffsSpec.fn H (ds ++ [])).args = ds ∧ (Rows.deltaDiffsSpec.fn H (ds ++ [])).vars = [] := by
  match ds, h with
  | [d0, d1], _ => exact ⟨rfl, rfl, rfl⟩

set_option maxRecDepth 100000 in
theorem lifted (os : Os) (started : os.Started) (H : Type) (enc : TypeId × Value → H) :
    ReturnsInHanded {} Try.checked os 16 .any (Rows.deltaDiffsSpec.pre6 enc Try.prog Try.f16 Rows.deltaDiffsRow.domain false) (Rows.deltaDiffsSpec.post enc Try.prog Try.f16 false true false false) :=
  law_lift (C := Try.checked) (tb := 4) (ts := [36, 36]) own laidOut started (by kernel_rfl) Try.func16
    (ChangeSpec.witness6 (enc := enc) (C := Try.checked) false ⟨#[], #[.slice none 0 0, .slice none 0 0], []⟩ 8 (by kernel_rfl) (by kernel_rfl) (by kernel_rfl) (by kernel_rfl))
    rfl paramsOk rfl Try.underlying4 rfl rfl specIs (fun W vs ds ps h => deltaDiffs_walk W vs ds ps h)

theorem facts : joinedFacts Try.pinned.checked.prog 16 Try.f16 Rows.deltaDiffsSpec Rows.deltaDiffsRow = true := by
  unfold joinedFacts
  rw [mayEnter_is, liftsFinal_is, make_is]
  kernel_rfl

theorem over : Rows.deltaDiffsRow.holds Try.pinned (OpenSpec.ofChange Rows.deltaDiffsSpec) :=
  OpenClaim.holds_of_wide 16 Try.f16 rfl rfl rfl rfl rfl rfl rfl ⟨rfl, rfl, rfl, rfl, rfl⟩ rfl rfl rfl rfl rfl (by kernel_rfl) Try.func16 facts
    (of_decide_eq_true (by kernel_rfl)) (by unfold Func.isWrapper; first | (rw [if_pos (by decide +kernel)]; kernel_rfl) | (rw [if_neg (by decide +kernel)]; exact ⟨rfl, rfl⟩))
    (fun os started H enc _ => lifted os started H enc)

theorem proved : Rows.DeltaDiffsSaid := over
#print axioms proved
end Go.Proofs.Ytnflaaoapmhjgaa.deltaDiffsDone
