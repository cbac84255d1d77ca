
/-
  Proved here: the statement of the law ViaAlls: for every input the call returns true and leaves its arguments as they were. No conditions.
-/
import Derived.Test.YtmljdjakbbedlaaRows
import Derived.Test.YtmljdjakbbedlaaC1
import Derived.Test.YtmljdjakbbedlaaC13
namespace Go.Proofs.Ytmljdjakbbedlaa.viaAllsDone
open Go.ChangeShapes Go.WideShapes Go.ChangeAt Go.RowKit

theorem own : ownKnob Try.prog.godebug = none := by kernel_rfl
theorem laidOut : laidOutB Try.prog = true := by kernel_rfl

theorem readable0 : Try.prog.readableRec 68 = true := by kernel_rfl
theorem rowed0 : 68 < Try.prog.types.size := of_decide_eq_true (by kernel_rfl)

theorem paramsOk : ∀ t ∈ ([68] : List TypeId), Try.prog.readableRec t = true ∧ t < Try.prog.types.size := by
  intro t ht
  simp only [List.mem_cons, List.not_mem_nil, or_false] at ht
  subst ht
  exact ⟨readable0, rowed0⟩

theorem specIs {H : Type} (ds : List (DataW H)) (h : ds.length = ([68] : List TypeId).length) :
    (Rows.viaAllsSpec.fn H (ds ++ [])).results = [.lit (.bool true)] ∧ (Rows.viaAllsSpec.fn H (ds ++ [])).args = ds ∧ (Rows.viaAllsSpec.fn H (ds ++ [])).vars = [] := by
  match ds, h with
  | [d0], _ => exact ⟨rfl, rfl, rfl⟩

set_option maxRecDepth 100000 in
theorem lifted (os : Os) (started : os.Started) (H : Type) (enc : TypeId × Value → H) :
    ReturnsInHanded {} Try.checked os 7 .any (Rows.viaAllsSpec.pre6 enc Try.prog Try.f7 Rows.viaAllsRow.domain false) (Rows.viaAllsSpec.post enc Try.prog Try.f7 false true false false) :=
  law_lift (C := Try.checked) (tb := 4) (ts := [68]) own laidOut started (by kernel_rfl) Try.func7
    (ChangeSpec.witness6 (enc := enc) (C := Try.checked) false ⟨#[], #[.slice none 0 0], []⟩ 8 (by kernel_rfl) (by kernel_rfl) (by kernel_rfl) (by kernel_rfl))
    rfl paramsOk rfl Try.underlying4 rfl rfl specIs (fun W vs ds ps h => viaAlls_walk W vs ds ps h)

theorem facts : joinedFacts Try.pinned.checked.prog 7 Try.f7 Rows.viaAllsSpec Rows.viaAllsRow = true := by
  unfold joinedFacts
  rw [mayEnter_is, liftsFinal_is, make_is]
  kernel_rfl

theorem over : Rows.viaAllsRow.holds Try.pinned (OpenSpec.ofChange Rows.viaAllsSpec) :=
  OpenClaim.holds_of_wide 7 Try.f7 rfl rfl rfl rfl rfl rfl rfl ⟨rfl, rfl, rfl, rfl, rfl⟩ rfl rfl rfl rfl rfl (by kernel_rfl) Try.func7 facts
    (of_decide_eq_true (by kernel_rfl)) (by unfold Func.isWrapper; first | (rw [if_pos (by decide +kernel)]; kernel_rfl) | (rw [if_neg (by decide +kernel)]; exact ⟨rfl, rfl⟩))
    (fun os started H enc _ => lifted os started H enc)

theorem proved : Rows.ViaAllsSaid := over
#print axioms proved
end Go.Proofs.Ytmljdjakbbedlaa.viaAllsDone
