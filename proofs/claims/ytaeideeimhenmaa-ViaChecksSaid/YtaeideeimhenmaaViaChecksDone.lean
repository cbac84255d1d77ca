/-
  Proved here: the statement of the law ViaChecks: for every input the call returns true and leaves its arguments as they were. No conditions.
-/
import Derived.Test.YtaeideeimhenmaaRows
import Derived.Test.YtaeideeimhenmaaLaw
import Derived.Test.YtaeideeimhenmaaViaChecks
namespace Go.Proofs.Ytaeideeimhenmaa.viaChecksDone
open Go.ChangeShapes Go.WideShapes Go.ChangeAt Go.RowKit

theorem own : ownKnob Try.prog.godebug = none := by kernel_rfl
theorem laidOut : laidOutB Try.prog = true := by kernel_rfl

theorem readable0 : Try.prog.readableRec 39 = true := by kernel_rfl
theorem rowed0 : 39 < Try.prog.types.size := of_decide_eq_true (by kernel_rfl)

theorem paramsOk : ∀ t ∈ ([39] : List TypeId), Try.prog.readableRec t = true ∧ t < Try.prog.types.size := by
  intro t ht
  simp only [List.mem_cons, List.not_mem_nil, or_false] at ht
  subst ht
  exact ⟨readable0, rowed0⟩

theorem specIs {H : Type} (ds : List (DataW H)) (h : ds.length = ([39] : List TypeId).length) :
    (Rows.viaChecksSpec.fn H (ds ++ [])).results = [.lit (.bool true)] ∧ (Rows.viaChecksSpec.fn H (ds ++ [])).args = ds ∧ (Rows.viaChecksSpec.fn H (ds ++ [])).vars = [] := by
  match ds, h with
  | [d0], _ => exact ⟨rfl, rfl, rfl⟩

set_option maxRecDepth 100000 in
theorem lifted (os : Os) (started : os.Started) (H : Type) (enc : TypeId × Value → H) :
    ReturnsInHanded {} Try.checked os 8 .any (Rows.viaChecksSpec.pre6 enc Try.prog Try.f8 Rows.viaChecksRow.domain false) (Rows.viaChecksSpec.post enc Try.prog Try.f8 false true false false) :=
  law_lift (C := Try.checked) (tb := 4) (ts := [39]) own laidOut started (by kernel_rfl) Try.func8
    (ChangeSpec.witness6 (enc := enc) (C := Try.checked) false ⟨#[], #[.slice none 0 0], []⟩ 8 (by kernel_rfl) (by kernel_rfl) (by kernel_rfl) (by kernel_rfl))
    rfl paramsOk rfl Try.underlying4 rfl rfl specIs (fun W vs ds ps h => viaChecks_walk W vs ds ps h)

theorem over : Rows.viaChecksRow.holds Try.pinned (OpenSpec.ofChange Rows.viaChecksSpec) :=
  OpenClaim.holds_of_wide 8 Try.f8 rfl rfl rfl rfl rfl rfl rfl ⟨rfl, rfl, rfl, rfl, rfl⟩ rfl rfl rfl rfl rfl (by kernel_rfl) Try.func8 (by kernel_rfl)
    (of_decide_eq_true (by kernel_rfl)) (by unfold Func.isWrapper; first | (rw [if_pos (by decide +kernel)]; kernel_rfl) | (rw [if_neg (by decide +kernel)]; exact ⟨rfl, rfl⟩))
    (fun os started H enc _ => lifted os started H enc)

theorem proved : Rows.ViaChecksSaid := over
#print axioms proved
end Go.Proofs.Ytaeideeimhenmaa.viaChecksDone
