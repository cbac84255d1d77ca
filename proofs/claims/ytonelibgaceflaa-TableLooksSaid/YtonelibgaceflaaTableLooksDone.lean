
/-
  Proved here: the statement of the law TableLooks: for every input the call returns true and leaves its arguments as they were. No conditions.
-/
import Derived.Test.YtonelibgaceflaaRows
import Derived.Test.YtonelibgaceflaaLaw
import Derived.Test.YtonelibgaceflaaHead
import Derived.Test.YtonelibgaceflaaTableLook
namespace Go.Proofs.Ytonelibgaceflaa.tableLooksDone
open Go.ChangeShapes Go.WideShapes Go.ChangeAt Go.RowKit

theorem own : ownKnob Try.prog.godebug = none := by kernel_rfl
theorem laidOut : laidOutB Try.prog = true := by kernel_rfl

theorem readable0 : Try.prog.readableRec 33 = true := by kernel_rfl
theorem rowed0 : 33 < Try.prog.types.size := of_decide_eq_true (by kernel_rfl)
theorem readable1 : Try.prog.readableRec 24 = true := by kernel_rfl
theorem rowed1 : 24 < Try.prog.types.size := of_decide_eq_true (by kernel_rfl)

theorem paramsOk : ∀ t ∈ ([33, 24] : List TypeId), Try.prog.readableRec t = true ∧ t < Try.prog.types.size := by
  intro t ht
  simp only [List.mem_cons, List.not_mem_nil, or_false] at ht
  rcases ht with rfl | rfl
  · exact ⟨readable0, rowed0⟩
  · exact ⟨readable1, rowed1⟩

theorem specIs {H : Type} (ds : List (DataW H)) (h : ds.length = ([33, 24] : List TypeId).length) :
    (Rows.tableLooksSpec.fn H (ds ++ [])).results = [.lit (.bool true)] ∧ (Rows.tableLooksSpec.fn H (ds ++ [])).args = ds ∧ (Rows.tableLooksSpec.fn H (ds ++ [])).vars = [] := by
  match ds, h with
  | [d0, d1], _ => exact ⟨rfl, rfl, rfl⟩

set_option maxRecDepth 100000 in
theorem lifted (os : Os) (started : os.Started) (H : Type) (enc : TypeId × Value → H) :
    ReturnsInHanded {} Try.checked os 10 .any (Rows.tableLooksSpec.pre6 enc Try.prog Try.f10 Rows.tableLooksRow.domain false) (Rows.tableLooksSpec.post enc Try.prog Try.f10 false true false false) :=
  law_lift (C := Try.checked) (tb := 4) (ts := [33, 24]) own laidOut started (by kernel_rfl) Try.func10
    (ChangeSpec.witness6 (enc := enc) (C := Try.checked) false ⟨#[], #[.slice none 0 0, .agg #[.bool false, .int .u64 0, .int .u64 0]], []⟩ 8 (by kernel_rfl) (by kernel_rfl) (by kernel_rfl) (by kernel_rfl))
    rfl paramsOk rfl Try.underlying4 rfl rfl specIs (fun W vs ds ps h => tableLooks_walk W vs ds ps h)

theorem facts : joinedFacts Try.pinned.checked.prog 10 Try.f10 Rows.tableLooksSpec Rows.tableLooksRow = true := by
  unfold joinedFacts
  rw [mayEnter_is, liftsFinal_is, make_is]
  kernel_rfl

theorem over : Rows.tableLooksRow.holds Try.pinned (OpenSpec.ofChange Rows.tableLooksSpec) :=
  OpenClaim.holds_of_wide 10 Try.f10 rfl rfl rfl rfl rfl rfl rfl ⟨rfl, rfl, rfl, rfl, rfl⟩ rfl rfl rfl rfl rfl (by kernel_rfl) Try.func10 facts
    (of_decide_eq_true (by kernel_rfl)) (by unfold Func.isWrapper; first | (rw [if_pos (by decide +kernel)]; kernel_rfl) | (rw [if_neg (by decide +kernel)]; exact ⟨rfl, rfl⟩))
    (fun os started H enc _ => lifted os started H enc)

theorem proved : Rows.TableLooksSaid := over
#print axioms proved
end Go.Proofs.Ytonelibgaceflaa.tableLooksDone
