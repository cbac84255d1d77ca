/-
  Proved here: the statement of the law ViaPorts: for every input the call returns true and leaves its arguments as they were. No conditions.
-/
import Derived.Test.YtbjojfcpehkopaaRows
import Derived.Test.YtbjojfcpehkopaaLaw
import Derived.Test.YtbjojfcpehkopaaRefViaPort
namespace Go.Proofs.Ytbjojfcpehkopaa.viaPortsDone
open Go.ChangeShapes Go.WideShapes Go.ChangeAt Go.RowKit

theorem own : ownKnob Try.prog.godebug = none := by kernel_rfl
theorem laidOut : laidOutB Try.prog = true := by kernel_rfl

theorem readable0 : Try.prog.readableRec 40 = true := by kernel_rfl
theorem rowed0 : 40 < Try.prog.types.size := of_decide_eq_true (by kernel_rfl)
theorem readable1 : Try.prog.readableRec 3 = true := by kernel_rfl
theorem rowed1 : 3 < Try.prog.types.size := of_decide_eq_true (by kernel_rfl)

theorem paramsOk : ∀ t ∈ ([40, 3] : List TypeId), Try.prog.readableRec t = true ∧ t < Try.prog.types.size := by
  intro t ht
  simp only [List.mem_cons, List.not_mem_nil, or_false] at ht
  rcases ht with rfl | rfl
  · exact ⟨readable0, rowed0⟩
  · exact ⟨readable1, rowed1⟩

theorem specIs {H : Type} (ds : List (DataW H)) (h : ds.length = ([40, 3] : List TypeId).length) :
    (Rows.viaPortsSpec.fn H (ds ++ [])).results = [.lit (.bool true)] ∧ (Rows.viaPortsSpec.fn H (ds ++ [])).args = ds ∧ (Rows.viaPortsSpec.fn H (ds ++ [])).vars = [] := by
  match ds, h with
  | [d0, d1], _ => exact ⟨rfl, rfl, rfl⟩

set_option maxRecDepth 100000 in
theorem lifted (os : Os) (started : os.Started) (H : Type) (enc : TypeId × Value → H) :
    ReturnsInHanded {} Try.checked os 7 .any (Rows.viaPortsSpec.pre6 enc Try.prog Try.f7 Rows.viaPortsRow.domain false) (Rows.viaPortsSpec.post enc Try.prog Try.f7 false true false false) :=
  law_lift (C := Try.checked) (tb := 4) (ts := [40, 3]) own laidOut started (by kernel_rfl) Try.func7
    (ChangeSpec.witness6 (enc := enc) (C := Try.checked) false ⟨#[], #[.slice none 0 0, .int .i64 0], []⟩ 8 (by kernel_rfl) (by kernel_rfl) (by kernel_rfl) (by kernel_rfl))
    rfl paramsOk rfl Try.underlying4 rfl rfl specIs (fun W vs ds ps h => viaPorts_walk W vs ds ps h)

theorem over : Rows.viaPortsRow.holds Try.pinned (OpenSpec.ofChange Rows.viaPortsSpec) :=
  OpenClaim.holds_of_wide 7 Try.f7 rfl rfl rfl rfl rfl rfl rfl ⟨rfl, rfl, rfl, rfl, rfl⟩ rfl rfl rfl rfl rfl (by kernel_rfl) Try.func7 (by kernel_rfl)
    (of_decide_eq_true (by kernel_rfl)) (by unfold Func.isWrapper; first | (rw [if_pos (by decide +kernel)]; kernel_rfl) | (rw [if_neg (by decide +kernel)]; exact ⟨rfl, rfl⟩))
    (fun os started H enc _ => lifted os started H enc)

theorem proved : Rows.ViaPortsSaid := over
#print axioms proved
end Go.Proofs.Ytbjojfcpehkopaa.viaPortsDone
