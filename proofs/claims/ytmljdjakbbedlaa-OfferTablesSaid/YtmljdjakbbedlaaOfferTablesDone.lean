
/-
  Proved here: the statement of the law OfferTables: for every input the call returns true and leaves its arguments as they were. No conditions.
-/
import Derived.Test.YtmljdjakbbedlaaRows
import Derived.Test.YtmljdjakbbedlaaC1
import Derived.Test.YtmljdjakbbedlaaC22
namespace Go.Proofs.Ytmljdjakbbedlaa.offerTablesDone
open Go.ChangeShapes Go.WideShapes Go.ChangeAt Go.RowKit

theorem own : ownKnob Try.prog.godebug = none := by kernel_rfl
theorem laidOut : laidOutB Try.prog = true := by kernel_rfl

theorem readable0 : Try.prog.readableRec 24 = true := by kernel_rfl
theorem rowed0 : 24 < Try.prog.types.size := of_decide_eq_true (by kernel_rfl)

theorem paramsOk : ∀ t ∈ ([24] : List TypeId), Try.prog.readableRec t = true ∧ t < Try.prog.types.size := by
  intro t ht
  simp only [List.mem_cons, List.not_mem_nil, or_false] at ht
  subst ht
  exact ⟨readable0, rowed0⟩

theorem specIs {H : Type} (ds : List (DataW H)) (h : ds.length = ([24] : List TypeId).length) :
    (Rows.offerTablesSpec.fn H (ds ++ [])).results = [.lit (.bool true)] ∧ (Rows.offerTablesSpec.fn H (ds ++ [])).args = ds ∧ (Rows.offerTablesSpec.fn H (ds ++ [])).vars = [] := by
  match ds, h with
  | [d0], _ => exact ⟨rfl, rfl, rfl⟩

set_option maxRecDepth 100000 in
theorem lifted (os : Os) (started : os.Started) (H : Type) (enc : TypeId × Value → H) :
    ReturnsInHanded {} Try.checked os 9 .any (Rows.offerTablesSpec.pre6 enc Try.prog Try.f9 Rows.offerTablesRow.domain false) (Rows.offerTablesSpec.post enc Try.prog Try.f9 false true false false) :=
  law_lift (C := Try.checked) (tb := 4) (ts := [24]) own laidOut started (by kernel_rfl) Try.func9
    (ChangeSpec.witness6 (enc := enc) (C := Try.checked) false ⟨#[], #[.slice none 0 0], []⟩ 8 (by kernel_rfl) (by kernel_rfl) (by kernel_rfl) (by kernel_rfl))
    rfl paramsOk rfl Try.underlying4 rfl rfl specIs (fun W vs ds ps h => offerTables_walk W vs ds ps h)

theorem facts : joinedFacts Try.pinned.checked.prog 9 Try.f9 Rows.offerTablesSpec Rows.offerTablesRow = true := by
  unfold joinedFacts
  rw [mayEnter_is, liftsFinal_is, make_is]
  kernel_rfl

theorem over : Rows.offerTablesRow.holds Try.pinned (OpenSpec.ofChange Rows.offerTablesSpec) :=
  OpenClaim.holds_of_wide 9 Try.f9 rfl rfl rfl rfl rfl rfl rfl ⟨rfl, rfl, rfl, rfl, rfl⟩ rfl rfl rfl rfl rfl (by kernel_rfl) Try.func9 facts
    (of_decide_eq_true (by kernel_rfl)) (by unfold Func.isWrapper; first | (rw [if_pos (by decide +kernel)]; kernel_rfl) | (rw [if_neg (by decide +kernel)]; exact ⟨rfl, rfl⟩))
    (fun os started H enc _ => lifted os started H enc)

theorem proved : Rows.OfferTablesSaid := over
#print axioms proved
end Go.Proofs.Ytmljdjakbbedlaa.offerTablesDone
