
/-
  Proved here: the statement of the law TopOffers: for every input the call returns true and leaves its arguments as they were. No conditions.
-/
import Derived.Test.YtmljdjakbbedlaaRows
import Derived.Test.YtmljdjakbbedlaaC1
import Derived.Test.YtmljdjakbbedlaaC26
namespace Go.Proofs.Ytmljdjakbbedlaa.topOffersDone
open Go.ChangeShapes Go.WideShapes Go.ChangeAt Go.RowKit

theorem own : ownKnob Try.prog.godebug = none := by kernel_rfl
theorem laidOut : laidOutB Try.prog = true := by kernel_rfl

theorem readable0 : Try.prog.readableRec 23 = true := by kernel_rfl
theorem rowed0 : 23 < Try.prog.types.size := of_decide_eq_true (by kernel_rfl)
theorem readable1 : Try.prog.readableRec 22 = true := by kernel_rfl
theorem rowed1 : 22 < Try.prog.types.size := of_decide_eq_true (by kernel_rfl)
theorem readable2 : Try.prog.readableRec 3 = true := by kernel_rfl
theorem rowed2 : 3 < Try.prog.types.size := of_decide_eq_true (by kernel_rfl)

theorem paramsOk : ∀ t ∈ ([22, 23, 3] : List TypeId), Try.prog.readableRec t = true ∧ t < Try.prog.types.size := by
  intro t ht
  simp only [List.mem_cons, List.not_mem_nil, or_false] at ht
  rcases ht with rfl | rfl | rfl
  · exact ⟨readable1, rowed1⟩
  · exact ⟨readable0, rowed0⟩
  · exact ⟨readable2, rowed2⟩

theorem specIs {H : Type} (ds : List (DataW H)) (h : ds.length = ([22, 23, 3] : List TypeId).length) :
    (Rows.topOffersSpec.fn H (ds ++ [])).results = [.lit (.bool true)] ∧ (Rows.topOffersSpec.fn H (ds ++ [])).args = ds ∧ (Rows.topOffersSpec.fn H (ds ++ [])).vars = [] := by
  match ds, h with
  | [d0, d1, d2], _ => exact ⟨rfl, rfl, rfl⟩

set_option maxRecDepth 100000 in
theorem lifted (os : Os) (started : os.Started) (H : Type) (enc : TypeId × Value → H) :
    ReturnsInHanded {} Try.checked os 3 .any (Rows.topOffersSpec.pre6 enc Try.prog Try.f3 Rows.topOffersRow.domain false) (Rows.topOffersSpec.post enc Try.prog Try.f3 false true false false) :=
  law_lift (C := Try.checked) (tb := 4) (ts := [22, 23, 3]) own laidOut started (by kernel_rfl) Try.func3
    (ChangeSpec.witness6 (enc := enc) (C := Try.checked) false ⟨#[], #[.slice none 0 0, .slice none 0 0, .int .i64 0], []⟩ 8 (by kernel_rfl) (by kernel_rfl) (by kernel_rfl) (by kernel_rfl))
    rfl paramsOk rfl Try.underlying4 rfl rfl specIs (fun W vs ds ps h => topOffers_walk W vs ds ps h)

theorem facts : joinedFacts Try.pinned.checked.prog 3 Try.f3 Rows.topOffersSpec Rows.topOffersRow = true := by
  unfold joinedFacts
  rw [mayEnter_is, liftsFinal_is, make_is]
  kernel_rfl

theorem over : Rows.topOffersRow.holds Try.pinned (OpenSpec.ofChange Rows.topOffersSpec) :=
  OpenClaim.holds_of_wide 3 Try.f3 rfl rfl rfl rfl rfl rfl rfl ⟨rfl, rfl, rfl, rfl, rfl⟩ rfl rfl rfl rfl rfl (by kernel_rfl) Try.func3 facts
    (of_decide_eq_true (by kernel_rfl)) (by unfold Func.isWrapper; first | (rw [if_pos (by decide +kernel)]; kernel_rfl) | (rw [if_neg (by decide +kernel)]; exact ⟨rfl, rfl⟩))
    (fun os started H enc _ => lifted os started H enc)

theorem proved : Rows.TopOffersSaid := over
#print axioms proved
end Go.Proofs.Ytmljdjakbbedlaa.topOffersDone
