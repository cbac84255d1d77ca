/-
  Proved here: maps that a call makes, as functions from keys to values of whatever type.
-/
import Derived.Test.YtbjojfcpehkopaaMem2
import Derived.Maps.OwnSet
namespace Go.Proofs.Ytbjojfcpehkopaa
open Go.ChangeShapes Go.WideShapes Go.ChangeAt Go.RowKit
open Go.Maps (Keyed)

/-- A reader that takes each element as it is. -/
def heldR : Value → Option (DataW Value × List MemPlace) := fun v => some (.held v, [])

/-- The datum of a map shows a function from keys to values. -/
def Shows (D : DataW Value) (F : Lit → Option Value) : Prop :=
  Maps.IsMap D ∧ ∀ kl, WideAt.IsKeyLit kl → Maps.has D kl = (F kl).isSome ∧ ∀ z, D.atKey kl (.held z) = .held ((F kl).getD z)

open Classical in
noncomputable def putF (F : Lit → Option Value) (kl : Lit) (v : Value) : Lit → Option Value := fun k' => if k' = kl then some v else F k'
open Classical in
noncomputable def delF (F : Lit → Option Value) (kl : Lit) : Lit → Option Value := fun k' => if k' = kl then none else F k'

theorem Shows.empty : Shows (.map []) (fun _ => none) := by
  refine ⟨Maps.isMap_empty, fun kl _ => ⟨rfl, fun z => ?_⟩⟩
  exact Maps.atKey_of_not_has (D := (.map [] : DataW Value)) rfl _
theorem Shows.put {D : DataW Value} {F : Lit → Option Value} (h : Shows D F) {kl : Lit} (hk : WideAt.IsKeyLit kl) (v : Value) : Shows (D.put kl (.held v)) (putF F kl v) := by
  refine ⟨h.1.put _ _, fun k' hk' => ?_⟩
  unfold putF
  by_cases he : k' = kl
  · subst he
    rw [if_pos rfl]
    exact ⟨by rw [Maps.has_put_same h.1 hk]; rfl, fun z => by rw [Maps.atKey_put_same h.1 hk]; rfl⟩
  · rw [if_neg he]
    exact ⟨by rw [Maps.has_put_other he]; exact (h.2 k' hk').1, fun z => by rw [Maps.atKey_put_other he]; exact (h.2 k' hk').2 z⟩
theorem Shows.del {D : DataW Value} {F : Lit → Option Value} (h : Shows D F) {kl : Lit} : Shows (D.del kl) (delF F kl) := by
  refine ⟨h.1.del _, fun k' hk' => ?_⟩
  unfold delF
  by_cases he : k' = kl
  · subst he
    rw [if_pos rfl]
    exact ⟨Maps.has_del_same, fun z => by rw [Maps.atKey_del_same]; rfl⟩
  · rw [if_neg he]
    exact ⟨by rw [Maps.has_del_other he]; exact (h.2 k' hk').1, fun z => by rw [Maps.atKey_del_other he]; exact (h.2 k' hk').2 z⟩

/-- Block b is a map of at most n entries that shows F. -/
def MapF (w : World) (P : Program) (k : TypeId) (b n : Nat) (F : Lit → Option Value) : Prop := ∃ D, w.ownsMap P k heldR b n D ∧ Shows D F

section
variable {P : Program} {k : TypeId} {b n : Nat} {F : Lit → Option Value} {w w' : World}
theorem MapF.made (w : World) (P : Program) (k : TypeId) : MapF (w.alloc (.map #[] 0)) P k w.heap.size 0 (fun _ => none) := ⟨_, World.ownsMap_made _ _ _ _, Shows.empty⟩
theorem MapF.mono (h : MapF w P k b n F) {n' : Nat} (hn : n ≤ n') : MapF w P k b n' F := let ⟨D, h1, h2⟩ := h; ⟨D, h1.mono hn, h2⟩
theorem MapF.lt (h : MapF w P k b n F) : b < w.heap.size := let ⟨_, h1, _⟩ := h; h1.lt
theorem MapF.kept {row : Option Nat} (h : MapF w P k b n F) (hg : w.grownBy w' row) (hne : some b ≠ row) : MapF w' P k b n F := let ⟨D, h1, h2⟩ := h; ⟨D, h1.kept hg hne, h2⟩
theorem MapF.alloc (h : MapF w P k b n F) (o : Obj) : MapF (w.alloc o) P k b n F := let ⟨D, h1, h2⟩ := h; ⟨D, h1.alloc o, h2⟩
theorem MapF.drew (h : MapF w P k b n F) : MapF w.drew P k b n F := h
theorem MapF.below {B : Nat} (h : MapF w P k b n F) (hb : Below B w w') (hB : b < B) : MapF w' P k b n F := by
  obtain ⟨D, ⟨es, clock, h1, h2⟩, h3⟩ := h
  exact ⟨D, ⟨es, clock, (hb.block b hB).trans h1, h2⟩, h3⟩
theorem MapF.setCell (h : MapF w P k b n F) {p : Addr} (hp : b ≠ p.block) (u : Value) : MapF (w.setCell p u) P k b n F := let ⟨D, h1, h2⟩ := h; ⟨D, h1.setCell hp u, h2⟩

/-- 'v, ok := m[k]'. -/
theorem MapF.look {t e : TypeId} (h : MapF w P k b n F) (K : Keyed P k) (ht : P.underlying t = some (.map k e)) {z : Value} (hz : (zeroValue e).run P w = .ok z w) {key : Value} {kl : Lit} (hkey : keyOf P k key = some kl) (hil : WideAt.IsKeyLit kl) :
    (Instr.lookup t (.map (some b)) key true).run P w = .ok (.tuple #[(F kl).getD z, .bool (F kl).isSome]) w := by
  obtain ⟨D, h1, h2⟩ := h
  obtain ⟨v, ps, hrun, hv⟩ := h1.look_ok K ht hz (zd := .held z) (zp := []) rfl hkey
  obtain ⟨e1, e2⟩ := h2.2 kl hil
  rw [e2 z] at hv
  simp only [heldR, Option.some.injEq, Prod.mk.injEq, DataW.held.injEq] at hv
  rw [hrun, hv.1, e1]

/-- 'm[k] = v', at the operation. -/
theorem wpList_mapUpdate_F {ops : Array Oper} {rest : List Oper} {o : Oper} {a : Act} {Q : Exit → Act → World → Prop}
    (hg : o.guard = none) (m x v : Operand) (t : TypeId) (hop : o.op = Op.mapUpdate t m x v)
    (e : TypeId) (K : Keyed P k) (ht : P.underlying t = some (.map k e))
    (hm : a.eval m = .map (some b)) (hown : MapF w P k b n F) (hn : n < maxLen) (key val : Value) (kl : Lit) (hx : a.eval x = key) (hv : a.eval v = val) (hkey : keyOf P k key = some kl) (hil : WideAt.IsKeyLit kl)
    (hK : ∀ w', MapF w' P k b (n + 1) (putF F kl val) → w.grownBy w' (some b) → wpList P ops Q rest (a.put o.dst undef) w') :
    wpList P ops Q (o :: rest) a w := by
  obtain ⟨D, h1, h2⟩ := hown
  exact wpList_mapUpdate_own w hg m x v t hop k e K ht heldR b n D hm h1 hn key val kl hx hv hkey (.held val) [] rfl (fun w' h3 h4 => hK w' ⟨_, h3, h2.put hil val⟩ h4)
end

theorem keyLit_int (q : IntKind) (a : Int) : WideAt.IsKeyLit (.int q a) := by
  first | trivial | exact ⟨_, _, rfl⟩ | simp [WideAt.IsKeyLit]

end Go.Proofs.Ytbjojfcpehkopaa
