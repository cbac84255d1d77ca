/-
  Proved here: vias as rows of numbers; what is refused of them.
-/
import Derived.Test.YtbjojfcpehkopaaChecked
import Derived.Test.YtbjojfcpehkopaaAuto
import Derived.Test.YtbjojfcpehkopaaFaults
import Derived.Test.YtbjojfcpehkopaaFirstAt
namespace Go.Proofs.Ytbjojfcpehkopaa
open Go.ChangeShapes Go.WideShapes Go.ChangeAt Go.RowKit

structure ViaV where
  hop : Int
  port : Int
  next : Int

def ViaV.cells (r : ViaV) : List Value := [.int .i64 r.hop, .int .i64 r.port, .int .i64 r.next]
theorem ViaV.cells_length (r : ViaV) : r.cells.length = 3 := rfl
def ViaV.val (r : ViaV) : Value := .agg #[.int .i64 r.hop, .int .i64 r.port, .int .i64 r.next]
structure ViaV.Ok (r : ViaV) : Prop where
  a : -9223372036854775808 ≤ r.hop ∧ r.hop ≤ 9223372036854775807
  b : -9223372036854775808 ≤ r.port ∧ r.port ≤ 9223372036854775807
  c : -9223372036854775808 ≤ r.next ∧ r.next ≤ 9223372036854775807

/-- What is known of a slice of vias. -/
def IsVias (w : World) (A : Option Addr) (n c : Nat) (l : List ViaV) : Prop :=
  l.length = n ∧ (n ≤ c ∧ c ≤ maxLen) ∧ (∀ r ∈ l, r.Ok) ∧ Reads w w.heap.size 3 A n (l.flatMap ViaV.cells)
theorem IsVias.below {w w' : World} {A : Option Addr} {n c : Nat} {l : List ViaV} (h : IsVias w A n c l) (hb : Below w.heap.size w w') : IsVias w' A n c l :=
  ⟨h.1, h.2.1, h.2.2.1, (h.2.2.2.below hb).more hb.size⟩

set_option maxRecDepth 100000 in
theorem open_vias {H : Type} {enc : TypeId × Value → H} {W : World} {base : Nat} {sp : Nat → Bool} {held : Bool} {a0 : Option Addr} {len0 cap0 : Nat} {d : DataW H} {p : List MemPlace}
    (h : DataW.Trod enc Try.prog W base sp held 40 (.slice a0 len0 cap0) d p) : ∃ l : List ViaV, IsVias W a0 len0 cap0 l := by
  have hk : flat Try.prog 9 155 = some [some .i64, some .i64, some .i64] := by kernel_rfl
  obtain ⟨css, hcl, hfit, hr, hl, hm⟩ := open_flats Try.underlying40 hk (by kernel_rfl) (by simp) h
  obtain ⟨l, rfl, hz⟩ := choose_list (f := ViaV.cells) (Q := ViaV.Ok) css (fun cs hc => by
    have hf := hfit cs hc
    clear hr hcl hfit
    obtain ⟨hop, _, rfl, w1, hf1⟩ := hf.int_inv
    obtain ⟨port, _, rfl, w2, hf2⟩ := hf1.int_inv
    obtain ⟨next, _, rfl, w3, hf3⟩ := hf2.int_inv
    obtain rfl := hf3.nil_inv
    exact ⟨⟨hop, port, next⟩, ⟨bounds_i64 w1, bounds_i64 w2, bounds_i64 w3⟩, rfl⟩)
  exact ⟨l, by simpa using hcl, ⟨hl, hm⟩, hz, by rw [List.flatMap_def]; exact hr⟩

/-- The fault of a via behind some others. -/
def viaF (before : List ViaV) (hop port next : Int) : Int :=
  if hop < 1 ∨ 999 < hop then 2 else if (port = 0 ↔ next = 0) then 4 else if port < 0 ∨ 999 < port ∨ next < 0 ∨ 999 < next then 2 else if before.any (fun t => t.hop == hop) = true then 8 else 0
def viaAt (l : List ViaV) (i : Nat) : Int := match l[i]? with
  | some s => viaF (l.take i) s.hop s.port s.next
  | none => 0
/-- The first fault of a list of vias. -/
def viasE (l : List ViaV) : Int := firstF (viaAt l) (List.range l.length)
def viasF (l : List ViaV) : Int := if 60 < l.length then 1 else viasE l

theorem Reads.takeV {w : World} {B n k size : Nat} {A : Option Addr} {α : Type} {l : List α} {f : α → List Value} (hf : ∀ x, (f x).length = size) (hz : l.length = n) (hk : k ≤ n) (h : Reads w B size A n (l.flatMap f)) :
    Reads w B size A k ((l.take k).flatMap f) := by
  have hlen : ∀ (l : List α), (l.flatMap f).length = l.length * size := by
    intro l
    induction l with
    | nil => simp
    | cons x l ih => rw [List.flatMap_cons, List.length_append, hf, ih, List.length_cons, Nat.succ_mul]; omega
  refine ⟨by rw [hlen, List.length_take]; congr 1; omega, fun hk0 => ?_⟩
  obtain ⟨ad, rfl, hb, hc⟩ := h.2 (by omega)
  refine ⟨ad, rfl, hb, fun j u hj => hc j u ?_⟩
  have : l = l.take k ++ l.drop k := (List.take_append_drop k l).symm
  rw [this, List.flatMap_append, List.getElem?_append_left (by have := (List.getElem?_eq_some_iff.1 hj).1; exact this)]
  exact hj

end Go.Proofs.Ytbjojfcpehkopaa
