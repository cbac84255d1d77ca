/-
  
  
  
  
  
  
-/
import Derived.Test.YtmljdjakbbedlaaChecked
import Derived.Test.YtmljdjakbbedlaaC2
import Derived.Test.YtmljdjakbbedlaaC3
import Derived.Maps.OwnSet
import Derived.Test.YtmljdjakbbedlaaC4
import Derived.Maps.OwnOps
import Derived.Deep.RegionHeld3
namespace Go.Proofs.Ytmljdjakbbedlaa
open Go.ChangeShapes Go.WideShapes Go.ChangeAt Go.RowKit

structure ViaV where
  hop : Int
  port : Int
  next : Int

def ViaV.cells (r : ViaV) : List Value := [.int .i64 r.hop, .int .i64 r.port, .int .i64 r.next]
theorem ViaV.cells_length (r : ViaV) : r.cells.length = 3 := rfl
def ViaV.val (r : ViaV) : Value := .agg #[.int .i64 r.hop, .int .i64 r.port, .int .i64 r.next]
structure ViaV.Ok (r : ViaV) : Prop where
  a : -9223372036854775808 ≤ r.hop ∧ r.hop ≤ 9223372036854775807
  b : -9223372036854775808 ≤ r.port ∧ r.port ≤ 9223372036854775807
  c : -9223372036854775808 ≤ r.next ∧ r.next ≤ 9223372036854775807

/-- What is known of a slice of vias. -/
def IsVias (w : World) (A : Option Addr) (n c : Nat) (l : List ViaV) : Prop :=
  l.length = n ∧ (n ≤ c ∧ c ≤ maxLen) ∧ (∀ r ∈ l, r.Ok) ∧ Reads w w.heap.size 3 A n (l.flatMap ViaV.cells)
theorem IsVias.below {w w' : World} {A : Option Addr} {n c : Nat} {l : List ViaV} (h : IsVias w A n c l) (hb : Below w.heap.size w w') : IsVias w' A n c l :=
  ⟨h.1, h.2.1, h.2.2.1, (h.2.2.2.below hb).more hb.size⟩

set_option maxRecDepth 100000 in
theorem open_vias {H : Type} {enc : TypeId × Value → H} {W : World} {base : Nat} {sp : Nat → Bool} {held : Bool} {a0 : Option Addr} {len0 cap0 : Nat} {d : DataW H} {p : List MemPlace}
    (h : DataW.Trod enc Try.prog W base sp held 68 (.slice a0 len0 cap0) d p) : ∃ l : List ViaV, IsVias W a0 len0 cap0 l := by
  have hk : flat Try.prog 9 72 = some [some .i64, some .i64, some .i64] := by kernel_rfl
  obtain ⟨css, hcl, hfit, hr, hl, hm⟩ := open_flats Try.underlying68 hk (by kernel_rfl) (by simp) h
  obtain ⟨l, rfl, hz⟩ := choose_list (f := ViaV.cells) (Q := ViaV.Ok) css (fun cs hc => by
    have hf := hfit cs hc
    clear hr hcl hfit
    obtain ⟨hop, _, rfl, w1, hf1⟩ := hf.int_inv
    obtain ⟨port, _, rfl, w2, hf2⟩ := hf1.int_inv
    obtain ⟨next, _, rfl, w3, hf3⟩ := hf2.int_inv
    obtain rfl := hf3.nil_inv
    exact ⟨⟨hop, port, next⟩, ⟨bounds_i64 w1, bounds_i64 w2, bounds_i64 w3⟩, rfl⟩)
  exact ⟨l, by simpa using hcl, ⟨hl, hm⟩, hz, by rw [List.flatMap_def]; exact hr⟩

/-- The fault of a via behind some others. -/
def viaF (before : List ViaV) (hop port next : Int) : Int :=
  if hop < 1 ∨ 999 < hop then 2 else if (port = 0 ↔ next = 0) then 4 else if port < 0 ∨ 999 < port ∨ next < 0 ∨ 999 < next then 2 else if before.any (fun t => t.hop == hop) = true then 8 else 0
def viaAt (l : List ViaV) (i : Nat) : Int := match l[i]? with
  | some s => viaF (l.take i) s.hop s.port s.next
  | none => 0
/-- The first fault of a list of vias. -/
def viasE (l : List ViaV) : Int := firstF (viaAt l) (List.range l.length)
def viasF (l : List ViaV) : Int := if 60 < l.length then 1 else viasE l

theorem Reads.takeV {w : World} {B n k size : Nat} {A : Option Addr} {α : Type} {l : List α} {f : α → List Value} (hf : ∀ x, (f x).length = size) (hz : l.length = n) (hk : k ≤ n) (h : Reads w B size A n (l.flatMap f)) :
    Reads w B size A k ((l.take k).flatMap f) := by
  have hlen : ∀ (l : List α), (l.flatMap f).length = l.length * size := by
    intro l
    induction l with
    | nil => simp
    | cons x l ih => rw [List.flatMap_cons, List.length_append, hf, ih, List.length_cons, Nat.succ_mul]; omega
  refine ⟨by rw [hlen, List.length_take]; congr 1; omega, fun hk0 => ?_⟩
  obtain ⟨ad, rfl, hb, hc⟩ := h.2 (by omega)
  refine ⟨ad, rfl, hb, fun j u hj => hc j u ?_⟩
  have : l = l.take k ++ l.drop k := (List.take_append_drop k l).symm
  rw [this, List.flatMap_append, List.getElem?_append_left (by have := (List.getElem?_eq_some_iff.1 hj).1; exact this)]
  exact hj

end Go.Proofs.Ytmljdjakbbedlaa

namespace Go.Proofs.Ytmljdjakbbedlaa
open Go.ChangeShapes Go.WideShapes Go.ChangeAt Go.RowKit
open Go.Maps (Keyed)

/-- A reader that takes each element as it is. -/
def heldR : Value → Option (DataW Value × List MemPlace) := fun v => some (.held v, [])

/-- The datum of a map shows a function from keys to values. -/
def Shows (D : DataW Value) (F : Lit → Option Value) : Prop :=
  Maps.IsMap D ∧ ∀ kl, WideAt.IsKeyLit kl → Maps.has D kl = (F kl).isSome ∧ ∀ z, D.atKey kl (.held z) = .held ((F kl).getD z)

open Classical in
noncomputable def putF (F : Lit → Option Value) (kl : Lit) (v : Value) : Lit → Option Value := fun k' => if k' = kl then some v else F k'
open Classical in
noncomputable def delF (F : Lit → Option Value) (kl : Lit) : Lit → Option Value := fun k' => if k' = kl then none else F k'

theorem Shows.empty : Shows (.map []) (fun _ => none) := by
  refine ⟨Maps.isMap_empty, fun kl _ => ⟨rfl, fun z => ?_⟩⟩
  exact Maps.atKey_of_not_has (D := (.map [] : DataW Value)) rfl _
theorem Shows.put {D : DataW Value} {F : Lit → Option Value} (h : Shows D F) {kl : Lit} (hk : WideAt.IsKeyLit kl) (v : Value) : Shows (D.put kl (.held v)) (putF F kl v) := by
  refine ⟨h.1.put _ _, fun k' hk' => ?_⟩
  unfold putF
  by_cases he : k' = kl
  · subst he
    rw [if_pos rfl]
    exact ⟨by rw [Maps.has_put_same h.1 hk]; rfl, fun z => by rw [Maps.atKey_put_same h.1 hk]; rfl⟩
  · rw [if_neg he]
    exact ⟨by rw [Maps.has_put_other he]; exact (h.2 k' hk').1, fun z => by rw [Maps.atKey_put_other he]; exact (h.2 k' hk').2 z⟩
theorem Shows.del {D : DataW Value} {F : Lit → Option Value} (h : Shows D F) {kl : Lit} : Shows (D.del kl) (delF F kl) := by
  refine ⟨h.1.del _, fun k' hk' => ?_⟩
  unfold delF
  by_cases he : k' = kl
  · subst he
    rw [if_pos rfl]
    exact ⟨Maps.has_del_same, fun z => by rw [Maps.atKey_del_same]; rfl⟩
  · rw [if_neg he]
    exact ⟨by rw [Maps.has_del_other he]; exact (h.2 k' hk').1, fun z => by rw [Maps.atKey_del_other he]; exact (h.2 k' hk').2 z⟩

/-- Block b is a map of at most n entries that shows F. -/
def MapF (w : World) (P : Program) (k : TypeId) (b n : Nat) (F : Lit → Option Value) : Prop := ∃ D, w.ownsMap P k heldR b n D ∧ Shows D F

section
variable {P : Program} {k : TypeId} {b n : Nat} {F : Lit → Option Value} {w w' : World}
theorem MapF.made (w : World) (P : Program) (k : TypeId) : MapF (w.alloc (.map #[] 0)) P k w.heap.size 0 (fun _ => none) := ⟨_, World.ownsMap_made _ _ _ _, Shows.empty⟩
theorem MapF.mono (h : MapF w P k b n F) {n' : Nat} (hn : n ≤ n') : MapF w P k b n' F := let ⟨D, h1, h2⟩ := h; ⟨D, h1.mono hn, h2⟩
theorem MapF.lt (h : MapF w P k b n F) : b < w.heap.size := let ⟨_, h1, _⟩ := h; h1.lt
theorem MapF.kept {row : Option Nat} (h : MapF w P k b n F) (hg : w.grownBy w' row) (hne : some b ≠ row) : MapF w' P k b n F := let ⟨D, h1, h2⟩ := h; ⟨D, h1.kept hg hne, h2⟩
theorem MapF.alloc (h : MapF w P k b n F) (o : Obj) : MapF (w.alloc o) P k b n F := let ⟨D, h1, h2⟩ := h; ⟨D, h1.alloc o, h2⟩
theorem MapF.drew (h : MapF w P k b n F) : MapF w.drew P k b n F := h
theorem MapF.below {B : Nat} (h : MapF w P k b n F) (hb : Below B w w') (hB : b < B) : MapF w' P k b n F := by
  obtain ⟨D, ⟨es, clock, h1, h2⟩, h3⟩ := h
  exact ⟨D, ⟨es, clock, (hb.block b hB).trans h1, h2⟩, h3⟩
theorem MapF.setCell (h : MapF w P k b n F) {p : Addr} (hp : b ≠ p.block) (u : Value) : MapF (w.setCell p u) P k b n F := let ⟨D, h1, h2⟩ := h; ⟨D, h1.setCell hp u, h2⟩

/-- 'v, ok := m[k]'. -/
theorem MapF.look {t e : TypeId} (h : MapF w P k b n F) (K : Keyed P k) (ht : P.underlying t = some (.map k e)) {z : Value} (hz : (zeroValue e).run P w = .ok z w) {key : Value} {kl : Lit} (hkey : keyOf P k key = some kl) (hil : WideAt.IsKeyLit kl) :
    (Instr.lookup t (.map (some b)) key true).run P w = .ok (.tuple #[(F kl).getD z, .bool (F kl).isSome]) w := by
  obtain ⟨D, h1, h2⟩ := h
  obtain ⟨v, ps, hrun, hv⟩ := h1.look_ok K ht hz (zd := .held z) (zp := []) rfl hkey
  obtain ⟨e1, e2⟩ := h2.2 kl hil
  rw [e2 z] at hv
  simp only [heldR, Option.some.injEq, Prod.mk.injEq, DataW.held.injEq] at hv
  rw [hrun, hv.1, e1]

/-- 'm[k] = v', at the operation. -/
theorem wpList_mapUpdate_F {ops : Array Oper} {rest : List Oper} {o : Oper} {a : Act} {Q : Exit → Act → World → Prop}
    (hg : o.guard = none) (m x v : Operand) (t : TypeId) (hop : o.op = Op.mapUpdate t m x v)
    (e : TypeId) (K : Keyed P k) (ht : P.underlying t = some (.map k e))
    (hm : a.eval m = .map (some b)) (hown : MapF w P k b n F) (hn : n < maxLen) (key val : Value) (kl : Lit) (hx : a.eval x = key) (hv : a.eval v = val) (hkey : keyOf P k key = some kl) (hil : WideAt.IsKeyLit kl)
    (hK : ∀ w', MapF w' P k b (n + 1) (putF F kl val) → w.grownBy w' (some b) → wpList P ops Q rest (a.put o.dst undef) w') :
    wpList P ops Q (o :: rest) a w := by
  obtain ⟨D, h1, h2⟩ := hown
  exact wpList_mapUpdate_own w hg m x v t hop k e K ht heldR b n D hm h1 hn key val kl hx hv hkey (.held val) [] rfl (fun w' h3 h4 => hK w' ⟨_, h3, h2.put hil val⟩ h4)
end

theorem keyLit_int (q : IntKind) (a : Int) : WideAt.IsKeyLit (.int q a) := by
  first | trivial | exact ⟨_, _, rfl⟩ | simp [WideAt.IsKeyLit]

end Go.Proofs.Ytmljdjakbbedlaa

namespace Go.Proofs.Ytmljdjakbbedlaa
open Go.ChangeShapes Go.WideShapes Go.ChangeAt Go.RowKit

set_option maxRecDepth 100000 in
set_option maxHeartbeats 1600000 in
theorem viaFault_any (A : Option Addr) (n c : Nat) (l : List ViaV) (w : World) (hn2 : n ≤ 60) (hnc : n ≤ c) (_hcm : c ≤ maxLen) (hz : l.length = n) (ho : ∀ r ∈ l, r.Ok) (hr : Reads w w.heap.size 3 A n (l.flatMap ViaV.cells)) :
    Calls Try.prog 70 #[.slice A n c] w fun e w' => e = .returned (.int .i64 (viasE l)) ∧ Below w.heap.size w w' := by
  have HZ := Lib.hid hz
  have HR := Lib.hid hr
  have HOK := Lib.hid ho
  unfold maxLen at _hcm
  obtain ⟨r, hr0⟩ : ∃ r, r = firstF (viaAt l) (List.range n) := ⟨_, rfl⟩
  rw [show viasE l = firstF (viaAt l) (List.range n) from by unfold viasE; rw [hz], ← hr0]
  have H0 := Lib.hid hr0
  clear hz hr hr0 ho
  go_enter Try.func70, Try.ntmps70
  go_wp2
  go_loopw [12, 3, 4, 6] (fun i _ _ _ wr => ∃ k : Nat, k ≤ n ∧ i = .int .i64 k ∧ NoneTo (viaAt l) (List.range n) k ∧ Below w.heap.size w wr) (fun i _ _ _ _ => n - (intOf i).toNat)
  case atStart => exact ⟨0, by omega, rfl, rfl, Below.refl _ _⟩
  case round =>
    obtain ⟨k, hk, rfl, hto, hb⟩ := hrel
    have HT := Lib.hid hto
    clear hto
    by_cases hlt : k < n
    · obtain ⟨ad, ⟨hop, port, next⟩, rfl, hlk, htk, hmem, hbk, hc0, hcj⟩ := HR.out.atS ViaV.cells_length HZ.out hlt
      have q0 := (hb.cell (p := ad.add (k * 3)) (by rw [block_of_add]; exact hbk)).trans (hc0 _ rfl)
      have q1 := (hb.cell (p := ⟨(ad.add (k * 3)).block, (ad.add (k * 3)).off + 1, none⟩) (by rw [block_of_add]; exact hbk)).trans (hcj 1 _ rfl)
      have q2 := (hb.cell (p := ⟨(ad.add (k * 3)).block, (ad.add (k * 3)).off + 2, none⟩) (by rw [block_of_add]; exact hbk)).trans (hcj 2 _ rfl)
      have hok := HOK.out _ hmem
      obtain ⟨r1, r2, r3⟩ := hok
      simp only at r1 r2 r3
      have hfd : viaAt l k = viaF (l.take k) hop port next := by unfold viaAt; rw [hlk]
      have HF := Lib.hid hfd
      have HL := Lib.hid (range_at (n := n) hlt)
      have HK := Lib.hid (range_take (n := n) hlt)
      have HLK := Lib.hid hlk
      have HTK := Lib.hid htk
      have hkc : (k : Int) ≤ (c : Int) := by omega
      have hkc2 : (k : Int) ≤ 60 := by omega
      clear hlk htk hmem hbk hc0 hcj hfd
      by_cases c1 : hop < 1 ∨ 999 < hop
      · have HF2 : Hid (viaF (l.take k) hop port next = 2) := by show _ = _; unfold viaF; rw [if_pos c1]
        go_wp2
        all_goals first
          | (go_ret; exact ⟨ret_int (fault_here HT.out HL.out HF.out H0.out HF2.out (by omega)), hb.alloc hb.size _⟩)
          | (exfalso; omega)
      · have hh1 : ¬ hop < 1 := by omega
        have hh2 : ¬ 999 < hop := by omega
        have d1 : decide (hop < 1) = false := decide_eq_false hh1
        have d2 : decide (999 < hop) = false := decide_eq_false hh2
        by_cases c2 : (port = 0 ↔ next = 0)
        · have HF2 : Hid (viaF (l.take k) hop port next = 4) := by show _ = _; unfold viaF; rw [if_neg c1, if_pos c2]
          clear c1
          by_cases p0 : port = 0
          · have n0 : next = 0 := c2.1 p0
            subst p0
            subst n0
            clear c2
            go_wp2
            go_ret
            exact ⟨ret_int (fault_here HT.out HL.out HF.out H0.out HF2.out (by omega)), hb.alloc hb.size _⟩
          · have n0 : ¬ next = 0 := fun h => p0 (c2.2 h)
            have e1 : (port == 0) = false := by simpa using p0
            have e2 : (next == 0) = false := by simpa using n0
            have e3 : (port != 0) = true := by simpa using p0
            have e4 : (next != 0) = true := by simpa using n0
            clear c2
            go_wp2
            go_ret
            exact ⟨ret_int (fault_here HT.out HL.out HF.out H0.out HF2.out (by omega)), hb.alloc hb.size _⟩
        · by_cases c3 : port < 0 ∨ 999 < port ∨ next < 0 ∨ 999 < next
          · have HF2 : Hid (viaF (l.take k) hop port next = 2) := by show _ = _; unfold viaF; rw [if_neg c1, if_neg c2, if_pos c3]
            clear c1
            by_cases p0 : port = 0
            · have n0 : ¬ next = 0 := fun h => c2 ⟨fun _ => h, fun _ => p0⟩
              subst p0
              have e2 : (next == 0) = false := by simpa using n0
              have e4 : (next != 0) = true := by simpa using n0
              clear c2
              go_wp2
              all_goals first
                | (go_ret; exact ⟨ret_int (fault_here HT.out HL.out HF.out H0.out HF2.out (by omega)), hb.alloc hb.size _⟩)
                | (exfalso; omega)
            · have n0 : next = 0 := by
                by_cases h : next = 0
                · exact h
                · exact absurd ⟨fun h' => absurd h' p0, fun h' => absurd h' h⟩ c2
              subst n0
              have e1 : (port == 0) = false := by simpa using p0
              have e3 : (port != 0) = true := by simpa using p0
              clear c2
              go_wp2
              all_goals first
                | (go_ret; exact ⟨ret_int (fault_here HT.out HL.out HF.out H0.out HF2.out (by omega)), hb.alloc hb.size _⟩)
                | (exfalso; omega)
          · have HF2 : Hid (viaF (l.take k) hop port next = if (l.take k).any (fun t => t.hop == hop) = true then 8 else 0) := by show _ = _; unfold viaF; rw [if_neg c1, if_neg c2, if_neg c3]
            have x1 : ¬ port < 0 := by omega
            have x2 : ¬ 999 < port := by omega
            have x3 : ¬ next < 0 := by omega
            have x4 : ¬ 999 < next := by omega
            have f1 : decide (port < 0) = false := decide_eq_false x1
            have f2 : decide (999 < port) = false := decide_eq_false x2
            have f3 : decide (next < 0) = false := decide_eq_false x3
            have f4 : decide (999 < next) = false := decide_eq_false x4
            have e5 : ((port == 0) && (next == 0)) = false := by
              by_cases p0 : port = 0
              · have n0 : ¬ next = 0 := fun h => c2 ⟨fun _ => h, fun _ => p0⟩
                simp [n0]
              · simp [p0]
            have e6 : ((port != 0) && (next != 0)) = false := by
              by_cases p0 : port = 0
              · simp [p0]
              · have n0 : next = 0 := by
                  by_cases h : next = 0
                  · exact h
                  · exact absurd ⟨fun h' => absurd h' p0, fun h' => absurd h' h⟩ c2
                simp [n0]
            clear c1 c3
            obtain ⟨wo, rfl⟩ : ∃ wo : World, wo = wr := ⟨_, rfl⟩
            have HRK := Lib.hid (HR.out.takeV ViaV.cells_length HZ.out (by omega : k ≤ n))
            have HZK : Hid ((l.take k).length = k) := by show _ = _; rw [List.length_take, HZ.out]; omega
            have HBO := Lib.hid hb
            have hsz := hb.size
            have HP2 := Lib.hid c2
            clear hb c2
            generalize hlk0 : l.take k = lk at *
            clear hlk0
            have fin : ∀ (b1 b2 : Bool), b1 = (port == 0) → b2 = (next == 0) → True := fun _ _ _ _ => trivial
            clear fin
            by_cases p0 : port = 0
            · have n0 : ¬ next = 0 := fun h => HP2.out ⟨fun _ => h, fun _ => p0⟩
              subst p0
              have g1 : (next == 0) = false := by simpa using n0
              have g2 : (next != 0) = true := by simpa using n0
              clear n0 e5 e6
              go_wp2_with fail
              go_loopw [65, 6] (fun i _ wr => ∃ j : Nat, j ≤ k ∧ i = .int .i64 j ∧ NoneYet (fun t : ViaV => t.hop == hop) lk j ∧ Below (wo.alloc (.cells #[.int .i64 hop, .int .i64 0, .int .i64 next] 72)).heap.size (wo.alloc (.cells #[.int .i64 hop, .int .i64 0, .int .i64 next] 72)) wr) (fun i _ _ => k - (intOf i).toNat)
              case atStart => exact ⟨0, by omega, rfl, noneYet_zero _ _, Below.refl _ _⟩
              case round =>
                obtain ⟨j, hj, rfl, hno, hbr⟩ := hrel
                have HN := Lib.hid hno
                have HB := Lib.hid (below_step (HBO.out.alloc hsz _) hbr)
                have hb := HB.out
                obtain ⟨fc, ff⟩ := bcell hbr
                have s1 := bsize1 hbr
                have HBR := Lib.hid hbr
                clear hno hbr q0 q1 q2
                by_cases hlt2 : j < k
                · obtain ⟨ad', ⟨th, tp, tn⟩, hadd, hlk, htk, hmem, hbk, hc0, hcj⟩ := HRK.out.atS ViaV.cells_length HZK.out hlt2
                  injection hadd with hadd
                  subst hadd
                  have q0 := (hb.cell (p := ad.add (j * 3)) (by rw [block_of_add]; exact hbk)).trans (hc0 _ rfl)
                  have q1 := (hb.cell (p := ⟨(ad.add (j * 3)).block, (ad.add (j * 3)).off + 1, none⟩) (by rw [block_of_add]; exact hbk)).trans (hcj 1 _ rfl)
                  have q2 := (hb.cell (p := ⟨(ad.add (j * 3)).block, (ad.add (j * 3)).off + 2, none⟩) (by rw [block_of_add]; exact hbk)).trans (hcj 2 _ rfl)
                  have HLK2 := Lib.hid hlk
                  have HTK2 := Lib.hid htk
                  clear hlk htk hmem hbk hc0 hcj hb
                  by_cases he : th = hop
                  · subst he
                    have HV : Hid (lk.any (fun t => t.hop == th) = true) := by
                      show _ = _
                      rw [List.any_eq_true]
                      exact ⟨_, List.mem_of_getElem? HLK2.out, by simp⟩
                    go_wp2
                    go_ret
                    exact ⟨ret_int (fault_here HT.out HL.out HF.out H0.out (HF2.out.trans (by rw [HV.out, if_pos rfl])) (by omega)), HB.out.alloc HB.out.size _⟩
                  · have he2 : (th == hop) = false := by simpa using he
                    have HNE : Hid ((th == hop) = false) := he2
                    have HN2 := Lib.hid (noneYet_succ HN.out HTK2.out HNE.out)
                    clear he
                    go_wp2
                    go_roundw
                    case rel => exact ⟨j + 1, by omega, by go_num, HN2.out, HBR.out.alloc HBR.out.size _⟩
                    case measure => simp [intOf]; omega
                · obtain rfl : j = k := by omega
                  have HV : Hid (lk.any (fun t => t.hop == hop) = false) := by
                    show _ = _
                    rw [List.any_eq_false]
                    intro x hx
                    have := HN.out x (by rw [List.take_of_length_le (by rw [HZK.out]; omega)]; exact hx)
                    simp only at this
                    simp [this]
                  clear hb
                  go_wp2
                  go_roundw
                  case rel => exact ⟨j + 1, by omega, by go_num, noneTo_succ HT.out HK.out (HF.out.trans (HF2.out.trans (by rw [HV.out, if_neg (by simp)]))), HB.out⟩
                  case measure => simp [intOf]; omega
            · have n0 : next = 0 := by
                by_cases h : next = 0
                · exact h
                · exact absurd ⟨fun h' => absurd h' p0, fun h' => absurd h' h⟩ HP2.out
              subst n0
              have g1 : (port == 0) = false := by simpa using p0
              have g2 : (port != 0) = true := by simpa using p0
              clear p0 e5 e6
              go_wp2_with fail
              go_loopw [65, 6] (fun i _ wr => ∃ j : Nat, j ≤ k ∧ i = .int .i64 j ∧ NoneYet (fun t : ViaV => t.hop == hop) lk j ∧ Below (wo.alloc (.cells #[.int .i64 hop, .int .i64 port, .int .i64 0] 72)).heap.size (wo.alloc (.cells #[.int .i64 hop, .int .i64 port, .int .i64 0] 72)) wr) (fun i _ _ => k - (intOf i).toNat)
              case atStart => exact ⟨0, by omega, rfl, noneYet_zero _ _, Below.refl _ _⟩
              case round =>
                obtain ⟨j, hj, rfl, hno, hbr⟩ := hrel
                have HN := Lib.hid hno
                have HB := Lib.hid (below_step (HBO.out.alloc hsz _) hbr)
                have hb := HB.out
                obtain ⟨fc, ff⟩ := bcell hbr
                have s1 := bsize1 hbr
                have HBR := Lib.hid hbr
                clear hno hbr q0 q1 q2
                by_cases hlt2 : j < k
                · obtain ⟨ad', ⟨th, tp, tn⟩, hadd, hlk, htk, hmem, hbk, hc0, hcj⟩ := HRK.out.atS ViaV.cells_length HZK.out hlt2
                  injection hadd with hadd
                  subst hadd
                  have q0 := (hb.cell (p := ad.add (j * 3)) (by rw [block_of_add]; exact hbk)).trans (hc0 _ rfl)
                  have q1 := (hb.cell (p := ⟨(ad.add (j * 3)).block, (ad.add (j * 3)).off + 1, none⟩) (by rw [block_of_add]; exact hbk)).trans (hcj 1 _ rfl)
                  have q2 := (hb.cell (p := ⟨(ad.add (j * 3)).block, (ad.add (j * 3)).off + 2, none⟩) (by rw [block_of_add]; exact hbk)).trans (hcj 2 _ rfl)
                  have HLK2 := Lib.hid hlk
                  have HTK2 := Lib.hid htk
                  clear hlk htk hmem hbk hc0 hcj hb
                  by_cases he : th = hop
                  · subst he
                    have HV : Hid (lk.any (fun t => t.hop == th) = true) := by
                      show _ = _
                      rw [List.any_eq_true]
                      exact ⟨_, List.mem_of_getElem? HLK2.out, by simp⟩
                    go_wp2
                    go_ret
                    exact ⟨ret_int (fault_here HT.out HL.out HF.out H0.out (HF2.out.trans (by rw [HV.out, if_pos rfl])) (by omega)), HB.out.alloc HB.out.size _⟩
                  · have he2 : (th == hop) = false := by simpa using he
                    have HNE : Hid ((th == hop) = false) := he2
                    have HN2 := Lib.hid (noneYet_succ HN.out HTK2.out HNE.out)
                    clear he
                    go_wp2
                    go_roundw
                    case rel => exact ⟨j + 1, by omega, by go_num, HN2.out, HBR.out.alloc HBR.out.size _⟩
                    case measure => simp [intOf]; omega
                · obtain rfl : j = k := by omega
                  have HV : Hid (lk.any (fun t => t.hop == hop) = false) := by
                    show _ = _
                    rw [List.any_eq_false]
                    intro x hx
                    have := HN.out x (by rw [List.take_of_length_le (by rw [HZK.out]; omega)]; exact hx)
                    simp only at this
                    simp [this]
                  clear hb
                  go_wp2
                  go_roundw
                  case rel => exact ⟨j + 1, by omega, by go_num, noneTo_succ HT.out HK.out (HF.out.trans (HF2.out.trans (by rw [HV.out, if_neg (by simp)]))), HB.out⟩
                  case measure => simp [intOf]; omega
    · obtain rfl : k = n := by omega
      have HR2 := Lib.hid (firstF_end HT.out (by simp))
      go_wp2
      go_ret
      exact ⟨ret_int (HR2.out.symm.trans H0.out.symm), hb⟩

set_option maxHeartbeats 400000 in
theorem viaFault_big (A : Option Addr) (n c : Nat) (w : World) (hn : 60 < n) (hm : n ≤ maxLen) :
    Calls Try.prog 70 #[.slice A n c] w fun e w' => e = .returned (.int .i64 1) ∧ Below w.heap.size w w' := by
  unfold maxLen at hm
  go_enter Try.func70, Try.ntmps70
  go_wp2
  go_ret
  exact ⟨rfl, Below.refl _ _⟩
theorem viaFault_is {A : Option Addr} {n c : Nat} {l : List ViaV} {w : World} (h : IsVias w A n c l) :
    Calls Try.prog 70 #[.slice A n c] w fun e w' => e = .returned (.int .i64 (viasF l)) ∧ Below w.heap.size w w' := by
  unfold viasF
  have h1 := h.1
  by_cases hn : 60 < l.length
  · rw [if_pos hn]
    exact viaFault_big A n c w (by omega) (by have := h.2.1; omega)
  · rw [if_neg hn]
    exact viaFault_any A n c l w (by omega) h.2.1.1 h.2.1.2 h1 h.2.2.1 h.2.2.2

end Go.Proofs.Ytmljdjakbbedlaa

namespace Go.Proofs.Ytmljdjakbbedlaa
open Go.ChangeShapes Go.WideShapes Go.ChangeAt Go.RowKit
open Go.Maps (Keyed)

/-- What the map of vias holds. -/
noncomputable def viaMap (l : List ViaV) : Lit → Option Value := l.foldl (fun F v => putF F (.int .i64 v.hop) v.val) (fun _ => none)
theorem viaMap_snoc (l : List ViaV) (v : ViaV) : viaMap (l ++ [v]) = putF (viaMap l) (.int .i64 v.hop) v.val := by simp [viaMap, List.foldl_append]
theorem lit_ne {a b : Int} (h : ¬ a = b) : ¬ (Lit.int .i64 a = Lit.int .i64 b) := fun he => h (by injection he)
theorem viaMap_any (h : Int) (l : List ViaV) : (viaMap l (.int .i64 h)).isSome = l.any (fun t => t.hop == h) := by
  induction hn : l.length generalizing l with
  | zero =>
    have : l = [] := List.eq_nil_of_length_eq_zero hn
    subst this
    rfl
  | succ n ih =>
    rcases List.eq_nil_or_concat l with rfl | ⟨l', v, rfl⟩
    · simp at hn
    · rw [List.concat_eq_append] at *
      rw [viaMap_snoc, List.any_append]
      have := ih l' (by simpa using hn)
      unfold putF
      by_cases he : h = v.hop
      · subst he
        rw [if_pos rfl]
        simp
      · rw [if_neg (lit_ne he), this]
        have : (v.hop == h) = false := by simpa using fun hh => he hh.symm
        simp [this]

theorem viaMap_val (l : List ViaV) (h : Int) : ∃ a b c : Int, (viaMap l (.int .i64 h)).getD (.agg #[.int .i64 0, .int .i64 0, .int .i64 0]) = .agg #[.int .i64 a, .int .i64 b, .int .i64 c] := by
  induction hn : l.length generalizing l with
  | zero =>
    have : l = [] := List.eq_nil_of_length_eq_zero hn
    subst this
    exact ⟨0, 0, 0, rfl⟩
  | succ n ih =>
    rcases List.eq_nil_or_concat l with rfl | ⟨l', v, rfl⟩
    · simp at hn
    · rw [List.concat_eq_append] at *
      rw [viaMap_snoc]
      unfold putF
      by_cases he : h = v.hop
      · subst he
        rw [if_pos rfl]
        exact ⟨_, _, _, rfl⟩
      · rw [if_neg (lit_ne he)]
        exact ih l' (by simpa using hn)

def outB (n least : Int) : Bool := decide (n < least) || decide (999 < n)
set_option maxHeartbeats 400000 in
theorem viaOut_any (n least : Int) (w : World) : Calls Try.prog 118 #[.int .i64 n, .int .i64 least] w fun e w' => e = .returned (.bool (outB n least)) ∧ w = w' := by
  by_cases h1 : n < least
  · rw [show outB n least = true from by simp [outB, h1]]
    go_enter Try.func118, Try.ntmps118
    go_wp2
    go_ret
    exact ⟨rfl, rfl⟩
  · rw [show outB n least = decide (999 < n) from by simp [outB, h1]]
    have hd : decide (n < least) = false := by simpa using h1
    go_enter Try.func118, Try.ntmps118
    go_wp2
    go_ret
    exact ⟨rfl, rfl⟩

theorem keyInt : Keyed Try.prog 3 := Maps.int_keyed Try.underlying3
theorem zeroVia (w : World) : (zeroValue 72).run Try.prog w = .ok (.agg #[.int .i64 0, .int .i64 0, .int .i64 0]) w := by kernel_rfl
theorem hopKey (h : Int) (hr : -9223372036854775808 ≤ h ∧ h ≤ 9223372036854775807) : keyOf Try.prog 3 (.int .i64 h) = some (.int .i64 h) := Maps.keyOf_int_mk Try.underlying3 (WalkArith.wf_i64 hr)
theorem makeVias (n : Nat) (w : World) : (Instr.makeMap 138 (some (.int .i64 n))).run Try.prog w = .ok (.map (some w.heap.size)) (w.alloc (.map #[] 0)) := by kernel_rfl

theorem ret_mi {m : Value} {a b : Int} (h : a = b) : Ending.returned (.tuple #[m, .int .i64 a]) = Ending.returned (.tuple #[m, .int .i64 b]) := by rw [h]

/-- What via.known returns, and what it leaves. -/
def KnownPost (l : List ViaV) (w : World) (e : Ending) (w' : World) : Prop :=
  Below w.heap.size w w' ∧ ((¬ viasE l = 0 ∧ e = .returned (.tuple #[.map none, .int .i64 (viasE l)])) ∨ (viasE l = 0 ∧ e = .returned (.tuple #[.map (some w.heap.size), .int .i64 0]) ∧ MapF w' Try.prog 3 w.heap.size l.length (viaMap l)))

set_option maxRecDepth 100000 in
set_option maxHeartbeats 1600000 in
theorem known_any (A : Option Addr) (n c : Nat) (l : List ViaV) (w : World) (hn2 : n ≤ 60) (hnc : n ≤ c) (_hcm : c ≤ maxLen) (hz : l.length = n) (ho : ∀ r ∈ l, r.Ok) (hr : Reads w w.heap.size 3 A n (l.flatMap ViaV.cells)) :
    Calls Try.prog 65 #[.slice A n c] w (KnownPost l w) := by
  have HZ := Lib.hid hz
  have HR := Lib.hid hr
  have HOK := Lib.hid ho
  unfold maxLen at _hcm
  have H0 : Hid (viasE l = firstF (viaAt l) (List.range n)) := by show _ = _; unfold viasE; rw [hz]
  have hmk := makeVias n
  clear hz hr ho
  go_enter Try.func65, Try.ntmps65
  go_wp2
  go_loopw [17, 6, 7, 8] (fun i _ _ _ wr => ∃ k : Nat, k ≤ n ∧ i = .int .i64 k ∧ NoneTo (viaAt l) (List.range n) k ∧ MapF wr Try.prog 3 w.heap.size k (viaMap (l.take k)) ∧ Below w.heap.size w wr) (fun i _ _ _ _ => n - (intOf i).toNat)
  case atStart => exact ⟨0, by omega, rfl, rfl, MapF.made _ _ _, (Below.refl _ _).alloc (Nat.le_refl _) _⟩
  case round =>
    obtain ⟨k, hk, rfl, hto, hmap, hb⟩ := hrel
    have HT := Lib.hid hto
    have HM := Lib.hid hmap
    have hsz := hmap.lt
    have hszb := hb.size
    have d0 : ¬ wr.heap.size = w.heap.size := by omega
    clear hto hmap
    by_cases hlt : k < n
    · obtain ⟨ad, ⟨hop, port, next⟩, rfl, hlk, htk, hmem, hbk, hc0, hcj⟩ := HR.out.atS ViaV.cells_length HZ.out hlt
      have q0 := (hb.cell (p := ad.add (k * 3)) (by rw [block_of_add]; exact hbk)).trans (hc0 _ rfl)
      have q1 := (hb.cell (p := ⟨(ad.add (k * 3)).block, (ad.add (k * 3)).off + 1, none⟩) (by rw [block_of_add]; exact hbk)).trans (hcj 1 _ rfl)
      have q2 := (hb.cell (p := ⟨(ad.add (k * 3)).block, (ad.add (k * 3)).off + 2, none⟩) (by rw [block_of_add]; exact hbk)).trans (hcj 2 _ rfl)
      have hok := HOK.out _ hmem
      obtain ⟨r1, r2, r3⟩ := hok
      simp only at r1 r2 r3
      have hfd : viaAt l k = viaF (l.take k) hop port next := by unfold viaAt; rw [hlk]
      have HF := Lib.hid hfd
      have HL := Lib.hid (range_at (n := n) hlt)
      have HK := Lib.hid (range_take (n := n) hlt)
      have HLK := Lib.hid hlk
      have HTK := Lib.hid htk
      have hkc : (k : Int) ≤ (c : Int) := by omega
      have hkc2 : (k : Int) ≤ 60 := by omega
      clear hlk htk hmem hbk hc0 hcj hfd
      have HMA : Hid (∀ (o : Obj), MapF (wr.alloc o) Try.prog 3 w.heap.size k (viaMap (l.take k))) := fun o => HM.out.alloc o
      have HBO := Lib.hid hb
      clear hb
      have HO1 := Lib.hid (fun w => viaOut_any hop 1 w)
      have HO2 := Lib.hid (fun w => viaOut_any port 0 w)
      have HO3 := Lib.hid (fun w => viaOut_any next 0 w)
      by_cases c1 : hop < 1 ∨ 999 < hop
      · have HF2 : Hid (viaF (l.take k) hop port next = 2) := by show _ = _; unfold viaF; rw [if_pos c1]
        have hv : outB hop 1 = true := by unfold outB; simpa using c1
        rw [hv] at HO1
        have HFH := Lib.hid (fault_here HT.out HL.out HF.out H0.out HF2.out (by omega))
        clear c1 hv
        go_wp2_with fail
        refine (HO1.out _).mono ?_
        rintro e w' ⟨rfl, rfl⟩
        go_wp2
        go_ret2
        exact ⟨HBO.out.alloc hszb _, .inl ⟨by rw [← HFH.out]; omega, ret_mi HFH.out⟩⟩
      · have hv : outB hop 1 = false := by unfold outB; simp; omega
        rw [hv] at HO1
        clear hv
        by_cases c2 : (port = 0 ↔ next = 0)
        · have HF2 : Hid (viaF (l.take k) hop port next = 4) := by show _ = _; unfold viaF; rw [if_neg c1, if_pos c2]
          have HFH := Lib.hid (fault_here HT.out HL.out HF.out H0.out HF2.out (by omega))
          have he : ((port == 0) == (next == 0)) = true := by
            by_cases p0 : port = 0
            · simp [p0, c2.1 p0]
            · have n0 : ¬ next = 0 := fun h => p0 (c2.2 h)
              have e1 : (port == 0) = false := by simpa using p0
              have e2 : (next == 0) = false := by simpa using n0
              rw [e1, e2]; rfl
          clear c1 c2
          go_wp2_with fail
          refine (HO1.out _).mono ?_
          rintro e w' ⟨rfl, rfl⟩
          go_wp2
          go_ret2
          exact ⟨HBO.out.alloc hszb _, .inl ⟨by rw [← HFH.out]; omega, ret_mi HFH.out⟩⟩
        · have he : ((port == 0) == (next == 0)) = false := by
            by_cases p0 : port = 0
            · have n0 : ¬ next = 0 := fun h => c2 ⟨fun _ => h, fun _ => p0⟩
              have e2 : (next == 0) = false := by simpa using n0
              rw [e2, p0]; rfl
            · have n0 : next = 0 := by
                by_cases h : next = 0
                · exact h
                · exact absurd ⟨fun h' => absurd h' p0, fun h' => absurd h' h⟩ c2
              have e1 : (port == 0) = false := by simpa using p0
              rw [e1, n0]; rfl
          by_cases c3 : port < 0 ∨ 999 < port ∨ next < 0 ∨ 999 < next
          · have HF2 : Hid (viaF (l.take k) hop port next = 2) := by show _ = _; unfold viaF; rw [if_neg c1, if_neg c2, if_pos c3]
            have HFH := Lib.hid (fault_here HT.out HL.out HF.out H0.out HF2.out (by omega))
            by_cases c4 : port < 0 ∨ 999 < port
            · have hv : outB port 0 = true := by unfold outB; simpa using c4
              rw [hv] at HO2
              clear c1 c2 c3 c4 hv
              go_wp2_with fail
              refine (HO1.out _).mono ?_
              rintro e w' ⟨rfl, rfl⟩
              go_wp2_with fail
              refine (HO2.out _).mono ?_
              rintro e w' ⟨rfl, rfl⟩
              go_wp2
              go_ret2
              exact ⟨HBO.out.alloc hszb _, .inl ⟨by rw [← HFH.out]; omega, ret_mi HFH.out⟩⟩
            · have hv : outB port 0 = false := by unfold outB; simp; omega
              have hv3 : outB next 0 = true := by unfold outB; simp; omega
              rw [hv] at HO2
              rw [hv3] at HO3
              clear c1 c2 c3 c4 hv hv3
              go_wp2_with fail
              refine (HO1.out _).mono ?_
              rintro e w' ⟨rfl, rfl⟩
              go_wp2_with fail
              refine (HO2.out _).mono ?_
              rintro e w' ⟨rfl, rfl⟩
              go_wp2_with fail
              refine (HO3.out _).mono ?_
              rintro e w' ⟨rfl, rfl⟩
              go_wp2
              go_ret2
              exact ⟨HBO.out.alloc hszb _, .inl ⟨by rw [← HFH.out]; omega, ret_mi HFH.out⟩⟩
          · have HF2 : Hid (viaF (l.take k) hop port next = if (l.take k).any (fun t => t.hop == hop) = true then 8 else 0) := by show _ = _; unfold viaF; rw [if_neg c1, if_neg c2, if_neg c3]
            have hv : outB port 0 = false := by unfold outB; simp; omega
            have hv3 : outB next 0 = false := by unfold outB; simp; omega
            rw [hv] at HO2
            rw [hv3] at HO3
            clear hv hv3 c2 c3
            have HKY := Lib.hid (hopKey hop (by omega))
            have hany := viaMap_any hop (l.take k)
            have hlook : ∀ o, (Instr.lookup 138 (.map (some w.heap.size)) (.int .i64 hop) true).run Try.prog (wr.alloc o) = .ok (.tuple #[(viaMap (l.take k) (.int .i64 hop)).getD (.agg #[.int .i64 0, .int .i64 0, .int .i64 0]), .bool ((l.take k).any (fun t => t.hop == hop))]) (wr.alloc o) := by
              intro o
              rw [← hany]
              exact (HMA.out o).look keyInt Try.underlying138 (zeroVia _) HKY.out (keyLit_int _ _)
            generalize hva : (viaMap (l.take k) (.int .i64 hop)).getD (.agg #[.int .i64 0, .int .i64 0, .int .i64 0]) = va at *
            have HVA : Hid (∃ a b c : Int, va = .agg #[.int .i64 a, .int .i64 b, .int .i64 c]) := by
              show ∃ a b c : Int, _
              rw [← hva]
              exact viaMap_val (l.take k) hop
            obtain ⟨va1, va2, va3, hva'⟩ := HVA.out
            subst hva'
            generalize hvb : (l.take k).any (fun t => t.hop == hop) = vb at *
            have HVB := Lib.hid hvb
            clear hva hvb hany HVA
            cases vb
            · have HN2 := Lib.hid (noneTo_succ HT.out HK.out (HF.out.trans (HF2.out.trans (by rw [if_neg (by simp)]))))
              have HPUT : Hid (putF (viaMap (l.take k)) (.int .i64 hop) (.agg #[.int .i64 hop, .int .i64 port, .int .i64 next]) = viaMap (l.take (k + 1))) := by
                show _ = _
                rw [HTK.out, viaMap_snoc]
                rfl
              go_wp2_with fail
              refine (HO1.out _).mono ?_
              rintro e w' ⟨rfl, rfl⟩
              go_wp2_with fail
              refine (HO2.out _).mono ?_
              rintro e w' ⟨rfl, rfl⟩
              go_wp2_with fail
              refine (HO3.out _).mono ?_
              rintro e w' ⟨rfl, rfl⟩
              go_wp2_with (at_mapUpdate; refine wpList_mapUpdate_F rfl _ _ _ 138 rfl 72 keyInt Try.underlying138 rfl ((HM.out.alloc _).alloc _) (by unfold maxLen; omega) (.int .i64 hop) (.agg #[.int .i64 hop, .int .i64 port, .int .i64 next]) (.int .i64 hop) rfl rfl HKY.out (keyLit_int _ _) ?_; intro w1 hm1 hg1)
              rw [HPUT.out] at hm1
              have HM1 := Lib.hid hm1
              have HB1 := Lib.hid (((HBO.out.alloc hszb _).alloc (by simp; omega) _).grown hg1 (by simp; omega) (fun j hj => by injection hj with hj; omega))
              clear hm1 hg1
              go_roundw
              case rel => exact ⟨k + 1, by omega, by go_num, HN2.out, HM1.out, HB1.out⟩
              case measure => simp [intOf]; omega
            · have HFH := Lib.hid (fault_here HT.out HL.out HF.out H0.out (HF2.out.trans (by rw [if_pos rfl])) (by omega))
              go_wp2_with fail
              refine (HO1.out _).mono ?_
              rintro e w' ⟨rfl, rfl⟩
              go_wp2_with fail
              refine (HO2.out _).mono ?_
              rintro e w' ⟨rfl, rfl⟩
              go_wp2_with fail
              refine (HO3.out _).mono ?_
              rintro e w' ⟨rfl, rfl⟩
              go_wp2
              go_ret2
              exact ⟨(HBO.out.alloc hszb _).alloc (by simp; omega) _, .inl ⟨by rw [← HFH.out]; omega, ret_mi HFH.out⟩⟩
    · obtain rfl : k = n := by omega
      have HR2 := Lib.hid (firstF_end HT.out (by simp))
      rw [List.take_of_length_le (by rw [HZ.out]; omega)] at HM
      go_wp2
      go_ret2
      exact ⟨hb, .inr ⟨by rw [H0.out]; exact HR2.out, rfl, by rw [HZ.out]; exact HM.out⟩⟩

set_option maxHeartbeats 400000 in
theorem known_big (A : Option Addr) (n c : Nat) (w : World) (hn : 60 < n) (hm : n ≤ maxLen) :
    Calls Try.prog 65 #[.slice A n c] w fun e w' => e = .returned (.tuple #[.map none, .int .i64 1]) ∧ Below w.heap.size w w' := by
  unfold maxLen at hm
  go_enter Try.func65, Try.ntmps65
  go_wp2
  go_ret2
  exact ⟨rfl, Below.refl _ _⟩

/-- What via.known returns, whatever the list. -/
def KnownIs (l : List ViaV) (w : World) (e : Ending) (w' : World) : Prop :=
  Below w.heap.size w w' ∧ ((¬ viasF l = 0 ∧ e = .returned (.tuple #[.map none, .int .i64 (viasF l)])) ∨ (viasF l = 0 ∧ e = .returned (.tuple #[.map (some w.heap.size), .int .i64 0]) ∧ MapF w' Try.prog 3 w.heap.size l.length (viaMap l)))

theorem known_is {A : Option Addr} {n c : Nat} {l : List ViaV} {w : World} (h : IsVias w A n c l) : Calls Try.prog 65 #[.slice A n c] w (KnownIs l w) := by
  have h1 := h.1
  by_cases hn : 60 < l.length
  · have hf : viasF l = 1 := by unfold viasF; rw [if_pos hn]
    refine (known_big A n c w (by omega) (by have := h.2.1; omega)).mono ?_
    rintro e w' ⟨rfl, hb⟩
    exact ⟨hb, .inl ⟨by omega, by rw [hf]⟩⟩
  · have hf : viasF l = viasE l := by unfold viasF; rw [if_neg hn]
    refine (known_any A n c l w (by omega) h.2.1.1 h.2.1.2 h1 h.2.2.1 h.2.2.2).mono ?_
    intro e w' he
    unfold KnownIs
    rw [hf]
    exact he

end Go.Proofs.Ytmljdjakbbedlaa

namespace Go.Proofs.Ytmljdjakbbedlaa
open Go.ChangeShapes Go.WideShapes Go.ChangeAt Go.RowKit
open Go.Maps (Keyed)

/-- The first via of a hop. -/
def viaGet (l : List ViaV) (h : Int) : Option ViaV := l.find? (fun v => v.hop == h)
/-- The port of a hop, when others were come to: the port, how many, and the error. -/
def portR (l : List ViaV) : Nat → Int → List Int → Int × Int × Int
  | 0, _, _ => (0, 0, 9)
  | f + 1, h, seen => match viaGet l h with
    | none => (0, 0, 7)
    | some v => if seen.contains h = true then (0, 0, 10) else if 8 < seen.length then (0, 0, 9) else if 0 < v.port then (v.port, seen.length, 0) else portR l f v.next (seen ++ [h])

/-- No hop twice. -/
def Dist (l : List ViaV) : Prop := ∀ i v, l[i]? = some v → (l.take i).any (fun t => t.hop == v.hop) = false
theorem Dist.snoc {l : List ViaV} {v : ViaV} (h : Dist (l ++ [v])) : Dist l ∧ l.any (fun t => t.hop == v.hop) = false := by
  constructor
  · intro i u hu
    have hi := (List.getElem?_eq_some_iff.1 hu).1
    have := h i u (by rw [List.getElem?_append_left hi]; exact hu)
    rwa [List.take_append_of_le_length (by omega)] at this
  · have := h l.length v (by rw [List.getElem?_append_right (Nat.le_refl _)]; simp)
    rwa [List.take_append_of_le_length (Nat.le_refl _), List.take_length] at this
theorem viaMap_get (h : Int) (l : List ViaV) (hd : Dist l) : viaMap l (.int .i64 h) = (viaGet l h).map ViaV.val := by
  induction hn : l.length generalizing l with
  | zero =>
    have : l = [] := List.eq_nil_of_length_eq_zero hn
    subst this
    rfl
  | succ n ih =>
    rcases List.eq_nil_or_concat l with rfl | ⟨l', v, rfl⟩
    · simp at hn
    · rw [List.concat_eq_append] at *
      obtain ⟨h1, h2⟩ := hd.snoc
      have ih' := ih l' h1 (by simpa using hn)
      rw [viaMap_snoc]
      unfold putF viaGet
      rw [List.find?_append]
      by_cases he : h = v.hop
      · subst he
        rw [if_pos rfl]
        have : l'.find? (fun t => t.hop == v.hop) = none := by
          rw [List.find?_eq_none]
          intro x hx
          rw [List.any_eq_false] at h2
          exact h2 x hx
        rw [this]
        simp
      · rw [if_neg (lit_ne he), ih']
        have : (v.hop == h) = false := by simpa using fun hh => he hh.symm
        unfold viaGet
        cases l'.find? (fun v => v.hop == h) <;> simp [this]

theorem firstF_zero {α : Type} {f : α → Int} : ∀ {l : List α}, firstF f l = 0 → ∀ x ∈ l, f x = 0
  | [], _, x, hx => by simp at hx
  | y :: l, h, x, hx => by
    unfold firstF at h
    by_cases hy : f y = 0
    · rw [if_pos hy] at h
      rcases List.mem_cons.1 hx with rfl | hx
      · exact hy
      · exact firstF_zero h x hx
    · rw [if_neg hy] at h
      exact absurd h hy
theorem valid_at {l : List ViaV} (h : viasF l = 0) {i : Nat} {v : ViaV} (hi : l[i]? = some v) :
    (1 ≤ v.hop ∧ v.hop ≤ 999) ∧ (0 ≤ v.port ∧ v.port ≤ 999) ∧ (0 ≤ v.next ∧ v.next ≤ 999) ∧ (l.take i).any (fun t => t.hop == v.hop) = false := by
  have hE : viasE l = 0 := by
    unfold viasF at h
    by_cases hn : 60 < l.length
    · rw [if_pos hn] at h; omega
    · rwa [if_neg hn] at h
  have hlt := (List.getElem?_eq_some_iff.1 hi).1
  have hz := firstF_zero hE i (by simpa using hlt)
  unfold viaAt at hz
  rw [hi] at hz
  simp only [viaF] at hz
  by_cases c1 : v.hop < 1 ∨ 999 < v.hop
  · rw [if_pos c1] at hz; omega
  · rw [if_neg c1] at hz
    by_cases c2 : (v.port = 0 ↔ v.next = 0)
    · rw [if_pos c2] at hz; omega
    · rw [if_neg c2] at hz
      by_cases c3 : v.port < 0 ∨ 999 < v.port ∨ v.next < 0 ∨ 999 < v.next
      · rw [if_pos c3] at hz; omega
      · rw [if_neg c3] at hz
        by_cases c4 : (l.take i).any (fun t => t.hop == v.hop) = true
        · rw [if_pos c4] at hz; omega
        · exact ⟨by omega, by omega, by omega, by simpa using c4⟩
theorem valid_dist {l : List ViaV} (h : viasF l = 0) : Dist l := fun _ _ hi => (valid_at h hi).2.2.2

/-- slices.Contains of a row of ints, wherever it lies. -/
theorem contains_any (A : Option Addr) (n c : Nat) (l : List Int) (x : Int) (w : World) (B : Nat) (hm : n ≤ maxLen) (hr : Reads w B 1 A n (l.map (Value.int .i64))) :
    Calls Try.prog 119 #[.slice A n c, .int .i64 x] w fun e w' => e = .returned (.bool (l.contains x)) ∧ w = w' := by
  have hl : l.length = n := by have := hr.1; simpa using this
  rcases Nat.eq_zero_or_pos n with hn | hn
  · subst hn
    have : l = [] := List.eq_nil_of_length_eq_zero hl
    subst this
    refine (Try.slices_Contains_int_empty A c x w).mono ?_
    rintro e w' ⟨rfl, rfl⟩
    exact ⟨rfl, rfl⟩
  · obtain ⟨ad, rfl, hb, hc⟩ := hr.2 hn
    obtain ⟨x0, hx0⟩ : ∃ x0, l[0]? = some x0 := ⟨_, List.getElem?_eq_getElem (by omega)⟩
    have hc0 := hc 0 (.int .i64 x0) (by rw [List.getElem?_map, hx0]; rfl)
    have hs := World.cell?_spot hc0
    obtain ⟨b, o, s⟩ := ad
    simp [Addr.add] at hs
    subst hs
    unfold maxLen at hm
    refine (Try.slices_Contains_int b o n c l x w (by omega) (by omega) (fun j hj => ?_)).mono ?_
    · have := hc j (.int .i64 (l.getD j 0)) (by rw [List.getElem?_map, List.getElem?_eq_getElem hj, List.getD_eq_getElem?_getD, List.getElem?_eq_getElem hj]; rfl)
      rw [show (⟨b, o, none⟩ : Addr).add j = ⟨b, o + j, none⟩ from by unfold Addr.add; split <;> simp_all] at this
      exact this
    · rintro e w' ⟨rfl, rfl⟩
      exact ⟨by rw [List.take_of_length_le (by omega)], rfl⟩

theorem own_slice {w : World} {base : Nat} {e : TypeId} {size n : Nat} {v : Value} {xs : List Value} (h : w.ownsRow base e size v n xs) : ∃ A cap, v = .slice A n cap ∧ n ≤ maxLen := by
  rcases h.2 with ⟨rfl, rfl⟩ | ⟨g, cap, cur, rfl, _, _, h1, h2, _⟩
  · exact ⟨none, 0, rfl, by unfold maxLen; omega⟩
  · exact ⟨_, cap, rfl, by omega⟩

theorem ret3i {a b c a' b' c' : Int} (h : (a, b, c) = (a', b', c')) : Ending.returned (.tuple #[.int .i64 a, .int .i64 b, .int .i64 c]) = Ending.returned (.tuple #[.int .i64 a', .int .i64 b', .int .i64 c']) := by
  injection h with h1 h2
  injection h2 with h2 h3
  rw [h1, h2, h3]

set_option maxRecDepth 100000 in
set_option maxHeartbeats 1600000 in
theorem port_any (l : List ViaV) (hop : Int) (b m : Nat) (w : World) (hv : viasF l = 0) (ho : -9223372036854775808 ≤ hop ∧ hop ≤ 9223372036854775807) (hmap : MapF w Try.prog 3 b m (viaMap l)) :
    Calls Try.prog 66 #[.map (some b), .int .i64 hop] w fun e w' => e = .returned (.tuple #[.int .i64 (portR l 10 hop []).1, .int .i64 (portR l 10 hop []).2.1, .int .i64 (portR l 10 hop []).2.2]) ∧ Below w.heap.size w w' := by
  have HV := Lib.hid hv
  have HM := Lib.hid hmap
  have hbl := hmap.lt
  obtain ⟨R, hR⟩ : ∃ R, R = portR l 10 hop [] := ⟨_, rfl⟩
  rw [← hR]
  have HR := Lib.hid hR
  clear hv hmap hR
  go_enter Try.func66, Try.ntmps66
  go_wp2
  go_loopw [1, 7, 8, 9, 10] (fun hs sv d _ _ wr => ∃ (seen : List Int) (h : Int), seen.length ≤ 9 ∧ hs = .int .i64 h ∧ d = .int .i64 seen.length ∧ (-9223372036854775808 ≤ h ∧ h ≤ 9223372036854775807) ∧ R = portR l (10 - seen.length) h seen ∧ wr.ownsRow w.heap.size 3 1 sv seen.length (seen.map (Value.int .i64)) ∧ Below w.heap.size w wr) (fun _ _ d _ _ _ => 10 - (intOf d).toNat)
  case atStart => exact ⟨[], hop, by simp, rfl, rfl, ho, HR.out, World.ownsRow_nil _ _ _ _, Below.refl _ _⟩
  case round =>
    obtain ⟨seen, h, hs9, rfl, rfl, hh, hRr, hown, hb⟩ := hrel
    obtain ⟨A, cap, rfl, hml⟩ := own_slice hown
    have HOW := Lib.hid hown
    have HRR := Lib.hid hRr
    have HB := Lib.hid hb
    have hsb := hb.size
    have HMW := Lib.hid (HM.out.below hb hbl)
    have hget := viaMap_get h l (valid_dist HV.out)
    have hlook := HMW.out.look keyInt Try.underlying138 (zeroVia _) (hopKey h hh) (keyLit_int _ _)
    rw [hget] at hlook
    obtain ⟨f, hf⟩ : ∃ f, 10 - seen.length = f + 1 := ⟨9 - seen.length, by omega⟩
    rw [hf] at HRR
    have HC := Lib.hid (fun w' (hb' : Below wr.heap.size wr w') => contains_any A seen.length cap seen h w' wr.heap.size hml ((Reads.of_own hown).below hb'))
    clear hown hRr hb hget
    cases hg : viaGet l h with
    | none =>
      rw [hg] at hlook
      have HFIN : Hid (R = (0, 0, 7)) := by show R = _; rw [HRR.out]; simp only [portR, hg]
      simp only [Option.map_none, Option.getD_none, Option.isSome_none] at hlook
      clear hg
      go_wp2
      go_ret3
      exact ⟨ret3i HFIN.out.symm, HB.out.alloc HB.out.size _⟩
    | some v =>
      rw [hg] at hlook
      have hvv : ∃ i, l[i]? = some v := List.getElem?_of_mem (List.mem_of_find?_eq_some hg)
      obtain ⟨i, hi⟩ := hvv
      obtain ⟨_, hp, hnx, _⟩ := valid_at HV.out hi
      obtain ⟨vh, vp, vn⟩ := v
      simp only at hp hnx
      simp only [Option.map_some, Option.getD_some, Option.isSome_some, ViaV.val] at hlook
      have HG := Lib.hid hg
      clear hg hi
      cases hct : seen.contains h
      · by_cases h8 : 8 < seen.length
        · have HFIN : Hid (R = (0, 0, 9)) := by show R = _; rw [HRR.out]; simp only [portR, HG.out]; rw [hct, if_neg (by simp), if_pos h8]
          rw [hct] at HC
          have h8i : (8 : Int) < (seen.length : Int) := by omega
          clear hct h8
          go_wp2_with fail
          refine (HC.out _ ((Below.refl _ _).alloc (Nat.le_refl _) _)).mono ?_
          rintro e w' ⟨rfl, rfl⟩
          go_wp2
          go_ret3
          exact ⟨ret3i HFIN.out.symm, HB.out.alloc HB.out.size _⟩
        · have h8i : ¬ (8 : Int) < (seen.length : Int) := by omega
          by_cases hpp : 0 < vp
          · have HFIN : Hid (R = (vp, (seen.length : Int), 0)) := by show R = _; rw [HRR.out]; simp only [portR, HG.out]; rw [hct, if_neg (by simp), if_neg h8, if_pos hpp]
            rw [hct] at HC
            clear hct h8
            go_wp2_with fail
            refine (HC.out _ ((Below.refl _ _).alloc (Nat.le_refl _) _)).mono ?_
            rintro e w' ⟨rfl, rfl⟩
            go_wp2
            go_ret3
            exact ⟨ret3i HFIN.out.symm, HB.out.alloc HB.out.size _⟩
          · have HFIN : Hid (R = portR l f vn (seen ++ [h])) := by show R = _; rw [HRR.out]; simp only [portR, HG.out]; rw [hct, if_neg (by simp), if_neg h8, if_neg hpp]
            rw [hct] at HC
            clear hct
            go_wp2_with fail
            refine (HC.out _ ((Below.refl _ _).alloc (Nat.le_refl _) _)).mono ?_
            rintro e w' ⟨rfl, rfl⟩
            go_wp2_with (at_builtin; go_loud (refine wpList_append_oneN rfl _ _ 23 rfl w.heap.size (.int .i64 0) 1 8 Try.underlying23 infoInt rfl (by decide) _ _ _ rfl rfl ?c0 (HOW.out.alloc _) ?c1 rfl ?c2 ?c3 ?c4 ?_))
            case c0 => simp
            case c1 => simp; omega
            case c2 => intro u hu; simp at hu; subst hu; rfl
            case c3 => unfold maxLen; omega
            case c4 => omega
            intro v' w' hown' hb' _ hblk
            have HO2 : Hid (w'.ownsRow w.heap.size 3 1 v' (seen ++ [h]).length ((seen ++ [h]).map (Value.int .i64))) := by
              show World.ownsRow _ _ _ _ _ _ _
              rw [List.map_append, List.length_append]
              exact hown'
            have HB2 := Lib.hid ((HB.out.alloc HB.out.size _).trans hb')
            clear hown'
            have hvn : (-9223372036854775808 : Int) ≤ vn ∧ vn ≤ 9223372036854775807 := by omega
            have hcell : w'.cell? ⟨wr.heap.size, 2, none⟩ = some (.int .i64 vn) := by
              rw [World.cell?_of_block (w := wr.alloc (.cells #[.int .i64 vh, .int .i64 vp, .int .i64 vn] 72)) (a := ⟨wr.heap.size, 2, none⟩) (hblk wr.heap.size (by simp) (own_block_lt HOW.out (Nat.le_refl _)))]
              rw [World.cell?_alloc_at _ _ _ _ rfl]
              rfl
            clear hblk
            go_wp2
            go_roundw
            case rel => exact ⟨seen ++ [h], vn, by simp <;> omega, rfl, by simp, hvn, by rw [HFIN.out]; congr 1; simp <;> omega, HO2.out, HB2.out⟩
            case measure => simp [intOf]; omega
      · have HFIN : Hid (R = (0, 0, 10)) := by show R = _; rw [HRR.out]; simp only [portR, HG.out]; rw [hct, if_pos rfl]
        rw [hct] at HC
        clear hct
        go_wp2_with fail
        refine (HC.out _ ((Below.refl _ _).alloc (Nat.le_refl _) _)).mono ?_
        rintro e w' ⟨rfl, rfl⟩
        go_wp2
        go_ret3
        exact ⟨ret3i HFIN.out.symm, HB.out.alloc HB.out.size _⟩

end Go.Proofs.Ytmljdjakbbedlaa

namespace Go.Proofs.Ytmljdjakbbedlaa
open Go.ChangeShapes Go.WideShapes Go.ChangeAt Go.RowKit

theorem viaGet_at {l : List ViaV} {k : Nat} {v : ViaV} {h : Int} (hn : NoneYet (fun v => v.hop == h) l k) (hk : l[k]? = some v) (hv : (v.hop == h) = true) : viaGet l h = some v := by
  unfold viaGet
  have hlt := (List.getElem?_eq_some_iff.1 hk).1
  have e : l = l.take k ++ v :: l.drop (k + 1) := by
    have h2 : l.drop k = v :: l.drop (k + 1) := by
      rw [List.drop_eq_getElem_cons hlt]
      rw [List.getElem?_eq_getElem hlt] at hk
      injection hk with hk
      rw [hk]
    rw [← h2, List.take_append_drop]
  rw [e, List.find?_append]
  have : (l.take k).find? (fun v => v.hop == h) = none := by
    rw [List.find?_eq_none]
    intro x hx
    have := hn x hx
    simp only at this
    simp [this]
  rw [this]
  simp [hv]
theorem viaGet_end {l : List ViaV} {k : Nat} {h : Int} (hn : NoneYet (fun v => v.hop == h) l k) (hl : l.length = k) : viaGet l h = none := by
  unfold viaGet
  rw [List.find?_eq_none]
  intro x hx
  have := hn x (by rw [List.take_of_length_le (by omega)]; exact hx)
  simp only at this
  simp [this]
theorem contains_of_noneYet {l : List Int} {k : Nat} {h : Int} (hn : NoneYet (fun b => b == h) l k) (hl : l.length = k) : l.contains h = false := by
  rw [List.contains_eq_any_beq, List.any_eq_false]
  intro x hx
  have := hn x (by rw [List.take_of_length_le (by omega)]; exact hx)
  simp only at this
  simp only [beq_eq_false_iff_ne, ne_eq] at this
  simpa using fun hh => this hh.symm
theorem contains_of_mem {l : List Int} {h : Int} (hm : h ∈ l) : l.contains h = true := by simpa using hm

/-- What is known of the row of hops that were come to. -/
def IsSeen (w : World) (A : Option Addr) (n : Nat) (l : List Int) : Prop := l.length = n ∧ Reads w w.heap.size 1 A n (l.map (Value.int .i64))

theorem reads_newVp (w : World) (u : Value) (t : TypeId) : Reads (w.alloc (.cells #[u] t)) (w.alloc (.cells #[u] t)).heap.size 1 (some ⟨w.heap.size, 0, none⟩) 1 [u] :=
  reads_one (by rw [World.cell?_alloc_at _ _ _ _ rfl]; rfl) (by simp)
theorem reads_new_below {w w2 : World} {u : Value} {t : TypeId} (hb : Below (w.alloc (.cells #[u] t)).heap.size (w.alloc (.cells #[u] t)) w2) : Reads w2 w2.heap.size 1 (some ⟨w.heap.size, 0, none⟩) 1 [u] :=
  ((reads_newVp w u t).below hb).more hb.size

theorem reads_new_belowD {w w2 : World} {u : Value} {t : TypeId} (hb : Below (w.alloc (.cells #[u] t)).drew.heap.size (w.alloc (.cells #[u] t)).drew w2) : Reads w2 w2.heap.size 1 (some ⟨w.heap.size, 0, none⟩) 1 [u] :=
  reads_new_below (below_step ((Below.refl _ _).drew) hb)

/-- As step_append_below; what the operands hold is not asked. -/
theorem step_append_I {P : Program} {ops : Array Oper} {o : Oper} {a : Act} {w : World} {K : Act → World → Prop} {Q : Exit → Act → World → Prop} {E : Prop} {s x : Operand} (us : List Value) (m : Nat) (t : TypeId) (n : Nat) (xs : List Value) (hgd : o.guard = none)
    (ho : o.op = .call { callee := .builtin .append, args := #[s, x], argTypes := #[t, t] })
    (base : Nat) (e : TypeId) (z : Value) (size bytes : Nat) (ht : P.underlying t = some (.slice e)) (hi : (P.info? e).map (fun i => (i.zero, i.size, i.bytes)) = some (some z, size, bytes))
    (hzs : z.cells.size = size) (hsz : 0 < size)
    (hown : w.ownsRow base e size (a.eval s) n xs) (hx : ∃ A c, a.eval x = .slice A m c ∧ Reads w w.heap.size size A m us) (h1 : ∀ u ∈ us, u.oneCell' = true)
    (h63 : n + m ≤ maxLen) (hbytes : (n + m) * bytes ≤ 140737488355328) (hbase : base ≤ w.heap.size)
    (h : ∀ v' w', w'.ownsRow base e size v' (n + m) (xs ++ us) → Below base w w' → K (a.put o.dst v') w') :
    if Region.wanted o (yielded ops a.tmps) = true then Oper.wp P o a w K Q else E := by
  obtain ⟨A, c, hx, hr⟩ := hx
  exact step_append_below hgd s x t ho base e z size bytes ht hi hzs hsz _ n xs rfl hown _ A m c us hx hr h1 h63 hbytes hbase h

/-- What the reference's viaPort returns, when 9 - f others were come to. -/
def RefPort (l : List ViaV) (Al : Option Addr) (n cl f : Nat) : Prop := ∀ (seen : List Int) (hop : Int) (A : Option Addr) (m cap : Nat) (w : World), seen.length + f = 9 → -9223372036854775808 ≤ hop ∧ hop ≤ 9223372036854775807 → IsVias w Al n cl l → IsSeen w A m seen →
    Calls Try.prog 71 #[.slice Al n cl, .int .i64 hop, .slice A m cap] w fun e w' => e = .returned (.tuple #[.int .i64 (portR l (f + 1) hop seen).1, .int .i64 (portR l (f + 1) hop seen).2.1, .int .i64 (portR l (f + 1) hop seen).2.2]) ∧ Below w.heap.size w w'

set_option maxRecDepth 100000 in
set_option maxHeartbeats 1600000 in
theorem refPort_core (l : List ViaV) (hv : viasF l = 0) (Al : Option Addr) (n cl : Nat) (f : Nat) (ih : ∀ g, f = g + 1 → RefPort l Al n cl g) : RefPort l Al n cl f := by
    intro seen hop A m cap w hf ho hl hs
    obtain rfl : seen.length = m := hs.1
    have HIH := Lib.hid ih
    clear ih
    have HV := Lib.hid hv
    have HL := Lib.hid hl
    have hz := hl.1
    have hnm := hl.2.1
    unfold maxLen at hnm
    have HZ := Lib.hid hz
    have HRD := Lib.hid hl.2.2.2
    have HSR := Lib.hid hs.2
    have hs9 : seen.length ≤ 9 := by omega
    have HFL := Lib.hid hf
    obtain ⟨R, hR⟩ : ∃ R, R = portR l (f + 1) hop seen := ⟨_, rfl⟩
    rw [← hR]
    have HR := Lib.hid hR
    clear hl hs hR hz hf
    go_enter Try.func71, Try.ntmps71
    go_wp2
    go_loopw [15, 10, 12, 25] (fun i _ _ _ wr => ∃ k : Nat, k ≤ n ∧ i = .int .i64 k ∧ NoneYet (fun v : ViaV => v.hop == hop) l k ∧ Below w.heap.size w wr) (fun i _ _ _ _ => n - (intOf i).toNat)
    case atStart => exact ⟨0, by omega, rfl, noneYet_zero _ _, Below.refl _ _⟩
    case round =>
      obtain ⟨k, hk, rfl, hto, hb⟩ := hrel
      have HN := Lib.hid hto
      clear hto
      by_cases hlt : k < n
      · obtain ⟨ad, ⟨vh, vp, vn⟩, rfl, hlk, htk, hmem, hbk, hc0, hcj⟩ := HRD.out.atS ViaV.cells_length HZ.out hlt
        have q0 := (hb.cell (p := ad.add (k * 3)) (by rw [block_of_add]; exact hbk)).trans (hc0 _ rfl)
        have q1 := (hb.cell (p := ⟨(ad.add (k * 3)).block, (ad.add (k * 3)).off + 1, none⟩) (by rw [block_of_add]; exact hbk)).trans (hcj 1 _ rfl)
        have q2 := (hb.cell (p := ⟨(ad.add (k * 3)).block, (ad.add (k * 3)).off + 2, none⟩) (by rw [block_of_add]; exact hbk)).trans (hcj 2 _ rfl)
        obtain ⟨_, hp, hnx, _⟩ := valid_at HV.out hlk
        simp only at hp hnx
        have HLK := Lib.hid hlk
        have HTK := Lib.hid htk
        have HB := Lib.hid hb
        have hsz := hb.size
        clear hlk htk hmem hbk hc0 hcj hb
        by_cases he : vh = hop
        · subst he
          have HG := Lib.hid (viaGet_at HN.out HLK.out (by simp))
          have hne : (vh != vh) = false := by simp
          go_wp2_with fail
          obtain ⟨X, hX⟩ : ∃ X, X = wr.alloc (.cells #[.int .i64 vh, .int .i64 vp, .int .i64 vn] 72) := ⟨_, rfl⟩
          rw [← hX]
          have x1 : X.cell? ⟨wr.heap.size, 1, none⟩ = some (.int .i64 vp) := by rw [hX, World.cell?_alloc_at _ _ _ _ rfl]; rfl
          have x2 : X.cell? ⟨wr.heap.size, 2, none⟩ = some (.int .i64 vn) := by rw [hX, World.cell?_alloc_at _ _ _ _ rfl]; rfl
          have HBX : Hid (Below w.heap.size w X) := by show Below _ _ _; rw [hX]; exact HB.out.alloc hsz _
          have xs : wr.heap.size < X.heap.size := by rw [hX]; simp
          clear hX q0 q1 q2 hsz hne
          go_loop [25, 12] (fun i _ => ∃ j : Nat, j ≤ seen.length ∧ i = .int .i64 j ∧ NoneYet (fun b => b == vh) seen j) (fun i _ => seen.length - (intOf i).toNat)
          case atStart => exact ⟨0, by omega, rfl, noneYet_zero _ _⟩
          case round =>
            obtain ⟨j, hj, rfl, hno⟩ := hrel
            have HNJ := Lib.hid hno
            clear hno
            by_cases hltj : j < seen.length
            · obtain ⟨ad2, x, rfl, hcx, htx, _, hmx⟩ := HSR.out.at1 hltj
              have hbx : X.cell? (ad2.add j) = some (.int .i64 x) := by
                obtain ⟨ad3, ha3, hb3, _⟩ := HSR.out.2 (by omega)
                injection ha3 with ha3
                subst ha3
                exact (HBX.out.cell (p := ad2.add j) (by rw [block_of_add]; exact hb3)).trans hcx
              have HTX := Lib.hid htx
              have HMX := Lib.hid hmx
              clear hcx htx hmx
              by_cases hxe : x = vh
              · subst hxe
                have HFIN : Hid (R = (0, 0, 10)) := by show R = _; rw [HR.out]; simp only [portR, HG.out]; rw [if_pos (contains_of_mem HMX.out)]
                go_wp2
                go_ret3
                exact ⟨ret3i HFIN.out.symm, HBX.out⟩
              · have hxe2 : (x == vh) = false := by simpa using hxe
                have HN2 := Lib.hid (noneYet_succ HNJ.out HTX.out hxe2)
                clear hxe
                go_wp2
                go_round
                case rel => exact ⟨j + 1, by omega, by go_num, HN2.out⟩
                case measure => simp [intOf]; omega
            · obtain rfl : j = seen.length := by omega
              have HCT := Lib.hid (contains_of_noneYet HNJ.out rfl)
              by_cases h8 : 8 < seen.length
              · have h8i : (8 : Int) < (seen.length : Int) := by omega
                have HFIN : Hid (R = (0, 0, 9)) := by show R = _; rw [HR.out]; simp only [portR, HG.out]; rw [HCT.out, if_neg (by simp), if_pos h8]
                go_wp2
                go_ret3
                exact ⟨ret3i HFIN.out.symm, HBX.out⟩
              have h8i : ¬ (8 : Int) < (seen.length : Int) := by omega
              by_cases hpp : 0 < vp
              · have HFIN : Hid (R = (vp, (seen.length : Int), 0)) := by show R = _; rw [HR.out]; simp only [portR, HG.out]; rw [HCT.out, if_neg (by simp), if_neg (by omega), if_pos hpp]
                go_wp2
                go_ret3
                exact ⟨ret3i HFIN.out.symm, HBX.out⟩
              · obtain ⟨g, hg⟩ : ∃ g, f = g + 1 := ⟨f - 1, by have := HFL.out; omega⟩
                have HFIN : Hid (R = portR l (g + 1) vn (seen ++ [vh])) := by show R = _; rw [HR.out, hg]; rw [portR]; simp only [HG.out]; rw [HCT.out, if_neg (by simp), if_neg (by omega), if_neg hpp]
                have HI2 := Lib.hid (HIH.out g hg)
                have HFG : Hid (seen.length + (g + 1) = 9) := by show _ = _; have := HFL.out; omega
                have HSX : Hid (∀ Y, Below X.heap.size X Y → Reads Y X.heap.size 1 A seen.length (seen.map (Value.int .i64))) := fun Y hY => ((HSR.out.below HBX.out).more HBX.out.size).below hY
                have HLX : Hid (∀ Y, Below X.heap.size X Y → IsVias Y (some ad) n cl l) := fun Y hY => HL.out.below (below_step HBX.out hY)
                clear hg h8
                go_wp2_with fail
                go_region_held3 (fun w' => (∀ b o, b < X.heap.size → w'.cell? ⟨b, o, none⟩ = X.cell? ⟨b, o, none⟩) ∧ X.heap.size ≤ w'.heap.size ∧ Hid (Below X.heap.size X w'))
                  ((first | assumption | exact keep0 _ | exact keep1 (by assumption) (by assumption) | exact keepD (by assumption) | exact keepB (by assumption) (by assumption) | exact keepA (by assumption) _ | exact ⟨fun _ _ _ => rfl, Nat.le_refl _, Below.refl _ _⟩))
                  (first
                    | (apply step_append_nil (o := ⟨some 47, _, _, _, _, _⟩) rfl _ _ 23 rfl X.heap.size 3 (.int .i64 0) 1 8 Try.underlying23 infoInt rfl (by decide) ?_ X.heap.size A seen.length cap (seen.map (Value.int .i64)) ?_ ?_ ?_ ?_ ?_ ?_ ?_; (focus rfl); (focus rfl); (focus exact HSX.out _ (keepBelow (by assumption))); (focus (intro u hu; obtain ⟨y, _, rfl⟩ := List.mem_map.1 hu; rfl)); (focus (unfold maxLen; omega)); (focus omega); (focus exact keepSize (by assumption)); intro v1 w2 hown2 hb2)
                    | (go_at_call 71; (refine (HI2.out (seen ++ [vh]) vn A2 (seen.length + 1) cap2 _ ?_ ?_ ?_ ?_).mono ?_); (focus (rw [List.length_append]; have := HFG.out; simp; omega)); (focus omega); (focus exact HLX.out _ (keepBelow (by assumption))); (focus exact ⟨by simp, by have := Reads.of_own hown3; rw [List.map_append]; exact this⟩); (rintro e w4 ⟨rfl, hb4⟩))
                    | (refine step_append_I (o := ⟨some 50, _, _, _, _, _⟩) [.int .i64 vh] 1 23 seen.length (seen.map (Value.int .i64)) rfl rfl X.heap.size 3 (.int .i64 0) 1 8 Try.underlying23 infoInt rfl (by decide) ?_ ?_ ?_ ?_ ?_ ?_ ?_; (focus (first | exact hown2.alloc _ | exact hown2)); (focus (first | exact ⟨_, _, rfl, reads_newVp _ _ _⟩ | exact ⟨_, _, rfl, reads_new_below hb2⟩ | exact ⟨_, _, rfl, reads_new_belowD hb2⟩)); (focus (intro u hu; simp at hu; subst hu; rfl)); (focus (unfold maxLen; omega)); (focus omega); (focus exact keepSize (by assumption)); intro v2 w3 hown3 hb3; obtain ⟨A2, cap2, rfl, hm2⟩ := own_slice hown3))
                all_goals
                  go_wp2
                  go_ret3
                  exact ⟨ret3i HFIN.out.symm, HBX.out.trans (keepBelow (by assumption) |>.mono HBX.out.size)⟩
        · have hne : (vh != hop) = true := by simpa using he
          have hne2 : (vh == hop) = false := by simpa using he
          have HN2 := Lib.hid (noneYet_succ HN.out HTK.out hne2)
          clear he
          go_wp2
          go_roundw
          case rel => exact ⟨k + 1, by omega, by go_num, HN2.out, HB.out.alloc hsz _⟩
          case measure => simp [intOf]; omega
      · obtain rfl : k = n := by omega
        have HG := Lib.hid (viaGet_end HN.out HZ.out)
        have HFIN : Hid (R = (0, 0, 7)) := by show R = _; rw [HR.out]; rw [portR]; simp only [HG.out]
        go_wp2
        go_ret3
        exact ⟨ret3i HFIN.out.symm, hb⟩

theorem refPort (l : List ViaV) (hv : viasF l = 0) (Al : Option Addr) (n cl : Nat) : ∀ f, RefPort l Al n cl f
  | 0 => refPort_core l hv Al n cl 0 (fun g h => by cases h)
  | f + 1 => refPort_core l hv Al n cl (f + 1) (fun g h => by injection h with h; subst h; exact refPort l hv Al n cl f)

/-- What both answer. -/
def viaPortR (l : List ViaV) (hop : Int) : Int × Int × Int := if viasF l = 0 then portR l 10 hop [] else (0, 0, viasF l)

end Go.Proofs.Ytmljdjakbbedlaa
