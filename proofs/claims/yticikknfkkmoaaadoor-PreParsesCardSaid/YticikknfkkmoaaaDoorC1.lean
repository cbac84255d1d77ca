/-
  
  
  
  
  
  
  
  
  
  
  
  
-/
import Derived.WalkKit
import Derived.WalkSpells
import Derived.WalkLawsBesides
import Derived.Lib.Hide
import Derived.BigQuiet
import Derived.Deep.QuietTactic
import Derived.Deep.RegionHeld3
import Derived.ProofKit
import Derived.OpenShut
import Derived.ChangeOld
import Derived.Below
import Derived.SizedLaws
import Derived.Lib.SmallJoins
import Derived.Deep.Slices
import Derived.Deep.Fields
import Derived.ChangeSame
import Derived.RowKit3
import Derived.JoinedAt
import Derived.JoinedOf
import Derived.LaidMore
import Derived.Stop.Joined
import Derived.Lib.BitFns
import Derived.Lib.ItoaNum
namespace Go.Proofs.YticikknfkkmoaaaDoor
open Go.ChangeShapes Go.WideShapes Go.ChangeAt Go.RowKit

theorem trodAll_below {H : Type} {enc : TypeId × Value → H} {P : Program} (hl : laidOutB P = true) {W W' : World} (hb : Below W.heap.size W W') :
    ∀ (ts : List TypeId) (vs : List Value) (ds : List (DataW H)) (ps : List MemPlace), (∀ t ∈ ts, P.readableRec t = true ∧ t < P.types.size) →
      (∀ x ∈ ps, x.block < W.heap.size) → DataW.TrodAll enc P W 0 (fun _ => true) true ts vs ds ps →
      DataW.TrodAll enc P W' 0 (fun b => decide (b < W.heap.size)) true ts vs ds ps
  | [], [], [], _, _, _, h => h
  | t :: ts, v :: vs, d :: ds, ps, ht, hp, h => by
    obtain ⟨p, q, h1, h2, rfl⟩ := h
    have h3 := ht t (by simp)
    exact ⟨p, q, Below.trod hl h3.1 h3.2 h1 hb (fun x hx => hp x (by simp [hx])), trodAll_below hl hb ts vs ds q (fun t' h' => ht t' (by simp [h'])) (fun x hx => hp x (by simp [hx])) h2, rfl⟩
  | [], [], _ :: _, _, _, _, h => h.elim
  | [], _ :: _, _, _, _, _, h => h.elim
  | _ :: _, [], _, _, _, _, h => h.elim
  | _ :: _, _ :: _, [], _, _, _, h => h.elim

theorem trodAll_length {H : Type} {enc : TypeId × Value → H} {P : Program} {W : World} {base : Nat} {sp : Nat → Bool} {held : Bool} :
    ∀ (ts : List TypeId) (vs : List Value) (ds : List (DataW H)) (ps : List MemPlace), DataW.TrodAll enc P W base sp held ts vs ds ps → ds.length = ts.length ∧ vs.length = ts.length
  | [], [], [], _, _ => ⟨rfl, rfl⟩
  | _ :: ts, _ :: vs, _ :: ds, _, h => by
    obtain ⟨p, q, _, h2, rfl⟩ := h
    have := trodAll_length ts vs ds q h2
    exact ⟨by simp [this.1], by simp [this.2]⟩
  | [], [], _ :: _, _, h => h.elim
  | [], _ :: _, _, _, h => h.elim
  | _ :: _, [], _, _, h => h.elim
  | _ :: _, _ :: _, [], _, h => h.elim

/-- What a law's walk is told of its arguments. -/
def ArgsOk (P : Program) (ts : List TypeId) (H : Type) (enc : TypeId × Value → H) (W : World) (vs : List Value) (ds : List (DataW H)) (ps : List MemPlace) : Prop :=
  DataW.TrodAll enc P W 0 (fun _ => true) true ts vs ds ps ∧ (∃ base, ∀ (j : Nat) t v, ts[j]? = some t → vs[j]? = some v → Value.okWide P W .any base t v) ∧
    (DataW.weightsEach P ts ds).all (· ≤ reachBytes) = true ∧ (∀ x ∈ ps, x.block < W.heap.size)

theorem law_lift {H : Type} {enc : TypeId × Value → H} {C : Checked} {os : Os} {f : FuncId} {fn : Func} {s : ChangeSpec} {tb : TypeId} {ts : List TypeId}
    (own : ownKnob C.prog.godebug = none) (laid : laidOutB C.prog = true) (started : os.Started) (noInit : C.prog.inits.idxOf? f = none) (hfn : C.prog.funcs[f]? = some fn)
    (witness : ∃ (w : World) (tape : Tape) (i : Input), w.os = os ∧ (w.forCall tape i).Shaped C.prog ∧ i.vars = [] ∧ Input.okWide C.prog (w.forCall tape i) .any w.heap.size f i ∧
      s.pre6 enc C.prog fn [] false (w.forCall tape i).memory i.args ∧ Assume.holds {} C.prog (lone (Frame.enter C.prog f i.args .normal) [] (w.forCall tape i)))
    (hts : fn.params.toList = ts) (hpar : ∀ t ∈ ts, C.prog.readableRec t = true ∧ t < C.prog.types.size)
    (hres : fn.resultTypes = #[tb]) (htb : C.prog.underlying tb = some .bool) (hvars : s.vars = []) (hvt : s.plain.varTypes C.prog = [])
    (hspec : ∀ ds : List (DataW H), ds.length = ts.length → (s.fn H (ds ++ [])).results = [.lit (.bool true)] ∧ (s.fn H (ds ++ [])).args = ds ∧ (s.fn H (ds ++ [])).vars = [])
    (walk : ∀ (W : World) (vs : Array Value) (ds : List (DataW H)) (ps : List MemPlace), ArgsOk C.prog ts H enc W vs.toList ds ps →
      Calls C.prog f vs W fun e W' => e = .returned (.bool true) ∧ Below W.heap.size W W') :
    ReturnsInHanded {} C os f .any (s.pre6 enc C.prog fn [] false) (s.post enc C.prog fn false true false false) := by
  refine returnsInHanded_of_change_sized (C := C) own started noInit hfn witness ?_
  intro W base args ds gs before hval hW _ hsz _
  have hW' := hW
  obtain ⟨p, q, hA, hV, rfl, _, _⟩ := hW
  rw [hvars] at hV
  obtain ⟨rfl, rfl⟩ := trodVars_none hV
  rw [hts] at hA hsz
  simp only [List.append_nil] at hW'
  have hlt : ∀ x ∈ p, x.block < W.heap.size := fun x hx => by simpa using hW'.lt x hx
  have hl := trodAll_length _ _ _ _ hA
  obtain ⟨e1, e2, e3⟩ := hspec ds hl.1
  rw [hvt] at hsz
  simp only [List.append_nil] at hsz
  refine (walk W args ds p ⟨hA, ⟨base, fun j t v ht hv => hval j t v (by rw [← hts] at ht; simpa using ht) (by simpa using hv)⟩, hsz, hlt⟩).mono fun e W' he => ?_
  obtain ⟨rfl, hb⟩ := he
  refine ⟨_, rfl, ds, [], p, [], p, [], hW', ?_, ?_, ?_, hb.frame _, fun h => by cases h⟩
  · rw [e1, hres]
    exact trodAll_mk1 (shut_bool htb true)
  · rw [e2, hts]
    exact trodAll_below laid hb _ _ _ _ hpar hlt hA
  · rw [e3, hvars]
    rfl

/-! FLAT TYPES -/

/-- The scalars of which a flat type is made, in order: none: a bool; some k: an integer of the kind k. -/
def flat (P : Program) : Nat → TypeId → Option (List (Option IntKind))
  | 0, _ => none
  | n + 1, t =>
    match P.underlying t with
    | some .bool => some [none]
    | some (.int k) => some [some k]
    | some (.struct fs) => fs.toList.foldl (fun acc f => match acc, flat P n f.type with
        | some l, some ks => if f.offset = l.length ∧ P.cellsOf f.type = ks.length then some (l ++ ks) else none
        | _, _ => none) (some [])
    | _ => none

def Fits (k : Option IntKind) (v : Value) : Prop :=
  match k with
  | none => ∃ b, v = .bool b
  | some k => ∃ n, v = .int k n ∧ (Lit.int k n).wf = true

def FitsAll : List (Option IntKind) → List Value → Prop
  | [], [] => True
  | k :: ks, v :: vs => Fits k v ∧ FitsAll ks vs
  | _, _ => False

theorem FitsAll.append : ∀ {ks ks' : List (Option IntKind)} {vs vs' : List Value}, FitsAll ks vs → FitsAll ks' vs' → FitsAll (ks ++ ks') (vs ++ vs')
  | [], _, [], _, _, h => h
  | _ :: _, _, _ :: _, _, h, h' => ⟨h.1, FitsAll.append h.2 h'⟩
  | [], _, _ :: _, _, h, _ => h.elim
  | _ :: _, _, [], _, h, _ => h.elim

theorem FitsAll.length : ∀ {ks : List (Option IntKind)} {vs : List Value}, FitsAll ks vs → vs.length = ks.length
  | [], [], _ => rfl
  | _ :: _, _ :: _, h => by simp [FitsAll.length h.2]
  | [], _ :: _, h => h.elim
  | _ :: _, [], h => h.elim

theorem FitsAll.cons_inv {k : Option IntKind} {ks : List (Option IntKind)} {vs : List Value} (h : FitsAll (k :: ks) vs) : ∃ v vs', vs = v :: vs' ∧ Fits k v ∧ FitsAll ks vs' := by
  cases vs with
  | nil => exact h.elim
  | cons v vs => exact ⟨v, vs, rfl, h.1, h.2⟩
theorem FitsAll.nil_inv {vs : List Value} (h : FitsAll [] vs) : vs = [] := by
  cases vs with
  | nil => rfl
  | cons v vs => exact h.elim
theorem FitsAll.bool_inv {ks : List (Option IntKind)} {vs : List Value} (h : FitsAll (none :: ks) vs) : ∃ b vs', vs = .bool b :: vs' ∧ FitsAll ks vs' := by
  obtain ⟨v, vs', rfl, ⟨b, rfl⟩, h'⟩ := h.cons_inv
  exact ⟨b, vs', rfl, h'⟩
theorem FitsAll.int_inv {k : IntKind} {ks : List (Option IntKind)} {vs : List Value} (h : FitsAll (some k :: ks) vs) : ∃ n vs', vs = .int k n :: vs' ∧ (Lit.int k n).wf = true ∧ FitsAll ks vs' := by
  obtain ⟨v, vs', rfl, ⟨n, rfl, hw⟩, h'⟩ := h.cons_inv
  exact ⟨n, vs', rfl, hw, h'⟩

/-- A flat struct that came in by value. -/
theorem open_flat {H : Type} {enc : TypeId × Value → H} {P : Program} {W : World} {base : Nat} {sp : Nat → Bool} {held : Bool} {b0 : Nat} {v : Value} {d : DataW H} {p : List MemPlace} {t : TypeId} {fs : Array Field} {ks : List (Option IntKind)}
    (trod : ∀ (fuel : Nat) (cs : List Value) (x : DataW H × List MemPlace), cs.length = P.cellsOf t → DataW.trod enc P W base sp held fuel t cs = some x → FitsAll ks cs)
    (hs : P.underlying t = some (.struct fs)) (hv : Value.okWide P W .any b0 t v) (h : DataW.Trod enc P W base sp held t v d p) : ∃ cs : List Value, v = .agg cs.toArray ∧ FitsAll ks cs := by
  obtain ⟨cs, rfl, hsz⟩ := okWide_struct hs hv
  obtain ⟨fuel, hf⟩ := h
  refine ⟨cs.toList, by simp, trod fuel _ _ (by simpa [Value.cells] using hsz) (by simpa [Value.cells] using hf)⟩

theorem range_u64 {n : Int} (h : (Lit.int .u64 n).wf = true) : 0 ≤ n ∧ n < 18446744073709551616 := by
  have h1 := bounds_u64 h
  refine ⟨h1.1, ?_⟩
  have h2 := h1.2
  omega

theorem trod_flat {H : Type} {enc : TypeId × Value → H} {P : Program} {w : World} {base : Nat} {sp : Nat → Bool} {held : Bool} :
    ∀ (n : Nat) (t : TypeId) (ks : List (Option IntKind)) (fuel : Nat) (cs : List Value) (x : DataW H × List MemPlace),
      flat P n t = some ks → cs.length = P.cellsOf t → P.cellsOf t = ks.length → DataW.trod enc P w base sp held fuel t cs = some x → FitsAll ks cs := by
  intro n
  induction n with
  | zero => intro t ks fuel cs x h; simp [flat] at h
  | succ n ih =>
    intro t ks fuel cs x h hcl hkl hx
    cases fuel with
    | zero => simp [DataW.trod] at hx
    | succ fuel =>
      unfold flat at h
      cases hu : P.underlying t with
      | none => simp [hu] at h
      | some u =>
        rw [hu] at h
        cases u with
        | bool =>
          simp only [Option.some.injEq] at h
          subst h
          obtain ⟨b, hb⟩ : ∃ b, cs = [.bool b] := by
            unfold DataW.trod at hx
            simp only [hu] at hx
            split at hx <;> simp_all
          subst hb
          exact ⟨⟨b, rfl⟩, trivial⟩
        | int k =>
          simp only [Option.some.injEq] at h
          subst h
          obtain ⟨m, hm, hw⟩ : ∃ m, cs = [.int k m] ∧ (Lit.int k m).wf = true := by
            unfold DataW.trod at hx
            simp only [hu] at hx
            split at hx <;> simp_all
          subst hm
          exact ⟨⟨m, rfl, hw⟩, trivial⟩
        | struct fs =>
          simp only at h
          have hm : ∃ xs, fs.toList.mapM (fun f => DataW.trod enc P w base sp held fuel f.type ((cs.drop f.offset).take (P.cellsOf f.type))) = some xs := by
            unfold DataW.trod at hx
            simp only [hu] at hx
            rw [if_pos hcl] at hx
            cases hq : fs.toList.mapM (fun f => DataW.trod enc P w base sp held fuel f.type ((cs.drop f.offset).take (P.cellsOf f.type))) with
            | none => rw [hq] at hx; simp at hx
            | some xs => exact ⟨xs, rfl⟩
          obtain ⟨xs, hxs⟩ := hm
          have gen : ∀ (l : List Field) (acc : List (Option IntKind)) (out : List (Option IntKind)) (ys : List (DataW H × List MemPlace)),
              l.foldl (fun acc f => match acc, flat P n f.type with
                | some l, some ks => if f.offset = l.length ∧ P.cellsOf f.type = ks.length then some (l ++ ks) else none
                | _, _ => none) (some acc) = some out →
              out.length ≤ cs.length → FitsAll acc (cs.take acc.length) →
              l.mapM (fun f => DataW.trod enc P w base sp held fuel f.type ((cs.drop f.offset).take (P.cellsOf f.type))) = some ys → acc.length ≤ out.length ∧ FitsAll out (cs.take out.length) := by
            have stuck : ∀ (l : List Field), l.foldl (fun acc f => match acc, flat P n f.type with
                | some l, some ks => if f.offset = l.length ∧ P.cellsOf f.type = ks.length then some (l ++ ks) else none
                | _, _ => none) (none : Option (List (Option IntKind))) = none := by
              intro l
              induction l with
              | nil => rfl
              | cons f l ihl => simpa using ihl
            intro l
            induction l with
            | nil =>
              intro acc out ys ho _ ha _
              simp only [List.foldl_nil, Option.some.injEq] at ho
              subst ho
              exact ⟨Nat.le_refl _, ha⟩
            | cons f l ihl =>
              intro acc out ys ho hol ha hys
              simp only [List.foldl_cons] at ho
              cases hf : flat P n f.type with
              | none => rw [hf] at ho; simp only at ho; rw [stuck l] at ho; cases ho
              | some kf =>
                rw [hf] at ho
                simp only at ho
                by_cases hc : f.offset = acc.length ∧ P.cellsOf f.type = kf.length
                · rw [if_pos hc] at ho
                  rw [List.mapM_cons] at hys
                  cases hy : DataW.trod enc P w base sp held fuel f.type ((cs.drop f.offset).take (P.cellsOf f.type)) with
                  | none => rw [hy] at hys; simp at hys
                  | some y =>
                    rw [hy] at hys
                    cases hz : l.mapM (fun f => DataW.trod enc P w base sp held fuel f.type ((cs.drop f.offset).take (P.cellsOf f.type))) with
                    | none => rw [hz] at hys; simp at hys
                    | some zs =>
                      have mono : ∀ (l : List Field) (acc out : List (Option IntKind)), l.foldl (fun acc f => match acc, flat P n f.type with
                          | some l, some ks => if f.offset = l.length ∧ P.cellsOf f.type = ks.length then some (l ++ ks) else none
                          | _, _ => none) (some acc) = some out → acc.length ≤ out.length := by
                        intro l
                        induction l with
                        | nil => intro acc out h; simp only [List.foldl_nil, Option.some.injEq] at h; subst h; exact Nat.le_refl _
                        | cons g l ihm =>
                          intro acc out h
                          simp only [List.foldl_cons] at h
                          cases hg : flat P n g.type with
                          | none => rw [hg] at h; simp only at h; rw [stuck l] at h; cases h
                          | some kg =>
                            rw [hg] at h
                            simp only at h
                            by_cases hc' : g.offset = acc.length ∧ P.cellsOf g.type = kg.length
                            · rw [if_pos hc'] at h
                              have := ihm _ _ h
                              simp at this
                              omega
                            · rw [if_neg hc', stuck l] at h; cases h
                      have hle := mono _ _ _ ho
                      simp only [List.length_append] at hle
                      have hfit : FitsAll kf ((cs.drop f.offset).take (P.cellsOf f.type)) := by
                        refine ih f.type kf fuel _ y hf ?_ hc.2 hy
                        rw [List.length_take, List.length_drop, hc.1, hc.2]
                        omega
                      have hnew : FitsAll (acc ++ kf) (cs.take (acc ++ kf).length) := by
                        have e : cs.take (acc ++ kf).length = cs.take acc.length ++ ((cs.drop f.offset).take (P.cellsOf f.type)) := by
                          rw [List.length_append, hc.1, hc.2, List.take_add]
                        rw [e]
                        exact ha.append hfit
                      have := ihl _ _ zs ho hol hnew hz
                      simp only [List.length_append] at this
                      exact ⟨by omega, this.2⟩
                · rw [if_neg hc, stuck l] at ho; cases ho
          have r := gen fs.toList [] ks xs h (by omega) (by simp [FitsAll]) hxs
          have e : cs.take ks.length = cs := by rw [← hkl, ← hcl]; exact List.take_length
          rw [e] at r
          exact r.2
        | _ => simp at h

/-! STEPS OF A REGION THAT DRAWS ITS ORDER -/
theorem below_step {w0 w1 w' : World} (h : Below w0.heap.size w0 w1) (hb : Below w1.heap.size w1 w') : Below w0.heap.size w0 w' := h.trans (hb.mono h.size)
theorem cell_drew {w : World} {a : Addr} {v : Value} (h : w.cell? a = some v) : w.drew.cell? a = some v := h
theorem size_drew {w : World} {n : Nat} (h : n < w.heap.size) : n < w.drew.heap.size := h
theorem size_step {w1 w' : World} {n : Nat} (h : n < w1.heap.size) (hb : Below w1.heap.size w1 w') : n < w'.heap.size := Nat.lt_of_lt_of_le h hb.size
theorem cell_step {w1 w' : World} {a : Addr} {v : Value} (hb : Below w1.heap.size w1 w') (hc : w1.cell? a = some v) : w'.cell? a = some v := cell_later hb hc

#print axioms law_lift
#print axioms trod_flat
end Go.Proofs.YticikknfkkmoaaaDoor

namespace Go.Proofs.YticikknfkkmoaaaDoor
open Go.ChangeShapes Go.WideShapes Go.ChangeAt Go.RowKit

theorem law_lift_laid {H : Type} {enc : TypeId × Value → H} {C : Checked} {os : Os} {f : FuncId} {fn : Func} {s : ChangeSpec} {tb : TypeId} {ts : List TypeId} {L : List (String × DataW Unit)}
    (own : ownKnob C.prog.godebug = none) (laid : laidOutB C.prog = true) (started : os.Started) (noInit : C.prog.inits.idxOf? f = none) (hfn : C.prog.funcs[f]? = some fn)
    (witness : ∃ (w : World) (tape : Tape) (i : Input), w.os = os ∧ (w.forCall tape i).Shaped C.prog ∧ i.vars = [] ∧ Input.okWide C.prog (w.forCall tape i) .any w.heap.size f i ∧
      ((s.pre enc C.prog fn [] false (w.forCall tape i).memory i.args ∧ laidMetH C.prog L (w.forCall tape i).memory) ∧ sizedMet enc C.prog fn (OpenSpec.ofChange s) false (w.forCall tape i).memory i.args) ∧ Assume.holds {} C.prog (lone (Frame.enter C.prog f i.args .normal) [] (w.forCall tape i)))
    (hts : fn.params.toList = ts) (hpar : ∀ t ∈ ts, C.prog.readableRec t = true ∧ t < C.prog.types.size)
    (hres : fn.resultTypes = #[tb]) (htb : C.prog.underlying tb = some .bool) (hvars : s.vars = []) (hvt : s.plain.varTypes C.prog = [])
    (hspec : ∀ ds : List (DataW H), ds.length = ts.length → (s.fn H (ds ++ [])).results = [.lit (.bool true)] ∧ (s.fn H (ds ++ [])).args = ds ∧ (s.fn H (ds ++ [])).vars = [])
    (walk : ∀ (W : World) (vs : Array Value) (ds : List (DataW H)) (ps : List MemPlace), ArgsOk C.prog ts H enc W vs.toList ds ps → laidMetH C.prog L W →
      Calls C.prog f vs W fun e W' => e = .returned (.bool true) ∧ Below W.heap.size W W') :
    ReturnsInHanded {} C os f .any (fun w args => (s.pre enc C.prog fn [] false w args ∧ laidMetH C.prog L w) ∧ sizedMet enc C.prog fn (OpenSpec.ofChange s) false w args) (s.post enc C.prog fn false true false false) := by
  refine returnsInHanded_of_change_and (C := C) (X := fun w _ => laidMetH C.prog L w) (fun _ _ _ hh h => h.of_heap hh) own started noInit hfn witness ?_
  intro W base args ds gs before hval hW _ hsz hL _
  have hW' := hW
  obtain ⟨p, q, hA, hV, rfl, _, _⟩ := hW
  rw [hvars] at hV
  obtain ⟨rfl, rfl⟩ := trodVars_none hV
  rw [hts] at hA hsz
  simp only [List.append_nil] at hW'
  have hlt : ∀ x ∈ p, x.block < W.heap.size := fun x hx => by simpa using hW'.lt x hx
  have hl := trodAll_length _ _ _ _ hA
  obtain ⟨e1, e2, e3⟩ := hspec ds hl.1
  rw [hvt] at hsz
  simp only [List.append_nil] at hsz
  refine (walk W args ds p ⟨hA, ⟨base, fun j t v ht hv => hval j t v (by rw [← hts] at ht; simpa using ht) (by simpa using hv)⟩, hsz, hlt⟩ hL).mono fun e W' he => ?_
  obtain ⟨rfl, hb⟩ := he
  refine ⟨_, rfl, ds, [], p, [], p, [], hW', ?_, ?_, ?_, hb.frame _, fun h => by cases h⟩
  · rw [e1, hres]
    exact trodAll_mk1 (shut_bool htb true)
  · rw [e2, hts]
    exact trodAll_below laid hb _ _ _ _ hpar hlt hA
  · rw [e3, hvars]
    rfl


end Go.Proofs.YticikknfkkmoaaaDoor

namespace Go.Proofs.YticikknfkkmoaaaDoor
set_option linter.unusedVariables false

/-- The first n of 64 bits are 1. -/
def onesI (n : Int) : Int := if n ≤ 0 then 0 else if 64 ≤ n then 18446744073709551615 else 18446744073709551616 - 2 ^ (64 - n).toNat

theorem two_pow_pos (k : Nat) : (0 : Int) < 2 ^ k := Int.pow_pos (by omega)
theorem two_pow_le (k : Nat) (h : k ≤ 64) : (2 : Int) ^ k ≤ 18446744073709551616 := by
  have : (2 : Nat) ^ k ≤ 2 ^ 64 := Nat.pow_le_pow_right (by omega) h
  have e : ((2 ^ k : Nat) : Int) = 2 ^ k := by simp
  rw [← e]
  have : (2 ^ 64 : Nat) = 18446744073709551616 := by decide
  omega

theorem onesI_range (n : Int) : 0 ≤ onesI n ∧ onesI n < 18446744073709551616 := by
  unfold onesI
  split
  · omega
  · split
    · omega
    · have h1 := two_pow_pos (64 - n).toNat
      have h2 := two_pow_le (64 - n).toNat (by omega)
      omega

theorem ones_wrap (k : Nat) (h : k ≤ 64) : (18446744073709551615 * 2 ^ k : Int) % 18446744073709551616 = 18446744073709551616 - 2 ^ k := by
  have h1 := two_pow_pos k
  have h2 := two_pow_le k h
  generalize (2 : Int) ^ k = p at *
  have e : (18446744073709551615 * p : Int) = (18446744073709551616 - p) + 18446744073709551616 * (p - 1) := by omega
  rw [e, Int.add_mul_emod_self_left]
  rw [Int.emod_eq_of_lt (by omega) (by omega)]

theorem and_ones_nat (x k : Nat) (hx : x < 2 ^ 64) (hk : k ≤ 64) : x &&& (2 ^ 64 - 2 ^ k) = x / 2 ^ k * 2 ^ k := by
  have e : (2 : Nat) ^ 64 - 2 ^ k = (2 ^ (64 - k) - 1) * 2 ^ k := by
    rw [Nat.sub_mul, ← Nat.pow_add, Nat.sub_add_cancel hk, Nat.one_mul]
  rw [e]
  apply Nat.eq_of_testBit_eq
  intro i
  rw [Nat.testBit_and, ← Nat.shiftLeft_eq, ← Nat.shiftLeft_eq, Nat.testBit_shiftLeft, Nat.testBit_shiftLeft, Nat.testBit_two_pow_sub_one, Nat.testBit_div_two_pow]
  by_cases h : k ≤ i
  · simp only [ge_iff_le, h, decide_true, Bool.true_and, Nat.sub_add_cancel h]
    by_cases h2 : i - k < 64 - k
    · simp [h2]
    · have : x.testBit i = false := by
        apply Nat.testBit_lt_two_pow
        exact Nat.lt_of_lt_of_le hx (Nat.pow_le_pow_right (by omega) (by omega))
      simp [this]
  · simp [h]

/-- What is left of a word when all but its first n bits are cleared. -/
def keepW (x n : Int) : Int := if n ≤ 0 then 0 else if 64 ≤ n then x else x / 2 ^ (64 - n).toNat * 2 ^ (64 - n).toNat

/-! ADDRESSES AND PREFIXES, AS NUMBERS -/
/-- Is an address valid? -/
def mayB (six : Bool) (hi lo : Int) : Bool := six || (hi == 0 && decide (lo < 4294967296))

def wideI (six : Bool) : Int := if six then 128 else 32

/-- Bit i of an address, the highest first. -/
def bitI (six : Bool) (hi lo i : Int) : Int :=
  if six then (if i < 64 then hi / 2 ^ (63 - i).toNat % 2 else lo / 2 ^ (127 - i).toNat % 2) else lo / 2 ^ (31 - i).toNat % 2

theorem bitI_01 (six : Bool) (hi lo i : Int) : 0 ≤ bitI six hi lo i ∧ bitI six hi lo i ≤ 1 := by
  unfold bitI
  split
  · split <;> omega
  · omega

/-- All bits of an address. -/
def bitsL (six : Bool) (hi lo : Int) : List Int := (List.range (wideI six).toNat).map fun (i : Nat) => bitI six hi lo (i : Int)
theorem bitsL_length (six : Bool) (hi lo : Int) : (bitsL six hi lo).length = (wideI six).toNat := by simp [bitsL]

def cutHi (six : Bool) (hi n : Int) : Int := if six then keepW hi n else 0
def cutLo (six : Bool) (lo n : Int) : Int := if six then keepW lo (n - 64) else keepW (lo * 4294967296) n / 4294967296

def cleanB (six : Bool) (hi lo n : Int) : Bool := cutHi six hi n == hi && cutLo six lo n == lo

/-- The fault of a prefix. -/
def chk (six : Bool) (hi lo n : Int) : Int :=
  if mayB six hi lo = false then 4 else if n < 0 ∨ wideI six < n then 2 else if cleanB six hi lo n = true then 0 else 5

theorem mayB_four {hi lo : Int} (h : mayB false hi lo = true) : hi = 0 ∧ lo < 4294967296 := by simpa [mayB] using h
theorem wideI_le (six : Bool) : 32 ≤ wideI six ∧ wideI six ≤ 128 := by unfold wideI; split <;> omega


theorem and_ones_int (x n : Int) (h1 : 0 ≤ x) (h2 : x < 18446744073709551616) : ((x.toNat &&& (onesI n).toNat : Nat) : Int) = keepW x n := by
  unfold onesI keepW
  split
  · simp
  · split
    · have : x.toNat &&& (18446744073709551615 : Int).toNat = x.toNat := by
        have := Nat.and_two_pow_sub_one_eq_mod x.toNat 64
        rw [show (18446744073709551615 : Int).toNat = 2 ^ 64 - 1 from by decide, this]
        apply Nat.mod_eq_of_lt
        omega
      rw [this]
      omega
    · obtain ⟨k, hk⟩ : ∃ k : Nat, (64 - n).toNat = k := ⟨_, rfl⟩
      have hk2 : k ≤ 64 := by omega
      rw [hk]
      have e : (18446744073709551616 - 2 ^ k : Int).toNat = 2 ^ 64 - 2 ^ k := by
        have h3 := two_pow_le k hk2
        have h4 : ((2 ^ k : Nat) : Int) = 2 ^ k := by simp
        have h5 : (2 ^ 64 : Nat) = 18446744073709551616 := by decide
        rw [h5]
        omega
      rw [e, and_ones_nat _ _ (by have : (2 ^ 64 : Nat) = 18446744073709551616 := by decide
                                  omega) hk2]
      simp [Int.toNat_of_nonneg h1]

/-- The low bits of a word are 0 just if each of them is. -/
theorem low_zero (x : Int) : ∀ k : Nat, x % 2 ^ k = 0 ↔ ∀ j, j < k → x / 2 ^ j % 2 = 0
  | 0 => by simp [Int.emod_one]
  | k + 1 => by
    have ih := low_zero x k
    have hp := two_pow_pos k
    have e : x % 2 ^ (k + 1) = x % 2 ^ k + 2 ^ k * (x / 2 ^ k % 2) := by
      rw [Int.pow_succ]
      generalize (2 : Int) ^ k = p at *
      have h1 := Int.mul_ediv_add_emod x (p * 2)
      have h2 := Int.mul_ediv_add_emod x p
      have h3 := Int.mul_ediv_add_emod (x / p) 2
      have h4 : x / (p * 2) = x / p / 2 := by rw [Int.ediv_ediv_of_nonneg (by omega)]
      rw [h4] at h1
      generalize x / p / 2 = q at *
      generalize x / p % 2 = r at *
      have h5 : x / p = 2 * q + r := by omega
      rw [h5, Int.mul_add] at h2
      have h6 : p * (2 * q) = p * 2 * q := by rw [Int.mul_assoc]
      omega
    rw [e]
    have hn := Int.emod_nonneg x (show (2 : Int) ^ k ≠ 0 by omega)
    have hr : 0 ≤ x / 2 ^ k % 2 ∧ x / 2 ^ k % 2 ≤ 1 := by omega
    constructor
    · intro h j hj
      have hz : x / 2 ^ k % 2 = 0 := by
        rcases (by omega : x / 2 ^ k % 2 = 0 ∨ x / 2 ^ k % 2 = 1) with h0 | h0
        · exact h0
        · rw [h0] at h; omega
      rw [hz] at h
      rcases Nat.lt_or_ge j k with hjk | hjk
      · exact ih.1 (by omega) j hjk
      · obtain rfl : j = k := by omega
        exact hz
    · intro h
      rw [h k (by omega), ih.2 (fun j hj => h j (by omega))]
      omega

theorem keepW_eq (x n : Int) (h1 : 0 ≤ x) (h2 : x < 18446744073709551616) (hn0 : 0 ≤ n) (hn : n ≤ 64) : keepW x n = x ↔ x % 2 ^ (64 - n).toNat = 0 := by
  unfold keepW
  by_cases hz : n ≤ 0
  · rw [if_pos hz]
    obtain rfl : n = 0 := by omega
    rw [show (64 - (0 : Int)).toNat = 64 from rfl, show (2 : Int) ^ 64 = 18446744073709551616 from by decide, Int.emod_eq_of_lt h1 h2]
    omega
  · rw [if_neg hz]
    by_cases h64 : 64 ≤ n
    · rw [if_pos h64]
      obtain rfl : n = 64 := by omega
      simp [Int.emod_one]
    · rw [if_neg h64]
      have := Int.mul_ediv_add_emod x (2 ^ (64 - n).toNat)
      rw [Int.mul_comm] at this
      omega

theorem keepW_range (x n : Int) (h1 : 0 ≤ x) (h2 : x < 18446744073709551616) : 0 ≤ keepW x n ∧ keepW x n < 18446744073709551616 := by
  unfold keepW
  split
  · omega
  · split
    · omega
    · have hp := two_pow_pos (64 - n).toNat
      have := Int.mul_ediv_add_emod x (2 ^ (64 - n).toNat)
      rw [Int.mul_comm] at this
      have h3 := Int.emod_nonneg x (show (2 : Int) ^ (64 - n).toNat ≠ 0 by omega)
      have h4 : 0 ≤ x / 2 ^ (64 - n).toNat * 2 ^ (64 - n).toNat := Int.mul_nonneg (Int.ediv_nonneg h1 (by omega)) (by omega)
      omega

/-! CLEAN PREFIXES, BIT BY BIT -/
theorem keep4_eq (lo n : Int) : keepW (lo * 4294967296) n / 4294967296 = if n ≤ 0 then 0 else if 32 ≤ n then lo else lo / 2 ^ (32 - n).toNat * 2 ^ (32 - n).toNat := by
  unfold keepW
  by_cases hn : n ≤ 0
  · rw [if_pos hn, if_pos hn]; rfl
  · rw [if_neg hn, if_neg hn]
    by_cases h64 : 64 ≤ n
    · rw [if_pos h64, if_pos (by omega)]
      omega
    · rw [if_neg h64]
      by_cases h32 : 32 ≤ n
      · rw [if_pos h32]
        obtain ⟨k, hk⟩ : ∃ k : Nat, (64 - n).toNat = k := ⟨_, rfl⟩
        rw [hk]
        have e : (4294967296 : Int) = 2 ^ (32 - k) * 2 ^ k := by
          rw [← Int.pow_add, show 32 - k + k = 32 from by omega]; decide
        have hp := two_pow_pos k
        have e2 : lo * 4294967296 / 2 ^ k * 2 ^ k = lo * 4294967296 := by
          rw [e, ← Int.mul_assoc, Int.mul_ediv_cancel _ (by omega)]
        rw [e2]
        omega
      · rw [if_neg h32]
        obtain ⟨k, hk⟩ : ∃ k : Nat, (32 - n).toNat = k := ⟨_, rfl⟩
        have hk2 : (64 - n).toNat = k + 32 := by omega
        rw [hk, hk2, Int.pow_add, show (2 : Int) ^ 32 = 4294967296 from by decide]
        have hp := two_pow_pos k
        have e : lo * 4294967296 / (2 ^ k * 4294967296) = lo / 2 ^ k := Int.mul_ediv_mul_of_pos_left _ _ (by omega)
        rw [e, ← Int.mul_assoc]
        omega

theorem keep4_iff (lo n : Int) (h1 : 0 ≤ lo) (h2 : lo < 4294967296) (hn0 : 0 ≤ n) (hn : n ≤ 32) : keepW (lo * 4294967296) n / 4294967296 = lo ↔ lo % 2 ^ (32 - n).toNat = 0 := by
  rw [keep4_eq lo n]
  by_cases hz : n ≤ 0
  · rw [if_pos hz]
    obtain rfl : n = 0 := by omega
    rw [show (32 - (0 : Int)).toNat = 32 from rfl, show (2 : Int) ^ 32 = 4294967296 from by decide]
    omega
  · rw [if_neg hz]
    by_cases h : 32 ≤ n
    · rw [if_pos h]
      obtain rfl : n = 32 := by omega
      simp [Int.emod_one]
    · rw [if_neg h]
      have := Int.mul_ediv_add_emod lo (2 ^ (32 - n).toNat)
      rw [Int.mul_comm] at this
      omega

theorem clean_iff (six : Bool) (hi lo : Int) (n : Nat) (h1 : 0 ≤ hi ∧ hi < 18446744073709551616) (h2 : 0 ≤ lo ∧ lo < 18446744073709551616) (hm : mayB six hi lo = true) (hn : (n : Int) ≤ wideI six) :
    cleanB six hi lo n = true ↔ ∀ i : Nat, n ≤ i → (i : Int) < wideI six → bitI six hi lo i = 0 := by
  unfold cleanB
  rw [Bool.and_eq_true, beq_iff_eq, beq_iff_eq]
  cases six
  · have hf := mayB_four hm
    have hn' : (n : Int) ≤ 32 := hn
    unfold cutHi cutLo bitI wideI
    simp only [Bool.false_eq_true, if_false]
    rw [keep4_iff lo n h2.1 hf.2 (by omega) hn', low_zero]
    constructor
    · rintro ⟨_, h⟩ i hi1 hi2
      exact h _ (by omega)
    · intro h
      refine ⟨hf.1.symm, fun j hj => ?_⟩
      have := h (31 - j) (by omega) (by omega)
      rwa [show (31 - ((31 - j : Nat) : Int)).toNat = j from by omega] at this
  · have hn' : (n : Int) ≤ 128 := hn
    unfold cutHi cutLo bitI wideI
    simp only [if_true]
    by_cases h64 : n ≤ 64
    · rw [keepW_eq hi n h1.1 h1.2 (by omega) (by omega), low_zero]
      have e : keepW lo ((n : Int) - 64) = lo ↔ lo % 2 ^ 64 = 0 := by
        unfold keepW
        rw [if_pos (by omega), show (2 : Int) ^ 64 = 18446744073709551616 from by decide]
        omega
      rw [e, low_zero]
      constructor
      · rintro ⟨ha, hb⟩ i hi1 hi2
        split
        · exact ha _ (by omega)
        · exact hb _ (by omega)
      · intro h
        refine ⟨fun j hj => ?_, fun j hj => ?_⟩
        · have := h (63 - j) (by omega) (by omega)
          rw [if_pos (by omega)] at this
          rwa [show (63 - ((63 - j : Nat) : Int)).toNat = j from by omega] at this
        · have := h (127 - j) (by omega) (by omega)
          rw [if_neg (by omega)] at this
          rwa [show (127 - ((127 - j : Nat) : Int)).toNat = j from by omega] at this
    · have e : keepW hi n = hi := by
        unfold keepW
        rw [if_neg (by omega), if_pos (by omega)]
      rw [e, keepW_eq lo _ h2.1 h2.2 (by omega) (by omega), low_zero]
      constructor
      · rintro ⟨_, hb⟩ i hi1 hi2
        rw [if_neg (by omega)]
        exact hb _ (by omega)
      · intro h
        refine ⟨rfl, fun j hj => ?_⟩
        have := h (127 - j) (by omega) (by omega)
        rw [if_neg (by omega)] at this
        rwa [show (127 - ((127 - j : Nat) : Int)).toNat = j from by omega] at this

/-! BITS OF WORDS -/
theorem mod_succ (x : Int) (k : Nat) : x % 2 ^ (k + 1) = x % 2 ^ k + 2 ^ k * (x / 2 ^ k % 2) := by
  have hp := two_pow_pos k
  rw [Int.pow_succ]
  generalize (2 : Int) ^ k = p at *
  have h1 := Int.mul_ediv_add_emod x (p * 2)
  have h2 := Int.mul_ediv_add_emod x p
  have h3 := Int.mul_ediv_add_emod (x / p) 2
  have h4 : x / (p * 2) = x / p / 2 := by rw [Int.ediv_ediv_of_nonneg (by omega)]
  rw [h4] at h1
  generalize x / p / 2 = q at *
  generalize x / p % 2 = r at *
  have h5 : x / p = 2 * q + r := by omega
  rw [h5, Int.mul_add] at h2
  have h6 : p * (2 * q) = p * 2 * q := by rw [Int.mul_assoc]
  omega

theorem mod_ext (x y : Int) : ∀ k : Nat, (∀ j, j < k → x / 2 ^ j % 2 = y / 2 ^ j % 2) → x % 2 ^ k = y % 2 ^ k
  | 0, _ => by simp [Int.emod_one]
  | k + 1, h => by rw [mod_succ, mod_succ, mod_ext x y k (fun j hj => h j (by omega)), h k (by omega)]

theorem word_ext (x y : Int) (k : Nat) (hx : 0 ≤ x ∧ x < 2 ^ k) (hy : 0 ≤ y ∧ y < 2 ^ k) (h : ∀ j, j < k → x / 2 ^ j % 2 = y / 2 ^ j % 2) : x = y := by
  have := mod_ext x y k h
  rwa [Int.emod_eq_of_lt hx.1 hx.2, Int.emod_eq_of_lt hy.1 hy.2] at this

theorem bit_trunc (x : Int) (k j : Nat) : x / 2 ^ k * 2 ^ k / 2 ^ j % 2 = if k ≤ j then x / 2 ^ j % 2 else 0 := by
  have hk := two_pow_pos k
  have hj := two_pow_pos j
  split
  · rename_i h
    obtain ⟨d, rfl⟩ : ∃ d, j = k + d := ⟨j - k, by omega⟩
    rw [Int.pow_add, ← Int.ediv_ediv_of_nonneg (by omega), Int.mul_ediv_cancel _ (by omega), ← Int.ediv_ediv_of_nonneg (by omega)]
  · rename_i h
    obtain ⟨d, rfl⟩ : ∃ d, k = j + (d + 1) := ⟨k - j - 1, by omega⟩
    have e : x / 2 ^ (j + (d + 1)) * 2 ^ (j + (d + 1)) = (x / 2 ^ (j + (d + 1)) * 2 ^ d * 2) * 2 ^ j := by
      rw [Int.mul_assoc, Int.mul_assoc]
      congr 1
      rw [Int.pow_add, Int.pow_succ, Int.mul_comm, Int.mul_assoc]
    rw [e, Int.mul_ediv_cancel _ (by omega)]
    omega

theorem bit_keepW (x n : Int) (j : Nat) (hj : j < 64) : keepW x n / 2 ^ j % 2 = if 64 - n ≤ j then x / 2 ^ j % 2 else 0 := by
  unfold keepW
  by_cases h0 : n ≤ 0
  · rw [if_pos h0, if_neg (by omega)]
    simp
  · rw [if_neg h0]
    by_cases h64 : 64 ≤ n
    · rw [if_pos h64, if_pos (by omega)]
    · rw [if_neg h64, bit_trunc]
      by_cases h : 64 - n ≤ j
      · rw [if_pos h, if_pos (by omega)]
      · rw [if_neg h, if_neg (by omega)]

/-- Valid addresses whose bits are alike are one. -/
theorem addr_ext (six : Bool) (hi lo hi' lo' : Int) (h1 : 0 ≤ hi ∧ hi < 18446744073709551616) (h2 : 0 ≤ lo ∧ lo < 18446744073709551616) (h3 : 0 ≤ hi' ∧ hi' < 18446744073709551616) (h4 : 0 ≤ lo' ∧ lo' < 18446744073709551616)
    (hm : mayB six hi lo = true) (hm' : mayB six hi' lo' = true) (h : ∀ i : Nat, (i : Int) < wideI six → bitI six hi lo i = bitI six hi' lo' i) : hi = hi' ∧ lo = lo' := by
  have e64 : (2 : Int) ^ 64 = 18446744073709551616 := by decide
  have e32 : (2 : Int) ^ 32 = 4294967296 := by decide
  cases six
  · have f1 := mayB_four hm
    have f2 := mayB_four hm'
    refine ⟨by omega, word_ext lo lo' 32 (by omega) (by omega) fun j hj => ?_⟩
    have := h (31 - j) (by unfold wideI; simp; omega)
    unfold bitI at this
    rw [if_neg (by simp), if_neg (by simp), show (31 - ((31 - j : Nat) : Int)).toNat = j from by omega] at this
    exact this
  · refine ⟨word_ext hi hi' 64 (by omega) (by omega) fun j hj => ?_, word_ext lo lo' 64 (by omega) (by omega) fun j hj => ?_⟩
    · have := h (63 - j) (by unfold wideI; simp; omega)
      unfold bitI at this
      rw [if_pos rfl, if_pos rfl, if_pos (by omega), if_pos (by omega), show (63 - ((63 - j : Nat) : Int)).toNat = j from by omega] at this
      exact this
    · have := h (127 - j) (by unfold wideI; simp; omega)
      unfold bitI at this
      rw [if_pos rfl, if_pos rfl, if_neg (by omega), if_neg (by omega), show (127 - ((127 - j : Nat) : Int)).toNat = j from by omega] at this
      exact this

theorem cutHi_range (six : Bool) (hi n : Int) (h1 : 0 ≤ hi ∧ hi < 18446744073709551616) : 0 ≤ cutHi six hi n ∧ cutHi six hi n < 18446744073709551616 := by
  unfold cutHi
  split
  · exact keepW_range hi n h1.1 h1.2
  · omega
theorem cutLo_range (six : Bool) (hi lo n : Int) (h2 : 0 ≤ lo ∧ lo < 18446744073709551616) (hm : mayB six hi lo = true) : (0 ≤ cutLo six lo n ∧ cutLo six lo n < 18446744073709551616) ∧ mayB six (cutHi six hi n) (cutLo six lo n) = true := by
  cases six
  · have f := mayB_four hm
    have := keepW_range (lo * 4294967296) n (by omega) (by omega)
    unfold cutLo cutHi mayB
    simp only [Bool.false_eq_true, if_false, Bool.false_or, Bool.and_eq_true, beq_self_eq_true, decide_eq_true_eq, true_and]
    omega
  · exact ⟨keepW_range lo _ h2.1 h2.2, by simp [mayB]⟩

/-- The bits of an address cut behind n bits. -/
theorem bit_cut (six : Bool) (hi lo n : Int) (i : Nat) (hm : mayB six hi lo = true) (hi' : (i : Int) < wideI six) :
    bitI six (cutHi six hi n) (cutLo six lo n) i = if (i : Int) < n then bitI six hi lo i else 0 := by
  cases six
  · have f := mayB_four hm
    have h32 : (i : Int) < 32 := hi'
    unfold bitI cutLo
    simp only [Bool.false_eq_true, ↓reduceIte]
    rw [keep4_eq]
    by_cases h0 : n ≤ 0
    · rw [if_pos h0, if_neg (by omega)]
      simp
    · rw [if_neg h0]
      by_cases h3 : 32 ≤ n
      · rw [if_pos h3, if_pos (by omega)]
      · rw [if_neg h3, bit_trunc]
        by_cases h : (i : Int) < n
        · rw [if_pos h, if_pos (by omega)]
        · rw [if_neg h, if_neg (by omega)]
  · have h128 : (i : Int) < 128 := hi'
    unfold bitI cutLo cutHi
    simp only [↓reduceIte]
    by_cases h64 : (i : Int) < 64
    · rw [if_pos h64, if_pos h64, bit_keepW hi n _ (by omega)]
      by_cases h : (i : Int) < n
      · rw [if_pos h, if_pos (by omega)]
      · rw [if_neg h, if_neg (by omega)]
    · rw [if_neg h64, if_neg h64, bit_keepW lo _ _ (by omega)]
      by_cases h : (i : Int) < n
      · rw [if_pos h, if_pos (by omega)]
      · rw [if_neg h, if_neg (by omega)]

/-- Has a prefix an address of its family? -/
def inB (six : Bool) (hi lo n : Int) (six' : Bool) (hi' lo' : Int) : Bool :=
  (six' == six) && (cutHi six' hi' n == hi && cutLo six' lo' n == lo)

/-- A valid prefix. -/
structure Pfx (six : Bool) (hi lo n : Int) : Prop where
  rhi : 0 ≤ hi ∧ hi < 18446744073709551616
  rlo : 0 ≤ lo ∧ lo < 18446744073709551616
  may : mayB six hi lo = true
  len : 0 ≤ n ∧ n ≤ wideI six
  clean : cleanB six hi lo n = true

theorem chk_zero {six : Bool} {hi lo n : Int} (h1 : 0 ≤ hi ∧ hi < 18446744073709551616) (h2 : 0 ≤ lo ∧ lo < 18446744073709551616) (h : chk six hi lo n = 0) : Pfx six hi lo n := by
  unfold chk at h
  by_cases hm : mayB six hi lo = false
  · rw [if_pos hm] at h; omega
  · rw [if_neg hm] at h
    by_cases hr : n < 0 ∨ wideI six < n
    · rw [if_pos hr] at h; omega
    · rw [if_neg hr] at h
      by_cases hc : cleanB six hi lo n = true
      · exact ⟨h1, h2, by simpa using hm, by omega, hc⟩
      · rw [if_neg hc] at h; omega

theorem inB_iff {six : Bool} {hi lo hi' lo' : Int} {n : Nat} (hp : Pfx six hi lo n) (h1 : 0 ≤ hi' ∧ hi' < 18446744073709551616) (h2 : 0 ≤ lo' ∧ lo' < 18446744073709551616) (hm : mayB six hi' lo' = true) :
    inB six hi lo n six hi' lo' = true ↔ ∀ i : Nat, i < n → bitI six hi lo i = bitI six hi' lo' i := by
  have hc := (clean_iff six hi lo n hp.rhi hp.rlo hp.may hp.len.2).1 hp.clean
  unfold inB
  simp only [beq_self_eq_true, Bool.true_and, Bool.and_eq_true, beq_iff_eq]
  constructor
  · rintro ⟨e1, e2⟩ i hi0
    have := bit_cut six hi' lo' n i hm (by have := hp.len.2; omega)
    rw [e1, e2, if_pos (by omega)] at this
    exact this
  · intro h
    have hr := cutLo_range six hi' lo' n h2 hm
    refine addr_ext six _ _ _ _ (cutHi_range six hi' n h1) hr.1 hp.rhi hp.rlo hr.2 hp.may fun i hi0 => ?_
    rw [bit_cut six hi' lo' n i hm hi0]
    split
    · exact (h i (by omega)).symm
    · exact (hc i (by omega) hi0).symm

end Go.Proofs.YticikknfkkmoaaaDoor

namespace Go.Proofs.YticikknfkkmoaaaDoor
set_option linter.unusedVariables false

/-- The number that bits make, the highest first. -/
def numL (l : List Int) : Int := l.foldl (fun a b => 2 * a + b) 0
def Bits (l : List Int) : Prop := ∀ b ∈ l, 0 ≤ b ∧ b ≤ 1

theorem numL_nil : numL [] = 0 := rfl
theorem numL_snoc (l : List Int) (b : Int) : numL (l ++ [b]) = 2 * numL l + b := by simp [numL, List.foldl_append]
theorem numL_range (l : List Int) (h : Bits l) : 0 ≤ numL l ∧ numL l < 2 ^ l.length := by
  induction hk : l.length generalizing l with
  | zero =>
    have : l = [] := List.eq_nil_of_length_eq_zero hk
    subst this
    simp [numL]
  | succ m ih =>
    rcases List.eq_nil_or_concat l with rfl | ⟨l', b, rfl⟩
    · simp at hk
    · rw [List.concat_eq_append] at *
      have hb := h b (by simp)
      have := ih l' (fun x hx => h x (by simp [hx])) (by simpa using hk)
      rw [numL_snoc, Int.pow_succ]
      omega

/-- The bits of such a number are the bits. -/
theorem numL_bit (l : List Int) (h : Bits l) : ∀ (i : Nat) (b : Int), l[i]? = some b → numL l / 2 ^ (l.length - 1 - i) % 2 = b := by
  induction hk : l.length generalizing l with
  | zero =>
    intro i b hb
    have : l = [] := List.eq_nil_of_length_eq_zero hk
    subst this
    simp at hb
  | succ m ih =>
    intro i b hb
    rcases List.eq_nil_or_concat l with rfl | ⟨l', c, rfl⟩
    · simp at hk
    · rw [List.concat_eq_append] at *
      have hc := h c (by simp)
      have hl : l'.length = m := by simpa using hk
      rw [numL_snoc]
      rcases Nat.lt_or_ge i m with hi | hi
      · rw [List.getElem?_append_left (by omega)] at hb
        have := ih l' (fun x hx => h x (by simp [hx])) hl i b hb
        rw [show m + 1 - 1 - i = (m - 1 - i) + 1 from by omega, Int.pow_succ, Int.mul_comm (2 ^ (m - 1 - i)) 2, ← Int.ediv_ediv_of_nonneg (by omega)]
        rw [show (2 * numL l' + c) / 2 = numL l' from by omega]
        exact this
      · rw [List.getElem?_append_right (by omega)] at hb
        have hz : i - l'.length = 0 := by
          rcases Nat.eq_zero_or_pos (i - l'.length) with h0 | h0
          · exact h0
          · rw [List.getElem?_eq_none (by simp; omega)] at hb; cases hb
        rw [hz] at hb
        simp at hb
        subst hb
        rw [show m + 1 - 1 - i = 0 from by omega]
        simp
        omega

theorem Bits.take {l : List Int} (h : Bits l) (k : Nat) : Bits (l.take k) := fun b hb => h b (List.mem_of_mem_take hb)
theorem Bits.drop {l : List Int} (h : Bits l) (k : Nat) : Bits (l.drop k) := fun b hb => h b (List.mem_of_mem_drop hb)

/-- The words that bits of an address make. -/
def hiOf (six : Bool) (l : List Int) : Int := if six then numL (l.take 64) else 0
def loOf (six : Bool) (l : List Int) : Int := if six then numL (l.drop 64) else numL l

theorem e64 : (2 : Int) ^ 64 = 18446744073709551616 := by decide
theorem e32 : (2 : Int) ^ 32 = 4294967296 := by decide

theorem of_range (six : Bool) (l : List Int) (h : Bits l) (hl : (l.length : Int) = wideI six) :
    (0 ≤ hiOf six l ∧ hiOf six l < 18446744073709551616) ∧ (0 ≤ loOf six l ∧ loOf six l < 18446744073709551616) ∧ mayB six (hiOf six l) (loOf six l) = true := by
  cases six
  · have hl' : (l.length : Int) = 32 := hl
    have hl2 : l.length = 32 := by omega
    have r := numL_range l h
    rw [hl2, e32] at r
    unfold hiOf loOf mayB
    simp only [Bool.false_eq_true, ↓reduceIte, Bool.false_or, Bool.and_eq_true, beq_self_eq_true, decide_eq_true_eq, true_and]
    omega
  · have hl' : (l.length : Int) = 128 := hl
    have r1 := numL_range (l.take 64) (h.take 64)
    have r2 := numL_range (l.drop 64) (h.drop 64)
    rw [List.length_take, show min 64 l.length = 64 from by omega, e64] at r1
    rw [List.length_drop, show l.length - 64 = 64 from by omega, e64] at r2
    unfold hiOf loOf
    simp only [↓reduceIte]
    exact ⟨r1, r2, by simp [mayB]⟩

theorem of_bit (six : Bool) (l : List Int) (h : Bits l) (hl : (l.length : Int) = wideI six) (i : Nat) (b : Int) (hb : l[i]? = some b) : bitI six (hiOf six l) (loOf six l) i = b := by
  have hil := (List.getElem?_eq_some_iff.1 hb).1
  cases six
  · have hl' : (l.length : Int) = 32 := hl
    have := numL_bit l h i b hb
    unfold bitI loOf
    simp only [Bool.false_eq_true, ↓reduceIte]
    rwa [show (31 - (i : Int)).toNat = l.length - 1 - i from by omega]
  · have hl' : (l.length : Int) = 128 := hl
    unfold bitI loOf hiOf
    simp only [↓reduceIte]
    by_cases h64 : i < 64
    · rw [if_pos (by omega)]
      have := numL_bit (l.take 64) (h.take 64) i b (by rw [List.getElem?_take_of_lt h64]; exact hb)
      rw [List.length_take, show min 64 l.length = 64 from by omega] at this
      rwa [show (63 - (i : Int)).toNat = 64 - 1 - i from by omega]
    · rw [if_neg (by omega)]
      have := numL_bit (l.drop 64) (h.drop 64) (i - 64) b (by rw [List.getElem?_drop, show 64 + (i - 64) = i from by omega]; exact hb)
      rw [List.length_drop, show l.length - 64 = 64 from by omega] at this
      rwa [show (127 - (i : Int)).toNat = 64 - 1 - (i - 64) from by omega]

/-- Words whose bits are given. -/
theorem of_unique (six : Bool) (l : List Int) (h : Bits l) (hl : (l.length : Int) = wideI six) (hi lo : Int) (h1 : 0 ≤ hi ∧ hi < 18446744073709551616) (h2 : 0 ≤ lo ∧ lo < 18446744073709551616) (hm : mayB six hi lo = true)
    (hb : ∀ i : Nat, (i : Int) < wideI six → l[i]? = some (bitI six hi lo i)) : hiOf six l = hi ∧ loOf six l = lo := by
  have r := of_range six l h hl
  exact addr_ext six _ _ _ _ r.1 r.2.1 h1 h2 r.2.2 hm fun i hi' => of_bit six l h hl i _ (hb i hi')

end Go.Proofs.YticikknfkkmoaaaDoor

namespace Go.Proofs.YticikknfkkmoaaaDoor
set_option linter.unusedVariables false

/-- The sum, as a number of any size. -/
def sumI (hi lo by' : Int) : Int := hi * 18446744073709551616 + lo + by'
def plusHi (hi lo by' : Int) : Int := sumI hi lo by' / 18446744073709551616 % 18446744073709551616
def plusLo (hi lo by' : Int) : Int := sumI hi lo by' % 18446744073709551616
/-- Does the sum not go over the end? -/
def plusOk (six : Bool) (hi lo by' : Int) : Bool := decide (0 ≤ sumI hi lo by' ∧ sumI hi lo by' < 340282366920938463463374607431768211456) && mayB six (plusHi hi lo by') (plusLo hi lo by')

theorem plus_range (hi lo by' : Int) : (0 ≤ plusHi hi lo by' ∧ plusHi hi lo by' < 18446744073709551616) ∧ (0 ≤ plusLo hi lo by' ∧ plusLo hi lo by' < 18446744073709551616) := by
  unfold plusHi plusLo
  omega

/-- The number of an address. -/
def valI (six : Bool) (hi lo : Int) : Int := if six then hi * 18446744073709551616 + lo else lo
def topI (six : Bool) : Int := if six then 340282366920938463463374607431768211456 else 4294967296

theorem valI_range (six : Bool) (hi lo : Int) (h1 : 0 ≤ hi ∧ hi < 18446744073709551616) (h2 : 0 ≤ lo ∧ lo < 18446744073709551616) (hm : mayB six hi lo = true) : 0 ≤ valI six hi lo ∧ valI six hi lo < topI six := by
  unfold valI topI
  cases six
  · have := mayB_four hm
    simp only [Bool.false_eq_true, ↓reduceIte]
    omega
  · simp only [↓reduceIte]
    omega

theorem sum_val (six : Bool) (hi lo by' : Int) (hm : mayB six hi lo = true) : sumI hi lo by' = valI six hi lo + by' := by
  unfold sumI valI
  cases six
  · have := mayB_four hm
    simp only [Bool.false_eq_true, ↓reduceIte]
    omega
  · simp only [↓reduceIte]

/-- It does not go over the end just if the number stays one of an address. -/
theorem plusOk_iff (six : Bool) (hi lo by' : Int) (h1 : 0 ≤ hi ∧ hi < 18446744073709551616) (h2 : 0 ≤ lo ∧ lo < 18446744073709551616) (hm : mayB six hi lo = true) (hb : -1099511627776 ≤ by' ∧ by' ≤ 1099511627776) :
    plusOk six hi lo by' = true ↔ 0 ≤ valI six hi lo + by' ∧ valI six hi lo + by' < topI six := by
  have hs := sum_val six hi lo by' hm
  unfold plusOk
  rw [Bool.and_eq_true, decide_eq_true_eq, ← hs]
  unfold topI
  cases six
  · have := mayB_four hm
    have e : sumI hi lo by' = lo + by' := by unfold sumI; omega
    simp only [mayB, Bool.false_eq_true, ↓reduceIte, Bool.false_or, Bool.and_eq_true, beq_iff_eq, decide_eq_true_eq]
    unfold plusHi plusLo
    rw [e]
    omega
  · simp only [mayB, Bool.true_or, ↓reduceIte, and_true]

theorem valI_bit (six : Bool) (hi lo : Int) (i : Nat) (h1 : 0 ≤ hi ∧ hi < 18446744073709551616) (h2 : 0 ≤ lo ∧ lo < 18446744073709551616) {m : Nat} (hw : wideI six = m) (hi' : i < m) :
    bitI six hi lo i = valI six hi lo / 2 ^ (m - 1 - i) % 2 := by
  cases six
  · have hm : (32 : Int) = m := hw
    unfold bitI valI
    simp only [Bool.false_eq_true, ↓reduceIte]
    rw [show (31 - (i : Int)).toNat = m - 1 - i from by omega]
  · have hm : (128 : Int) = m := hw
    unfold bitI valI
    simp only [↓reduceIte]
    by_cases h64 : (i : Int) < 64
    · rw [if_pos h64, show (63 - (i : Int)).toNat = 63 - i from by omega, show m - 1 - i = 64 + (63 - i) from by omega, Int.pow_add, ← Int.ediv_ediv_of_nonneg (by decide)]
      have e : (2 : Int) ^ 64 = 18446744073709551616 := by decide
      rw [e, show (hi * 18446744073709551616 + lo) / 18446744073709551616 = hi from by omega]
    · rw [if_neg h64, show (127 - (i : Int)).toNat = m - 1 - i from by omega]
      obtain ⟨j, hj⟩ : ∃ j, m - 1 - i = j := ⟨_, rfl⟩
      have hj64 : j < 64 := by omega
      rw [hj]
      have e : (18446744073709551616 : Int) = 2 ^ j * (2 * 2 ^ (63 - j)) := by
        rw [show (2 : Int) * 2 ^ (63 - j) = 2 ^ (64 - j) from by rw [show 64 - j = (63 - j) + 1 from by omega, Int.pow_succ, Int.mul_comm], ← Int.pow_add, show j + (64 - j) = 64 from by omega]
        decide
      have hp : (0 : Int) < 2 ^ j := Int.pow_pos (by omega)
      rw [e, show hi * (2 ^ j * (2 * 2 ^ (63 - j))) + lo = lo + 2 ^ j * (hi * (2 * 2 ^ (63 - j))) from by rw [← Int.mul_assoc, Int.mul_comm hi, Int.mul_assoc, Int.add_comm], Int.add_mul_ediv_left _ _ (by omega)]
      rw [show hi * (2 * 2 ^ (63 - j)) = 2 * (hi * 2 ^ (63 - j)) from by rw [← Int.mul_assoc, Int.mul_comm hi 2, Int.mul_assoc]]
      omega

/-- The words of the sum are those of an address whose number is the sum. -/
theorem plus_val (six : Bool) (hi lo by' : Int) (h1 : 0 ≤ hi ∧ hi < 18446744073709551616) (h2 : 0 ≤ lo ∧ lo < 18446744073709551616) (hm : mayB six hi lo = true) (hok : plusOk six hi lo by' = true) :
    valI six (plusHi hi lo by') (plusLo hi lo by') = valI six hi lo + by' ∧ mayB six (plusHi hi lo by') (plusLo hi lo by') = true := by
  unfold plusOk at hok
  rw [Bool.and_eq_true, decide_eq_true_eq] at hok
  obtain ⟨h3, h4⟩ := hok
  refine ⟨?_, h4⟩
  have e1 := sum_val six (plusHi hi lo by') (plusLo hi lo by') 0 h4
  have e2 := sum_val six hi lo by' hm
  rw [← e2]
  have e3 : sumI (plusHi hi lo by') (plusLo hi lo by') 0 = plusHi hi lo by' * 18446744073709551616 + plusLo hi lo by' + 0 := rfl
  have e4 : plusHi hi lo by' = sumI hi lo by' / 18446744073709551616 % 18446744073709551616 := rfl
  have e5 : plusLo hi lo by' = sumI hi lo by' % 18446744073709551616 := rfl
  rw [e3] at e1
  generalize plusHi hi lo by' = a at *
  generalize plusLo hi lo by' = b at *
  generalize sumI hi lo by' = s at *
  omega

/-! Bit by bit, from the lowest on. -/
/-- What is carried behind the lowest r bits. -/
def carryI (v by' : Int) (r : Nat) : Int := (v % 2 ^ r + by') / 2 ^ r
theorem carry_zero (v by' : Int) : carryI v by' 0 = by' := by unfold carryI; simp [Int.emod_one]
theorem carry_bit (v by' : Int) (r : Nat) : (v / 2 ^ r % 2 + carryI v by' r) % 2 = (v + by') / 2 ^ r % 2 := by
  unfold carryI
  have hp : (0 : Int) < 2 ^ r := Int.pow_pos (by omega)
  have e : v + by' = (v % 2 ^ r + by') + 2 ^ r * (v / 2 ^ r) := by
    have := Int.mul_ediv_add_emod v (2 ^ r)
    omega
  rw [show (v + by') / 2 ^ r = (v % 2 ^ r + by') / 2 ^ r + v / 2 ^ r from by
    conv => lhs; rw [e]
    rw [Int.add_mul_ediv_left _ _ (by omega)]]
  omega
theorem carry_succ (v by' : Int) (r : Nat) : carryI v by' (r + 1) = (v / 2 ^ r % 2 + carryI v by' r) / 2 := by
  unfold carryI
  have hp : (0 : Int) < 2 ^ r := Int.pow_pos (by omega)
  rw [mod_succ, show v % 2 ^ r + 2 ^ r * (v / 2 ^ r % 2) + by' = (v % 2 ^ r + by') + 2 ^ r * (v / 2 ^ r % 2) from by omega, Int.pow_succ, ← Int.ediv_ediv_of_nonneg (by omega), Int.add_mul_ediv_left _ _ (by omega)]
  congr 1
  omega
theorem carry_range (v by' : Int) (r : Nat) (hb : -1099511627776 ≤ by' ∧ by' ≤ 1099511627776) : -1099511627776 ≤ carryI v by' r ∧ carryI v by' r ≤ 1099511627777 := by
  induction r with
  | zero => rw [carry_zero]; omega
  | succ r ih =>
    rw [carry_succ]
    omega
theorem carry_end (v by' top : Int) (r : Nat) (ht : top = 2 ^ r) (hv : 0 ≤ v ∧ v < top) : carryI v by' r = 0 ↔ 0 ≤ v + by' ∧ v + by' < top := by
  unfold carryI
  have hp : (0 : Int) < 2 ^ r := Int.pow_pos (by omega)
  rw [Int.emod_eq_of_lt hv.1 (by omega)]
  constructor
  · intro h
    have := Int.mul_ediv_add_emod (v + by') (2 ^ r)
    have h3 := Int.emod_lt_of_pos (v + by') hp
    have h4 := Int.emod_nonneg (v + by') (by omega : (2 : Int) ^ r ≠ 0)
    rw [h] at this
    omega
  · rintro ⟨h1, h2⟩
    exact Int.ediv_eq_zero_of_lt h1 (by omega)

/-- The bits, the lowest r of them those of the sum. -/
def nextTo (six : Bool) (hi lo by' : Int) (m r : Nat) : List Int := (List.range m).map fun (j : Nat) => if j < m - r then bitI six hi lo j else (valI six hi lo + by') / 2 ^ (m - 1 - j) % 2
theorem nextTo_length (six : Bool) (hi lo by' : Int) (m r : Nat) : (nextTo six hi lo by' m r).length = m := by simp [nextTo]
theorem nextTo_zero {six : Bool} {hi lo by' : Int} {m : Nat} (hm : wideI six = m) : nextTo six hi lo by' m 0 = bitsL six hi lo := by
  unfold nextTo bitsL
  rw [hm]
  apply List.map_congr_left
  intro j hj
  have : j < m := by simpa using hj
  rw [if_pos (by omega)]
theorem nextTo_at {six : Bool} {hi lo by' : Int} {m r : Nat} (hr : r < m) : (nextTo six hi lo by' m r)[m - 1 - r]? = some (bitI six hi lo ((m - 1 - r : Nat) : Int)) := by
  unfold nextTo
  rw [List.getElem?_map, List.getElem?_range (by omega)]
  simp only [Option.map_some, Option.some.injEq]
  rw [if_pos (by omega)]
theorem nextTo_set {six : Bool} {hi lo by' : Int} {m r : Nat} (hr : r < m) : (nextTo six hi lo by' m r).set (m - 1 - r) ((valI six hi lo + by') / 2 ^ r % 2) = nextTo six hi lo by' m (r + 1) := by
  apply List.ext_getElem?
  intro j
  unfold nextTo
  rw [List.getElem?_set]
  by_cases h : m - 1 - r = j
  · subst h
    rw [if_pos rfl, if_pos (by simp; omega), List.getElem?_map, List.getElem?_range (by omega)]
    simp only [Option.map_some, Option.some.injEq]
    rw [if_neg (by omega), show m - 1 - (m - 1 - r) = r from by omega]
  · rw [if_neg h, List.getElem?_map, List.getElem?_map]
    rcases Nat.lt_or_ge j m with hj | hj
    · rw [List.getElem?_range hj]
      simp only [Option.map_some, Option.some.injEq]
      by_cases h1 : j < m - r
      · rw [if_pos h1, if_pos (by omega)]
      · rw [if_neg h1, if_neg (by omega)]
    · rw [List.getElem?_eq_none (by simpa using hj)]
      rfl
theorem nextTo_bits (six : Bool) (hi lo by' : Int) (m r : Nat) : Bits (nextTo six hi lo by' m r) := by
  intro b hb
  unfold nextTo at hb
  obtain ⟨i, _, rfl⟩ := List.mem_map.1 hb
  have := bitI_01 six hi lo i
  split <;> omega
theorem nextTo_words {six : Bool} {hi lo by' : Int} {m : Nat} (hm : wideI six = m) (h1 : 0 ≤ hi ∧ hi < 18446744073709551616) (h2 : 0 ≤ lo ∧ lo < 18446744073709551616) (hmay : mayB six hi lo = true) (hok : plusOk six hi lo by' = true) :
    hiOf six (nextTo six hi lo by' m m) = plusHi hi lo by' ∧ loOf six (nextTo six hi lo by' m m) = plusLo hi lo by' := by
  have hr := plus_range hi lo by'
  have hv := plus_val six hi lo by' h1 h2 hmay hok
  refine of_unique six _ (nextTo_bits six hi lo by' m m) (by rw [nextTo_length, hm]) _ _ hr.1 hr.2 hv.2 fun i hi' => ?_
  rw [valI_bit six _ _ i hr.1 hr.2 hm (by omega), hv.1]
  unfold nextTo
  rw [List.getElem?_map, List.getElem?_range (by omega)]
  simp only [Option.map_some, Option.some.injEq]
  rw [if_neg (by omega)]

end Go.Proofs.YticikknfkkmoaaaDoor

namespace Go.Proofs.YticikknfkkmoaaaDoor
set_option linter.unusedVariables false

theorem int_bit (x j : Nat) : ((x : Int) / 2 ^ j % 2) = ((x.testBit j).toNat : Int) := by
  have e : ((x : Int) / 2 ^ j % 2) = ((x / 2 ^ j % 2 : Nat) : Int) := by simp
  rw [e, Nat.testBit_eq_decide_div_mod_eq]
  rcases (by omega : x / 2 ^ j % 2 = 0 ∨ x / 2 ^ j % 2 = 1) with h | h <;> simp [h]

theorem onesI_keep (n : Int) : onesI n = keepW 18446744073709551615 n := by
  have h := and_ones_int 18446744073709551615 n (by omega) (by omega)
  have hr := onesI_range n
  rw [← h, Nat.and_comm, show (18446744073709551615 : Int).toNat = 2 ^ 64 - 1 from by decide, Nat.and_two_pow_sub_one_eq_mod]
  have : (2 ^ 64 : Nat) = 18446744073709551616 := by decide
  rw [Nat.mod_eq_of_lt (by omega)]
  omega

theorem ones_bit (n : Int) (j : Nat) (hj : j < 64) : (onesI n).toNat.testBit j = decide (64 - n ≤ j) := by
  have h1 := int_bit (onesI n).toNat j
  rw [Int.toNat_of_nonneg (onesI_range n).1, onesI_keep, bit_keepW _ n j hj] at h1
  have h2 : (18446744073709551615 : Int) / 2 ^ j % 2 = 1 := by
    have := int_bit (2 ^ 64 - 1) j
    rw [Nat.testBit_two_pow_sub_one] at this
    have e : ((2 ^ 64 - 1 : Nat) : Int) = 18446744073709551615 := by decide
    rw [e] at this
    rw [this]
    simp [hj]
  rw [h2] at h1
  cases hb : (onesI n).toNat.testBit j
  · rw [← onesI_keep, hb] at h1
    by_cases hc : 64 - n ≤ (j : Int)
    · rw [if_pos hc] at h1; simp at h1
    · simp [hc]
  · rw [← onesI_keep, hb] at h1
    by_cases hc : 64 - n ≤ (j : Int)
    · simp [hc]
    · rw [if_neg hc] at h1; simp at h1

/-- A word behind whose first n bits all is 1. -/
def fillN (x m : Int) : Nat := x.toNat ||| (18446744073709551615 ^^^ m.toNat)

theorem fillN_lt (x m : Int) (hx : 0 ≤ x ∧ x < 18446744073709551616) (hm : 0 ≤ m ∧ m < 18446744073709551616) : fillN x m < 2 ^ 64 := by
  have e : (2 ^ 64 : Nat) = 18446744073709551616 := by decide
  exact Nat.or_lt_two_pow (by omega) (Nat.xor_lt_two_pow (by omega) (by omega))
theorem fillN_bit (x m : Int) (j : Nat) (hj : j < 64) : (fillN x m).testBit j = (x.toNat.testBit j || !m.toNat.testBit j) := by
  unfold fillN
  rw [Nat.testBit_or, Nat.testBit_xor, show (18446744073709551615 : Nat) = 2 ^ 64 - 1 from by decide, Nat.testBit_two_pow_sub_one]
  simp [hj]

/-- All bits of the last address of a prefix. -/
def lastL (six : Bool) (hi lo n : Int) : List Int := (List.range (wideI six).toNat).map fun (i : Nat) => if (i : Int) < n then bitI six hi lo i else 1
def lastHi (six : Bool) (hi lo n : Int) : Int := hiOf six (lastL six hi lo n)
def lastLo (six : Bool) (hi lo n : Int) : Int := loOf six (lastL six hi lo n)

theorem lastL_length (six : Bool) (hi lo n : Int) : ((lastL six hi lo n).length : Int) = wideI six := by
  unfold lastL wideI
  cases six <;> simp
theorem lastL_bits (six : Bool) (hi lo n : Int) : Bits (lastL six hi lo n) := by
  intro b hb
  unfold lastL at hb
  obtain ⟨i, _, rfl⟩ := List.mem_map.1 hb
  have := bitI_01 six hi lo i
  split <;> omega
theorem lastL_at (six : Bool) (hi lo n : Int) (i : Nat) (hi' : (i : Int) < wideI six) : (lastL six hi lo n)[i]? = some (if (i : Int) < n then bitI six hi lo i else 1) := by
  unfold lastL
  rw [List.getElem?_map, List.getElem?_range (by omega)]
  rfl

theorem last_range (six : Bool) (hi lo n : Int) : (0 ≤ lastHi six hi lo n ∧ lastHi six hi lo n < 18446744073709551616) ∧ (0 ≤ lastLo six hi lo n ∧ lastLo six hi lo n < 18446744073709551616) ∧ mayB six (lastHi six hi lo n) (lastLo six hi lo n) = true :=
  of_range six _ (lastL_bits six hi lo n) (lastL_length six hi lo n)
theorem last_bit (six : Bool) (hi lo n : Int) (i : Nat) (hi' : (i : Int) < wideI six) : bitI six (lastHi six hi lo n) (lastLo six hi lo n) i = if (i : Int) < n then bitI six hi lo i else 1 :=
  of_bit six _ (lastL_bits six hi lo n) (lastL_length six hi lo n) i _ (lastL_at six hi lo n i hi')

theorem last_six_eq (hi lo n : Int) (h1 : 0 ≤ hi ∧ hi < 18446744073709551616) (h2 : 0 ≤ lo ∧ lo < 18446744073709551616) :
    lastHi true hi lo n = (fillN hi (onesI n) : Int) ∧ lastLo true hi lo n = (fillN lo (onesI (n - 64)) : Int) := by
  have e : (2 ^ 64 : Nat) = 18446744073709551616 := by decide
  have f1 := fillN_lt hi (onesI n) h1 (onesI_range n)
  have f2 := fillN_lt lo (onesI (n - 64)) h2 (onesI_range _)
  refine of_unique true _ (lastL_bits true hi lo n) (lastL_length true hi lo n) _ _ (by omega) (by omega) (by simp [mayB]) fun i hi' => ?_
  rw [lastL_at true hi lo n i hi']
  have h128 : (i : Int) < 128 := hi'
  congr 1
  unfold bitI
  simp only [↓reduceIte]
  by_cases h64 : (i : Int) < 64
  · rw [if_pos h64, if_pos h64]
    rw [int_bit, fillN_bit _ _ _ (by omega), ones_bit _ _ (by omega)]
    have := int_bit hi.toNat (63 - (i : Int)).toNat
    rw [Int.toNat_of_nonneg h1.1] at this
    rw [this]
    by_cases hc : (i : Int) < n
    · rw [if_pos hc, show decide (64 - n ≤ ((63 - (i : Int)).toNat : Int)) = true from by simp; omega]
      simp
    · rw [if_neg hc, show decide (64 - n ≤ ((63 - (i : Int)).toNat : Int)) = false from by simp; omega]
      simp
  · rw [if_neg h64, if_neg h64]
    rw [int_bit, fillN_bit _ _ _ (by omega), ones_bit _ _ (by omega)]
    have := int_bit lo.toNat (127 - (i : Int)).toNat
    rw [Int.toNat_of_nonneg h2.1] at this
    rw [this]
    by_cases hc : (i : Int) < n
    · rw [if_pos hc, show decide (64 - (n - 64) ≤ ((127 - (i : Int)).toNat : Int)) = true from by simp; omega]
      simp
    · rw [if_neg hc, show decide (64 - (n - 64) ≤ ((127 - (i : Int)).toNat : Int)) = false from by simp; omega]
      simp

theorem last_four_eq (hi lo n : Int) (h2 : 0 ≤ lo ∧ lo < 18446744073709551616) :
    lastHi false hi lo n = 0 ∧ lastLo false hi lo n = ((fillN lo (onesI n / 4294967296) % 2 ^ 32 : Nat) : Int) := by
  have e : (2 ^ 32 : Nat) = 4294967296 := by decide
  have hlt : fillN lo (onesI n / 4294967296) % 2 ^ 32 < 2 ^ 32 := Nat.mod_lt _ (by omega)
  refine of_unique false _ (lastL_bits false hi lo n) (lastL_length false hi lo n) _ _ (by omega) (by omega) (by simp [mayB]; omega) fun i hi' => ?_
  rw [lastL_at false hi lo n i hi']
  have h32 : (i : Int) < 32 := hi'
  congr 1
  unfold bitI
  simp only [Bool.false_eq_true, ↓reduceIte]
  rw [int_bit, Nat.testBit_mod_two_pow, fillN_bit _ _ _ (by omega)]
  have hm : (onesI n / 4294967296).toNat.testBit (31 - (i : Int)).toNat = (onesI n).toNat.testBit (63 - (i : Int)).toNat := by
    rw [show (onesI n / 4294967296).toNat = (onesI n).toNat / 2 ^ 32 from by have := onesI_range n; omega, Nat.testBit_div_two_pow, show (31 - (i : Int)).toNat + 32 = (63 - (i : Int)).toNat from by omega]
  rw [hm, ones_bit _ _ (by omega)]
  have := int_bit lo.toNat (31 - (i : Int)).toNat
  rw [Int.toNat_of_nonneg h2.1] at this
  rw [this, show decide ((31 - (i : Int)).toNat < 32) = true from by simp; omega]
  by_cases hc : (i : Int) < n
  · rw [if_pos hc, show decide (64 - n ≤ ((63 - (i : Int)).toNat : Int)) = true from by simp; omega]
    simp
  · rw [if_neg hc, show decide (64 - n ≤ ((63 - (i : Int)).toNat : Int)) = false from by simp; omega]
    simp

end Go.Proofs.YticikknfkkmoaaaDoor

namespace Go.Proofs.YticikknfkkmoaaaDoor
set_option linter.unusedVariables false

/-- A word with bit k set. -/
def setN (x : Int) (k : Nat) : Nat := x.toNat ||| 2 ^ k
theorem setN_lt (x : Int) (k : Nat) (hx : 0 ≤ x ∧ x < 18446744073709551616) (hk : k < 64) : setN x k < 2 ^ 64 := by
  have e : (2 ^ 64 : Nat) = 18446744073709551616 := by decide
  exact Nat.or_lt_two_pow (by omega) (Nat.pow_lt_pow_right (by omega) hk)
theorem setN_lt4 (x : Int) (k : Nat) (hx : 0 ≤ x ∧ x < 4294967296) (hk : k < 32) : setN x k < 2 ^ 32 := by
  have e : (2 ^ 32 : Nat) = 4294967296 := by decide
  exact Nat.or_lt_two_pow (by omega) (Nat.pow_lt_pow_right (by omega) hk)
theorem setN_bit (x : Int) (k j : Nat) (hx : 0 ≤ x) : ((setN x k : Nat) : Int) / 2 ^ j % 2 = if j = k then 1 else x / 2 ^ j % 2 := by
  rw [int_bit]
  unfold setN
  rw [Nat.testBit_or, Nat.testBit_two_pow]
  have h := int_bit x.toNat j
  rw [Int.toNat_of_nonneg hx] at h
  rw [h]
  by_cases hj : j = k
  · subst hj
    simp
  · rw [if_neg hj, show decide (k = j) = false from by simp; omega]
    simp

def setHi (six : Bool) (hi : Int) (n : Nat) : Int := if six = true ∧ n < 64 then (setN hi (63 - n) : Int) else hi
def setLo (six : Bool) (lo : Int) (n : Nat) : Int := if six = true then (if n < 64 then lo else (setN lo (127 - n) : Int)) else (setN lo (31 - n) : Int)

theorem set_range (six : Bool) (hi lo : Int) (n : Nat) (h1 : 0 ≤ hi ∧ hi < 18446744073709551616) (h2 : 0 ≤ lo ∧ lo < 18446744073709551616) (hm : mayB six hi lo = true) (hn : (n : Int) < wideI six) :
    (0 ≤ setHi six hi n ∧ setHi six hi n < 18446744073709551616) ∧ (0 ≤ setLo six lo n ∧ setLo six lo n < 18446744073709551616) ∧ mayB six (setHi six hi n) (setLo six lo n) = true := by
  have e : (2 ^ 64 : Nat) = 18446744073709551616 := by decide
  have e' : (2 ^ 32 : Nat) = 4294967296 := by decide
  cases six
  · have hn' : (n : Int) < 32 := hn
    have hq := mayB_four hm
    have := setN_lt4 lo (31 - n) ⟨h2.1, hq.2⟩ (by omega)
    unfold setHi setLo
    simp only [Bool.false_eq_true, false_and, ↓reduceIte]
    refine ⟨h1, by omega, ?_⟩
    simp only [mayB, Bool.false_or, Bool.and_eq_true, beq_iff_eq, decide_eq_true_eq]
    exact ⟨hq.1, by omega⟩
  · have hn' : (n : Int) < 128 := hn
    unfold setHi setLo
    simp only [true_and, ↓reduceIte]
    by_cases h64 : n < 64
    · rw [if_pos h64, if_pos h64]
      have := setN_lt hi (63 - n) h1 (by omega)
      exact ⟨by omega, h2, by simp [mayB]⟩
    · rw [if_neg h64, if_neg h64]
      have := setN_lt lo (127 - n) h2 (by omega)
      exact ⟨h1, by omega, by simp [mayB]⟩

theorem set_bit (six : Bool) (hi lo : Int) (n i : Nat) (h1 : 0 ≤ hi ∧ hi < 18446744073709551616) (h2 : 0 ≤ lo ∧ lo < 18446744073709551616) (hn : (n : Int) < wideI six) (hi' : (i : Int) < wideI six) :
    bitI six (setHi six hi n) (setLo six lo n) i = if i = n then 1 else bitI six hi lo i := by
  cases six
  · have hn' : (n : Int) < 32 := hn
    have hi2 : (i : Int) < 32 := hi'
    unfold bitI setLo
    simp only [Bool.false_eq_true, ↓reduceIte]
    rw [setN_bit _ _ _ h2.1]
    by_cases hc : i = n
    · rw [if_pos (by omega), if_pos hc]
    · rw [if_neg (by omega), if_neg hc]
  · have hn' : (n : Int) < 128 := hn
    have hi2 : (i : Int) < 128 := hi'
    unfold bitI setHi setLo
    simp only [true_and, ↓reduceIte]
    by_cases h64 : n < 64
    · rw [if_pos h64, if_pos h64]
      by_cases hi64 : (i : Int) < 64
      · rw [if_pos hi64, if_pos hi64, setN_bit _ _ _ h1.1]
        by_cases hc : i = n
        · rw [if_pos (by omega), if_pos hc]
        · rw [if_neg (by omega), if_neg hc]
      · rw [if_neg hi64, if_neg hi64, if_neg (by omega)]
    · rw [if_neg h64, if_neg h64]
      by_cases hi64 : (i : Int) < 64
      · rw [if_pos hi64, if_pos hi64, if_neg (by omega)]
      · rw [if_neg hi64, if_neg hi64, setN_bit _ _ _ h2.1]
        by_cases hc : i = n
        · rw [if_pos (by omega), if_pos hc]
        · rw [if_neg (by omega), if_neg hc]

/-- The bits of an address, one of them set, make that address. -/
theorem set_bits (six : Bool) (hi lo : Int) (n : Nat) (h1 : 0 ≤ hi ∧ hi < 18446744073709551616) (h2 : 0 ≤ lo ∧ lo < 18446744073709551616) (hm : mayB six hi lo = true) (hn : (n : Int) < wideI six) :
    hiOf six ((bitsL six hi lo).set n 1) = setHi six hi n ∧ loOf six ((bitsL six hi lo).set n 1) = setLo six lo n := by
  have hr := set_range six hi lo n h1 h2 hm hn
  have hlen : (bitsL six hi lo).length = (wideI six).toNat := bitsL_length six hi lo
  have hw := wideI_le six
  refine of_unique six _ ?_ (by rw [List.length_set, hlen]; omega) _ _ hr.1 hr.2.1 hr.2.2 fun i hi' => ?_
  · intro b hb
    rcases List.mem_or_eq_of_mem_set hb with hb | rfl
    · obtain ⟨j, _, rfl⟩ := List.mem_map.1 hb
      exact bitI_01 six hi lo j
    · omega
  · rw [set_bit six hi lo n i h1 h2 hn hi', List.getElem?_set]
    by_cases hc : i = n
    · subst hc
      rw [if_pos rfl, if_pos rfl, if_pos (by omega)]
    · rw [if_neg (fun h => hc h.symm), if_neg hc]
      unfold bitsL
      rw [List.getElem?_map, List.getElem?_range (by omega)]
      rfl

end Go.Proofs.YticikknfkkmoaaaDoor

namespace Go.Proofs.YticikknfkkmoaaaDoor
set_option linter.unusedVariables false

theorem bitLen_zero : Lib.bitLen 0 = 0 := Lib.bitLenAux_zero _
theorem bitLen_bounds (x : Nat) (h : x < 2 ^ 64) (h0 : x ≠ 0) : 1 ≤ Lib.bitLen x ∧ 2 ^ (Lib.bitLen x - 1) ≤ x ∧ x < 2 ^ Lib.bitLen x := Lib.bitLenAux_bounds 64 x h h0

/-- The bits above a number's length are 0. -/
theorem bitLen_above (x j : Nat) (h : x < 2 ^ 64) (hj : Lib.bitLen x ≤ j) : x.testBit j = false := by
  by_cases h0 : x = 0
  · subst h0; simp
  · exact Nat.testBit_lt_two_pow (Nat.lt_of_lt_of_le (bitLen_bounds x h h0).2.2 (Nat.pow_le_pow_right (by omega) hj))
/-- Its highest bit is 1. -/
theorem bitLen_top (x : Nat) (h : x < 2 ^ 64) (h0 : x ≠ 0) : x.testBit (Lib.bitLen x - 1) = true := by
  have hb := bitLen_bounds x h h0
  rw [Nat.testBit_eq_decide_div_mod_eq]
  have h1 : x / 2 ^ (Lib.bitLen x - 1) = 1 := by
    have hp : (2 : Nat) ^ Lib.bitLen x = 2 ^ (Lib.bitLen x - 1) * 2 := by rw [← Nat.pow_succ, show (Lib.bitLen x - 1).succ = Lib.bitLen x from by omega]
    apply Nat.div_eq_of_lt_le
    · omega
    · omega
  rw [h1]
  rfl

theorem xor_bit (x y : Int) (j : Nat) (hx : 0 ≤ x) (hy : 0 ≤ y) : (x.toNat ^^^ y.toNat).testBit j = false ↔ x / 2 ^ j % 2 = y / 2 ^ j % 2 := by
  rw [Nat.testBit_xor]
  have h1 := int_bit x.toNat j
  have h2 := int_bit y.toNat j
  rw [Int.toNat_of_nonneg hx] at h1
  rw [Int.toNat_of_nonneg hy] at h2
  rw [h1, h2]
  cases x.toNat.testBit j <;> cases y.toNat.testBit j <;> simp

/-- How many of the first W bits of two words are alike. -/
def wordAlike (W : Nat) (x y : Int) : Int := W - (Lib.bitLen (x.toNat ^^^ y.toNat) : Int)

theorem xor_lt (W : Nat) (x y : Int) (hx : 0 ≤ x ∧ x < 2 ^ W) (hy : 0 ≤ y ∧ y < 2 ^ W) : x.toNat ^^^ y.toNat < 2 ^ W := by
  have h1 : x.toNat < 2 ^ W := by
    have : ((2 ^ W : Nat) : Int) = (2 : Int) ^ W := by simp
    omega
  have h2 : y.toNat < 2 ^ W := by
    have : ((2 ^ W : Nat) : Int) = (2 : Int) ^ W := by simp
    omega
  exact Nat.xor_lt_two_pow h1 h2

theorem bitLen_le_of_lt (x W : Nat) (hW : W ≤ 64) (h : x < 2 ^ W) : Lib.bitLen x ≤ W := by
  by_cases h0 : x = 0
  · subst h0; rw [bitLen_zero]; omega
  · have h64 : x < 2 ^ 64 := Nat.lt_of_lt_of_le h (Nat.pow_le_pow_right (by omega) hW)
    have hb := bitLen_bounds x h64 h0
    rcases Nat.lt_or_ge W (Lib.bitLen x) with hlt | hge
    · exfalso
      have : (2 : Nat) ^ W ≤ 2 ^ (Lib.bitLen x - 1) := Nat.pow_le_pow_right (by omega) (by omega)
      omega
    · exact hge

theorem wordAlike_range (W : Nat) (x y : Int) (hW : W ≤ 64) (hx : 0 ≤ x ∧ x < 2 ^ W) (hy : 0 ≤ y ∧ y < 2 ^ W) : 0 ≤ wordAlike W x y ∧ wordAlike W x y ≤ W := by
  have := bitLen_le_of_lt _ W hW (xor_lt W x y hx hy)
  unfold wordAlike
  omega

/-- The first n bits of two words are the same just if n is at most so much. -/
theorem wordAlike_iff (W : Nat) (x y : Int) (n : Nat) (hW : W ≤ 64) (hn : n ≤ W) (hx : 0 ≤ x ∧ x < 2 ^ W) (hy : 0 ≤ y ∧ y < 2 ^ W) :
    (n : Int) ≤ wordAlike W x y ↔ ∀ i : Nat, i < n → x / 2 ^ (W - 1 - i) % 2 = y / 2 ^ (W - 1 - i) % 2 := by
  have hlt := xor_lt W x y hx hy
  have h64 : x.toNat ^^^ y.toNat < 2 ^ 64 := Nat.lt_of_lt_of_le hlt (Nat.pow_le_pow_right (by omega) hW)
  have hle := bitLen_le_of_lt _ W hW hlt
  unfold wordAlike
  constructor
  · intro h i hi
    rw [← xor_bit x y _ hx.1 hy.1]
    exact bitLen_above _ _ h64 (by omega)
  · intro h
    by_cases h0 : x.toNat ^^^ y.toNat = 0
    · rw [h0, bitLen_zero]; omega
    · have hb := bitLen_bounds _ h64 h0
      have ht := bitLen_top _ h64 h0
      generalize Lib.bitLen (x.toNat ^^^ y.toNat) = L at *
      rcases Nat.lt_or_ge (W - L) n with hc | hc
      · exfalso
        have := h (W - L) hc
        rw [show W - 1 - (W - L) = L - 1 from by omega, ← xor_bit x y _ hx.1 hy.1] at this
        rw [this] at ht
        cases ht
      · omega

theorem wordAlike_eq (W : Nat) (x : Int) : wordAlike W x x = W := by
  unfold wordAlike
  rw [Nat.xor_self, bitLen_zero]
  simp

/-- How many bits two addresses of one family have in common, from the first one on. -/
def alikeI (six : Bool) (hi lo hi' lo' : Int) : Int :=
  if six = false then wordAlike 32 lo lo' else if hi = hi' then 64 + wordAlike 64 lo lo' else wordAlike 64 hi hi'

theorem alike_iff (six : Bool) (hi lo hi' lo' : Int) (n : Nat) (h1 : 0 ≤ hi ∧ hi < 18446744073709551616) (h2 : 0 ≤ lo ∧ lo < 18446744073709551616) (h3 : 0 ≤ hi' ∧ hi' < 18446744073709551616) (h4 : 0 ≤ lo' ∧ lo' < 18446744073709551616)
    (hm : mayB six hi lo = true) (hm' : mayB six hi' lo' = true) (hn : (n : Int) ≤ wideI six) :
    (n : Int) ≤ alikeI six hi lo hi' lo' ↔ ∀ i : Nat, i < n → bitI six hi lo i = bitI six hi' lo' i := by
  have e : (2 : Int) ^ 64 = 18446744073709551616 := by decide
  have e' : (2 : Int) ^ 32 = 4294967296 := by decide
  cases six
  · have hn' : (n : Int) ≤ 32 := hn
    have q := mayB_four hm
    have q' := mayB_four hm'
    unfold alikeI
    rw [if_pos rfl, wordAlike_iff 32 lo lo' n (by omega) (by omega) (by omega) (by omega)]
    have hb : ∀ (hi lo : Int) (i : Nat), i < n → bitI false hi lo i = lo / 2 ^ (32 - 1 - i) % 2 := by
      intro hi lo i hi0
      unfold bitI
      rw [if_neg (by simp), show (31 - (i : Int)).toNat = 32 - 1 - i from by omega]
    constructor
    · intro h i hi0; rw [hb _ _ _ hi0, hb _ _ _ hi0]; exact h i hi0
    · intro h i hi0; have := h i hi0; rw [hb _ _ _ hi0, hb _ _ _ hi0] at this; exact this
  · have hn' : (n : Int) ≤ 128 := hn
    have hH : ∀ (hi lo : Int) (i : Nat), i < 64 → bitI true hi lo i = hi / 2 ^ (64 - 1 - i) % 2 := by
      intro hi lo i hi0
      unfold bitI
      rw [if_pos rfl, if_pos (by omega), show (63 - (i : Int)).toNat = 64 - 1 - i from by omega]
    have hL : ∀ (hi lo : Int) (i : Nat), i < 64 → bitI true hi lo ((64 + i : Nat) : Int) = lo / 2 ^ (64 - 1 - i) % 2 := by
      intro hi lo i hi0
      unfold bitI
      rw [if_pos rfl, if_neg (by omega), show (127 - ((64 + i : Nat) : Int)).toNat = 64 - 1 - i from by omega]
    unfold alikeI
    rw [if_neg (by simp)]
    by_cases hh : hi = hi'
    · subst hh
      rw [if_pos rfl]
      have r := wordAlike_range 64 lo lo' (by omega) (by omega) (by omega)
      rcases Nat.lt_or_ge n 64 with hc | hc
      · constructor
        · intro _ i hi0; rw [hH _ _ _ (by omega), hH _ _ _ (by omega)]
        · intro _; omega
      · have hw := wordAlike_iff 64 lo lo' (n - 64) (by omega) (by omega) (by omega) (by omega)
        have e1 : (n : Int) ≤ 64 + wordAlike 64 lo lo' ↔ ((n - 64 : Nat) : Int) ≤ wordAlike 64 lo lo' := by omega
        rw [e1, hw]
        constructor
        · intro h i hi0
          rcases Nat.lt_or_ge i 64 with hi64 | hi64
          · rw [hH _ _ _ hi64, hH _ _ _ hi64]
          · obtain ⟨j, rfl⟩ : ∃ j, i = 64 + j := ⟨i - 64, by omega⟩
            rw [hL _ _ _ (by omega), hL _ _ _ (by omega)]
            exact h j (by omega)
        · intro h j hj
          have := h (64 + j) (by omega)
          rw [hL _ _ _ (by omega), hL _ _ _ (by omega)] at this
          exact this
    · rw [if_neg hh]
      have r := wordAlike_range 64 hi hi' (by omega) (by omega) (by omega)
      have hne : ∃ j : Nat, j < 64 ∧ ¬ hi / 2 ^ (64 - 1 - j) % 2 = hi' / 2 ^ (64 - 1 - j) % 2 := by
        apply Classical.byContradiction
        intro hcon
        apply hh
        refine word_ext hi hi' 64 (by omega) (by omega) fun j hj => ?_
        apply Classical.byContradiction
        intro hb
        exact hcon ⟨63 - j, by omega, by rw [show 64 - 1 - (63 - j) = j from by omega]; exact hb⟩
      obtain ⟨j, hj, hbj⟩ := hne
      rcases Nat.lt_or_ge 64 n with hc | hc
      · constructor
        · intro h; omega
        · intro h
          exfalso
          have := h j (by omega)
          rw [hH _ _ _ hj, hH _ _ _ hj] at this
          exact hbj this
      · rw [wordAlike_iff 64 hi hi' n (by omega) hc (by omega) (by omega)]
        constructor
        · intro h i hi0; rw [hH _ _ _ (by omega), hH _ _ _ (by omega)]; exact h i hi0
        · intro h i hi0; have := h i hi0; rw [hH _ _ _ (by omega), hH _ _ _ (by omega)] at this; exact this

theorem alike_range (six : Bool) (hi lo hi' lo' : Int) (h1 : 0 ≤ hi ∧ hi < 18446744073709551616) (h2 : 0 ≤ lo ∧ lo < 18446744073709551616) (h3 : 0 ≤ hi' ∧ hi' < 18446744073709551616) (h4 : 0 ≤ lo' ∧ lo' < 18446744073709551616)
    (hm : mayB six hi lo = true) (hm' : mayB six hi' lo' = true) : 0 ≤ alikeI six hi lo hi' lo' ∧ alikeI six hi lo hi' lo' ≤ wideI six := by
  have e : (2 : Int) ^ 64 = 18446744073709551616 := by decide
  have e' : (2 : Int) ^ 32 = 4294967296 := by decide
  unfold alikeI wideI
  cases six
  · have q := mayB_four hm
    have q' := mayB_four hm'
    simp only [↓reduceIte, Bool.false_eq_true]
    exact wordAlike_range 32 lo lo' (by omega) (by omega) (by omega)
  · simp only [Bool.true_eq_false, ↓reduceIte]
    have r1 := wordAlike_range 64 lo lo' (by omega) (by omega) (by omega)
    have r2 := wordAlike_range 64 hi hi' (by omega) (by omega) (by omega)
    split <;> omega

end Go.Proofs.YticikknfkkmoaaaDoor

namespace Go.Proofs.YticikknfkkmoaaaDoor
set_option linter.unusedVariables false

/-- Does a prefix cover another one of its family? -/
def overB (six : Bool) (hi lo n : Int) (six' : Bool) (hi' lo' n' : Int) : Bool := decide (n ≤ n') && inB six hi lo n six' hi' lo'

theorem over_iff {six : Bool} {hi lo hi' lo' : Int} {n n' : Nat} (hp : Pfx six hi lo n) (hq : Pfx six hi' lo' n') :
    overB six hi lo n six hi' lo' n' = (inB six hi lo n six hi' lo' && inB six hi lo n six (lastHi six hi' lo' n') (lastLo six hi' lo' n')) := by
  have hr := last_range six hi' lo' n'
  have h1 := inB_iff hp hq.rhi hq.rlo hq.may
  have h2 := inB_iff hp hr.1 hr.2.1 hr.2.2
  have hc := (clean_iff six hi' lo' n' hq.rhi hq.rlo hq.may hq.len.2).1 hq.clean
  have hlp := hp.len.2
  rw [Bool.eq_iff_iff]
  unfold overB
  rw [Bool.and_eq_true, Bool.and_eq_true, decide_eq_true_eq, h1, h2]
  constructor
  · rintro ⟨ha, hb⟩
    refine ⟨hb, fun i hi0 => ?_⟩
    rw [last_bit six hi' lo' n' i (by omega), if_pos (by omega)]
    exact hb i hi0
  · rintro ⟨ha, hb⟩
    refine ⟨?_, ha⟩
    rcases Nat.lt_or_ge n' n with h | h
    · have x1 := ha n' h
      have x2 := hb n' h
      rw [last_bit six hi' lo' n' n' (by omega), if_neg (by omega)] at x2
      have x3 := hc n' (Nat.le_refl _) (by omega)
      omega
    · omega

end Go.Proofs.YticikknfkkmoaaaDoor

namespace Go.Proofs.YticikknfkkmoaaaDoor
set_option linter.unusedVariables false

/-- The bits of an address, k of them from the n-th on turned to 0. -/
def zeroAt (six : Bool) (hi lo : Int) (m n k : Nat) : List Int := (List.range m).map fun (j : Nat) => if j < n then bitI six hi lo j else if j < n + k then 0 else bitI six hi lo j
theorem zeroAt_length (six : Bool) (hi lo : Int) (m n k : Nat) : (zeroAt six hi lo m n k).length = m := by simp [zeroAt]
theorem zeroAt_zero {six : Bool} {hi lo : Int} {m n : Nat} (hm : wideI six = m) : zeroAt six hi lo m n 0 = bitsL six hi lo := by
  unfold zeroAt bitsL
  rw [hm]
  apply List.map_congr_left
  intro j _
  split
  · rfl
  · rw [if_neg (by omega)]
theorem zeroAt_set {six : Bool} {hi lo : Int} {m n k : Nat} (hk : n + k < m) : (zeroAt six hi lo m n k).set (n + k) 0 = zeroAt six hi lo m n (k + 1) := by
  apply List.ext_getElem?
  intro j
  unfold zeroAt
  rw [List.getElem?_set]
  by_cases h : n + k = j
  · subst h
    rw [if_pos rfl, if_pos (by simpa using hk), List.getElem?_map, List.getElem?_range hk]
    simp only [Option.map_some, Option.some.injEq]
    rw [if_neg (by omega), if_pos (by omega)]
  · rw [if_neg h, List.getElem?_map, List.getElem?_map]
    rcases Nat.lt_or_ge j m with hj | hj
    · rw [List.getElem?_range hj]
      simp only [Option.map_some, Option.some.injEq]
      by_cases h1 : j < n
      · rw [if_pos h1, if_pos h1]
      · rw [if_neg h1, if_neg h1]
        by_cases h2 : j < n + k
        · rw [if_pos h2, if_pos (by omega)]
        · rw [if_neg h2, if_neg (by omega)]
    · rw [List.getElem?_eq_none (by simpa using hj)]
      rfl
theorem zeroAt_bits (six : Bool) (hi lo : Int) (m n k : Nat) : Bits (zeroAt six hi lo m n k) := by
  intro b hb
  unfold zeroAt at hb
  obtain ⟨i, _, rfl⟩ := List.mem_map.1 hb
  have := bitI_01 six hi lo i
  split
  · omega
  · split <;> omega
theorem zeroAt_words {six : Bool} {hi lo : Int} {m n k : Nat} (hm : wideI six = m) (hk : n + k = m) (h1 : 0 ≤ hi ∧ hi < 18446744073709551616) (h2 : 0 ≤ lo ∧ lo < 18446744073709551616) (hmay : mayB six hi lo = true) :
    hiOf six (zeroAt six hi lo m n k) = cutHi six hi n ∧ loOf six (zeroAt six hi lo m n k) = cutLo six lo n := by
  have hr := cutLo_range six hi lo n h2 hmay
  refine of_unique six _ (zeroAt_bits six hi lo m n k) (by rw [zeroAt_length, hm]) _ _ (cutHi_range six hi n h1) hr.1 hr.2 fun i hi' => ?_
  rw [bit_cut six hi lo n i hmay hi']
  unfold zeroAt
  rw [List.getElem?_map, List.getElem?_range (by omega)]
  simp only [Option.map_some, Option.some.injEq]
  by_cases h : i < n
  · rw [if_pos h, if_pos (by omega)]
  · rw [if_neg h, if_pos (show i < n + k by omega), if_neg (by omega)]

/-- A cut address is a prefix of that length. -/
theorem cut_pfx {six : Bool} {hi lo : Int} {n : Nat} (h1 : 0 ≤ hi ∧ hi < 18446744073709551616) (h2 : 0 ≤ lo ∧ lo < 18446744073709551616) (hm : mayB six hi lo = true) (hn : (n : Int) ≤ wideI six) :
    Pfx six (cutHi six hi n) (cutLo six lo n) n := by
  have hr := cutLo_range six hi lo n h2 hm
  have hh := cutHi_range six hi n h1
  refine ⟨hh, hr.1, hr.2, ⟨by omega, hn⟩, ?_⟩
  rw [clean_iff six _ _ n hh hr.1 hr.2 hn]
  intro i h3 h4
  rw [bit_cut six hi lo n i hm h4, if_neg (by omega)]

/-- The prefix of length n of an address covers another prefix just if n is at most that one's length, and the first n bits are the same. -/
theorem cut_over {six : Bool} {hi lo hi' lo' : Int} {n k' : Nat} (h1 : 0 ≤ hi ∧ hi < 18446744073709551616) (h2 : 0 ≤ lo ∧ lo < 18446744073709551616) (hm : mayB six hi lo = true) (hn : (n : Int) ≤ wideI six) (hq : Pfx six hi' lo' k') (hk : n ≤ k') :
    overB six (cutHi six hi n) (cutLo six lo n) n six hi' lo' k' = decide ((n : Int) ≤ alikeI six hi lo hi' lo') := by
  have hp := cut_pfx h1 h2 hm hn
  have hib := inB_iff hp hq.rhi hq.rlo hq.may
  have ha := alike_iff six hi lo hi' lo' n h1 h2 hq.rhi hq.rlo hm hq.may hn
  unfold overB
  rw [Bool.eq_iff_iff, Bool.and_eq_true, decide_eq_true_eq, decide_eq_true_eq, hib, ha]
  constructor
  · rintro ⟨_, h⟩ i hi0
    have := h i hi0
    rwa [bit_cut six hi lo n i hm (by omega), if_pos (by omega)] at this
  · intro h
    refine ⟨by omega, fun i hi0 => ?_⟩
    rw [bit_cut six hi lo n i hm (by omega), if_pos (by omega)]
    exact h i hi0

end Go.Proofs.YticikknfkkmoaaaDoor

namespace Go.Proofs.YticikknfkkmoaaaDoor
set_option linter.unusedVariables false

/-- A prefix as numbers. -/
structure PV where
  six : Bool
  hi : Int
  lo : Int
  n : Int

theorem PV.ext' {p q : PV} (h1 : p.six = q.six) (h2 : p.hi = q.hi) (h3 : p.lo = q.lo) (h4 : p.n = q.n) : p = q := by
  cases p; cases q; simp_all
instance : DecidableEq PV := fun a b => decidable_of_iff (a.six = b.six ∧ a.hi = b.hi ∧ a.lo = b.lo ∧ a.n = b.n)
  ⟨fun h => PV.ext' h.1 h.2.1 h.2.2.1 h.2.2.2, fun h => by subst h; exact ⟨rfl, rfl, rfl, rfl⟩⟩

def PV.Ok (p : PV) : Prop := Pfx p.six p.hi p.lo p.n
def PV.bit (p : PV) (i : Int) : Int := bitI p.six p.hi p.lo i
def PV.over (p q : PV) : Bool := overB p.six p.hi p.lo p.n q.six q.hi q.lo q.n
def PV.comN (p q : PV) : Int := min (min p.n q.n) (alikeI p.six p.hi p.lo q.hi q.lo)
def PV.com (p q : PV) : PV := ⟨p.six, cutHi p.six p.hi (p.comN q), cutLo p.six p.lo (p.comN q), p.comN q⟩

theorem PV.bit01 (p : PV) (i : Int) : p.bit i = 0 ∨ p.bit i = 1 := by have := bitI_01 p.six p.hi p.lo i; unfold PV.bit; omega

theorem over_iff' {p q : PV} (hp : p.Ok) (hq : q.Ok) : p.over q = true ↔ p.six = q.six ∧ p.n ≤ q.n ∧ ∀ i : Nat, (i : Int) < p.n → p.bit i = q.bit i := by
  obtain ⟨six, hi, lo, n⟩ := p
  obtain ⟨six', hi', lo', n'⟩ := q
  unfold PV.Ok at hp hq
  simp only at hp hq
  obtain ⟨k, rfl⟩ : ∃ k : Nat, n = k := ⟨n.toNat, by have := hp.len; omega⟩
  unfold PV.over PV.bit overB
  simp only [Bool.and_eq_true, decide_eq_true_eq]
  by_cases h6 : six = six'
  · subst h6
    have := inB_iff hp hq.rhi hq.rlo hq.may
    rw [this]
    constructor
    · rintro ⟨a, b⟩; exact ⟨rfl, a, fun i hi => b i (by omega)⟩
    · rintro ⟨_, a, b⟩; exact ⟨a, fun i hi => b i (by omega)⟩
  · constructor
    · rintro ⟨_, b⟩
      unfold inB at b
      simp at b
      exact absurd b.1.symm h6
    · rintro ⟨a, _⟩; exact absurd a h6

theorem ok_clean {p : PV} (hp : p.Ok) : ∀ i : Nat, p.n ≤ (i : Int) → (i : Int) < wideI p.six → p.bit i = 0 := by
  obtain ⟨six, hi, lo, n⟩ := p
  unfold PV.Ok at hp
  simp only at hp
  obtain ⟨k, rfl⟩ : ∃ k : Nat, n = k := ⟨n.toNat, by have := hp.len; omega⟩
  have hc := (clean_iff six hi lo k hp.rhi hp.rlo hp.may hp.len.2).1 hp.clean
  intro i h1 h2
  exact hc i (by simp only at h1; omega) h2

theorem over_eq {p q : PV} (hp : p.Ok) (hq : q.Ok) (h : p.over q = true) (hn : q.n ≤ p.n) : p = q := by
  obtain ⟨h6, h1, h2⟩ := (over_iff' hp hq).1 h
  have he : p.n = q.n := by omega
  have cp := ok_clean hp
  have cq := ok_clean hq
  obtain ⟨six, hi, lo, n⟩ := p
  obtain ⟨six', hi', lo', n'⟩ := q
  simp only at h6 he hn h1
  subst h6
  subst he
  unfold PV.Ok at hp hq
  simp only at hp hq
  have := addr_ext six hi lo hi' lo' hp.rhi hp.rlo hq.rhi hq.rlo hp.may hq.may fun i hi0 => by
    by_cases hlt : (i : Int) < n
    · exact h2 i hlt
    · have a := cp i (by simp only; omega) hi0
      have b := cq i (by simp only; omega) hi0
      exact a.trans b.symm
  rw [this.1, this.2]

theorem over_refl {p : PV} (hp : p.Ok) : p.over p = true := (over_iff' hp hp).2 ⟨rfl, Int.le_refl _, fun _ _ => rfl⟩
theorem over_trans {a b c : PV} (ha : a.Ok) (hb : b.Ok) (hc : c.Ok) (h1 : a.over b = true) (h2 : b.over c = true) : a.over c = true := by
  obtain ⟨x1, x2, x3⟩ := (over_iff' ha hb).1 h1
  obtain ⟨y1, y2, y3⟩ := (over_iff' hb hc).1 h2
  exact (over_iff' ha hc).2 ⟨x1.trans y1, by omega, fun i hi => (x3 i hi).trans (y3 i (by omega))⟩
/-- Of two that cover a third one the shorter covers the longer. -/
theorem over_two {a b c : PV} (ha : a.Ok) (hb : b.Ok) (hc : c.Ok) (h1 : a.over c = true) (h2 : b.over c = true) (hn : a.n ≤ b.n) : a.over b = true := by
  obtain ⟨x1, x2, x3⟩ := (over_iff' ha hc).1 h1
  obtain ⟨y1, y2, y3⟩ := (over_iff' hb hc).1 h2
  exact (over_iff' ha hb).2 ⟨x1.trans y1.symm, hn, fun i hi => (x3 i hi).trans (y3 i (by omega)).symm⟩
theorem over_n {p q : PV} (hp : p.Ok) (hq : q.Ok) (h : p.over q = true) : p.n ≤ q.n := ((over_iff' hp hq).1 h).2.1
theorem over_six {p q : PV} (hp : p.Ok) (hq : q.Ok) (h : p.over q = true) : p.six = q.six := ((over_iff' hp hq).1 h).1
theorem over_bit {p q : PV} (hp : p.Ok) (hq : q.Ok) (h : p.over q = true) {i : Int} (h0 : 0 ≤ i) (hi : i < p.n) : p.bit i = q.bit i := by
  obtain ⟨k, rfl⟩ : ∃ k : Nat, i = k := ⟨i.toNat, by omega⟩
  exact ((over_iff' hp hq).1 h).2.2 k hi

theorem ok_n {p : PV} (hp : p.Ok) : 0 ≤ p.n ∧ p.n ≤ wideI p.six := Pfx.len hp

theorem com_facts {p q : PV} (hp : p.Ok) (hq : q.Ok) (h6 : p.six = q.six) :
    (p.com q).Ok ∧ (p.com q).n ≤ p.n ∧ (p.com q).n ≤ q.n ∧ (p.com q).over p = true ∧ (p.com q).over q = true ∧
      (∀ k : Nat, (k : Int) ≤ p.n → (k : Int) ≤ q.n → (∀ i : Nat, i < k → p.bit i = q.bit i) → (k : Int) ≤ (p.com q).n) := by
  obtain ⟨six, hi, lo, n⟩ := p
  obtain ⟨six', hi', lo', n'⟩ := q
  simp only at h6
  subst h6
  have HP := hp
  have HQ := hq
  unfold PV.Ok at hp hq
  simp only at hp hq
  have ra := alike_range six hi lo hi' lo' hp.rhi hp.rlo hq.rhi hq.rlo hp.may hq.may
  have l1 := hp.len
  have l2 := hq.len
  have hm : ∃ m : Nat, min (min n n') (alikeI six hi lo hi' lo') = m := ⟨(min (min n n') (alikeI six hi lo hi' lo')).toNat, by omega⟩
  obtain ⟨m, hm⟩ := hm
  have hcom : PV.com ⟨six, hi, lo, n⟩ ⟨six, hi', lo', n'⟩ = ⟨six, cutHi six hi m, cutLo six lo m, m⟩ := by unfold PV.com PV.comN; rw [hm]
  have hmw : (m : Int) ≤ wideI six := by omega
  have hok : PV.Ok ⟨six, cutHi six hi m, cutLo six lo m, m⟩ := cut_pfx hp.rhi hp.rlo hp.may hmw
  have hbit : ∀ i : Nat, i < m → PV.bit ⟨six, cutHi six hi m, cutLo six lo m, m⟩ i = bitI six hi lo i := by
    intro i hi0
    unfold PV.bit
    simp only
    rw [bit_cut six hi lo m i hp.may (by omega), if_pos (by omega)]
  have hal := alike_iff six hi lo hi' lo' m hp.rhi hp.rlo hq.rhi hq.rlo hp.may hq.may hmw
  have heq := hal.1 (by omega)
  rw [hcom]
  refine ⟨hok, by simp only; omega, by simp only; omega, ?_, ?_, ?_⟩
  · exact (over_iff' hok HP).2 ⟨rfl, by simp only; omega, fun i hi0 => hbit i (by simp only at hi0; omega)⟩
  · exact (over_iff' hok HQ).2 ⟨rfl, by simp only; omega, fun i hi0 => (hbit i (by simp only at hi0; omega)).trans (heq i (by simp only at hi0; omega))⟩
  · intro k h1 h2 h3
    have := (alike_iff six hi lo hi' lo' k hp.rhi hp.rlo hq.rhi hq.rlo hp.may hq.may (by simp only at h1; omega)).2 h3
    simp only at *
    omega

theorem com_bit {p q : PV} (hp : p.Ok) (hq : q.Ok) (h6 : p.six = q.six) (h1 : (p.com q).n < p.n) (h2 : (p.com q).n < q.n) : ¬ p.bit (p.com q).n = q.bit (p.com q).n := by
  obtain ⟨ok, _, _, o1, o2, hk⟩ := com_facts hp hq h6
  intro he
  have h0 := ok_n ok
  obtain ⟨m, hm⟩ : ∃ m : Nat, (p.com q).n = m := ⟨(p.com q).n.toNat, by omega⟩
  have := hk (m + 1) (by omega) (by omega) fun i hi => by
    by_cases hlt : i < m
    · exact ((over_bit ok hp o1 (Int.natCast_nonneg i) (by omega)).symm).trans (over_bit ok hq o2 (Int.natCast_nonneg i) (by omega))
    · obtain rfl : i = m := by omega
      rw [hm] at he
      exact he
  omega
theorem com_lt {q p : PV} (hq : q.Ok) (hp : p.Ok) (h6 : q.six = p.six) (h : q.over p = false) : (q.com p).n < q.n := by
  obtain ⟨ok, l1, l2, o1, o2, hk⟩ := com_facts hq hp h6
  rcases Int.lt_or_le (q.com p).n q.n with hlt | hge
  · exact hlt
  · exfalso
    have := over_eq ok hq o1 (by omega)
    rw [this] at o2
    rw [o2] at h
    cases h

/-! TREES -/
inductive Tr where
  | nil : Tr
  | node (g : Nat) (p : PV) (h : Int) (l r : Tr) : Tr

/-- A node with a part on the side of a bit, and another part on the other side. -/
def node2 (g : Nat) (p : PV) (h : Int) (b : Int) (x y : Tr) : Tr := if b = 0 then .node g p h x y else .node g p h y x

/-- What stands below q, on the side of a bit. -/
def Under (q : PV) (b : Bool) (p : PV) : Prop := q.n < p.n ∧ q.over p = true ∧ (p.bit q.n = 0 ↔ b = true)

def Inv (six : Bool) : (PV → Prop) → Tr → Prop
  | _, .nil => True
  | U, .node _ q h l r => q.Ok ∧ q.six = six ∧ U q ∧ (0 ≤ h ∧ h ≤ 999) ∧ Inv six (Under q true) l ∧ Inv six (Under q false) r

def hopAt : Tr → PV → Int
  | .nil, _ => 0
  | .node _ q h l r, p => if q = p then h else if q.over p = false then 0 else if p.bit q.n = 0 then hopAt l p else hopAt r p

def forkT (q p : PV) (hop : Int) (G1 G2 : Nat) (t : Tr) : Tr :=
  if q.com p = p then node2 G1 p hop (q.bit (q.com p).n) t .nil else node2 G1 (q.com p) 0 (q.bit (q.com p).n) t (.node G2 p hop .nil .nil)

def putT (p : PV) (hop : Int) (G1 G2 : Nat) : Tr → Tr
  | .nil => .node G1 p hop .nil .nil
  | .node g q h l r => if q = p then .node g q hop l r
    else if q.over p = false then forkT q p hop G1 G2 (.node g q h l r)
    else if p.bit q.n = 0 then .node g q h (putT p hop G1 G2 l) r else .node g q h l (putT p hop G1 G2 r)

theorem Inv.weak {six : Bool} {U U' : PV → Prop} {t : Tr} (h : Inv six U t) (hU : ∀ p, p.Ok → U p → U' p) : Inv six U' t := by
  cases t with
  | nil => trivial
  | node g q hh l r => exact ⟨h.1, h.2.1, hU q h.1 h.2.2.1, h.2.2.2⟩

theorem hopAt_ne {g : Nat} {q p : PV} {h : Int} {l r : Tr} (hne : ¬ hopAt (.node g q h l r) p = 0) : q = p ∨ q.over p = true := by
  by_cases he : q = p
  · exact .inl he
  · right
    unfold hopAt at hne
    rw [if_neg he] at hne
    cases ho : q.over p with
    | true => rfl
    | false => rw [if_pos ho] at hne; exact absurd rfl hne

theorem hopAt_node2 (g : Nat) (q : PV) (h b : Int) (x y : Tr) (p : PV) :
    hopAt (node2 g q h b x y) p = if q = p then h else if q.over p = false then 0 else if (p.bit q.n = 0 ↔ b = 0) then hopAt x p else hopAt y p := by
  unfold node2
  by_cases hb : b = 0
  · rw [if_pos hb]
    show (if q = p then h else if q.over p = false then 0 else if p.bit q.n = 0 then hopAt x p else hopAt y p) = _
    simp only [hb, iff_true]
  · rw [if_neg hb]
    show (if q = p then h else if q.over p = false then 0 else if p.bit q.n = 0 then hopAt y p else hopAt x p) = _
    by_cases e1 : q = p
    · rw [if_pos e1, if_pos e1]
    · rw [if_neg e1, if_neg e1]
      by_cases e2 : q.over p = false
      · rw [if_pos e2, if_pos e2]
      · rw [if_neg e2, if_neg e2]
        by_cases e3 : p.bit q.n = 0
        · rw [if_pos e3, if_neg (by rw [iff_true_left e3]; exact hb)]
        · rw [if_neg e3, if_pos (iff_of_false e3 hb)]

theorem under_com {q a b : PV} {s : Bool} {six : Bool} (hq : q.Ok) (ha : a.Ok) (hb : b.Ok) (h6 : a.six = six) (h6' : b.six = six) (h1 : Under q s a) (h2 : Under q s b) : Under q s (a.com b) := by
  obtain ⟨ok, l1, l2, o1, o2, hk⟩ := com_facts ha hb (h6.trans h6'.symm)
  have h0 := ok_n hq
  obtain ⟨m, hm⟩ : ∃ m : Nat, q.n = m := ⟨q.n.toNat, by omega⟩
  have hx : a.bit q.n = b.bit q.n := by
    have x1 := h1.2.2
    have x2 := h2.2.2
    rcases a.bit01 q.n with e | e <;> rcases b.bit01 q.n with e' | e' <;> cases s <;> simp_all
  have hlt := hk (m + 1) (by have := h1.1; omega) (by have := h2.1; omega) fun i hi => by
    by_cases hlt : i < m
    · exact ((over_bit hq ha h1.2.1 (Int.natCast_nonneg i) (by omega)).symm).trans (over_bit hq hb h2.2.1 (Int.natCast_nonneg i) (by omega))
    · obtain rfl : i = m := by omega
      rw [hm] at hx
      exact hx
  refine ⟨by omega, over_two hq ok ha h1.2.1 o1 (by omega), ?_⟩
  rw [over_bit ok ha o1 (by omega) (by omega)]
  exact h1.2.2

theorem side_of {b : Int} {s : Bool} {t : Tr} {six : Bool} {q : PV} : (if b = 0 then Inv six (Under q true) t else Inv six (Under q false) t) → Inv six (Under q (decide (b = 0))) t := by
  intro h
  by_cases hb : b = 0
  · rw [if_pos hb] at h; simpa [hb] using h
  · rw [if_neg hb] at h; simpa [hb] using h

theorem inv_node2 {six : Bool} {U : PV → Prop} {g : Nat} {q : PV} {h b : Int} {x y : Tr} (h1 : q.Ok) (h2 : q.six = six) (h3 : U q) (h4 : 0 ≤ h ∧ h ≤ 999) (hx : Inv six (Under q (decide (b = 0))) x) (hy : Inv six (Under q (!decide (b = 0))) y) :
    Inv six U (node2 g q h b x y) := by
  unfold node2
  by_cases hb : b = 0
  · rw [if_pos hb]
    simp only [hb, decide_true, Bool.not_true] at hx hy
    exact ⟨h1, h2, h3, h4, hx, hy⟩
  · rw [if_neg hb]
    simp only [hb, decide_false, Bool.not_false] at hx hy
    exact ⟨h1, h2, h3, h4, hy, hx⟩

theorem inv_fork {six : Bool} {U : PV → Prop} {p : PV} {hop : Int} {G1 G2 g : Nat} {q : PV} {h : Int} {l r : Tr} (hp : p.Ok) (h6 : p.six = six) (hop2 : 0 ≤ hop ∧ hop ≤ 999) (hU : U p) (hcl : U (q.com p)) (hi : Inv six U (.node g q h l r))
    (hov : q.over p = false) : Inv six U (forkT q p hop G1 G2 (.node g q h l r)) := by
  obtain ⟨hq, hq6, hUq, hh, hl, hr⟩ := hi
  obtain ⟨ok, l1, l2, o1, o2, hk⟩ := com_facts hq hp (hq6.trans h6.symm)
  have hlt := com_lt hq hp (hq6.trans h6.symm) hov
  have hbq : Under (q.com p) (decide (q.bit (q.com p).n = 0)) q := ⟨hlt, o1, by simp⟩
  have ht : Inv six (Under (q.com p) (decide (q.bit (q.com p).n = 0))) (.node g q h l r) := ⟨hq, hq6, hbq, hh, hl, hr⟩
  unfold forkT
  by_cases hc : q.com p = p
  · rw [if_pos hc]
    rw [hc] at ht ⊢
    exact inv_node2 hp h6 hU hop2 ht trivial
  · rw [if_neg hc]
    have hltp : (q.com p).n < p.n := by
      rcases Int.lt_or_le (q.com p).n p.n with hx | hx
      · exact hx
      · exact absurd (over_eq ok hp o2 (by omega)) hc
    have hb := com_bit hq hp (hq6.trans h6.symm) hlt hltp
    refine inv_node2 ok hq6 hcl (by omega) ht ⟨hp, h6, ⟨hltp, o2, ?_⟩, hop2, trivial, trivial⟩
    rcases q.bit01 (q.com p).n with e | e <;> rcases p.bit01 (q.com p).n with e' | e' <;> simp_all

theorem inv_put {six : Bool} {p : PV} {hop : Int} {G1 G2 : Nat} (hp : p.Ok) (h6 : p.six = six) (hop2 : 0 ≤ hop ∧ hop ≤ 999) :
    ∀ (t : Tr) (U : PV → Prop), Inv six U t → U p → (∀ a b, a.Ok → b.Ok → a.six = six → b.six = six → U a → U b → U (a.com b)) → Inv six U (putT p hop G1 G2 t) := by
  intro t
  induction t with
  | nil => intro U _ hU _; exact ⟨hp, h6, hU, hop2, trivial, trivial⟩
  | node g q h l r ihl ihr =>
    intro U hi hU hcl
    unfold putT
    by_cases he : q = p
    · rw [if_pos he]; exact ⟨hi.1, hi.2.1, hi.2.2.1, hop2, hi.2.2.2.2⟩
    · rw [if_neg he]
      by_cases ho : q.over p = false
      · rw [if_pos ho]
        exact inv_fork hp h6 hop2 hU (hcl q p hi.1 hp hi.2.1 h6 hi.2.2.1 hU) hi ho
      · rw [if_neg ho]
        have ho' : q.over p = true := by simpa using ho
        have hn := over_n hi.1 hp ho'
        have hlt : q.n < p.n := by
          rcases Int.lt_or_le q.n p.n with hx | hx
          · exact hx
          · exact absurd (over_eq hi.1 hp ho' hx) he
        by_cases hb : p.bit q.n = 0
        · rw [if_pos hb]
          exact ⟨hi.1, hi.2.1, hi.2.2.1, hi.2.2.2.1, ihl _ hi.2.2.2.2.1 ⟨hlt, ho', by simpa using hb⟩ (fun a b ha hb' x y => under_com hi.1 ha hb' x y), hi.2.2.2.2.2⟩
        · rw [if_neg hb]
          exact ⟨hi.1, hi.2.1, hi.2.2.1, hi.2.2.2.1, hi.2.2.2.2.1, ihr _ hi.2.2.2.2.2 ⟨hlt, ho', by simpa using hb⟩ (fun a b ha hb' x y => under_com hi.1 ha hb' x y)⟩

theorem hopAt_fork {six : Bool} {U : PV → Prop} {p : PV} {hop : Int} {G1 G2 g : Nat} {q : PV} {h : Int} {l r : Tr} (hp : p.Ok) (h6 : p.six = six) (hi : Inv six U (.node g q h l r)) (hov : q.over p = false) (p' : PV) (hp' : p'.Ok) :
    hopAt (forkT q p hop G1 G2 (.node g q h l r)) p' = if p' = p then hop else hopAt (.node g q h l r) p' := by
  obtain ⟨hq, hq6, _, _, _, _⟩ := hi
  obtain ⟨ok, l1, l2, o1, o2, hk⟩ := com_facts hq hp (hq6.trans h6.symm)
  have hlt := com_lt hq hp (hq6.trans h6.symm) hov
  have hb := fun hx => com_bit hq hp (hq6.trans h6.symm) hlt hx
  have hpn : (q.com p).n < p.n ∨ q.com p = p := by
    rcases Int.lt_or_le (q.com p).n p.n with hx | hx
    · exact .inl hx
    · exact .inr (over_eq ok hp o2 (by omega))
  generalize hcc : q.com p = c at *
  -- what t has is under c, on q's side
  have hun : ¬ hopAt (.node g q h l r) p' = 0 → c.n < p'.n ∧ c.over p' = true ∧ p'.bit c.n = q.bit c.n := by
    intro hne
    have hqp : q.over p' = true := by
      rcases hopAt_ne hne with rfl | e
      · exact over_refl hp'
      · exact e
    have := over_n hq hp' hqp
    exact ⟨by omega, over_trans ok hq hp' o1 hqp, (over_bit hq hp' hqp (ok_n ok).1 hlt).symm⟩
  have hside : (p'.bit c.n = 0 ↔ q.bit c.n = 0) ↔ p'.bit c.n = q.bit c.n := by
    rcases q.bit01 c.n with e | e <;> rcases p'.bit01 c.n with e' | e' <;> simp [e, e']
  unfold forkT
  rw [hcc]
  by_cases hc : c = p
  · rw [if_pos hc, hopAt_node2]
    subst hc
    by_cases e : c = p'
    · rw [if_pos e, if_pos e.symm]
    · have e' : ¬ p' = c := fun h => e h.symm
      rw [if_neg e, if_neg e']
      by_cases h0 : hopAt (.node g q h l r) p' = 0
      · rw [h0]
        by_cases e2 : c.over p' = false
        · rw [if_pos e2]
        · rw [if_neg e2]; split <;> rfl
      · obtain ⟨_, a, b⟩ := hun h0
        rw [if_neg (by simp [a]), if_pos (hside.2 b)]
  · rw [if_neg hc, hopAt_node2]
    have hltp : c.n < p.n := by
      rcases hpn with h | h
      · exact h
      · exact absurd h hc
    have hb := hb hltp
    by_cases e : c = p'
    · subst e
      rw [if_pos rfl, if_neg hc]
      apply Classical.byContradiction
      intro hne
      have := (hun (fun h => hne h.symm)).1
      omega
    · rw [if_neg e]
      by_cases ep : p' = p
      · subst ep
        rw [if_pos rfl, if_neg (by simp [o2]), if_neg (fun h => hb ((hside.1 h).symm))]
        unfold hopAt
        rw [if_pos rfl]
      · rw [if_neg ep]
        by_cases h0 : hopAt (.node g q h l r) p' = 0
        · rw [h0]
          by_cases e2 : c.over p' = false
          · rw [if_pos e2]
          · rw [if_neg e2]
            split
            · rfl
            · show (if p = p' then hop else if p.over p' = false then 0 else if p'.bit p.n = 0 then hopAt .nil p' else hopAt .nil p') = 0
              rw [if_neg (fun h => ep h.symm)]
              unfold hopAt
              split <;> simp
        · obtain ⟨_, a, b⟩ := hun h0
          rw [if_neg (by simp [a]), if_pos (hside.2 b)]

theorem hopAt_put {six : Bool} {p : PV} {hop : Int} {G1 G2 : Nat} (hp : p.Ok) (h6 : p.six = six) (p' : PV) (hp' : p'.Ok) :
    ∀ (t : Tr) (U : PV → Prop), Inv six U t → hopAt (putT p hop G1 G2 t) p' = if p' = p then hop else hopAt t p' := by
  intro t
  induction t with
  | nil =>
    intro U _
    show (if p = p' then hop else if p.over p' = false then 0 else if p'.bit p.n = 0 then hopAt .nil p' else hopAt .nil p') = _
    by_cases e : p' = p
    · rw [if_pos e, if_pos e.symm]
    · rw [if_neg e, if_neg (fun h => e h.symm)]
      unfold hopAt
      split <;> simp
  | node g q h l r ihl ihr =>
    intro U hi
    unfold putT
    by_cases he : q = p
    · subst he
      rw [if_pos rfl]
      show (if q = p' then hop else if q.over p' = false then 0 else if p'.bit q.n = 0 then hopAt l p' else hopAt r p') = _
      by_cases e : p' = q
      · rw [if_pos e, if_pos e.symm]
      · have e' : ¬ q = p' := fun h => e h.symm
        rw [if_neg e, if_neg e']
        conv => rhs; unfold hopAt
        rw [if_neg e']
    · rw [if_neg he]
      by_cases ho : q.over p = false
      · rw [if_pos ho]
        exact hopAt_fork hp h6 hi ho p' hp'
      · rw [if_neg ho]
        have hl := ihl _ hi.2.2.2.2.1
        have hr := ihr _ hi.2.2.2.2.2
        by_cases hb : p.bit q.n = 0
        · rw [if_pos hb]
          show (if q = p' then h else if q.over p' = false then 0 else if p'.bit q.n = 0 then hopAt (putT p hop G1 G2 l) p' else hopAt r p') = _
          rw [hl]
          conv => rhs; unfold hopAt
          by_cases e : p' = p
          · subst e
            rw [if_neg he, if_neg ho, if_pos hb, if_pos rfl, if_pos rfl]
          · rw [if_neg e, if_neg e]
        · rw [if_neg hb]
          show (if q = p' then h else if q.over p' = false then 0 else if p'.bit q.n = 0 then hopAt l p' else hopAt (putT p hop G1 G2 r) p') = _
          rw [hr]
          conv => rhs; unfold hopAt
          by_cases e : p' = p
          · subst e
            rw [if_neg he, if_neg ho, if_neg hb, if_pos rfl, if_pos rfl]
          · rw [if_neg e, if_neg e]

/-- The hop and the length of the longest prefix that covers p; acc: where there is none. -/
def lookT (p : PV) : Tr → Int × Int → Int × Int
  | .nil, acc => acc
  | .node _ q h l r, acc => if q.over p = false then acc else
    if q = p then (if h = 0 then acc else (h, q.n)) else if p.bit q.n = 0 then lookT p l (if h = 0 then acc else (h, q.n)) else lookT p r (if h = 0 then acc else (h, q.n))

def Best (six : Bool) (t : PV → Int) (p : PV) (acc res : Int × Int) : Prop :=
  (res = acc ∧ ∀ q, q.Ok → q.over p = true → t q = 0) ∨
    ∃ q, q.Ok ∧ q.over p = true ∧ ¬ t q = 0 ∧ res = (t q, q.n) ∧ ∀ q', q'.Ok → q'.over p = true → ¬ t q' = 0 → q'.n ≤ q.n

theorem hopAt_under {six : Bool} {q p : PV} {b : Bool} {t : Tr} (hq : q.Ok) (hp : p.Ok) (hi : Inv six (Under q b) t) (hne : ¬ hopAt t p = 0) : Under q b p := by
  cases t with
  | nil => exact absurd rfl hne
  | node g x h l r =>
    obtain ⟨hx, _, hu, _⟩ := hi
    have hxp : x.over p = true := by
      rcases hopAt_ne hne with rfl | e
      · exact over_refl hp
      · exact e
    have := over_n hx hp hxp
    have := hu.1
    refine ⟨by omega, over_trans hq hx hp hu.2.1 hxp, ?_⟩
    rw [← over_bit hx hp hxp (ok_n hq).1 hu.1]
    exact hu.2.2

theorem look_best {six : Bool} {p : PV} (hp : p.Ok) (h6 : p.six = six) : ∀ (t : Tr) (U : PV → Prop) (acc : Int × Int), Inv six U t → Best six (hopAt t) p acc (lookT p t acc) := by
  intro t
  induction t with
  | nil => intro U acc _; exact .inl ⟨rfl, fun _ _ _ => rfl⟩
  | node g q h l r ihl ihr =>
    intro U acc hi
    have hq := hi.1
    unfold lookT
    by_cases ho : q.over p = false
    · rw [if_pos ho]
      refine .inl ⟨rfl, fun q' hq' hov => ?_⟩
      apply Classical.byContradiction
      intro hne
      have : q.over p = true := by
        rcases hopAt_ne hne with rfl | e
        · exact hov
        · exact over_trans hq hq' hp e hov
      rw [this] at ho
      cases ho
    · rw [if_neg ho]
      have ho' : q.over p = true := by simpa using ho
      have hself : hopAt (.node g q h l r) q = h := by unfold hopAt; rw [if_pos rfl]
      -- another one that is there, and covers p, lies on p's side
      have hside : ∀ q', q'.Ok → q'.over p = true → ¬ hopAt (.node g q h l r) q' = 0 → ¬ q' = q → q.n < q'.n ∧ hopAt (.node g q h l r) q' = if p.bit q.n = 0 then hopAt l q' else hopAt r q' := by
        intro q' hq' hov hne hnq
        have hqq : q.over q' = true := by
          rcases hopAt_ne hne with e | e
          · exact absurd e.symm hnq
          · exact e
        have hle := over_n hq hq' hqq
        have hlt : q.n < q'.n := by
          rcases Int.lt_or_le q.n q'.n with hx | hx
          · exact hx
          · exact absurd (over_eq hq hq' hqq hx).symm hnq
        refine ⟨hlt, ?_⟩
        have hbit := over_bit hq' hp hov (ok_n hq).1 hlt
        conv => lhs; unfold hopAt
        rw [if_neg (fun h => hnq h.symm), if_neg (by simp [hqq]), hbit]
      by_cases he : q = p
      · subst he
        rw [if_pos rfl]
        by_cases h0 : h = 0
        · rw [if_pos h0]
          refine .inl ⟨rfl, fun q' hq' hov => ?_⟩
          apply Classical.byContradiction
          intro hne
          by_cases e : q' = q
          · subst e; rw [hself] at hne; exact hne h0
          · have a := (hside q' hq' hov hne e).1
            have b := over_n hq' hp hov
            omega
        · rw [if_neg h0]
          exact .inr ⟨q, hq, ho', by rw [hself]; exact h0, by rw [hself], fun q' hq' hov _ => over_n hq' hp hov⟩
      · rw [if_neg he]
        have hnode : ∀ {b : Bool} {k : Tr}, Inv six (Under q b) k → (b = true ↔ p.bit q.n = 0) → (hopAt (.node g q h l r) = fun q' => if q = q' then h else if q.over q' = false then 0 else if q'.bit q.n = 0 then hopAt l q' else hopAt r q') →
            (k = if p.bit q.n = 0 then l else r) → Best six (hopAt k) p (if h = 0 then acc else (h, q.n)) (lookT p k (if h = 0 then acc else (h, q.n))) → Best six (hopAt (.node g q h l r)) p acc (lookT p k (if h = 0 then acc else (h, q.n))) := by
          intro b k hk hb _ hkk hbest
          have hkid : ∀ q', (if p.bit q.n = 0 then hopAt l q' else hopAt r q') = hopAt k q' := by intro q'; rw [hkk]; split <;> rfl
          rcases hbest with ⟨hres, hall⟩ | ⟨q', hq', hov, hne, hres, hmax⟩
          · rw [hres]
            by_cases h0 : h = 0
            · rw [if_pos h0]
              refine .inl ⟨rfl, fun q' hq' hov => ?_⟩
              apply Classical.byContradiction
              intro hne
              by_cases e : q' = q
              · subst e; rw [hself] at hne; exact hne h0
              · have a := (hside q' hq' hov hne e).2
                rw [hkid, hall q' hq' hov] at a
                exact hne a
            · rw [if_neg h0]
              refine .inr ⟨q, hq, ho', by rw [hself]; exact h0, by rw [hself], fun q' hq' hov hne => ?_⟩
              by_cases e : q' = q
              · subst e; exact Int.le_refl _
              · have a := (hside q' hq' hov hne e).2
                rw [hkid, hall q' hq' hov] at a
                exact absurd a hne
          · have hu := hopAt_under hq hq' hk hne
            have hnq : ¬ q = q' := by intro e; subst e; exact absurd hu.1 (by omega)
            have hat : hopAt (.node g q h l r) q' = hopAt k q' := by
              rw [← hkid]
              conv => lhs; unfold hopAt
              rw [if_neg hnq, if_neg (by simp [hu.2.1]), over_bit hq' hp hov (ok_n hq).1 hu.1]
            rw [hres]
            refine .inr ⟨q', hq', hov, by rw [hat]; exact hne, by rw [hat], fun q'' hq'' hov'' hne'' => ?_⟩
            by_cases e : q'' = q
            · subst e; have := hu.1; omega
            · have a := (hside q'' hq'' hov'' hne'' e).2
              rw [hkid] at a
              exact hmax q'' hq'' hov'' (by rw [← a]; exact hne'')
        by_cases hb : p.bit q.n = 0
        · rw [if_pos hb]
          exact hnode hi.2.2.2.2.1 (by simp [hb]) rfl (by rw [if_pos hb]) (ihl _ _ hi.2.2.2.2.1)
        · rw [if_neg hb]
          exact hnode hi.2.2.2.2.2 (by simp [hb]) rfl (by rw [if_neg hb]) (ihr _ _ hi.2.2.2.2.2)

end Go.Proofs.YticikknfkkmoaaaDoor

namespace Go.Proofs.YticikknfkkmoaaaDoor
open Classical
set_option linter.unusedVariables false

/-- The aligned blocks of a set within the block of 2^k numbers at v: (start, exponent). -/
noncomputable def canon (S : Nat → Prop) : Nat → Nat → List (Nat × Nat)
  | 0, v => if S v then [(v, 0)] else []
  | k + 1, v => if ∀ x, v ≤ x → x < v + 2 ^ (k + 1) → S x then [(v, k + 1)] else canon S k v ++ canon S k (v + 2 ^ k)

theorem canon_full {S : Nat → Prop} {k v : Nat} (h : ∀ x, v ≤ x → x < v + 2 ^ k → S x) : canon S k v = [(v, k)] := by
  cases k with
  | zero => unfold canon; rw [if_pos (h v (Nat.le_refl _) (by simp))]
  | succ k => unfold canon; rw [if_pos h]
theorem canon_none {S : Nat → Prop} : ∀ {k v : Nat}, (∀ x, v ≤ x → x < v + 2 ^ k → ¬ S x) → canon S k v = []
  | 0, v, h => by unfold canon; rw [if_neg (h v (Nat.le_refl _) (by simp))]
  | k + 1, v, h => by
    have hp := Nat.two_pow_pos k
    have he : 2 ^ (k + 1) = 2 ^ k + 2 ^ k := by rw [Nat.pow_succ]; omega
    unfold canon
    rw [if_neg (fun hx => h v (Nat.le_refl _) (by omega) (hx v (Nat.le_refl _) (by omega))), canon_none (fun x h1 h2 => h x h1 (by omega)), canon_none (fun x h1 h2 => h x (by omega) (by omega))]
    rfl
theorem canon_split {S : Nat → Prop} {k v : Nat} (h : ¬ ∀ x, v ≤ x → x < v + 2 ^ (k + 1) → S x) : canon S (k + 1) v = canon S k v ++ canon S k (v + 2 ^ k) := by
  conv => lhs; unfold canon
  rw [if_neg h]
theorem canon_congr {S T : Nat → Prop} : ∀ {k v : Nat}, (∀ x, v ≤ x → x < v + 2 ^ k → (S x ↔ T x)) → canon S k v = canon T k v
  | 0, v, h => by unfold canon; rw [show S v = T v from propext (h v (Nat.le_refl _) (by simp))]
  | k + 1, v, h => by
    have hp := Nat.two_pow_pos k
    have he : 2 ^ (k + 1) = 2 ^ k + 2 ^ k := by rw [Nat.pow_succ]; omega
    unfold canon
    rw [canon_congr (S := S) (T := T) (k := k) (v := v) (fun x h1 h2 => h x h1 (by omega)), canon_congr (S := S) (T := T) (k := k) (v := v + 2 ^ k) (fun x h1 h2 => h x (by omega) (by omega))]
    have : (∀ x, v ≤ x → x < v + 2 ^ (k + 1) → S x) = (∀ x, v ≤ x → x < v + 2 ^ (k + 1) → T x) := propext ⟨fun hx x h1 h2 => (h x h1 h2).1 (hx x h1 h2), fun hx x h1 h2 => (h x h1 h2).2 (hx x h1 h2)⟩
    simp only [this]
/-- A single block comes of the whole alone. -/
theorem canon_single {S : Nat → Prop} : ∀ {k v : Nat}, canon S k v = [(v, k)] → ∀ x, v ≤ x → x < v + 2 ^ k → S x
  | 0, v, h, x, h1, h2 => by
    unfold canon at h
    obtain rfl : x = v := by simp at h2; omega
    by_cases hx : S x
    · exact hx
    · rw [if_neg hx] at h; cases h
  | k + 1, v, h, x, h1, h2 => by
    unfold canon at h
    by_cases hx : ∀ x, v ≤ x → x < v + 2 ^ (k + 1) → S x
    · exact hx x h1 h2
    · rw [if_neg hx] at h
      exfalso
      have key : ∀ (S : Nat → Prop) (k v : Nat), ∀ b ∈ canon S k v, b.2 ≤ k := by
        intro S k
        induction k with
        | zero => intro v b hb; unfold canon at hb; split at hb <;> simp at hb; subst hb; simp
        | succ k ih =>
          intro v b hb
          unfold canon at hb
          split at hb
          · simp at hb; subst hb; simp
          · rcases List.mem_append.1 hb with hb | hb
            · exact Nat.le_succ_of_le (ih _ _ hb)
            · exact Nat.le_succ_of_le (ih _ _ hb)
      have hm : (v, k + 1) ∈ canon S k v ++ canon S k (v + 2 ^ k) := by rw [h]; simp
      rcases List.mem_append.1 hm with hm | hm
      · have := key _ _ _ _ hm; simp only at this; omega
      · have := key _ _ _ _ hm; simp only at this; omega

theorem aligned_eq {K a v : Nat} (ha : 2 ^ K ∣ a) (hv : 2 ^ K ∣ v) (h1 : v ≤ a) (h2 : a < v + 2 ^ K) : a = v := by
  obtain ⟨x, rfl⟩ := ha
  obtain ⟨y, rfl⟩ := hv
  have hp := Nat.two_pow_pos K
  have : y ≤ x := Nat.le_of_mul_le_mul_left h1 hp
  have : x < y + 1 := by
    have h3 : 2 ^ K * x < 2 ^ K * (y + 1) := by rw [Nat.mul_succ]; exact h2
    exact Nat.lt_of_mul_lt_mul_left h3
  have : x = y := by omega
  rw [this]
theorem pow_dvd_le {i j a : Nat} (h : 2 ^ j ∣ a) (hij : i ≤ j) : 2 ^ i ∣ a := Nat.dvd_trans (Nat.pow_dvd_pow 2 hij) h
/-- An aligned block at a below m stays below m, where m is aligned as well or better. -/
theorem aligned_below {k K a m : Nat} (ha : 2 ^ k ∣ a) (hm : 2 ^ K ∣ m) (hk : k ≤ K) (h : a < m) : a + 2 ^ k ≤ m := by
  obtain ⟨x, rfl⟩ := ha
  obtain ⟨y, rfl⟩ := pow_dvd_le hm hk
  have hp := Nat.two_pow_pos k
  have : x < y := Nat.lt_of_mul_lt_mul_left h
  calc 2 ^ k * x + 2 ^ k = 2 ^ k * (x + 1) := by rw [Nat.mul_succ]
    _ ≤ 2 ^ k * y := Nat.mul_le_mul_left _ this

def InI (a b : Nat) : Nat → Prop := fun x => a ≤ x ∧ x ≤ b

/-- The greatest aligned block at an interval's start is the first of its blocks. -/
theorem canon_step : ∀ (K : Nat) {v a b k : Nat}, 2 ^ K ∣ v → v ≤ a → a < v + 2 ^ K → a ≤ b → k ≤ K → 2 ^ k ∣ a → a + 2 ^ k ≤ b + 1 → (k = K ∨ ¬ (2 ^ (k + 1) ∣ a ∧ a + 2 ^ (k + 1) ≤ b + 1)) →
    canon (InI a b) K v = (a, k) :: canon (InI (a + 2 ^ k) b) K v := by
  intro K
  induction K with
  | zero =>
    intro v a b k hv h1 h2 hab hk ha hb hmax
    obtain rfl : k = 0 := by omega
    obtain rfl : a = v := by simp at h2; omega
    unfold canon
    rw [if_pos ⟨Nat.le_refl _, hab⟩, if_neg (fun h => by have := h.1; simp at this; omega)]
  | succ K ih =>
    intro v a b k hv h1 h2 hab hk ha hb hmax
    have hp := Nat.two_pow_pos K
    have he : 2 ^ (K + 1) = 2 ^ K + 2 ^ K := by rw [Nat.pow_succ]; omega
    have hpk := Nat.two_pow_pos k
    by_cases hin : ∀ x, v ≤ x → x < v + 2 ^ (K + 1) → InI a b x
    · obtain rfl : a = v := by have := (hin v (Nat.le_refl _) (by omega)).1; omega
      have hend := (hin (a + 2 ^ (K + 1) - 1) (by omega) (by omega)).2
      have hkK : k = K + 1 := by
        rcases hmax with h | h
        · exact h
        · apply Classical.byContradiction
          intro hne
          exact h ⟨pow_dvd_le hv (by omega), by have := Nat.pow_le_pow_right (n := 2) (by omega) (show k + 1 ≤ K + 1 by omega); omega⟩
      subst hkK
      rw [canon_full hin, canon_none (fun x hx1 hx2 hx => by have := hx.1; omega)]
    · have hne : k ≤ K := by
        apply Classical.byContradiction
        intro hgt
        obtain rfl : k = K + 1 := by omega
        obtain rfl := aligned_eq ha hv h1 h2
        exact hin fun x hx1 hx2 => ⟨hx1, by omega⟩
      have hmax' : k = K ∨ ¬ (2 ^ (k + 1) ∣ a ∧ a + 2 ^ (k + 1) ≤ b + 1) := by
        rcases hmax with h | h
        · omega
        · exact .inr h
      have hin2 : ¬ ∀ x, v ≤ x → x < v + 2 ^ (K + 1) → InI (a + 2 ^ k) b x := fun h => by have := (h v (Nat.le_refl _) (by omega)).1; omega
      rw [canon_split hin, canon_split hin2]
      have hm : 2 ^ K ∣ v + 2 ^ K := Nat.dvd_add (pow_dvd_le hv (by omega)) (Nat.dvd_refl _)
      by_cases ham : a < v + 2 ^ K
      · have hle := aligned_below ha hm hne ham
        rw [ih (pow_dvd_le hv (by omega)) h1 ham hab hne ha hb hmax', List.cons_append]
        congr 2
        exact canon_congr fun x hx1 hx2 => ⟨fun h => ⟨by omega, h.2⟩, fun h => ⟨by have := h.1; omega, h.2⟩⟩
      · rw [canon_none (S := InI a b) (k := K) (v := v) (fun x hx1 hx2 h => by have := h.1; omega), canon_none (S := InI (a + 2 ^ k) b) (k := K) (v := v) (fun x hx1 hx2 h => by have := h.1; omega),
          ih hm (by omega) (by omega) hab hne ha hb hmax']
        rfl

/-- Intervals in order, with a gap between each and the next. -/
def Apart : List (Nat × Nat) → Prop
  | [] => True
  | s :: l => s.1 ≤ s.2 ∧ (∀ t ∈ l, s.2 + 1 < t.1) ∧ Apart l
def InL (l : List (Nat × Nat)) : Nat → Prop := fun x => ∃ s ∈ l, InI s.1 s.2 x

theorem apart_one : ∀ {l : List (Nat × Nat)} {v m : Nat}, Apart l → 0 < m → (∀ x, v ≤ x → x < v + m → InL l x) → ∃ s ∈ l, ∀ x, v ≤ x → x < v + m → InI s.1 s.2 x
  | [], v, m, _, hm, h => by obtain ⟨s, hs, _⟩ := h v (Nat.le_refl _) (by omega); cases hs
  | s :: l, v, m, ⟨h1, h2, h3⟩, hm, h => by
    by_cases hv : v ≤ s.2
    · refine ⟨s, by simp, fun x hx1 hx2 => ?_⟩
      have hlow : s.1 ≤ v := by
        obtain ⟨t, ht, hi⟩ := h v (Nat.le_refl _) (by omega)
        rcases List.mem_cons.1 ht with rfl | ht
        · exact hi.1
        · have := h2 t ht; have := hi.1; omega
      refine ⟨by omega, ?_⟩
      apply Classical.byContradiction
      intro hgt
      obtain ⟨t, ht, hi⟩ := h (s.2 + 1) (by omega) (by omega)
      rcases List.mem_cons.1 ht with rfl | ht
      · have := hi.2; omega
      · have := h2 t ht; have := hi.1; omega
    · obtain ⟨t, ht, hi⟩ := apart_one (l := l) (v := v) (m := m) h3 hm (fun x hx1 hx2 => by
        obtain ⟨t, ht, hi⟩ := h x hx1 hx2
        rcases List.mem_cons.1 ht with rfl | ht
        · have := hi.2; omega
        · exact ⟨t, ht, hi⟩)
      exact ⟨t, by simp [ht], hi⟩
theorem apart_tail {s : Nat × Nat} {l : List (Nat × Nat)} (h : Apart (s :: l)) : Apart l := h.2.2
theorem inL_cons {s : Nat × Nat} {l : List (Nat × Nat)} {x : Nat} : InL (s :: l) x ↔ InI s.1 s.2 x ∨ InL l x := by
  unfold InL; simp

/-- The blocks of intervals that lie apart are those of each, one behind another. -/
theorem canon_apart : ∀ (K v : Nat) (l : List (Nat × Nat)), Apart l → canon (InL l) K v = l.flatMap fun s => canon (InI s.1 s.2) K v := by
  intro K
  induction K with
  | zero =>
    intro v l hl
    induction l with
    | nil => unfold canon; rw [if_neg (fun h => by obtain ⟨s, hs, _⟩ := h; cases hs)]; rfl
    | cons s l ih =>
      rw [List.flatMap_cons, ← ih hl.2.2]
      unfold canon
      by_cases hs : InI s.1 s.2 v
      · rw [if_pos (inL_cons.2 (.inl hs)), if_pos hs, if_neg (fun h => by obtain ⟨t, ht, hi⟩ := h; have := hl.2.1 t ht; have := hi.1; have := hs.2; omega)]
        rfl
      · rw [if_neg hs]
        by_cases hl' : InL l v
        · rw [if_pos (inL_cons.2 (.inr hl')), if_pos hl']; rfl
        · rw [if_neg (fun h => (inL_cons.1 h).elim hs hl'), if_neg hl']; rfl
  | succ K ihK =>
    intro v l hl
    have hp := Nat.two_pow_pos K
    have he : 2 ^ (K + 1) = 2 ^ K + 2 ^ K := by rw [Nat.pow_succ]; omega
    by_cases hall : ∀ x, v ≤ x → x < v + 2 ^ (K + 1) → InL l x
    · rw [canon_full hall]
      have key : ∀ l : List (Nat × Nat), Apart l → (∃ s ∈ l, ∀ x, v ≤ x → x < v + 2 ^ (K + 1) → InI s.1 s.2 x) → (l.flatMap fun s => canon (InI s.1 s.2) (K + 1) v) = [(v, K + 1)] := by
        intro l
        induction l with
        | nil => intro _ h; obtain ⟨s, hs, _⟩ := h; cases hs
        | cons s l ih =>
          rintro ⟨h1, h2, h3⟩ ⟨t, ht, hi⟩
          rw [List.flatMap_cons]
          rcases List.mem_cons.1 ht with rfl | ht'
          · rw [canon_full hi]
            have : (l.flatMap fun s => canon (InI s.1 s.2) (K + 1) v) = [] := by
              rw [List.flatMap_eq_nil_iff]
              intro u hu
              refine canon_none fun x hx1 hx2 hx => ?_
              have a1 := h2 u hu
              have a2 := hx.1
              have a3 := (hi x hx1 hx2).2
              omega
            rw [this]; rfl
          · rw [canon_none (S := InI s.1 s.2) (k := K + 1) (v := v) (fun x hx1 hx2 hx => by
              have a1 := h2 t ht'
              have a2 := hx.2
              have a3 := (hi x hx1 hx2).1
              omega), ih h3 ⟨t, ht', hi⟩]
            rfl
      exact (key l hl (apart_one hl (by omega) hall)).symm
    · rw [canon_split hall, ihK v l hl, ihK (v + 2 ^ K) l hl]
      have hone : ∀ s ∈ l, canon (InI s.1 s.2) (K + 1) v = canon (InI s.1 s.2) K v ++ canon (InI s.1 s.2) K (v + 2 ^ K) := by
        intro s hs
        exact canon_split fun h => hall fun x h1 h2 => ⟨s, hs, h x h1 h2⟩
      have key : ∀ l : List (Nat × Nat), Apart l → (l.flatMap fun s => canon (InI s.1 s.2) K v) ++ (l.flatMap fun s => canon (InI s.1 s.2) K (v + 2 ^ K)) = l.flatMap fun s => canon (InI s.1 s.2) K v ++ canon (InI s.1 s.2) K (v + 2 ^ K) := by
        intro l
        induction l with
        | nil => intro _; rfl
        | cons s l ih =>
          rintro ⟨h1, h2, h3⟩
          rw [List.flatMap_cons, List.flatMap_cons, List.flatMap_cons, ← ih h3]
          by_cases hs : s.2 < v + 2 ^ K
          · rw [canon_none (S := InI s.1 s.2) (k := K) (v := v + 2 ^ K) (fun x hx1 hx2 hx => by have := hx.2; omega)]
            simp
          · have : (l.flatMap fun s => canon (InI s.1 s.2) K v) = [] := by
              rw [List.flatMap_eq_nil_iff]
              intro u hu
              refine canon_none fun x hx1 hx2 hx => ?_
              have a1 := h2 u hu
              have a2 := hx.1
              omega
            rw [this]
            simp
      rw [key l hl]
      have : ∀ l' : List (Nat × Nat), (∀ s ∈ l', canon (InI s.1 s.2) (K + 1) v = canon (InI s.1 s.2) K v ++ canon (InI s.1 s.2) K (v + 2 ^ K)) → (l'.flatMap fun s => canon (InI s.1 s.2) K v ++ canon (InI s.1 s.2) K (v + 2 ^ K)) = l'.flatMap fun s => canon (InI s.1 s.2) (K + 1) v := by
        intro l' h
        induction l' with
        | nil => rfl
        | cons s l' ih => rw [List.flatMap_cons, List.flatMap_cons, h s (by simp), ih (fun s hs => h s (by simp [hs]))]
      exact this l hone

end Go.Proofs.YticikknfkkmoaaaDoor
