/-
  
  
  
  
  
  
  
  
  
  
  
  
-/
import Derived.WalkKit
import Derived.WalkSpells
import Derived.WalkLawsBesides
import Derived.Lib.Hide
import Derived.BigQuiet
import Derived.Deep.QuietTactic
import Derived.Deep.RegionHeld3
import Derived.ProofKit
import Derived.OpenShut
import Derived.ChangeOld
import Derived.Below
import Derived.SizedLaws
import Derived.Lib.SmallJoins
import Derived.Deep.Slices
import Derived.Deep.Fields
import Derived.ChangeSame
import Derived.RowKit3
import Derived.JoinedAt
import Derived.JoinedOf
import Derived.Test.YtonelibgaceflaaRows
import Derived.Test.YtonelibgaceflaaChecked
import Derived.Laws.OwnMore
import Derived.Deep.AppendLies
import Derived.Deep.Draws
import Derived.Laws.Rows
import Derived.Maps.AppendAt
import Derived.RegionTactic
import Derived.OwnWalk
import Derived.Laws.BitsAllLaws
namespace Go.Proofs.Ytonelibgaceflaa
open Go.ChangeShapes Go.WideShapes Go.ChangeAt Go.RowKit

theorem trodAll_below {H : Type} {enc : TypeId × Value → H} {P : Program} (hl : laidOutB P = true) {W W' : World} (hb : Below W.heap.size W W') :
    ∀ (ts : List TypeId) (vs : List Value) (ds : List (DataW H)) (ps : List MemPlace), (∀ t ∈ ts, P.readableRec t = true ∧ t < P.types.size) →
      (∀ x ∈ ps, x.block < W.heap.size) → DataW.TrodAll enc P W 0 (fun _ => true) true ts vs ds ps →
      DataW.TrodAll enc P W' 0 (fun b => decide (b < W.heap.size)) true ts vs ds ps
  | [], [], [], _, _, _, h => h
  | t :: ts, v :: vs, d :: ds, ps, ht, hp, h => by
    obtain ⟨p, q, h1, h2, rfl⟩ := h
    have h3 := ht t (by simp)
    exact ⟨p, q, Below.trod hl h3.1 h3.2 h1 hb (fun x hx => hp x (by simp [hx])), trodAll_below hl hb ts vs ds q (fun t' h' => ht t' (by simp [h'])) (fun x hx => hp x (by simp [hx])) h2, rfl⟩
  | [], [], _ :: _, _, _, _, h => h.elim
  | [], _ :: _, _, _, _, _, h => h.elim
  | _ :: _, [], _, _, _, _, h => h.elim
  | _ :: _, _ :: _, [], _, _, _, h => h.elim

theorem trodAll_length {H : Type} {enc : TypeId × Value → H} {P : Program} {W : World} {base : Nat} {sp : Nat → Bool} {held : Bool} :
    ∀ (ts : List TypeId) (vs : List Value) (ds : List (DataW H)) (ps : List MemPlace), DataW.TrodAll enc P W base sp held ts vs ds ps → ds.length = ts.length ∧ vs.length = ts.length
  | [], [], [], _, _ => ⟨rfl, rfl⟩
  | _ :: ts, _ :: vs, _ :: ds, _, h => by
    obtain ⟨p, q, _, h2, rfl⟩ := h
    have := trodAll_length ts vs ds q h2
    exact ⟨by simp [this.1], by simp [this.2]⟩
  | [], [], _ :: _, _, h => h.elim
  | [], _ :: _, _, _, h => h.elim
  | _ :: _, [], _, _, h => h.elim
  | _ :: _, _ :: _, [], _, h => h.elim

/-- What a law's walk is told of its arguments. -/
def ArgsOk (P : Program) (ts : List TypeId) (H : Type) (enc : TypeId × Value → H) (W : World) (vs : List Value) (ds : List (DataW H)) (ps : List MemPlace) : Prop :=
  DataW.TrodAll enc P W 0 (fun _ => true) true ts vs ds ps ∧ (∃ base, ∀ (j : Nat) t v, ts[j]? = some t → vs[j]? = some v → Value.okWide P W .any base t v) ∧
    (DataW.weightsEach P ts ds).all (· ≤ reachBytes) = true ∧ (∀ x ∈ ps, x.block < W.heap.size)

theorem law_lift {H : Type} {enc : TypeId × Value → H} {C : Checked} {os : Os} {f : FuncId} {fn : Func} {s : ChangeSpec} {tb : TypeId} {ts : List TypeId}
    (own : ownKnob C.prog.godebug = none) (laid : laidOutB C.prog = true) (started : os.Started) (noInit : C.prog.inits.idxOf? f = none) (hfn : C.prog.funcs[f]? = some fn)
    (witness : ∃ (w : World) (tape : Tape) (i : Input), w.os = os ∧ (w.forCall tape i).Shaped C.prog ∧ i.vars = [] ∧ Input.okWide C.prog (w.forCall tape i) .any w.heap.size f i ∧
      s.pre6 enc C.prog fn [] false (w.forCall tape i).memory i.args ∧ Assume.holds {} C.prog (lone (Frame.enter C.prog f i.args .normal) [] (w.forCall tape i)))
    (hts : fn.params.toList = ts) (hpar : ∀ t ∈ ts, C.prog.readableRec t = true ∧ t < C.prog.types.size)
    (hres : fn.resultTypes = #[tb]) (htb : C.prog.underlying tb = some .bool) (hvars : s.vars = []) (hvt : s.plain.varTypes C.prog = [])
    (hspec : ∀ ds : List (DataW H), ds.length = ts.length → (s.fn H (ds ++ [])).results = [.lit (.bool true)] ∧ (s.fn H (ds ++ [])).args = ds ∧ (s.fn H (ds ++ [])).vars = [])
    (walk : ∀ (W : World) (vs : Array Value) (ds : List (DataW H)) (ps : List MemPlace), ArgsOk C.prog ts H enc W vs.toList ds ps →
      Calls C.prog f vs W fun e W' => e = .returned (.bool true) ∧ Below W.heap.size W W') :
    ReturnsInHanded {} C os f .any (s.pre6 enc C.prog fn [] false) (s.post enc C.prog fn false true false false) := by
  refine returnsInHanded_of_change_sized (C := C) own started noInit hfn witness ?_
  intro W base args ds gs before hval hW _ hsz _
  have hW' := hW
  obtain ⟨p, q, hA, hV, rfl, _, _⟩ := hW
  rw [hvars] at hV
  obtain ⟨rfl, rfl⟩ := trodVars_none hV
  rw [hts] at hA hsz
  simp only [List.append_nil] at hW'
  have hlt : ∀ x ∈ p, x.block < W.heap.size := fun x hx => by simpa using hW'.lt x hx
  have hl := trodAll_length _ _ _ _ hA
  obtain ⟨e1, e2, e3⟩ := hspec ds hl.1
  rw [hvt] at hsz
  simp only [List.append_nil] at hsz
  refine (walk W args ds p ⟨hA, ⟨base, fun j t v ht hv => hval j t v (by rw [← hts] at ht; simpa using ht) (by simpa using hv)⟩, hsz, hlt⟩).mono fun e W' he => ?_
  obtain ⟨rfl, hb⟩ := he
  refine ⟨_, rfl, ds, [], p, [], p, [], hW', ?_, ?_, ?_, hb.frame _, fun h => by cases h⟩
  · rw [e1, hres]
    exact trodAll_mk1 (shut_bool htb true)
  · rw [e2, hts]
    exact trodAll_below laid hb _ _ _ _ hpar hlt hA
  · rw [e3, hvars]
    rfl

/-! FLAT TYPES -/

/-- The scalars of which a flat type is made, in order: none: a bool; some k: an integer of the kind k. -/
def flat (P : Program) : Nat → TypeId → Option (List (Option IntKind))
  | 0, _ => none
  | n + 1, t =>
    match P.underlying t with
    | some .bool => some [none]
    | some (.int k) => some [some k]
    | some (.struct fs) => fs.toList.foldl (fun acc f => match acc, flat P n f.type with
        | some l, some ks => if f.offset = l.length ∧ P.cellsOf f.type = ks.length then some (l ++ ks) else none
        | _, _ => none) (some [])
    | _ => none

def Fits (k : Option IntKind) (v : Value) : Prop :=
  match k with
  | none => ∃ b, v = .bool b
  | some k => ∃ n, v = .int k n ∧ (Lit.int k n).wf = true

def FitsAll : List (Option IntKind) → List Value → Prop
  | [], [] => True
  | k :: ks, v :: vs => Fits k v ∧ FitsAll ks vs
  | _, _ => False

theorem FitsAll.append : ∀ {ks ks' : List (Option IntKind)} {vs vs' : List Value}, FitsAll ks vs → FitsAll ks' vs' → FitsAll (ks ++ ks') (vs ++ vs')
  | [], _, [], _, _, h => h
  | _ :: _, _, _ :: _, _, h, h' => ⟨h.1, FitsAll.append h.2 h'⟩
  | [], _, _ :: _, _, h, _ => h.elim
  | _ :: _, _, [], _, h, _ => h.elim

theorem FitsAll.length : ∀ {ks : List (Option IntKind)} {vs : List Value}, FitsAll ks vs → vs.length = ks.length
  | [], [], _ => rfl
  | _ :: _, _ :: _, h => by simp [FitsAll.length h.2]
  | [], _ :: _, h => h.elim
  | _ :: _, [], h => h.elim

theorem FitsAll.cons_inv {k : Option IntKind} {ks : List (Option IntKind)} {vs : List Value} (h : FitsAll (k :: ks) vs) : ∃ v vs', vs = v :: vs' ∧ Fits k v ∧ FitsAll ks vs' := by
  cases vs with
  | nil => exact h.elim
  | cons v vs => exact ⟨v, vs, rfl, h.1, h.2⟩
theorem FitsAll.nil_inv {vs : List Value} (h : FitsAll [] vs) : vs = [] := by
  cases vs with
  | nil => rfl
  | cons v vs => exact h.elim
theorem FitsAll.bool_inv {ks : List (Option IntKind)} {vs : List Value} (h : FitsAll (none :: ks) vs) : ∃ b vs', vs = .bool b :: vs' ∧ FitsAll ks vs' := by
  obtain ⟨v, vs', rfl, ⟨b, rfl⟩, h'⟩ := h.cons_inv
  exact ⟨b, vs', rfl, h'⟩
theorem FitsAll.int_inv {k : IntKind} {ks : List (Option IntKind)} {vs : List Value} (h : FitsAll (some k :: ks) vs) : ∃ n vs', vs = .int k n :: vs' ∧ (Lit.int k n).wf = true ∧ FitsAll ks vs' := by
  obtain ⟨v, vs', rfl, ⟨n, rfl, hw⟩, h'⟩ := h.cons_inv
  exact ⟨n, vs', rfl, hw, h'⟩

/-- A flat struct that came in by value. -/
theorem open_flat {H : Type} {enc : TypeId × Value → H} {P : Program} {W : World} {base : Nat} {sp : Nat → Bool} {held : Bool} {b0 : Nat} {v : Value} {d : DataW H} {p : List MemPlace} {t : TypeId} {fs : Array Field} {ks : List (Option IntKind)}
    (trod : ∀ (fuel : Nat) (cs : List Value) (x : DataW H × List MemPlace), cs.length = P.cellsOf t → DataW.trod enc P W base sp held fuel t cs = some x → FitsAll ks cs)
    (hs : P.underlying t = some (.struct fs)) (hv : Value.okWide P W .any b0 t v) (h : DataW.Trod enc P W base sp held t v d p) : ∃ cs : List Value, v = .agg cs.toArray ∧ FitsAll ks cs := by
  obtain ⟨cs, rfl, hsz⟩ := okWide_struct hs hv
  obtain ⟨fuel, hf⟩ := h
  refine ⟨cs.toList, by simp, trod fuel _ _ (by simpa [Value.cells] using hsz) (by simpa [Value.cells] using hf)⟩

theorem range_u64 {n : Int} (h : (Lit.int .u64 n).wf = true) : 0 ≤ n ∧ n < 18446744073709551616 := by
  have h1 := bounds_u64 h
  refine ⟨h1.1, ?_⟩
  have h2 := h1.2
  omega

theorem trod_flat {H : Type} {enc : TypeId × Value → H} {P : Program} {w : World} {base : Nat} {sp : Nat → Bool} {held : Bool} :
    ∀ (n : Nat) (t : TypeId) (ks : List (Option IntKind)) (fuel : Nat) (cs : List Value) (x : DataW H × List MemPlace),
      flat P n t = some ks → cs.length = P.cellsOf t → P.cellsOf t = ks.length → DataW.trod enc P w base sp held fuel t cs = some x → FitsAll ks cs := by
  intro n
  induction n with
  | zero => intro t ks fuel cs x h; simp [flat] at h
  | succ n ih =>
    intro t ks fuel cs x h hcl hkl hx
    cases fuel with
    | zero => simp [DataW.trod] at hx
    | succ fuel =>
      unfold flat at h
      cases hu : P.underlying t with
      | none => simp [hu] at h
      | some u =>
        rw [hu] at h
        cases u with
        | bool =>
          simp only [Option.some.injEq] at h
          subst h
          obtain ⟨b, hb⟩ : ∃ b, cs = [.bool b] := by
            unfold DataW.trod at hx
            simp only [hu] at hx
            split at hx <;> simp_all
          subst hb
          exact ⟨⟨b, rfl⟩, trivial⟩
        | int k =>
          simp only [Option.some.injEq] at h
          subst h
          obtain ⟨m, hm, hw⟩ : ∃ m, cs = [.int k m] ∧ (Lit.int k m).wf = true := by
            unfold DataW.trod at hx
            simp only [hu] at hx
            split at hx <;> simp_all
          subst hm
          exact ⟨⟨m, rfl, hw⟩, trivial⟩
        | struct fs =>
          simp only at h
          have hm : ∃ xs, fs.toList.mapM (fun f => DataW.trod enc P w base sp held fuel f.type ((cs.drop f.offset).take (P.cellsOf f.type))) = some xs := by
            unfold DataW.trod at hx
            simp only [hu] at hx
            rw [if_pos hcl] at hx
            cases hq : fs.toList.mapM (fun f => DataW.trod enc P w base sp held fuel f.type ((cs.drop f.offset).take (P.cellsOf f.type))) with
            | none => rw [hq] at hx; simp at hx
            | some xs => exact ⟨xs, rfl⟩
          obtain ⟨xs, hxs⟩ := hm
          have gen : ∀ (l : List Field) (acc : List (Option IntKind)) (out : List (Option IntKind)) (ys : List (DataW H × List MemPlace)),
              l.foldl (fun acc f => match acc, flat P n f.type with
                | some l, some ks => if f.offset = l.length ∧ P.cellsOf f.type = ks.length then some (l ++ ks) else none
                | _, _ => none) (some acc) = some out →
              out.length ≤ cs.length → FitsAll acc (cs.take acc.length) →
              l.mapM (fun f => DataW.trod enc P w base sp held fuel f.type ((cs.drop f.offset).take (P.cellsOf f.type))) = some ys → acc.length ≤ out.length ∧ FitsAll out (cs.take out.length) := by
            have stuck : ∀ (l : List Field), l.foldl (fun acc f => match acc, flat P n f.type with
                | some l, some ks => if f.offset = l.length ∧ P.cellsOf f.type = ks.length then some (l ++ ks) else none
                | _, _ => none) (none : Option (List (Option IntKind))) = none := by
              intro l
              induction l with
              | nil => rfl
              | cons f l ihl => simpa using ihl
            intro l
            induction l with
            | nil =>
              intro acc out ys ho _ ha _
              simp only [List.foldl_nil, Option.some.injEq] at ho
              subst ho
              exact ⟨Nat.le_refl _, ha⟩
            | cons f l ihl =>
              intro acc out ys ho hol ha hys
              simp only [List.foldl_cons] at ho
              cases hf : flat P n f.type with
              | none => rw [hf] at ho; simp only at ho; rw [stuck l] at ho; cases ho
              | some kf =>
                rw [hf] at ho
                simp only at ho
                by_cases hc : f.offset = acc.length ∧ P.cellsOf f.type = kf.length
                · rw [if_pos hc] at ho
                  rw [List.mapM_cons] at hys
                  cases hy : DataW.trod enc P w base sp held fuel f.type ((cs.drop f.offset).take (P.cellsOf f.type)) with
                  | none => rw [hy] at hys; simp at hys
                  | some y =>
                    rw [hy] at hys
                    cases hz : l.mapM (fun f => DataW.trod enc P w base sp held fuel f.type ((cs.drop f.offset).take (P.cellsOf f.type))) with
                    | none => rw [hz] at hys; simp at hys
                    | some zs =>
                      have mono : ∀ (l : List Field) (acc out : List (Option IntKind)), l.foldl (fun acc f => match acc, flat P n f.type with
                          | some l, some ks => if f.offset = l.length ∧ P.cellsOf f.type = ks.length then some (l ++ ks) else none
                          | _, _ => none) (some acc) = some out → acc.length ≤ out.length := by
                        intro l
                        induction l with
                        | nil => intro acc out h; simp only [List.foldl_nil, Option.some.injEq] at h; subst h; exact Nat.le_refl _
                        | cons g l ihm =>
                          intro acc out h
                          simp only [List.foldl_cons] at h
                          cases hg : flat P n g.type with
                          | none => rw [hg] at h; simp only at h; rw [stuck l] at h; cases h
                          | some kg =>
                            rw [hg] at h
                            simp only at h
                            by_cases hc' : g.offset = acc.length ∧ P.cellsOf g.type = kg.length
                            · rw [if_pos hc'] at h
                              have := ihm _ _ h
                              simp at this
                              omega
                            · rw [if_neg hc', stuck l] at h; cases h
                      have hle := mono _ _ _ ho
                      simp only [List.length_append] at hle
                      have hfit : FitsAll kf ((cs.drop f.offset).take (P.cellsOf f.type)) := by
                        refine ih f.type kf fuel _ y hf ?_ hc.2 hy
                        rw [List.length_take, List.length_drop, hc.1, hc.2]
                        omega
                      have hnew : FitsAll (acc ++ kf) (cs.take (acc ++ kf).length) := by
                        have e : cs.take (acc ++ kf).length = cs.take acc.length ++ ((cs.drop f.offset).take (P.cellsOf f.type)) := by
                          rw [List.length_append, hc.1, hc.2, List.take_add]
                        rw [e]
                        exact ha.append hfit
                      have := ihl _ _ zs ho hol hnew hz
                      simp only [List.length_append] at this
                      exact ⟨by omega, this.2⟩
                · rw [if_neg hc, stuck l] at ho; cases ho
          have r := gen fs.toList [] ks xs h (by omega) (by simp [FitsAll]) hxs
          have e : cs.take ks.length = cs := by rw [← hkl, ← hcl]; exact List.take_length
          rw [e] at r
          exact r.2
        | _ => simp at h

/-! STEPS OF A REGION THAT DRAWS ITS ORDER -/
theorem below_step {w0 w1 w' : World} (h : Below w0.heap.size w0 w1) (hb : Below w1.heap.size w1 w') : Below w0.heap.size w0 w' := h.trans (hb.mono h.size)
theorem cell_drew {w : World} {a : Addr} {v : Value} (h : w.cell? a = some v) : w.drew.cell? a = some v := h
theorem size_drew {w : World} {n : Nat} (h : n < w.heap.size) : n < w.drew.heap.size := h
theorem size_step {w1 w' : World} {n : Nat} (h : n < w1.heap.size) (hb : Below w1.heap.size w1 w') : n < w'.heap.size := Nat.lt_of_lt_of_le h hb.size
theorem cell_step {w1 w' : World} {a : Addr} {v : Value} (hb : Below w1.heap.size w1 w') (hc : w1.cell? a = some v) : w'.cell? a = some v := cell_later hb hc

#print axioms law_lift
#print axioms trod_flat
end Go.Proofs.Ytonelibgaceflaa

namespace Go.Proofs.Ytonelibgaceflaa
open Go.ChangeShapes Go.WideShapes Go.ChangeAt Go.RowKit

def headNums : List Nat := [104, 97, 114, 110, 101, 115, 115, 32, 99, 49, 52, 55, 54, 48, 49, 52, 52, 52, 48, 52, 98, 97, 100, 53, 100, 100, 56, 102, 98, 56, 100, 102, 55, 100, 53, 52, 51, 48, 52, 102, 101, 55, 52, 49, 51, 101, 100, 97, 55, 57, 55, 99, 51, 48, 100, 102, 56, 49, 99, 54, 99, 53, 53, 100, 100, 100, 54, 48, 51, 98, 57, 53, 32, 99, 117, 116, 32, 97, 116, 32, 119, 104, 105, 112, 99, 111, 114, 100, 47, 119, 104, 105, 112, 99, 111, 114, 100, 116, 111, 112, 46, 84, 111, 112, 82, 97, 110, 103, 101, 32, 119, 104, 105, 112, 99, 111, 114, 100, 47, 119, 104, 105, 112, 99, 111, 114, 100, 108, 97, 119, 46, 82, 117, 108, 101, 73, 100, 108, 101, 115, 32, 119, 104, 105, 112, 99, 111, 114, 100, 47, 119, 104, 105, 112, 99, 111, 114, 100, 108, 97, 119, 46, 81, 117, 101, 117, 101, 80, 108, 97, 121, 115, 32, 119, 104, 105, 112, 99, 111, 114, 100, 47, 119, 104, 105, 112, 99, 111, 114, 100, 108, 97, 119, 46, 67, 105, 100, 114, 82, 97, 110, 103, 101, 115, 32, 119, 104, 105, 112, 99, 111, 114, 100, 47, 119, 104, 105, 112, 99, 111, 114, 100, 108, 97, 119, 46, 67, 108, 97, 115, 115, 72, 105, 100, 100, 101, 110, 115, 32, 119, 104, 105, 112, 99, 111, 114, 100, 47, 119, 104, 105, 112, 99, 111, 114, 100, 108, 97, 119, 46, 67, 108, 97, 115, 115, 70, 105, 110, 100, 115, 32, 119, 104, 105, 112, 99, 111, 114, 100, 47, 119, 104, 105, 112, 99, 111, 114, 100, 108, 97, 119, 46, 84, 97, 98, 108, 101, 67, 104, 101, 99, 107, 115, 32, 119, 104, 105, 112, 99, 111, 114, 100, 47, 119, 104, 105, 112, 99, 111, 114, 100, 108, 97, 119, 46, 84, 97, 98, 108, 101, 76, 111, 111, 107, 115, 32, 119, 104, 105, 112, 99, 111, 114, 100, 47, 119, 104, 105, 112, 99, 111, 114, 100, 108, 97, 119, 46, 82, 117, 108, 101, 70, 105, 108, 116, 101, 114, 115, 32, 119, 104, 105, 112, 99, 111, 114, 100, 47, 119, 104, 105, 112, 99, 111, 114, 100, 108, 97, 119, 46, 83, 116, 114, 105, 100, 101, 77, 97, 107, 101, 115, 32, 119, 104, 105, 112, 99, 111, 114, 100, 47, 119, 104, 105, 112, 99, 111, 114, 100, 108, 97, 119, 46, 83, 104, 97, 114, 101, 84, 117, 114, 110, 115, 32, 119, 104, 105, 112, 99, 111, 114, 100, 47, 119, 104, 105, 112, 99, 111, 114, 100, 108, 97, 119, 46, 83, 104, 97, 114, 101, 68, 101, 97, 108, 115, 32, 119, 104, 105, 112, 99, 111, 114, 100, 47, 119, 104, 105, 112, 99, 111, 114, 100, 108, 97, 119, 46, 70, 101, 119, 101, 115, 116, 83, 97, 109, 101, 115, 32, 119, 104, 105, 112, 99, 111, 114, 100, 47, 119, 104, 105, 112, 99, 111, 114, 100, 108, 97, 119, 46, 80, 97, 105, 114, 80, 108, 97, 121, 115, 32, 119, 104, 105, 112, 99, 111, 114, 100, 47, 119, 104, 105, 112, 99, 111, 114, 100, 108, 97, 119, 46, 80, 97, 105, 114, 70, 114, 101, 101, 100, 115, 32, 119, 104, 105, 112, 99, 111, 114, 100, 47, 119, 104, 105, 112, 99, 111, 114, 100, 108, 97, 119, 46, 86, 105, 97, 65, 108, 108, 115, 32, 119, 104, 105, 112, 99, 111, 114, 100, 47, 119, 104, 105, 112, 99, 111, 114, 100, 108, 97, 119, 46, 79, 102, 102, 101, 114, 66, 101, 115, 116, 115, 32, 119, 104, 105, 112, 99, 111, 114, 100, 47, 119, 104, 105, 112, 99, 111, 114, 100, 108, 97, 119, 46, 79, 102, 102, 101, 114, 84, 97, 98, 108, 101, 115, 32, 119, 104, 105, 112, 99, 111, 114, 100, 47, 119, 104, 105, 112, 99, 111, 114, 100, 108, 97, 119, 46, 67, 105, 100, 114, 77, 101, 114, 103, 101, 115, 32, 119, 104, 105, 112, 99, 111, 114, 100, 47, 119, 104, 105, 112, 99, 111, 114, 100, 108, 97, 119, 46, 67, 105, 100, 114, 66, 111, 116, 104, 115, 32, 119, 104, 105, 112, 99, 111, 114, 100, 47, 119, 104, 105, 112, 99, 111, 114, 100, 108, 97, 119, 46, 67, 105, 100, 114, 77, 105, 110, 117, 115, 101, 115]
theorem headIs : Try.pinned.checked.prog.initOrder = String.ofList (headNums.map Char.ofNat) := by kernel_rfl
theorem headList : Try.pinned.checked.prog.initOrder.toList = headNums.map Char.ofNat := by rw [headIs, String.toList_ofList]
theorem cutIs : [Char.ofNat 99, Char.ofNat 117, Char.ofNat 116] = "cut".toList := by
  rw [show "cut" = String.ofList [Char.ofNat 99, Char.ofNat 117, Char.ofNat 116] from by kernel_rfl, String.toList_ofList]
theorem toList_ne {s o : String} (h : s ≠ o) : ¬ s.toList = o.toList := fun he => h (String.toList_inj.1 he)
theorem beq_ne {s o : String} (h : s ≠ o) : (s.toList == o.toList) = false := by simpa using toList_ne h
theorem strip_none (r : List (List Char)) : ∀ l : List String, (∀ o ∈ l, "cut" ≠ o) → stripLifts l ("cut".toList :: r) = ([], "cut".toList :: r)
  | [], _ => by unfold stripLifts; rfl
  | o :: l, h => by
    unfold stripLifts
    rw [beq_ne (h o (by simp)), if_neg (by simp)]
    exact strip_none r l (fun o' h' => h o' (by simp [h']))
def headRest : List (List Char) := (behindMainWord (wordsSigns (headNums.map Char.ofNat))).tail
theorem headWs : behindMainWord (wordsSigns Try.pinned.checked.prog.initOrder.toList) = "cut".toList :: headRest := by
  rw [headList, ← cutIs]
  kernel_rfl
theorem strip_head : stripLifts liftWords ("cut".toList :: headRest) = ([], "cut".toList :: headRest) := strip_none _ _ (by unfold liftWords; decide)
theorem laysLater_is : Try.pinned.checked.prog.laysLater = false := by kernel_rfl
theorem bearsReflect_is : Try.pinned.checked.prog.bearsReflect = false := by kernel_rfl
theorem doorFits_is : Try.pinned.checked.prog.doorFits [] = true := by kernel_rfl
theorem mayEnter_of {P : Program} {r : List (List Char)} {x : List Char} (h : behindMainWord (wordsSigns P.initOrder.toList) = x :: r) (hx : x = "cut".toList) (hs : stripLifts liftWords (x :: r) = ([], x :: r)) (h1 : P.laysLater = false) (h2 : P.bearsReflect = false) (h3 : P.doorFits [] = true) : P.mayEnter = true := by
  unfold Program.mayEnter
  rw [h]
  show ((_ || _) || _) = true
  rw [Bool.or_eq_true]
  right
  rw [hs, h1, h2, h3]
  show (((((some x == some "cut".toList) && _) && _) && _) && true) = true
  rw [hx, beq_self_eq_true]
  rfl
theorem mayEnter_is : Try.pinned.checked.prog.mayEnter = true := mayEnter_of headWs rfl strip_head laysLater_is bearsReflect_is doorFits_is
theorem headLifts_of {P : Program} {r : List (List Char)} {x : List Char} (h : behindMainWord (wordsSigns P.initOrder.toList) = x :: r) (hs : stripLifts liftWords (x :: r) = ([], x :: r)) : P.headLifts = [] := by
  unfold Program.headLifts
  rw [h, hs]
  show (if (some x == some "cut".toList) = true then [] else []) = []
  split <;> rfl
theorem headLifts_is : Try.pinned.checked.prog.headLifts = [] := headLifts_of headWs strip_head
theorem liftsFinal_of {P : Program} {r : List (List Char)} {x : List Char} (h : behindMainWord (wordsSigns P.initOrder.toList) = x :: r) (hl : P.headLifts = []) (hx : (some x == some "carried".toList) = false) : P.liftsFinal = false := by
  unfold Program.liftsFinal
  rw [h, hl]
  show ((some x == some "carried".toList && _) || false) = false
  rw [hx]
  rfl
theorem liftsFinal_is : Try.pinned.checked.prog.liftsFinal = false := liftsFinal_of headWs headLifts_is (by rw [Option.some_beq_some]; exact beq_ne (by decide))
theorem make_of {P : Program} {r : List (List Char)} {x : List Char} (h : behindMainWord (wordsSigns P.initOrder.toList) = x :: r) (h1 : (x == "gc".toList) = false) (h2 : (x == "spec".toList) = false) (hx : x = "cut".toList) : P.make = some .cut := by
  unfold Program.make
  rw [h]
  show (if (x == "gc".toList || x == "spec".toList) = true then some Make.whole else if (x == "cut".toList || _) = true then some Make.cut else _) = some Make.cut
  rw [h1, h2, if_neg (by decide), if_pos (by rw [hx, beq_self_eq_true]; rfl)]
theorem make_is : Try.pinned.checked.prog.make = some .cut := make_of headWs (beq_ne (by decide)) (beq_ne (by decide)) rfl
end Go.Proofs.Ytonelibgaceflaa

namespace Go.Proofs.Ytonelibgaceflaa
set_option linter.unusedVariables false

/-- The first n of 64 bits are 1. -/
def onesI (n : Int) : Int := if n ≤ 0 then 0 else if 64 ≤ n then 18446744073709551615 else 18446744073709551616 - 2 ^ (64 - n).toNat

theorem two_pow_pos (k : Nat) : (0 : Int) < 2 ^ k := Int.pow_pos (by omega)
theorem two_pow_le (k : Nat) (h : k ≤ 64) : (2 : Int) ^ k ≤ 18446744073709551616 := by
  have : (2 : Nat) ^ k ≤ 2 ^ 64 := Nat.pow_le_pow_right (by omega) h
  have e : ((2 ^ k : Nat) : Int) = 2 ^ k := by simp
  rw [← e]
  have : (2 ^ 64 : Nat) = 18446744073709551616 := by decide
  omega

theorem onesI_range (n : Int) : 0 ≤ onesI n ∧ onesI n < 18446744073709551616 := by
  unfold onesI
  split
  · omega
  · split
    · omega
    · have h1 := two_pow_pos (64 - n).toNat
      have h2 := two_pow_le (64 - n).toNat (by omega)
      omega

theorem ones_wrap (k : Nat) (h : k ≤ 64) : (18446744073709551615 * 2 ^ k : Int) % 18446744073709551616 = 18446744073709551616 - 2 ^ k := by
  have h1 := two_pow_pos k
  have h2 := two_pow_le k h
  generalize (2 : Int) ^ k = p at *
  have e : (18446744073709551615 * p : Int) = (18446744073709551616 - p) + 18446744073709551616 * (p - 1) := by omega
  rw [e, Int.add_mul_emod_self_left]
  rw [Int.emod_eq_of_lt (by omega) (by omega)]

theorem and_ones_nat (x k : Nat) (hx : x < 2 ^ 64) (hk : k ≤ 64) : x &&& (2 ^ 64 - 2 ^ k) = x / 2 ^ k * 2 ^ k := by
  have e : (2 : Nat) ^ 64 - 2 ^ k = (2 ^ (64 - k) - 1) * 2 ^ k := by
    rw [Nat.sub_mul, ← Nat.pow_add, Nat.sub_add_cancel hk, Nat.one_mul]
  rw [e]
  apply Nat.eq_of_testBit_eq
  intro i
  rw [Nat.testBit_and, ← Nat.shiftLeft_eq, ← Nat.shiftLeft_eq, Nat.testBit_shiftLeft, Nat.testBit_shiftLeft, Nat.testBit_two_pow_sub_one, Nat.testBit_div_two_pow]
  by_cases h : k ≤ i
  · simp only [ge_iff_le, h, decide_true, Bool.true_and, Nat.sub_add_cancel h]
    by_cases h2 : i - k < 64 - k
    · simp [h2]
    · have : x.testBit i = false := by
        apply Nat.testBit_lt_two_pow
        exact Nat.lt_of_lt_of_le hx (Nat.pow_le_pow_right (by omega) (by omega))
      simp [this]
  · simp [h]

/-- What is left of a word when all but its first n bits are cleared. -/
def keepW (x n : Int) : Int := if n ≤ 0 then 0 else if 64 ≤ n then x else x / 2 ^ (64 - n).toNat * 2 ^ (64 - n).toNat

/-! ADDRESSES AND PREFIXES, AS NUMBERS -/
/-- Is an address valid? -/
def mayB (six : Bool) (hi lo : Int) : Bool := six || (hi == 0 && decide (lo < 4294967296))

def wideI (six : Bool) : Int := if six then 128 else 32

/-- Bit i of an address, the highest first. -/
def bitI (six : Bool) (hi lo i : Int) : Int :=
  if six then (if i < 64 then hi / 2 ^ (63 - i).toNat % 2 else lo / 2 ^ (127 - i).toNat % 2) else lo / 2 ^ (31 - i).toNat % 2

theorem bitI_01 (six : Bool) (hi lo i : Int) : 0 ≤ bitI six hi lo i ∧ bitI six hi lo i ≤ 1 := by
  unfold bitI
  split
  · split <;> omega
  · omega

/-- All bits of an address. -/
def bitsL (six : Bool) (hi lo : Int) : List Int := (List.range (wideI six).toNat).map fun (i : Nat) => bitI six hi lo (i : Int)
theorem bitsL_length (six : Bool) (hi lo : Int) : (bitsL six hi lo).length = (wideI six).toNat := by simp [bitsL]

def cutHi (six : Bool) (hi n : Int) : Int := if six then keepW hi n else 0
def cutLo (six : Bool) (lo n : Int) : Int := if six then keepW lo (n - 64) else keepW (lo * 4294967296) n / 4294967296

def cleanB (six : Bool) (hi lo n : Int) : Bool := cutHi six hi n == hi && cutLo six lo n == lo

/-- The fault of a prefix. -/
def chk (six : Bool) (hi lo n : Int) : Int :=
  if mayB six hi lo = false then 4 else if n < 0 ∨ wideI six < n then 2 else if cleanB six hi lo n = true then 0 else 5

theorem mayB_four {hi lo : Int} (h : mayB false hi lo = true) : hi = 0 ∧ lo < 4294967296 := by simpa [mayB] using h
theorem wideI_le (six : Bool) : 32 ≤ wideI six ∧ wideI six ≤ 128 := by unfold wideI; split <;> omega


theorem and_ones_int (x n : Int) (h1 : 0 ≤ x) (h2 : x < 18446744073709551616) : ((x.toNat &&& (onesI n).toNat : Nat) : Int) = keepW x n := by
  unfold onesI keepW
  split
  · simp
  · split
    · have : x.toNat &&& (18446744073709551615 : Int).toNat = x.toNat := by
        have := Nat.and_two_pow_sub_one_eq_mod x.toNat 64
        rw [show (18446744073709551615 : Int).toNat = 2 ^ 64 - 1 from by decide, this]
        apply Nat.mod_eq_of_lt
        omega
      rw [this]
      omega
    · obtain ⟨k, hk⟩ : ∃ k : Nat, (64 - n).toNat = k := ⟨_, rfl⟩
      have hk2 : k ≤ 64 := by omega
      rw [hk]
      have e : (18446744073709551616 - 2 ^ k : Int).toNat = 2 ^ 64 - 2 ^ k := by
        have h3 := two_pow_le k hk2
        have h4 : ((2 ^ k : Nat) : Int) = 2 ^ k := by simp
        have h5 : (2 ^ 64 : Nat) = 18446744073709551616 := by decide
        rw [h5]
        omega
      rw [e, and_ones_nat _ _ (by have : (2 ^ 64 : Nat) = 18446744073709551616 := by decide
                                  omega) hk2]
      simp [Int.toNat_of_nonneg h1]

/-- The low bits of a word are 0 just if each of them is. -/
theorem low_zero (x : Int) : ∀ k : Nat, x % 2 ^ k = 0 ↔ ∀ j, j < k → x / 2 ^ j % 2 = 0
  | 0 => by simp [Int.emod_one]
  | k + 1 => by
    have ih := low_zero x k
    have hp := two_pow_pos k
    have e : x % 2 ^ (k + 1) = x % 2 ^ k + 2 ^ k * (x / 2 ^ k % 2) := by
      rw [Int.pow_succ]
      generalize (2 : Int) ^ k = p at *
      have h1 := Int.mul_ediv_add_emod x (p * 2)
      have h2 := Int.mul_ediv_add_emod x p
      have h3 := Int.mul_ediv_add_emod (x / p) 2
      have h4 : x / (p * 2) = x / p / 2 := by rw [Int.ediv_ediv_of_nonneg (by omega)]
      rw [h4] at h1
      generalize x / p / 2 = q at *
      generalize x / p % 2 = r at *
      have h5 : x / p = 2 * q + r := by omega
      rw [h5, Int.mul_add] at h2
      have h6 : p * (2 * q) = p * 2 * q := by rw [Int.mul_assoc]
      omega
    rw [e]
    have hn := Int.emod_nonneg x (show (2 : Int) ^ k ≠ 0 by omega)
    have hr : 0 ≤ x / 2 ^ k % 2 ∧ x / 2 ^ k % 2 ≤ 1 := by omega
    constructor
    · intro h j hj
      have hz : x / 2 ^ k % 2 = 0 := by
        rcases (by omega : x / 2 ^ k % 2 = 0 ∨ x / 2 ^ k % 2 = 1) with h0 | h0
        · exact h0
        · rw [h0] at h; omega
      rw [hz] at h
      rcases Nat.lt_or_ge j k with hjk | hjk
      · exact ih.1 (by omega) j hjk
      · obtain rfl : j = k := by omega
        exact hz
    · intro h
      rw [h k (by omega), ih.2 (fun j hj => h j (by omega))]
      omega

theorem keepW_eq (x n : Int) (h1 : 0 ≤ x) (h2 : x < 18446744073709551616) (hn0 : 0 ≤ n) (hn : n ≤ 64) : keepW x n = x ↔ x % 2 ^ (64 - n).toNat = 0 := by
  unfold keepW
  by_cases hz : n ≤ 0
  · rw [if_pos hz]
    obtain rfl : n = 0 := by omega
    rw [show (64 - (0 : Int)).toNat = 64 from rfl, show (2 : Int) ^ 64 = 18446744073709551616 from by decide, Int.emod_eq_of_lt h1 h2]
    omega
  · rw [if_neg hz]
    by_cases h64 : 64 ≤ n
    · rw [if_pos h64]
      obtain rfl : n = 64 := by omega
      simp [Int.emod_one]
    · rw [if_neg h64]
      have := Int.mul_ediv_add_emod x (2 ^ (64 - n).toNat)
      rw [Int.mul_comm] at this
      omega

theorem keepW_range (x n : Int) (h1 : 0 ≤ x) (h2 : x < 18446744073709551616) : 0 ≤ keepW x n ∧ keepW x n < 18446744073709551616 := by
  unfold keepW
  split
  · omega
  · split
    · omega
    · have hp := two_pow_pos (64 - n).toNat
      have := Int.mul_ediv_add_emod x (2 ^ (64 - n).toNat)
      rw [Int.mul_comm] at this
      have h3 := Int.emod_nonneg x (show (2 : Int) ^ (64 - n).toNat ≠ 0 by omega)
      have h4 : 0 ≤ x / 2 ^ (64 - n).toNat * 2 ^ (64 - n).toNat := Int.mul_nonneg (Int.ediv_nonneg h1 (by omega)) (by omega)
      omega

/-! CLEAN PREFIXES, BIT BY BIT -/
theorem keep4_eq (lo n : Int) : keepW (lo * 4294967296) n / 4294967296 = if n ≤ 0 then 0 else if 32 ≤ n then lo else lo / 2 ^ (32 - n).toNat * 2 ^ (32 - n).toNat := by
  unfold keepW
  by_cases hn : n ≤ 0
  · rw [if_pos hn, if_pos hn]; rfl
  · rw [if_neg hn, if_neg hn]
    by_cases h64 : 64 ≤ n
    · rw [if_pos h64, if_pos (by omega)]
      omega
    · rw [if_neg h64]
      by_cases h32 : 32 ≤ n
      · rw [if_pos h32]
        obtain ⟨k, hk⟩ : ∃ k : Nat, (64 - n).toNat = k := ⟨_, rfl⟩
        rw [hk]
        have e : (4294967296 : Int) = 2 ^ (32 - k) * 2 ^ k := by
          rw [← Int.pow_add, show 32 - k + k = 32 from by omega]; decide
        have hp := two_pow_pos k
        have e2 : lo * 4294967296 / 2 ^ k * 2 ^ k = lo * 4294967296 := by
          rw [e, ← Int.mul_assoc, Int.mul_ediv_cancel _ (by omega)]
        rw [e2]
        omega
      · rw [if_neg h32]
        obtain ⟨k, hk⟩ : ∃ k : Nat, (32 - n).toNat = k := ⟨_, rfl⟩
        have hk2 : (64 - n).toNat = k + 32 := by omega
        rw [hk, hk2, Int.pow_add, show (2 : Int) ^ 32 = 4294967296 from by decide]
        have hp := two_pow_pos k
        have e : lo * 4294967296 / (2 ^ k * 4294967296) = lo / 2 ^ k := Int.mul_ediv_mul_of_pos_left _ _ (by omega)
        rw [e, ← Int.mul_assoc]
        omega

theorem keep4_iff (lo n : Int) (h1 : 0 ≤ lo) (h2 : lo < 4294967296) (hn0 : 0 ≤ n) (hn : n ≤ 32) : keepW (lo * 4294967296) n / 4294967296 = lo ↔ lo % 2 ^ (32 - n).toNat = 0 := by
  rw [keep4_eq lo n]
  by_cases hz : n ≤ 0
  · rw [if_pos hz]
    obtain rfl : n = 0 := by omega
    rw [show (32 - (0 : Int)).toNat = 32 from rfl, show (2 : Int) ^ 32 = 4294967296 from by decide]
    omega
  · rw [if_neg hz]
    by_cases h : 32 ≤ n
    · rw [if_pos h]
      obtain rfl : n = 32 := by omega
      simp [Int.emod_one]
    · rw [if_neg h]
      have := Int.mul_ediv_add_emod lo (2 ^ (32 - n).toNat)
      rw [Int.mul_comm] at this
      omega

theorem clean_iff (six : Bool) (hi lo : Int) (n : Nat) (h1 : 0 ≤ hi ∧ hi < 18446744073709551616) (h2 : 0 ≤ lo ∧ lo < 18446744073709551616) (hm : mayB six hi lo = true) (hn : (n : Int) ≤ wideI six) :
    cleanB six hi lo n = true ↔ ∀ i : Nat, n ≤ i → (i : Int) < wideI six → bitI six hi lo i = 0 := by
  unfold cleanB
  rw [Bool.and_eq_true, beq_iff_eq, beq_iff_eq]
  cases six
  · have hf := mayB_four hm
    have hn' : (n : Int) ≤ 32 := hn
    unfold cutHi cutLo bitI wideI
    simp only [Bool.false_eq_true, if_false]
    rw [keep4_iff lo n h2.1 hf.2 (by omega) hn', low_zero]
    constructor
    · rintro ⟨_, h⟩ i hi1 hi2
      exact h _ (by omega)
    · intro h
      refine ⟨hf.1.symm, fun j hj => ?_⟩
      have := h (31 - j) (by omega) (by omega)
      rwa [show (31 - ((31 - j : Nat) : Int)).toNat = j from by omega] at this
  · have hn' : (n : Int) ≤ 128 := hn
    unfold cutHi cutLo bitI wideI
    simp only [if_true]
    by_cases h64 : n ≤ 64
    · rw [keepW_eq hi n h1.1 h1.2 (by omega) (by omega), low_zero]
      have e : keepW lo ((n : Int) - 64) = lo ↔ lo % 2 ^ 64 = 0 := by
        unfold keepW
        rw [if_pos (by omega), show (2 : Int) ^ 64 = 18446744073709551616 from by decide]
        omega
      rw [e, low_zero]
      constructor
      · rintro ⟨ha, hb⟩ i hi1 hi2
        split
        · exact ha _ (by omega)
        · exact hb _ (by omega)
      · intro h
        refine ⟨fun j hj => ?_, fun j hj => ?_⟩
        · have := h (63 - j) (by omega) (by omega)
          rw [if_pos (by omega)] at this
          rwa [show (63 - ((63 - j : Nat) : Int)).toNat = j from by omega] at this
        · have := h (127 - j) (by omega) (by omega)
          rw [if_neg (by omega)] at this
          rwa [show (127 - ((127 - j : Nat) : Int)).toNat = j from by omega] at this
    · have e : keepW hi n = hi := by
        unfold keepW
        rw [if_neg (by omega), if_pos (by omega)]
      rw [e, keepW_eq lo _ h2.1 h2.2 (by omega) (by omega), low_zero]
      constructor
      · rintro ⟨_, hb⟩ i hi1 hi2
        rw [if_neg (by omega)]
        exact hb _ (by omega)
      · intro h
        refine ⟨rfl, fun j hj => ?_⟩
        have := h (127 - j) (by omega) (by omega)
        rw [if_neg (by omega)] at this
        rwa [show (127 - ((127 - j : Nat) : Int)).toNat = j from by omega] at this

/-! BITS OF WORDS -/
theorem mod_succ (x : Int) (k : Nat) : x % 2 ^ (k + 1) = x % 2 ^ k + 2 ^ k * (x / 2 ^ k % 2) := by
  have hp := two_pow_pos k
  rw [Int.pow_succ]
  generalize (2 : Int) ^ k = p at *
  have h1 := Int.mul_ediv_add_emod x (p * 2)
  have h2 := Int.mul_ediv_add_emod x p
  have h3 := Int.mul_ediv_add_emod (x / p) 2
  have h4 : x / (p * 2) = x / p / 2 := by rw [Int.ediv_ediv_of_nonneg (by omega)]
  rw [h4] at h1
  generalize x / p / 2 = q at *
  generalize x / p % 2 = r at *
  have h5 : x / p = 2 * q + r := by omega
  rw [h5, Int.mul_add] at h2
  have h6 : p * (2 * q) = p * 2 * q := by rw [Int.mul_assoc]
  omega

theorem mod_ext (x y : Int) : ∀ k : Nat, (∀ j, j < k → x / 2 ^ j % 2 = y / 2 ^ j % 2) → x % 2 ^ k = y % 2 ^ k
  | 0, _ => by simp [Int.emod_one]
  | k + 1, h => by rw [mod_succ, mod_succ, mod_ext x y k (fun j hj => h j (by omega)), h k (by omega)]

theorem word_ext (x y : Int) (k : Nat) (hx : 0 ≤ x ∧ x < 2 ^ k) (hy : 0 ≤ y ∧ y < 2 ^ k) (h : ∀ j, j < k → x / 2 ^ j % 2 = y / 2 ^ j % 2) : x = y := by
  have := mod_ext x y k h
  rwa [Int.emod_eq_of_lt hx.1 hx.2, Int.emod_eq_of_lt hy.1 hy.2] at this

theorem bit_trunc (x : Int) (k j : Nat) : x / 2 ^ k * 2 ^ k / 2 ^ j % 2 = if k ≤ j then x / 2 ^ j % 2 else 0 := by
  have hk := two_pow_pos k
  have hj := two_pow_pos j
  split
  · rename_i h
    obtain ⟨d, rfl⟩ : ∃ d, j = k + d := ⟨j - k, by omega⟩
    rw [Int.pow_add, ← Int.ediv_ediv_of_nonneg (by omega), Int.mul_ediv_cancel _ (by omega), ← Int.ediv_ediv_of_nonneg (by omega)]
  · rename_i h
    obtain ⟨d, rfl⟩ : ∃ d, k = j + (d + 1) := ⟨k - j - 1, by omega⟩
    have e : x / 2 ^ (j + (d + 1)) * 2 ^ (j + (d + 1)) = (x / 2 ^ (j + (d + 1)) * 2 ^ d * 2) * 2 ^ j := by
      rw [Int.mul_assoc, Int.mul_assoc]
      congr 1
      rw [Int.pow_add, Int.pow_succ, Int.mul_comm, Int.mul_assoc]
    rw [e, Int.mul_ediv_cancel _ (by omega)]
    omega

theorem bit_keepW (x n : Int) (j : Nat) (hj : j < 64) : keepW x n / 2 ^ j % 2 = if 64 - n ≤ j then x / 2 ^ j % 2 else 0 := by
  unfold keepW
  by_cases h0 : n ≤ 0
  · rw [if_pos h0, if_neg (by omega)]
    simp
  · rw [if_neg h0]
    by_cases h64 : 64 ≤ n
    · rw [if_pos h64, if_pos (by omega)]
    · rw [if_neg h64, bit_trunc]
      by_cases h : 64 - n ≤ j
      · rw [if_pos h, if_pos (by omega)]
      · rw [if_neg h, if_neg (by omega)]

/-- Valid addresses whose bits are alike are one. -/
theorem addr_ext (six : Bool) (hi lo hi' lo' : Int) (h1 : 0 ≤ hi ∧ hi < 18446744073709551616) (h2 : 0 ≤ lo ∧ lo < 18446744073709551616) (h3 : 0 ≤ hi' ∧ hi' < 18446744073709551616) (h4 : 0 ≤ lo' ∧ lo' < 18446744073709551616)
    (hm : mayB six hi lo = true) (hm' : mayB six hi' lo' = true) (h : ∀ i : Nat, (i : Int) < wideI six → bitI six hi lo i = bitI six hi' lo' i) : hi = hi' ∧ lo = lo' := by
  have e64 : (2 : Int) ^ 64 = 18446744073709551616 := by decide
  have e32 : (2 : Int) ^ 32 = 4294967296 := by decide
  cases six
  · have f1 := mayB_four hm
    have f2 := mayB_four hm'
    refine ⟨by omega, word_ext lo lo' 32 (by omega) (by omega) fun j hj => ?_⟩
    have := h (31 - j) (by unfold wideI; simp; omega)
    unfold bitI at this
    rw [if_neg (by simp), if_neg (by simp), show (31 - ((31 - j : Nat) : Int)).toNat = j from by omega] at this
    exact this
  · refine ⟨word_ext hi hi' 64 (by omega) (by omega) fun j hj => ?_, word_ext lo lo' 64 (by omega) (by omega) fun j hj => ?_⟩
    · have := h (63 - j) (by unfold wideI; simp; omega)
      unfold bitI at this
      rw [if_pos rfl, if_pos rfl, if_pos (by omega), if_pos (by omega), show (63 - ((63 - j : Nat) : Int)).toNat = j from by omega] at this
      exact this
    · have := h (127 - j) (by unfold wideI; simp; omega)
      unfold bitI at this
      rw [if_pos rfl, if_pos rfl, if_neg (by omega), if_neg (by omega), show (127 - ((127 - j : Nat) : Int)).toNat = j from by omega] at this
      exact this

theorem cutHi_range (six : Bool) (hi n : Int) (h1 : 0 ≤ hi ∧ hi < 18446744073709551616) : 0 ≤ cutHi six hi n ∧ cutHi six hi n < 18446744073709551616 := by
  unfold cutHi
  split
  · exact keepW_range hi n h1.1 h1.2
  · omega
theorem cutLo_range (six : Bool) (hi lo n : Int) (h2 : 0 ≤ lo ∧ lo < 18446744073709551616) (hm : mayB six hi lo = true) : (0 ≤ cutLo six lo n ∧ cutLo six lo n < 18446744073709551616) ∧ mayB six (cutHi six hi n) (cutLo six lo n) = true := by
  cases six
  · have f := mayB_four hm
    have := keepW_range (lo * 4294967296) n (by omega) (by omega)
    unfold cutLo cutHi mayB
    simp only [Bool.false_eq_true, if_false, Bool.false_or, Bool.and_eq_true, beq_self_eq_true, decide_eq_true_eq, true_and]
    omega
  · exact ⟨keepW_range lo _ h2.1 h2.2, by simp [mayB]⟩

/-- The bits of an address cut behind n bits. -/
theorem bit_cut (six : Bool) (hi lo n : Int) (i : Nat) (hm : mayB six hi lo = true) (hi' : (i : Int) < wideI six) :
    bitI six (cutHi six hi n) (cutLo six lo n) i = if (i : Int) < n then bitI six hi lo i else 0 := by
  cases six
  · have f := mayB_four hm
    have h32 : (i : Int) < 32 := hi'
    unfold bitI cutLo
    simp only [Bool.false_eq_true, ↓reduceIte]
    rw [keep4_eq]
    by_cases h0 : n ≤ 0
    · rw [if_pos h0, if_neg (by omega)]
      simp
    · rw [if_neg h0]
      by_cases h3 : 32 ≤ n
      · rw [if_pos h3, if_pos (by omega)]
      · rw [if_neg h3, bit_trunc]
        by_cases h : (i : Int) < n
        · rw [if_pos h, if_pos (by omega)]
        · rw [if_neg h, if_neg (by omega)]
  · have h128 : (i : Int) < 128 := hi'
    unfold bitI cutLo cutHi
    simp only [↓reduceIte]
    by_cases h64 : (i : Int) < 64
    · rw [if_pos h64, if_pos h64, bit_keepW hi n _ (by omega)]
      by_cases h : (i : Int) < n
      · rw [if_pos h, if_pos (by omega)]
      · rw [if_neg h, if_neg (by omega)]
    · rw [if_neg h64, if_neg h64, bit_keepW lo _ _ (by omega)]
      by_cases h : (i : Int) < n
      · rw [if_pos h, if_pos (by omega)]
      · rw [if_neg h, if_neg (by omega)]

/-- Has a prefix an address of its family? -/
def inB (six : Bool) (hi lo n : Int) (six' : Bool) (hi' lo' : Int) : Bool :=
  (six' == six) && (cutHi six' hi' n == hi && cutLo six' lo' n == lo)

/-- A valid prefix. -/
structure Pfx (six : Bool) (hi lo n : Int) : Prop where
  rhi : 0 ≤ hi ∧ hi < 18446744073709551616
  rlo : 0 ≤ lo ∧ lo < 18446744073709551616
  may : mayB six hi lo = true
  len : 0 ≤ n ∧ n ≤ wideI six
  clean : cleanB six hi lo n = true

theorem chk_zero {six : Bool} {hi lo n : Int} (h1 : 0 ≤ hi ∧ hi < 18446744073709551616) (h2 : 0 ≤ lo ∧ lo < 18446744073709551616) (h : chk six hi lo n = 0) : Pfx six hi lo n := by
  unfold chk at h
  by_cases hm : mayB six hi lo = false
  · rw [if_pos hm] at h; omega
  · rw [if_neg hm] at h
    by_cases hr : n < 0 ∨ wideI six < n
    · rw [if_pos hr] at h; omega
    · rw [if_neg hr] at h
      by_cases hc : cleanB six hi lo n = true
      · exact ⟨h1, h2, by simpa using hm, by omega, hc⟩
      · rw [if_neg hc] at h; omega

theorem inB_iff {six : Bool} {hi lo hi' lo' : Int} {n : Nat} (hp : Pfx six hi lo n) (h1 : 0 ≤ hi' ∧ hi' < 18446744073709551616) (h2 : 0 ≤ lo' ∧ lo' < 18446744073709551616) (hm : mayB six hi' lo' = true) :
    inB six hi lo n six hi' lo' = true ↔ ∀ i : Nat, i < n → bitI six hi lo i = bitI six hi' lo' i := by
  have hc := (clean_iff six hi lo n hp.rhi hp.rlo hp.may hp.len.2).1 hp.clean
  unfold inB
  simp only [beq_self_eq_true, Bool.true_and, Bool.and_eq_true, beq_iff_eq]
  constructor
  · rintro ⟨e1, e2⟩ i hi0
    have := bit_cut six hi' lo' n i hm (by have := hp.len.2; omega)
    rw [e1, e2, if_pos (by omega)] at this
    exact this
  · intro h
    have hr := cutLo_range six hi' lo' n h2 hm
    refine addr_ext six _ _ _ _ (cutHi_range six hi' n h1) hr.1 hp.rhi hp.rlo hr.2 hp.may fun i hi0 => ?_
    rw [bit_cut six hi' lo' n i hm hi0]
    split
    · exact (h i (by omega)).symm
    · exact (hc i (by omega) hi0).symm

end Go.Proofs.Ytonelibgaceflaa

namespace Go.Proofs.Ytonelibgaceflaa
open Go.ChangeShapes Go.WideShapes Go.ChangeAt Go.RowKit

theorem ret_bool {a b : Bool} (h : a = b) : Ending.returned (.bool a) = .returned (.bool b) := by rw [h]

set_option maxHeartbeats 400000 in
theorem may_any (six : Bool) (hi lo : Int) (w : World) (h1 : 0 ≤ lo) :
    Calls Try.prog 71 #[.agg #[.bool six, .int .u64 hi, .int .u64 lo]] w fun e w' => e = .returned (.bool (mayB six hi lo)) ∧ Below w.heap.size w w' := by
  cases six
  · by_cases hh : hi = 0
    · subst hh
      go_enter Try.func71, Try.ntmps71
      go_wp2
      go_ret
      exact ⟨ret_bool (by simp only [mayB]; rw [Bool.eq_iff_iff]; simp; omega), (Below.refl _ _).alloc (Nat.le_refl _) _⟩
    · have hb : (hi == 0) = false := by simpa using hh
      go_enter Try.func71, Try.ntmps71
      go_wp2
      go_ret
      exact ⟨ret_bool (by simp [mayB, hh]), (Below.refl _ _).alloc (Nat.le_refl _) _⟩
  · go_enter Try.func71, Try.ntmps71
    go_wp2
    go_ret
    exact ⟨ret_bool (by simp [mayB]), (Below.refl _ _).alloc (Nat.le_refl _) _⟩

set_option maxHeartbeats 400000 in
theorem refMay_any (six : Bool) (hi lo : Int) (w : World) (h1 : 0 ≤ lo) :
    Calls Try.prog 82 #[.agg #[.bool six, .int .u64 hi, .int .u64 lo]] w fun e w' => e = .returned (.bool (mayB six hi lo)) ∧ Below w.heap.size w w' := by
  cases six
  · by_cases hh : hi = 0
    · subst hh
      go_enter Try.func82, Try.ntmps82
      go_wp2
      all_goals go_ret
      all_goals exact ⟨ret_bool (by simp only [mayB]; rw [Bool.eq_iff_iff]; simp; omega), (Below.refl _ _).alloc (Nat.le_refl _) _⟩
    · have hb : (hi == 0) = false := by simpa using hh
      go_enter Try.func82, Try.ntmps82
      go_wp2
      go_ret
      exact ⟨ret_bool (by simp [mayB, hh]), (Below.refl _ _).alloc (Nat.le_refl _) _⟩
  · go_enter Try.func82, Try.ntmps82
    go_wp2
    go_ret
    exact ⟨ret_bool (by simp [mayB]), (Below.refl _ _).alloc (Nat.le_refl _) _⟩

set_option maxRecDepth 100000 in
/-- An address that came in. -/
theorem open_addr {H : Type} {enc : TypeId × Value → H} {W : World} {base : Nat} {sp : Nat → Bool} {held : Bool} {b0 : Nat} {v : Value} {d : DataW H} {p : List MemPlace}
    (hv : Value.okWide Try.prog W .any b0 24 v) (h : DataW.Trod enc Try.prog W base sp held 24 v d p) :
    ∃ six hi lo, v = .agg #[.bool six, .int .u64 hi, .int .u64 lo] ∧ (0 ≤ hi ∧ hi < 18446744073709551616) ∧ (0 ≤ lo ∧ lo < 18446744073709551616) := by
  have hc : Try.prog.cellsOf 24 = 3 := by kernel_rfl
  have hk : flat Try.prog 9 24 = some [none, some .u64, some .u64] := by kernel_rfl
  obtain ⟨cs, rfl, hf⟩ := open_flat (fun fuel cs x hl hx => trod_flat 9 _ _ fuel cs x hk hl (by rw [hc]; rfl) hx) Try.underlying24 hv h
  obtain ⟨six, _, rfl, hf1⟩ := hf.bool_inv
  obtain ⟨hi, _, rfl, wy, hf2⟩ := hf1.int_inv
  obtain ⟨lo, _, rfl, wz, hf3⟩ := hf2.int_inv
  obtain rfl := hf3.nil_inv
  exact ⟨six, hi, lo, rfl, range_u64 wy, range_u64 wz⟩

end Go.Proofs.Ytonelibgaceflaa

namespace Go.Proofs.Ytonelibgaceflaa
open Go.RowKit

theorem block_of_add (a : Addr) (n : Nat) : (a.add n).block = a.block := by unfold Addr.add; split <;> rfl
theorem add_of_add (a : Addr) (i j : Nat) : (a.add i).add j = a.add (i + j) := by
  unfold Addr.add
  by_cases hi : i = 0 <;> by_cases hj : j = 0 <;> simp [hi, hj, Nat.add_assoc]

def Reads (w : World) (B size : Nat) (A : Option Addr) (n : Nat) (xs : List Value) : Prop :=
  xs.length = n * size ∧ (0 < n → ∃ ad, A = some ad ∧ ad.block < B ∧ ∀ j u, xs[j]? = some u → w.cell? (ad.add j) = some u)

section
variable {w w' : World} {B B' size n : Nat} {A : Option Addr} {xs : List Value}
theorem Reads.none_ : Reads w B size A 0 [] := ⟨by simp, fun h => absurd h (by omega)⟩
theorem Reads.at_ {k : Nat} (h : Reads w B 1 A n xs) (hk : k < n) : ∃ ad u, A = some ad ∧ ad.block < B ∧ xs[k]? = some u ∧ w.cell? (ad.add k) = some u := by
  obtain ⟨ad, e, hb, hc⟩ := h.2 (by omega)
  have hl : k < xs.length := by have := h.1; omega
  exact ⟨ad, xs[k], e, hb, List.getElem?_eq_getElem hl, hc k _ (List.getElem?_eq_getElem hl)⟩
theorem Reads.keep (h : Reads w B size A n xs) (hk : ∀ p : Addr, p.block < B → w'.cell? p = w.cell? p) : Reads w' B size A n xs :=
  ⟨h.1, fun hn => by
    obtain ⟨ad, e, hb, hc⟩ := h.2 hn
    exact ⟨ad, e, hb, fun j u hu => (hk _ (by rw [block_of_add]; exact hb)).trans (hc j u hu)⟩⟩
theorem Reads.more (h : Reads w B size A n xs) (hB : B ≤ B') : Reads w B' size A n xs :=
  ⟨h.1, fun hn => by
    obtain ⟨ad, e, hb, hc⟩ := h.2 hn
    exact ⟨ad, e, by omega, hc⟩⟩
theorem Reads.below (h : Reads w B size A n xs) (hb : Below B w w') : Reads w' B size A n xs := h.keep fun _ hp => hb.cell hp
theorem Reads.drew (h : Reads w B size A n xs) : Reads w.drew B size A n xs := h
theorem Reads.drewN (h : Reads w B size A n xs) (k : Nat) : Reads (w.drewN k) B size A n xs := h
theorem Reads.alloc (h : Reads w B size A n xs) (hB : B ≤ w.heap.size) (o : Obj) : Reads (w.alloc o) B size A n xs := h.keep fun p hp => World.cell?_alloc_lt w o p (by omega)
theorem Reads.setCell (h : Reads w B size A n xs) {p : Addr} (hB : B ≤ p.block) (u : Value) : Reads (w.setCell p u) B size A n xs :=
  h.keep fun q hq => World.cell?_setCell_other w p q u (fun e => by subst e; omega)
theorem Reads.grown (h : Reads w B size A n xs) {row : Option Nat} (hg : w.grownBy w' row) (hB : B ≤ w.heap.size) (hr : ∀ g, row = some g → B ≤ g) : Reads w' B size A n xs :=
  h.keep fun p hp => World.cell?_of_block (hg.block p.block (by omega) (fun e => by have := hr _ e.symm; omega))
theorem Reads.cut (h : Reads w B size A n xs) {k cap : Nat} (hk : k ≤ n) (hc : n ≤ cap) :
    Reads w B size (if cap = k then A else A.map (·.add (k * size))) (n - k) (xs.drop (k * size)) := by
  refine ⟨by rw [List.length_drop, h.1, Nat.sub_mul], fun hn => ?_⟩
  obtain ⟨ad, rfl, hb, hcell⟩ := h.2 (by omega)
  rw [if_neg (by omega)]
  refine ⟨ad.add (k * size), rfl, by rw [block_of_add]; exact hb, fun j u hu => ?_⟩
  rw [add_of_add]
  exact hcell _ u (by rw [← hu, List.getElem?_drop])
theorem Reads.of_own {base : Nat} {e : TypeId} {c : Nat} (h : w.ownsRow base e size (.slice A n c) n xs) : Reads w w.heap.size size A n xs := by
  refine ⟨h.1, fun hn => ?_⟩
  obtain ⟨g, cap, hv, _, hlt⟩ := h.form hn
  have hA : A = some ⟨g, 0, none⟩ := by injection hv
  subst hA
  exact ⟨_, rfl, hlt, h.cells (g := g) rfl⟩
end

def Blk (w : World) (g : Nat) (t : TypeId) (cs : Array Value) : Prop := w.heap[g]? = some (.cells cs t (0, 0))

section
variable {w w' : World} {g : Nat} {t : TypeId} {cs : Array Value}
theorem Blk.lt (h : Blk w g t cs) : g < w.heap.size := by
  rcases Nat.lt_or_ge g w.heap.size with hlt | hge
  · exact hlt
  · unfold Blk at h; rw [Array.getElem?_eq_none hge] at h; cases h
theorem Blk.cell (h : Blk w g t cs) (i : Nat) : w.cell? ⟨g, i, none⟩ = cs[i]? := cell_of_row w g i cs t (0, 0) h
theorem Blk.frozen (h : Blk w g t cs) (i : Nat) : w.frozen? ⟨g, i, none⟩ = false := by
  unfold Blk at h
  simp [World.frozen?, h]
theorem Blk.new (w : World) (t : TypeId) (cs : Array Value) : Blk (w.alloc (.cells cs t)) w.heap.size t cs := heap_alloc_new w _
theorem Blk.drew (h : Blk w g t cs) : Blk w.drew g t cs := h
theorem Blk.drewN (h : Blk w g t cs) (n : Nat) : Blk (w.drewN n) g t cs := h
theorem Blk.alloc (h : Blk w g t cs) (o : Obj) : Blk (w.alloc o) g t cs := (Below.heap_alloc w o g h.lt).trans h
theorem Blk.set_ (h : Blk w g t cs) (i : Nat) (u : Value) : Blk (w.setCell ⟨g, i, none⟩ u) g t (cs.setIfInBounds i u) := by
  unfold Blk at h ⊢
  simp [World.setCell, Array.getElem?_modify, h]
theorem Blk.far (h : Blk w g t cs) {p : Addr} (hp : g ≠ p.block) (u : Value) : Blk (w.setCell p u) g t cs := (Below.heap_setCell w p u g hp).trans h
theorem Blk.below {B : Nat} (h : Blk w g t cs) (hb : Below B w w') (hg : g < B) : Blk w' g t cs := (hb.block g hg).trans h
theorem Blk.grown {row : Option Nat} (h : Blk w g t cs) (hb : w.grownBy w' row) (hg : some g ≠ row) : Blk w' g t cs := (hb.block g h.lt hg).trans h
theorem Blk.ne_ {g' : Nat} {t' : TypeId} {cs' : Array Value} (h : Blk w g t cs) (h' : Blk w g' t' cs') (hne : t ≠ t') : g ≠ g' := by
  rintro rfl
  unfold Blk at h h'
  rw [h] at h'
  injection h' with h'
  injection h' with _ ht
  exact hne ht
theorem own_blk_ne {base : Nat} {e : TypeId} {size n : Nat} {v : Value} {xs : List Value} (h : w.ownsRow base e size v n xs) (hg : Blk w g t cs) (hne : e ≠ t) : v.ownBlock ≠ some g := by
  rcases h.2 with ⟨rfl, _⟩ | ⟨g', cap, cur, rfl, _, hh, _⟩
  · simp [Value.ownBlock]
  · intro he
    have : g' = g := by simpa [Value.ownBlock] using he
    subst this
    exact Blk.ne_ (t := e) hh hg hne rfl
end

section
variable {P : Program} (w : World)

theorem run_append_of_nil (base : Nat) (t ty e : TypeId) (i : TypeInfo) (size : Nat) (ht : P.underlying t = some (.slice e)) (hi : P.info? e = some i)
    (v : Value) (n : Nat) (xs : List Value) (hown : w.ownsRow base e size v n xs) (c : Nat) : (Builtin.append_ #[t, t] ty #[v, .slice none 0 c]).run P w = .ok v w := by
  rcases hown.2 with ⟨rfl, rfl⟩ | ⟨g, cap, cur, rfl, _, _, hnc, _⟩
  · simp [Builtin.append_, run_underlying ht, sizeOf, typeInfo, hi, Builtin.lenOf, Builtin.firstCells]
  · simp [Builtin.append_, run_underlying ht, sizeOf, typeInfo, hi, Builtin.lenOf, Builtin.firstCells, hnc, storeCells]

theorem run_append_any (base : Nat) (t ty e : TypeId) (i : TypeInfo) (z : Value) (size bytes : Nat) (ht : P.underlying t = some (.slice e)) (hi : P.info? e = some i) (hz : i.zero = some z)
    (hsize : i.size = size) (hby : i.bytes = bytes) (hzs : z.cells.size = size) (hsz : 0 < size)
    (v : Value) (n : Nat) (xs : List Value) (hown : w.ownsRow base e size v n xs)
    (B : Nat) (A : Option Addr) (m c : Nat) (news : List Value) (hr : Reads w B size A m news) (h1 : ∀ u ∈ news, u.oneCell' = true)
    (h63 : n + m ≤ maxLen) (hbytes : (n + m) * bytes ≤ 140737488355328) (hbase : base ≤ w.heap.size) :
    ∃ v' w', (Builtin.append_ #[t, t] ty #[v, .slice A m c]).run P w = .ok v' w' ∧ w'.ownsRow base e size v' (n + m) (xs ++ news) ∧ w.grownBy w' v.ownBlock ∧
      (v'.ownBlock = v.ownBlock ∨ v'.ownBlock = some w.heap.size) := by
  rcases A with _ | ad
  · have hm : m = 0 := by
      rcases Nat.eq_zero_or_pos m with h0 | h0
      · exact h0
      · obtain ⟨ad, h, _⟩ := hr.2 h0
        cases h
    subst hm
    have hn : news = [] := List.eq_nil_of_length_eq_zero (by simpa using hr.1)
    subst hn
    exact ⟨v, w, run_append_of_nil w base t ty e i size ht hi v n xs hown c, by simpa using hown, World.grownBy.refl w _, .inl rfl⟩
  · have hcells : ∀ j u, news[j]? = some u → w.cell? (ad.add j) = some u := by
      intro j u hu
      rcases Nat.eq_zero_or_pos m with h0 | h0
      · subst h0
        have hn : news = [] := List.eq_nil_of_length_eq_zero (by simpa using hr.1)
        subst hn
        simp at hu
      · obtain ⟨ad', h, _, hc⟩ := hr.2 h0
        injection h with h
        subst h
        exact hc j u hu
    obtain ⟨v', w', hrun, h2, h3, _, h5⟩ := run_append_own_at (P := P) w base t ty e i z size bytes ht hi hz hsize hby hzs hsz v n xs hown ad m c news hr.1 hcells h1 h63 hbytes hbase
    exact ⟨v', w', hrun, h2, h3, h5⟩

theorem wp_append_any {o : Oper} {a : Act} {K : Act → World → Prop} {Q : Exit → Act → World → Prop} (s x : Operand) (t : TypeId)
    (ho : o.op = .call { callee := .builtin .append, args := #[s, x], argTypes := #[t, t] })
    (base : Nat) (e : TypeId) (i : TypeInfo) (z : Value) (size bytes : Nat) (ht : P.underlying t = some (.slice e)) (hi : P.info? e = some i) (hz : i.zero = some z)
    (hsize : i.size = size) (hby : i.bytes = bytes) (hzs : z.cells.size = size) (hsz : 0 < size)
    (v : Value) (n : Nat) (xs : List Value) (hs : a.eval s = v) (hown : w.ownsRow base e size v n xs)
    (B : Nat) (A : Option Addr) (m c : Nat) (news : List Value) (hx : a.eval x = .slice A m c) (hr : Reads w B size A m news) (h1 : ∀ u ∈ news, u.oneCell' = true)
    (h63 : n + m ≤ maxLen) (hbytes : (n + m) * bytes ≤ 140737488355328) (hbase : base ≤ w.heap.size)
    (h : ∀ v' w', w'.ownsRow base e size v' (n + m) (xs ++ news) → w.grownBy w' v.ownBlock → (v'.ownBlock = v.ownBlock ∨ v'.ownBlock = some w.heap.size) → K (a.put o.dst v') w') : o.wp P a w K Q := by
  obtain ⟨v', w', hrun, h2, h3, h4⟩ := run_append_any (P := P) w base t o.type e i z size bytes ht hi hz hsize hby hzs hsz v n xs hown B A m c news hr h1 h63 hbytes hbase
  unfold Oper.wp execOp
  simp only [ho, resolve, invoke, builtin, Sem.run_bind, Sem.run_pure, Result.andThen_ok, List.map_toArray, List.map_cons, List.map_nil, hs, hx, hrun]
  exact h v' w' h2 h3 h4

theorem wpList_append_any {ops : Array Oper} {rest : List Oper} {o : Oper} {a : Act} {Q : Exit → Act → World → Prop} (hgd : o.guard = none) (s x : Operand) (t : TypeId)
    (ho : o.op = .call { callee := .builtin .append, args := #[s, x], argTypes := #[t, t] })
    (base : Nat) (e : TypeId) (i : TypeInfo) (z : Value) (size bytes : Nat) (ht : P.underlying t = some (.slice e)) (hi : P.info? e = some i) (hz : i.zero = some z)
    (hsize : i.size = size) (hby : i.bytes = bytes) (hzs : z.cells.size = size) (hsz : 0 < size)
    (v : Value) (n : Nat) (xs : List Value) (hs : a.eval s = v) (hown : w.ownsRow base e size v n xs)
    (B : Nat) (A : Option Addr) (m c : Nat) (news : List Value) (hx : a.eval x = .slice A m c) (hr : Reads w B size A m news) (h1 : ∀ u ∈ news, u.oneCell' = true)
    (h63 : n + m ≤ maxLen) (hbytes : (n + m) * bytes ≤ 140737488355328) (hbase : base ≤ w.heap.size)
    (h : ∀ v' w', w'.ownsRow base e size v' (n + m) (xs ++ news) → w.grownBy w' v.ownBlock → (v'.ownBlock = v.ownBlock ∨ v'.ownBlock = some w.heap.size) → wpList P ops Q rest (a.put o.dst v') w') : wpList P ops Q (o :: rest) a w :=
  wpList_plain hgd fun _ hK => wp_append_any w s x t ho base e i z size bytes ht hi hz hsize hby hzs hsz v n xs hs hown B A m c news hx hr h1 h63 hbytes hbase fun v' w' h2 h3 h4 => hK _ _ (h v' w' h2 h3 h4)

theorem step_append_any {ops : Array Oper} {o : Oper} {a : Act} {K : Act → World → Prop} {Q : Exit → Act → World → Prop} {E : Prop} (hgd : o.guard = none) (s x : Operand) (t : TypeId)
    (ho : o.op = .call { callee := .builtin .append, args := #[s, x], argTypes := #[t, t] })
    (base : Nat) (e : TypeId) (i : TypeInfo) (z : Value) (size bytes : Nat) (ht : P.underlying t = some (.slice e)) (hi : P.info? e = some i) (hz : i.zero = some z)
    (hsize : i.size = size) (hby : i.bytes = bytes) (hzs : z.cells.size = size) (hsz : 0 < size)
    (v : Value) (n : Nat) (xs : List Value) (hs : a.eval s = v) (hown : w.ownsRow base e size v n xs)
    (B : Nat) (A : Option Addr) (m c : Nat) (news : List Value) (hx : a.eval x = .slice A m c) (hr : Reads w B size A m news) (h1 : ∀ u ∈ news, u.oneCell' = true)
    (h63 : n + m ≤ maxLen) (hbytes : (n + m) * bytes ≤ 140737488355328) (hbase : base ≤ w.heap.size)
    (h : ∀ v' w', w'.ownsRow base e size v' (n + m) (xs ++ news) → w.grownBy w' v.ownBlock → (v'.ownBlock = v.ownBlock ∨ v'.ownBlock = some w.heap.size) → K (a.put o.dst v') w') :
    if Region.wanted o (yielded ops a.tmps) = true then Oper.wp P o a w K Q else E := by
  have hw : Region.wanted o (yielded ops a.tmps) = true := by simp [Region.wanted, hgd]
  rw [if_pos hw]
  exact wp_append_any w s x t ho base e i z size bytes ht hi hz hsize hby hzs hsz v n xs hs hown B A m c news hx hr h1 h63 hbytes hbase h
end

theorem Reads.at1 {w : World} {B n k : Nat} {A : Option Addr} {α : Type} {l : List α} {f : α → Value} (h : Reads w B 1 A n (l.map f)) (hk : k < n) :
    ∃ ad x, A = some ad ∧ w.cell? (ad.add k) = some (f x) ∧ l.take (k + 1) = l.take k ++ [x] ∧ l[k]? = some x ∧ x ∈ l := by
  obtain ⟨ad, u, rfl, _, hx, hc⟩ := h.at_ hk
  rw [List.getElem?_map] at hx
  cases hl : l[k]? with
  | none => rw [hl] at hx; cases hx
  | some x =>
    rw [hl] at hx
    simp only [Option.map_some, Option.some.injEq] at hx
    subst hx
    exact ⟨ad, x, rfl, hc, by rw [List.take_add_one, hl]; rfl, rfl, List.mem_of_getElem? hl⟩

/-- append of one element, laid just before in a block of its own, onto a row of the call's own. -/
theorem wpList_append_one {P : Program} {ops : Array Oper} {rest : List Oper} {o : Oper} {a : Act} {Q : Exit → Act → World → Prop} {w0 : World} {us : List Value} {fr : Nat × Nat} {e : TypeId} (hgd : o.guard = none) (s x : Operand) (t : TypeId)
    (ho : o.op = .call { callee := .builtin .append, args := #[s, x], argTypes := #[t, t] })
    (base : Nat) (z : Value) (size bytes : Nat) (ht : P.underlying t = some (.slice e)) (hi : (P.info? e).map (fun i => (i.zero, i.size, i.bytes)) = some (some z, size, bytes))
    (hzs : z.cells.size = size) (hsz : 0 < size) (v : Value) (n : Nat) (xs : List Value) (hs : a.eval s = v) (hown : w0.ownsRow base e size v n xs) (hbase : base ≤ w0.heap.size)
    (hl : us.length = size) (h1 : ∀ u ∈ us, u.oneCell' = true)
    (hx : a.eval x = .slice (some ⟨w0.heap.size, 0, none⟩) 1 1) (h63 : n + 1 ≤ maxLen) (hbytes : (n + 1) * bytes ≤ 140737488355328)
    (h : ∀ v' w', w'.ownsRow base e size v' (n + 1) (xs ++ us) → Below base w0 w' → w0.heap.size < w'.heap.size → wpList P ops Q rest (a.put o.dst v') w') :
    wpList P ops Q (o :: rest) a (w0.alloc (.cells us.toArray e fr)) := by
  obtain ⟨i0, hi, hz0, hz1, hz2⟩ := info_parts hi
  refine wpList_append_own _ hgd s x t ho base e i0 z size bytes ht hi hz0 hz1 hz2 hzs hsz v n xs hs (hown.alloc _) ⟨w0.heap.size, 0, none⟩ 1 1 us hx (by omega) ?_ h1 h63 hbytes (by simp; omega) ?_
  · intro j u hj
    have e1 : (⟨w0.heap.size, 0, none⟩ : Addr).add j = ⟨w0.heap.size, j, none⟩ := by unfold Addr.add; split <;> simp_all
    rw [e1]
    have : (w0.alloc (.cells us.toArray e fr)).heap[w0.heap.size]? = some (.cells us.toArray e fr) := heap_alloc_new w0 _
    unfold World.cell?
    simp only [this]
    simpa using hj
  · intro v' w' hown' hg _
    have hb : Below base w0 (w0.alloc (.cells us.toArray e fr)) := (Below.refl _ _).alloc hbase _
    refine h v' w' hown' (hb.grown hg (by simp; omega) ?_) ?_
    · intro k hk
      rcases hown.2 with ⟨rfl, _⟩ | ⟨g, cap, cur, rfl, hgb, _⟩
      · simp [Value.ownBlock] at hk
      · simp only [Value.ownBlock, Option.some.injEq] at hk
        omega
    · have := hg.size
      simp at this
      omega

theorem own_mono {w : World} {base base' : Nat} {e : TypeId} {size n : Nat} {v : Value} {xs : List Value} (h : w.ownsRow base e size v n xs) (hb : base' ≤ base) : w.ownsRow base' e size v n xs := by
  obtain ⟨h1, h2⟩ := h
  refine ⟨h1, ?_⟩
  rcases h2 with h2 | ⟨g, cap, cur, hv, hg, r⟩
  · exact .inl h2
  · exact .inr ⟨g, cap, cur, hv, by omega, r⟩

theorem own_below {w w' : World} {base : Nat} {e : TypeId} {size n : Nat} {v : Value} {xs : List Value} (h : w.ownsRow base e size v n xs) (hb : Below w.heap.size w w') : w'.ownsRow base e size v n xs := by
  obtain ⟨h1, h2⟩ := h
  refine ⟨h1, ?_⟩
  rcases h2 with h2 | ⟨g, cap, cur, hv, hg, hh, r⟩
  · exact .inl h2
  · refine .inr ⟨g, cap, cur, hv, hg, ?_, r⟩
    rw [hb.block g ?_]
    · exact hh
    · rcases Nat.lt_or_ge g w.heap.size with h3 | h3
      · exact h3
      · rw [Array.getElem?_eq_none h3] at hh; cases hh

/-- Behind the box of a parameter. -/
theorem below_box {w wr : World} {o : Obj} (h : Below (w.heap.size + 1) (w.alloc o) wr) : Below w.heap.size w wr :=
  ((Below.refl _ _).alloc (Nat.le_refl _) o).trans (h.mono (by omega))
theorem box_cell {w wr : World} {cs : List Value} {t : TypeId} {fr : Nat × Nat} (h : Below (w.heap.size + 1) (w.alloc (.cells cs.toArray t fr)) wr) (j : Nat) : wr.cell? ⟨w.heap.size, j, none⟩ = cs[j]? := by
  rw [h.cell (p := ⟨w.heap.size, j, none⟩) (by simp)]
  have e := heap_alloc_new w (.cells cs.toArray t fr)
  unfold World.cell?
  simp only [e]
  simp

theorem box1 {w w1 : World} {cs : List Value} {t : TypeId} {fr : Nat × Nat} (hb : Below (w.alloc (.cells cs.toArray t fr)).heap.size (w.alloc (.cells cs.toArray t fr)) w1) :
    Below w.heap.size w w1 ∧ w.heap.size < w1.heap.size ∧ ∀ j u, cs[j]? = some u → w1.cell? ⟨w.heap.size, j, none⟩ = some u := by
  have hb' : Below (w.heap.size + 1) (w.alloc (.cells cs.toArray t fr)) w1 := by simpa using hb
  have hs := hb.size
  simp at hs
  exact ⟨below_box hb', by omega, fun j u hj => (box_cell hb' j).trans hj⟩
theorem box3 {w w1 : World} {a b c : Value} {t : TypeId} {fr : Nat × Nat} (hb : Below (w.alloc (.cells #[a, b, c] t fr)).heap.size (w.alloc (.cells #[a, b, c] t fr)) w1) :
    Below w.heap.size w w1 ∧ w.heap.size < w1.heap.size ∧ w1.cell? ⟨w.heap.size, 0, none⟩ = some a ∧ w1.cell? ⟨w.heap.size, 1, none⟩ = some b ∧ w1.cell? ⟨w.heap.size, 2, none⟩ = some c := by
  obtain ⟨h1, h2, h3⟩ := box1 (cs := [a, b, c]) hb
  exact ⟨h1, h2, h3 0 a rfl, h3 1 b rfl, h3 2 c rfl⟩
theorem box4 {w w1 : World} {a b c d : Value} {t : TypeId} {fr : Nat × Nat} (hb : Below (w.alloc (.cells #[a, b, c, d] t fr)).heap.size (w.alloc (.cells #[a, b, c, d] t fr)) w1) :
    Below w.heap.size w w1 ∧ w.heap.size < w1.heap.size ∧ w1.cell? ⟨w.heap.size, 0, none⟩ = some a ∧ w1.cell? ⟨w.heap.size, 1, none⟩ = some b ∧ w1.cell? ⟨w.heap.size, 2, none⟩ = some c ∧ w1.cell? ⟨w.heap.size, 3, none⟩ = some d := by
  obtain ⟨h1, h2, h3⟩ := box1 (cs := [a, b, c, d]) hb
  exact ⟨h1, h2, h3 0 a rfl, h3 1 b rfl, h3 2 c rfl, h3 3 d rfl⟩

theorem choose_list {α β : Type} {f : α → β} {Q : α → Prop} : ∀ (css : List β), (∀ cs ∈ css, ∃ x, Q x ∧ cs = f x) → ∃ l : List α, css = l.map f ∧ ∀ x ∈ l, Q x
  | [], _ => ⟨[], rfl, by simp⟩
  | cs :: css, h => by
    obtain ⟨x, hq, rfl⟩ := h cs (by simp)
    obtain ⟨l, rfl, hl⟩ := choose_list css (fun c hc => h c (by simp [hc]))
    exact ⟨x :: l, rfl, fun y hy => by
      rcases List.mem_cons.1 hy with rfl | hy
      · exact hq
      · exact hl y hy⟩

theorem choose_nat {β : Type} {Q : Nat → β → Prop} : ∀ (n : Nat), (∀ i, i < n → ∃ x, Q i x) → ∃ l : List β, l.length = n ∧ ∀ i x, l[i]? = some x → Q i x
  | 0, _ => ⟨[], rfl, by simp⟩
  | n + 1, h => by
    obtain ⟨l, hl, hq⟩ := choose_nat n (fun i hi => h i (by omega))
    obtain ⟨x, hx⟩ := h n (by omega)
    refine ⟨l ++ [x], by simp [hl], fun i y hy => ?_⟩
    rcases Nat.lt_or_ge i l.length with hi | hi
    · rw [List.getElem?_append_left hi] at hy
      exact hq i y hy
    · rw [List.getElem?_append_right hi] at hy
      have : i - l.length = 0 := by
        rcases Nat.eq_zero_or_pos (i - l.length) with h0 | h0
        · exact h0
        · rw [List.getElem?_eq_none (by simp; omega)] at hy; cases hy
      rw [this] at hy
      simp at hy
      subst hy
      obtain rfl : i = n := by omega
      exact hx

theorem flatten_at {α : Type} {k : Nat} : ∀ (css : List (List α)), (∀ cs ∈ css, cs.length = k) → ∀ (j : Nat) (u : α), css.flatten[j]? = some u → ∃ cs, css[j / k]? = some cs ∧ cs[j % k]? = some u
  | [], _, j, u, h => by simp at h
  | cs :: css, hk, j, u, h => by
    have h0 := hk cs (by simp)
    rw [List.flatten_cons] at h
    rcases Nat.lt_or_ge j cs.length with hj | hj
    · rw [List.getElem?_append_left hj] at h
      refine ⟨cs, ?_, ?_⟩
      · rw [Nat.div_eq_of_lt (by omega)]; rfl
      · rw [Nat.mod_eq_of_lt (by omega)]; exact h
    · rw [List.getElem?_append_right hj] at h
      obtain ⟨c, h1, h2⟩ := flatten_at css (fun c hc => hk c (by simp [hc])) _ u h
      have hkp : 0 < k := by
        rcases Nat.eq_zero_or_pos k with hz | hz
        · subst hz
          have : c = [] := List.eq_nil_of_length_eq_zero (hk c (by simp [List.mem_of_getElem? h1]))
          subst this
          simp at h2
        · exact hz
      have e1 : j / k = (j - cs.length) / k + 1 := by
        rw [h0]
        rw [Nat.div_eq_sub_div hkp (by omega)]
      have e2 : j % k = (j - cs.length) % k := by
        rw [h0]
        exact Nat.mod_eq_sub_mod (by omega)
      exact ⟨c, by rw [e1]; exact h1, by rw [e2]; exact h2⟩

/-- A slice of a flat type that came in. -/
theorem open_flats {H : Type} {enc : TypeId × Value → H} {P : Program} {W : World} {base : Nat} {sp : Nat → Bool} {held : Bool} {t e : TypeId} {ks : List (Option IntKind)} {a0 : Option Addr} {len cap : Nat} {d : DataW H} {p : List MemPlace}
    (ht : P.underlying t = some (.slice e)) (hk : flat P 9 e = some ks) (hC : P.cellsOf e = ks.length) (hpos : 0 < ks.length) (h : DataW.Trod enc P W base sp held t (.slice a0 len cap) d p) :
    ∃ css : List (List Value), css.length = len ∧ (∀ cs ∈ css, FitsAll ks cs) ∧ Reads W W.heap.size ks.length a0 len css.flatten ∧ len ≤ cap ∧ cap ≤ maxLen := by
  obtain ⟨fuel, hf⟩ := h
  rcases Go.Deep.open_slice ht hf with ⟨hcs, _⟩ | ⟨a, len', cap', m, n, D, Pl, hcs, hb, hl, hm, hmm, hx, hi⟩
  · simp [Value.cells] at hcs
    obtain ⟨rfl, rfl, rfl⟩ := hcs
    exact ⟨[], rfl, by simp, by simpa using Reads.none_, Nat.le_refl _, by unfold maxLen; omega⟩
  · simp [Value.cells] at hcs
    obtain ⟨rfl, rfl, rfl⟩ := hcs
    have hml : len ≤ m := by rw [hmm]; split <;> omega
    have h1 : ∀ i, i < len → ∃ cs : List Value, FitsAll ks cs ∧ ∀ j u, cs[j]? = some u → W.cell? ((a.add (i * ks.length)).add j) = some u := by
      intro i hil
      obtain ⟨cs', hc, ht'⟩ := hi i (by omega)
      obtain ⟨_, hcl, hat⟩ := World.cells?_some hc
      refine ⟨cs', trod_flat 9 e ks _ cs' _ hk hcl hC ht', fun j u hj => ?_⟩
      rw [← hC, hat j (by have := (List.getElem?_eq_some_iff.1 hj).1; omega)]
      exact hj
    obtain ⟨css, hcl, hq⟩ := choose_nat len h1
    have hfit : ∀ cs ∈ css, FitsAll ks cs := by
      intro cs hc
      obtain ⟨i, hi⟩ := List.getElem?_of_mem hc
      exact (hq i cs hi).1
    refine ⟨css, hcl, hfit, ⟨?_, fun hn => ⟨a, rfl, ?_, ?_⟩⟩, hl, hm⟩
    · rw [List.length_flatten, ← hcl]
      clear hq hcl
      induction css with
      | nil => simp
      | cons c css ih =>
        rw [List.map_cons, List.sum_cons, ih (fun x hx => hfit x (by simp [hx])), (hfit c (by simp)).length, List.length_cons, Nat.succ_mul]
        omega
    · obtain ⟨cs, hc⟩ : ∃ cs, css[0]? = some cs := ⟨_, List.getElem?_eq_getElem (by omega)⟩
      have hlen := (hq 0 cs hc).1.length
      have hcell := (hq 0 cs hc).2 0 (cs[0]'(by omega)) (List.getElem?_eq_getElem (by omega))
      have := World.block_lt_of_cell? _ _ hcell
      rwa [block_of_add, block_of_add] at this
    · intro j u hj
      obtain ⟨cs, h1, h2⟩ := flatten_at css (fun c hc => (hfit c hc).length) j u hj
      have := (hq _ _ h1).2 _ _ h2
      rw [add_of_add] at this
      rwa [show j / ks.length * ks.length + j % ks.length = j from by rw [Nat.mul_comm]; exact Nat.div_add_mod _ _] at this

theorem ret_int {k : IntKind} {a b : Int} (h : a = b) : Ending.returned (.int k a) = .returned (.int k b) := by rw [h]

end Go.Proofs.Ytonelibgaceflaa

namespace Go.Proofs.Ytonelibgaceflaa
open Go.RowKit

theorem and1_u64 (x : Int) (h1 : 0 ≤ x) (h2 : x < 18446744073709551616) : bits .and .u64 x 1 = x % 2 := by
  rw [u64_and x 1 h1 h2 (by omega) (by omega)]
  rw [show (1 : Int).toNat = 1 from rfl, nat_mask1]
  omega

theorem or_u32 (x y : Int) (h1 : 0 ≤ x) (h2 : x < 65536) (h3 : 0 ≤ y) (h4 : y < 65536) : bits .or .u32 (x * 65536) y = x * 65536 + y := by
  rw [u32_or (x * 65536) y (by omega) (by omega) h3 (by omega), nat_join 16 _ _ (by omega) (by omega)]
  omega

theorem shr_range (x : Int) (k : Nat) (h1 : 0 ≤ x) (h2 : x < 18446744073709551616) : 0 ≤ x / 2 ^ k ∧ x / 2 ^ k < 18446744073709551616 := by
  have hp : (0 : Int) < 2 ^ k := Int.pow_pos (by omega)
  exact ⟨Int.ediv_nonneg h1 (by omega), Int.lt_of_le_of_lt (Int.ediv_le_self _ h1) h2⟩

theorem bit_wrap (x : Int) (k : Nat) (h1 : 0 ≤ x) (h2 : x < 18446744073709551616) : wrap64 (bits .and .u64 (x / 2 ^ k) 1) = x / 2 ^ k % 2 := by
  have h := shr_range x k h1 h2
  rw [and1_u64 _ h.1 h.2]
  unfold wrap64
  omega

theorem bit_wrap0 (x : Int) (h1 : 0 ≤ x) (h2 : x < 18446744073709551616) : wrap64 (bits .and .u64 x 1) = x % 2 := by
  rw [and1_u64 _ h1 h2]
  unfold wrap64
  omega

end Go.Proofs.Ytonelibgaceflaa

namespace Go.Proofs.Ytonelibgaceflaa
open Go.ChangeShapes Go.WideShapes Go.ChangeAt Go.RowKit

theorem wide_any (six : Bool) (w : World) : Calls Try.prog 150 #[.bool six] w fun e w' => e = .returned (.int .i64 (wideI six)) ∧ w = w' := by
  cases six <;>
  · go_enter Try.func150, Try.ntmps150
    go_wp2
    go_ret
    exact ⟨rfl, rfl⟩

set_option maxHeartbeats 800000 in
theorem at_any (six : Bool) (hi lo i : Int) (w : World) (h1 : 0 ≤ hi ∧ hi < 18446744073709551616) (h2 : 0 ≤ lo ∧ lo < 18446744073709551616) (h3 : 0 ≤ i) (h4 : i < wideI six) :
    Calls Try.prog 165 #[.agg #[.bool six, .int .u64 hi, .int .u64 lo], .int .i64 i] w fun e w' => e = .returned (.int .i64 (bitI six hi lo i)) ∧ Below w.heap.size w w' := by
  cases six
  · have h5 : i < 32 := h4
    clear h4
    go_enter Try.func165, Try.ntmps165
    go_wp2
    go_ret
    exact ⟨ret_int (by rw [bit_wrap _ _ h2.1 h2.2]; simp [bitI]), (Below.refl _ _).alloc (Nat.le_refl _) _⟩
  · have h5 : i < 128 := h4
    clear h4
    by_cases h6 : i < 64
    · go_enter Try.func165, Try.ntmps165
      go_wp2
      go_ret
      exact ⟨ret_int (by rw [bit_wrap _ _ h1.1 h1.2]; simp [bitI, h6]), (Below.refl _ _).alloc (Nat.le_refl _) _⟩
    · go_enter Try.func165, Try.ntmps165
      go_wp2
      go_ret
      exact ⟨ret_int (by rw [bit_wrap _ _ h2.1 h2.2]; unfold bitI; rw [if_pos rfl, if_neg (by omega)]), (Below.refl _ _).alloc (Nat.le_refl _) _⟩

theorem infoInt : (Try.prog.info? 3).map (fun i => (i.zero, i.size, i.bytes)) = some (some (.int .i64 0), 1, 8) := by kernel_rfl

def bitsTo (f : Nat → Int) (k : Nat) : List Value := (List.range k).map fun j => Value.int .i64 (f j)
theorem bitsTo_succ (f : Nat → Int) (k : Nat) : bitsTo f (k + 1) = bitsTo f k ++ [Value.int .i64 (f k)] := by simp [bitsTo, List.range_succ]

theorem bits_four_eq (hi lo : Int) : (bitsL false hi lo).map (Value.int .i64) = bitsTo (fun j => lo / 2 ^ (31 - j) % 2) 32 := by
  unfold bitsL bitsTo
  rw [List.map_map]
  apply List.map_congr_left
  intro j hj
  have : j < 32 := by simpa [wideI] using hj
  show Value.int .i64 (bitI false hi lo j) = _
  unfold bitI
  rw [if_neg (by simp), show (31 - (j : Int)).toNat = 31 - j from by omega]

theorem bits_six_eq (hi lo : Int) : (bitsL true hi lo).map (Value.int .i64) = bitsTo (fun j => hi / 2 ^ (63 - j) % 2) 64 ++ bitsTo (fun j => lo / 2 ^ (63 - j) % 2) 64 := by
  have e : ∀ f : Nat → Int, bitsTo f 128 = bitsTo f 64 ++ bitsTo (fun j => f (64 + j)) 64 := by
    intro f
    unfold bitsTo
    rw [show (128 : Nat) = 64 + 64 from rfl, List.range_add, List.map_append, List.map_map]
    rfl
  have h1 : (bitsL true hi lo).map (Value.int .i64) = bitsTo (fun j => bitI true hi lo j) 128 := by
    unfold bitsL bitsTo
    rw [List.map_map]
    rfl
  rw [h1, e]
  refine congr (congrArg _ ?_) ?_
  · unfold bitsTo
    apply List.map_congr_left
    intro j hj
    have : j < 64 := by simpa using hj
    show Value.int .i64 (bitI true hi lo j) = _
    unfold bitI
    rw [if_pos rfl, if_pos (by omega), show (63 - (j : Int)).toNat = 63 - j from by omega]
  · unfold bitsTo
    apply List.map_congr_left
    intro j hj
    have : j < 64 := by simpa using hj
    show Value.int .i64 (bitI true hi lo ((64 + j : Nat) : Int)) = _
    unfold bitI
    rw [if_pos rfl, if_neg (by omega), show (127 - ((64 + j : Nat) : Int)).toNat = 63 - j from by omega]

def OwnBits (six : Bool) (hi lo : Int) (w : World) (e : Ending) (w' : World) : Prop :=
  ∃ v, e = .returned v ∧ w'.ownsRow (w.heap.size + 1) 3 1 v (wideI six).toNat ((bitsL six hi lo).map (Value.int .i64)) ∧ Below w.heap.size w w' ∧ w.heap.size < w'.heap.size

set_option maxHeartbeats 1000000 in
theorem bitsOf_four (hi lo : Int) (w : World) (h2 : 0 ≤ lo ∧ lo < 18446744073709551616) :
    Calls Try.prog 159 #[.agg #[.bool false, .int .u64 hi, .int .u64 lo]] w (OwnBits false hi lo w) := by
  go_enter Try.func159, Try.ntmps159
  go_wp2
  go_loopw [3, 6] (fun v i wr => ∃ k : Nat, k ≤ 32 ∧ i = .int .i64 (31 - k) ∧ wr.ownsRow (w.heap.size + 1) 3 1 v k (bitsTo (fun j => lo / 2 ^ (31 - j) % 2) k) ∧ Below (w.heap.size + 1) (w.alloc (.cells #[.bool false, .int .u64 hi, .int .u64 lo] 24)) wr)
    (fun _ i _ => (intOf i + 1).toNat)
  case atStart => exact ⟨0, by omega, rfl, World.ownsRow_nil _ _ _ _, Below.refl _ _⟩
  case round =>
    obtain ⟨k, hk, rfl, hown, hb⟩ := hrel
    have hc : wr.cell? ⟨w.heap.size, 2, none⟩ = some (.int .u64 lo) := box_cell (cs := [.bool false, .int .u64 hi, .int .u64 lo]) hb 2
    have hs := hb.size
    simp at hs
    by_cases hlt : k < 32
    · have hk1 : (0 : Int) ≤ 31 - (k : Int) := by omega
      go_wp2_with (at_builtin; go_loud (refine wpList_append_one rfl _ _ 44 rfl (w.heap.size + 1) (.int .i64 0) 1 8 Try.underlying44 infoInt rfl (by decide) _ _ _ rfl hown ?c1 rfl ?c2 rfl ?c3 ?c4 ?_))
      case c1 => omega
      case c2 => intro u hu; simp at hu; subst hu; rfl
      case c3 => unfold maxLen; omega
      case c4 => omega
      intro v' w' hown' hb' _
      have R : w'.ownsRow (w.heap.size + 1) 3 1 v' (k + 1) (bitsTo (fun j => lo / 2 ^ (31 - j) % 2) (k + 1)) := by
        rw [bitsTo_succ, ← bit_wrap _ _ h2.1 h2.2]
        exact hown'
      have B := hb.trans hb'
      clear hown' hb' hown hb hc
      go_wp2
      go_roundw
      case rel => exact ⟨k + 1, by omega, by go_num, R, B⟩
      case measure => simp [intOf]; omega
    · obtain rfl : k = 32 := by omega
      go_wp2
      go_ret
      exact ⟨_, rfl, by rw [bits_four_eq]; exact hown, below_box hb, by omega⟩

set_option maxHeartbeats 1000000 in
theorem bitsOf_six (hi lo : Int) (w : World) (h1 : 0 ≤ hi ∧ hi < 18446744073709551616) (h2 : 0 ≤ lo ∧ lo < 18446744073709551616) :
    Calls Try.prog 159 #[.agg #[.bool true, .int .u64 hi, .int .u64 lo]] w (OwnBits true hi lo w) := by
  go_enter Try.func159, Try.ntmps159
  go_wp2
  go_loopw [3, 4] (fun v i wr => ∃ k : Nat, k ≤ 64 ∧ i = .int .i64 (63 - k) ∧ wr.ownsRow (w.heap.size + 1) 3 1 v k (bitsTo (fun j => hi / 2 ^ (63 - j) % 2) k) ∧ Below (w.heap.size + 1) (w.alloc (.cells #[.bool true, .int .u64 hi, .int .u64 lo] 24)) wr)
    (fun _ i _ => (intOf i + 1).toNat)
  case atStart => exact ⟨0, by omega, rfl, World.ownsRow_nil _ _ _ _, Below.refl _ _⟩
  case round =>
    obtain ⟨k, hk, rfl, hown, hb⟩ := hrel
    have hc : wr.cell? ⟨w.heap.size, 1, none⟩ = some (.int .u64 hi) := box_cell (cs := [.bool true, .int .u64 hi, .int .u64 lo]) hb 1
    have hs := hb.size
    simp at hs
    by_cases hlt : k < 64
    · have hk1 : (0 : Int) ≤ 63 - (k : Int) := by omega
      go_wp2_with (at_builtin; go_loud (refine wpList_append_one rfl _ _ 44 rfl (w.heap.size + 1) (.int .i64 0) 1 8 Try.underlying44 infoInt rfl (by decide) _ _ _ rfl hown ?c1 rfl ?c2 rfl ?c3 ?c4 ?_))
      case c1 => omega
      case c2 => intro u hu; simp at hu; subst hu; rfl
      case c3 => unfold maxLen; omega
      case c4 => omega
      intro v' w' hown' hb' _
      have R : w'.ownsRow (w.heap.size + 1) 3 1 v' (k + 1) (bitsTo (fun j => hi / 2 ^ (63 - j) % 2) (k + 1)) := by
        rw [bitsTo_succ, ← bit_wrap _ _ h1.1 h1.2]
        exact hown'
      have B := hb.trans hb'
      clear hown' hb' hown hb hc
      go_wp2
      go_roundw
      case rel => exact ⟨k + 1, by omega, by go_num, R, B⟩
      case measure => simp [intOf]; omega
    · obtain rfl : k = 64 := by omega
      clear hc hs
      go_wp2
      obtain ⟨wo, rfl⟩ : ∃ wo : World, wo = wr := ⟨_, rfl⟩
      go_loopw [3, 5] (fun v i wr => ∃ k : Nat, k ≤ 64 ∧ i = .int .i64 (63 - k) ∧ wr.ownsRow (w.heap.size + 1) 3 1 v (64 + k) (bitsTo (fun j => hi / 2 ^ (63 - j) % 2) 64 ++ bitsTo (fun j => lo / 2 ^ (63 - j) % 2) k) ∧ Below (w.heap.size + 1) (w.alloc (.cells #[.bool true, .int .u64 hi, .int .u64 lo] 24)) wr)
        (fun _ i _ => (intOf i + 1).toNat)
      case atStart => exact ⟨0, by omega, rfl, by simpa [bitsTo] using hown, hb⟩
      case round =>
        obtain ⟨k, hk, rfl, hown, hb⟩ := hrel
        have hc : wr.cell? ⟨w.heap.size, 2, none⟩ = some (.int .u64 lo) := box_cell (cs := [.bool true, .int .u64 hi, .int .u64 lo]) hb 2
        have hs := hb.size
        simp at hs
        by_cases hlt : k < 64
        · have hk1 : (0 : Int) ≤ 63 - (k : Int) := by omega
          go_wp2_with (at_builtin; go_loud (refine wpList_append_one rfl _ _ 44 rfl (w.heap.size + 1) (.int .i64 0) 1 8 Try.underlying44 infoInt rfl (by decide) _ _ _ rfl hown ?c1 rfl ?c2 rfl ?c3 ?c4 ?_))
          case c1 => omega
          case c2 => intro u hu; simp at hu; subst hu; rfl
          case c3 => unfold maxLen; omega
          case c4 => omega
          intro v' w' hown' hb' _
          have R : w'.ownsRow (w.heap.size + 1) 3 1 v' (64 + (k + 1)) (bitsTo (fun j => hi / 2 ^ (63 - j) % 2) 64 ++ bitsTo (fun j => lo / 2 ^ (63 - j) % 2) (k + 1)) := by
            rw [bitsTo_succ _ k, ← bit_wrap _ _ h2.1 h2.2]
            exact hown'
          have B := hb.trans hb'
          clear hown' hb' hown hb hc
          go_wp2
          go_roundw
          case rel => first | exact ⟨k + 1, by omega, by go_num, R, B⟩ | ((repeat apply Exists.intro); exact ⟨⟨k + 1, by omega, by go_num, R, B⟩, rfl⟩)
          case measure => simp [intOf]; omega
        · obtain rfl : k = 64 := by omega
          go_wp2
          go_ret
          exact ⟨_, rfl, by rw [bits_six_eq]; exact hown, below_box hb, by omega⟩

theorem bitsOf_any (six : Bool) (hi lo : Int) (w : World) (h1 : 0 ≤ hi ∧ hi < 18446744073709551616) (h2 : 0 ≤ lo ∧ lo < 18446744073709551616) :
    Calls Try.prog 159 #[.agg #[.bool six, .int .u64 hi, .int .u64 lo]] w (OwnBits six hi lo w) := by
  cases six
  · exact bitsOf_four hi lo w h2
  · exact bitsOf_six hi lo w h1 h2
end Go.Proofs.Ytonelibgaceflaa

namespace Go.Proofs.Ytonelibgaceflaa
open Go.ChangeShapes Go.WideShapes Go.ChangeAt Go.RowKit

set_option maxHeartbeats 400000 in
theorem ones_any (n : Int) (w : World) (h1 : -1000 ≤ n) (h2 : n ≤ 1000) :
    Calls Try.prog 213 #[.int .i64 n] w fun e w' => e = .returned (.int .u64 (onesI n)) ∧ w = w' := by
  rcases (by omega : n ≤ 0 ∨ (0 < n ∧ n < 64) ∨ 64 ≤ n) with h | h | h
  · have e : onesI n = 0 := by unfold onesI; rw [if_pos h]
    rw [e]
    have h4 : n < 64 := by omega
    go_enter Try.func213, Try.ntmps213
    go_wp2
    all_goals go_ret
    all_goals exact ⟨ret_int (by simp [IntKind.wrap, IntKind.bits, IntKind.signed]), rfl⟩
  · have e : onesI n = IntKind.u64.wrap (18446744073709551615 * 2 ^ (64 - n).toNat) := by
      have := ones_wrap (64 - n).toNat (by omega)
      unfold onesI
      rw [if_neg (by omega), if_neg (by omega), ← this]
      simp [IntKind.wrap, IntKind.bits, IntKind.signed]
    rw [e]
    clear e
    have h3 := h.1
    have h4 := h.2
    clear h
    go_enter Try.func213, Try.ntmps213
    go_wp2
    all_goals go_ret
    all_goals exact ⟨rfl, rfl⟩
  · have e : onesI n = 18446744073709551615 := by unfold onesI; rw [if_neg (by omega), if_pos h]
    rw [e]
    go_enter Try.func213, Try.ntmps213
    go_wp2
    all_goals go_ret
    all_goals exact ⟨ret_int (by simp), rfl⟩

def maskHi (six : Bool) (n : Int) : Int := if six then onesI n else 0
def maskLo (six : Bool) (n : Int) : Int := if six then onesI (n - 64) else onesI n / 4294967296
theorem maskHi_range (six : Bool) (n : Int) : 0 ≤ maskHi six n ∧ maskHi six n < 18446744073709551616 := by
  unfold maskHi
  split
  · exact onesI_range n
  · omega
theorem maskLo_range (six : Bool) (n : Int) : 0 ≤ maskLo six n ∧ maskLo six n < 18446744073709551616 := by
  unfold maskLo
  split
  · exact onesI_range _
  · have := onesI_range n
    omega

theorem and_32 (x : Int) (h1 : 0 ≤ x) (h2 : x < 4294967296) : bits .and .u64 x 4294967295 = x := by
  rw [u64_and x _ h1 (by omega) (by omega) (by omega)]
  rw [show (4294967295 : Int).toNat = 2 ^ 32 - 1 from rfl, Nat.and_two_pow_sub_one_eq_mod, Nat.mod_eq_of_lt (by omega)]
  omega

set_option maxHeartbeats 400000 in
theorem mask_any (six : Bool) (n : Int) (w : World) (h1 : -500 ≤ n) (h2 : n ≤ 500) :
    Calls Try.prog 182 #[.bool six, .int .i64 n] w fun e w' => e = .returned (.tuple #[.int .u64 (maskHi six n), .int .u64 (maskLo six n)]) ∧ w = w' := by
  cases six
  · have hr := onesI_range n
    go_enter Try.func182, Try.ntmps182
    go_wp2_with (go_at_call 213; refine (ones_any _ _ (by omega) (by omega)).mono ?_; rintro e w' ⟨rfl, rfl⟩)
    go_ret2
    exact ⟨by rw [and_32 _ (by omega) (by omega)]; rfl, rfl⟩
  · go_enter Try.func182, Try.ntmps182
    go_wp2_with (go_at_call 213; refine (ones_any _ _ (by omega) (by omega)).mono ?_; rintro e w' ⟨rfl, rfl⟩)
    go_ret2
    exact ⟨rfl, rfl⟩

theorem and_hi (six : Bool) (hi n : Int) (h1 : 0 ≤ hi ∧ hi < 18446744073709551616) : bits .and .u64 hi (maskHi six n) = cutHi six hi n := by
  have hm := maskHi_range six n
  rw [u64_and _ _ h1.1 h1.2 hm.1 hm.2]
  unfold maskHi cutHi
  cases six
  · simp
  · exact and_ones_int hi n h1.1 h1.2

theorem and_lo (six : Bool) (lo n : Int) (h1 : 0 ≤ lo ∧ lo < 18446744073709551616) (h2 : six = false → lo < 4294967296) : bits .and .u64 lo (maskLo six n) = cutLo six lo n := by
  have hm := maskLo_range six n
  rw [u64_and _ _ h1.1 h1.2 hm.1 hm.2]
  unfold maskLo cutLo
  cases six
  · have h3 := h2 rfl
    have e := and_ones_int (lo * 4294967296) n (by omega) (by omega)
    rw [if_neg (by simp), if_neg (by simp), ← e]
    have hr := onesI_range n
    have e1 : (onesI n / 4294967296).toNat = (onesI n).toNat / 2 ^ 32 := by omega
    have e2 : lo.toNat = (lo * 4294967296).toNat / 2 ^ 32 := by omega
    rw [e1, e2, ← Nat.and_div_two_pow]
    omega
  · exact and_ones_int lo (n - 64) h1.1 h1.2

set_option maxHeartbeats 800000 in
theorem cut_any (six : Bool) (hi lo n : Int) (w : World) (h1 : 0 ≤ hi ∧ hi < 18446744073709551616) (h2 : 0 ≤ lo ∧ lo < 18446744073709551616) (h3 : six = false → lo < 4294967296) (h4 : -500 ≤ n) (h5 : n ≤ 500) :
    Calls Try.prog 201 #[.agg #[.bool six, .int .u64 hi, .int .u64 lo], .int .i64 n] w fun e w' => e = .returned (.agg #[.bool six, .int .u64 (cutHi six hi n), .int .u64 (cutLo six lo n)]) ∧ Below w.heap.size w w' := by
  rw [← and_hi six hi n h1, ← and_lo six lo n h2 h3]
  clear h3
  go_enter Try.func201, Try.ntmps201
  go_wp2_with (go_at_call 182; refine (mask_any six n _ (by omega) (by omega)).mono ?_; rintro e w' ⟨rfl, rfl⟩)
  exact bodyPost_ret (v := .agg #[.bool six, .int .u64 (bits .and .u64 hi (maskHi six n)), .int .u64 (bits .and .u64 lo (maskLo six n))]) (by simp [results, Try.results201, go_sem]) rfl
    ⟨rfl, ((Below.refl _ _).alloc (Nat.le_refl _) _).alloc (by simp) _⟩

end Go.Proofs.Ytonelibgaceflaa

namespace Go.Proofs.Ytonelibgaceflaa
open Go.ChangeShapes Go.WideShapes Go.ChangeAt Go.RowKit

set_option maxHeartbeats 1600000 in
theorem check_any (six : Bool) (hi lo n : Int) (w : World) (h1 : 0 ≤ hi ∧ hi < 18446744073709551616) (h2 : 0 ≤ lo ∧ lo < 18446744073709551616) :
    Calls Try.prog 151 #[.agg #[.bool six, .int .u64 hi, .int .u64 lo, .int .i64 n]] w fun e w' => e = .returned (.int .i64 (chk six hi lo n)) ∧ Below w.heap.size w w' := by
  unfold chk
  by_cases hm : mayB six hi lo = false
  · rw [if_pos hm]
    go_enter Try.func151, Try.ntmps151
    go_wp2_with (go_at_call 71; refine (may_any six hi lo _ h2.1).mono ?_; rintro e w1 ⟨rfl, hb⟩; obtain ⟨B1, S1, q0, q1, q2, q3⟩ := box4 hb; clear hb)
    go_ret
    exact ⟨rfl, B1⟩
  · rw [if_neg hm]
    have hm' : mayB six hi lo = true := by simpa using hm
    clear hm
    by_cases hr : n < 0
    · rw [if_pos (.inl hr)]
      go_enter Try.func151, Try.ntmps151
      go_wp2_with (go_at_call 71; refine (may_any six hi lo _ h2.1).mono ?_; rintro e w1 ⟨rfl, hb⟩; obtain ⟨B1, S1, q0, q1, q2, q3⟩ := box4 hb; clear hb)
      go_quiet ((go_at_call 150; refine (wide_any six _).mono ?_; rintro e w2 ⟨rfl, rfl⟩))
      go_wp2
      go_ret
      exact ⟨rfl, below_drewN B1 _⟩
    · have hl := wideI_le six
      have hd : decide (n < 0) = false := by simpa using hr
      by_cases hr2 : wideI six < n
      · rw [if_pos (.inr hr2)]
        go_enter Try.func151, Try.ntmps151
        go_wp2_with (go_at_call 71; refine (may_any six hi lo _ h2.1).mono ?_; rintro e w1 ⟨rfl, hb⟩; obtain ⟨B1, S1, q0, q1, q2, q3⟩ := box4 hb; clear hb)
        go_quiet ((go_at_call 150; exact Calls.quiet_of_same ((wide_any six _).mono fun e w' h => ⟨h.1, h.2.symm⟩)))
        go_wp2
        go_ret
        exact ⟨rfl, below_drewN B1 _⟩
      · rw [if_neg (by omega)]
        have hq : six = false → lo < 4294967296 := by
          rintro rfl
          exact (mayB_four hm').2
        have HQ := Lib.hid hq
        clear hq
        by_cases hc : cleanB six hi lo n = true
        · rw [if_pos hc]
          have e1 : cutHi six hi n = hi := by simp only [cleanB, Bool.and_eq_true, beq_iff_eq] at hc; exact hc.1
          have e2 : cutLo six lo n = lo := by simp only [cleanB, Bool.and_eq_true, beq_iff_eq] at hc; exact hc.2
          clear hc
          go_enter Try.func151, Try.ntmps151
          go_wp2_with (go_at_call 71; refine (may_any six hi lo _ h2.1).mono ?_; rintro e w1 ⟨rfl, hb⟩; obtain ⟨B1, S1, q0, q1, q2, q3⟩ := box4 hb; clear hb)
          go_quiet ((go_at_call 150; exact Calls.quiet_of_same ((wide_any six _).mono fun e w' h => ⟨h.1, h.2.symm⟩)))
          go_wp2_with fail
          go_region_held3 (fun w' => Below w.heap.size w w' ∧ w.heap.size < w'.heap.size ∧ w'.cell? ⟨w.heap.size, 0, none⟩ = some (.bool six) ∧ w'.cell? ⟨w.heap.size, 1, none⟩ = some (.int .u64 hi) ∧ w'.cell? ⟨w.heap.size, 2, none⟩ = some (.int .u64 lo) ∧ w'.cell? ⟨w.heap.size, 3, none⟩ = some (.int .i64 n))
            (((try go_split_ands); (repeat' apply And.intro) <;> first | assumption | exact (below_drewN B1 _).drew | exact below_step (by assumption) (by assumption) | exact cell_step (by assumption) (by assumption) | exact size_step (by assumption) (by assumption) | go_keep))
            (first | (go_at_call 201; refine (cut_any six hi lo n _ h1 h2 HQ.out (by omega) (by omega)).mono ?_; rintro e w' ⟨rfl, hb⟩))
          all_goals go_wp2
          all_goals go_ret
          all_goals (go_split_ands; exact ⟨by simp, by assumption⟩)
        · rw [if_neg hc]
          by_cases e1 : cutHi six hi n = hi
          · have e2 : ¬ cutLo six lo n = lo := by
              intro e2
              exact hc (by simp [cleanB, e1, e2])
            have e3 : (cutLo six lo n == lo) = false := by simpa using e2
            clear hc
            go_enter Try.func151, Try.ntmps151
            go_wp2_with (go_at_call 71; refine (may_any six hi lo _ h2.1).mono ?_; rintro e w1 ⟨rfl, hb⟩; obtain ⟨B1, S1, q0, q1, q2, q3⟩ := box4 hb; clear hb)
            go_quiet ((go_at_call 150; exact Calls.quiet_of_same ((wide_any six _).mono fun e w' h => ⟨h.1, h.2.symm⟩)))
            go_wp2_with fail
            go_region_held3 (fun w' => Below w.heap.size w w' ∧ w.heap.size < w'.heap.size ∧ w'.cell? ⟨w.heap.size, 0, none⟩ = some (.bool six) ∧ w'.cell? ⟨w.heap.size, 1, none⟩ = some (.int .u64 hi) ∧ w'.cell? ⟨w.heap.size, 2, none⟩ = some (.int .u64 lo) ∧ w'.cell? ⟨w.heap.size, 3, none⟩ = some (.int .i64 n))
              (((try go_split_ands); (repeat' apply And.intro) <;> first | assumption | exact (below_drewN B1 _).drew | exact below_step (by assumption) (by assumption) | exact cell_step (by assumption) (by assumption) | exact size_step (by assumption) (by assumption) | go_keep))
              (first | (go_at_call 201; refine (cut_any six hi lo n _ h1 h2 HQ.out (by omega) (by omega)).mono ?_; rintro e w' ⟨rfl, hb⟩))
            all_goals go_wp2
            all_goals go_ret
            all_goals (go_split_ands; exact ⟨by simp, by assumption⟩)
          · have e3 : (cutHi six hi n == hi) = false := by simpa using e1
            clear hc
            go_enter Try.func151, Try.ntmps151
            go_wp2_with (go_at_call 71; refine (may_any six hi lo _ h2.1).mono ?_; rintro e w1 ⟨rfl, hb⟩; obtain ⟨B1, S1, q0, q1, q2, q3⟩ := box4 hb; clear hb)
            go_quiet ((go_at_call 150; exact Calls.quiet_of_same ((wide_any six _).mono fun e w' h => ⟨h.1, h.2.symm⟩)))
            go_wp2_with fail
            go_region_held3 (fun w' => Below w.heap.size w w' ∧ w.heap.size < w'.heap.size ∧ w'.cell? ⟨w.heap.size, 0, none⟩ = some (.bool six) ∧ w'.cell? ⟨w.heap.size, 1, none⟩ = some (.int .u64 hi) ∧ w'.cell? ⟨w.heap.size, 2, none⟩ = some (.int .u64 lo) ∧ w'.cell? ⟨w.heap.size, 3, none⟩ = some (.int .i64 n))
              (((try go_split_ands); (repeat' apply And.intro) <;> first | assumption | exact (below_drewN B1 _).drew | exact below_step (by assumption) (by assumption) | exact cell_step (by assumption) (by assumption) | exact size_step (by assumption) (by assumption) | go_keep))
              (first | (go_at_call 201; refine (cut_any six hi lo n _ h1 h2 HQ.out (by omega) (by omega)).mono ?_; rintro e w' ⟨rfl, hb⟩))
            all_goals go_wp2
            all_goals go_ret
            all_goals (go_split_ands; exact ⟨by simp, by assumption⟩)

set_option maxRecDepth 100000 in
/-- A prefix that came in. -/
theorem open_prefix {H : Type} {enc : TypeId × Value → H} {W : World} {base : Nat} {sp : Nat → Bool} {held : Bool} {b0 : Nat} {v : Value} {d : DataW H} {p : List MemPlace}
    (hv : Value.okWide Try.prog W .any b0 35 v) (h : DataW.Trod enc Try.prog W base sp held 35 v d p) :
    ∃ six hi lo n, v = .agg #[.bool six, .int .u64 hi, .int .u64 lo, .int .i64 n] ∧ (0 ≤ hi ∧ hi < 18446744073709551616) ∧ (0 ≤ lo ∧ lo < 18446744073709551616) ∧ (-9223372036854775808 ≤ n ∧ n ≤ 9223372036854775807) := by
  have hc : Try.prog.cellsOf 35 = 4 := by kernel_rfl
  have hk : flat Try.prog 9 35 = some [none, some .u64, some .u64, some .i64] := by kernel_rfl
  obtain ⟨cs, rfl, hf⟩ := open_flat (fun fuel cs x hl hx => trod_flat 9 _ _ fuel cs x hk hl (by rw [hc]; rfl) hx) Try.underlying35 hv h
  obtain ⟨six, _, rfl, hf1⟩ := hf.bool_inv
  obtain ⟨hi, _, rfl, wy, hf2⟩ := hf1.int_inv
  obtain ⟨lo, _, rfl, wz, hf3⟩ := hf2.int_inv
  obtain ⟨n, _, rfl, wu, hf4⟩ := hf3.int_inv
  obtain rfl := hf4.nil_inv
  exact ⟨six, hi, lo, n, rfl, range_u64 wy, range_u64 wz, bounds_i64 wu⟩

end Go.Proofs.Ytonelibgaceflaa

namespace Go.Proofs.Ytonelibgaceflaa
open Go.ChangeShapes Go.WideShapes Go.ChangeAt Go.RowKit

theorem own_cap {w : World} {base : Nat} {e : TypeId} {size n cap : Nat} {A : Option Addr} {xs : List Value} (h : w.ownsRow base e size (.slice A n cap) n xs) : n ≤ cap ∧ cap ≤ maxLen := by
  rcases h.2 with ⟨h1, rfl⟩ | ⟨g, c, cur, hv, _, _, h3, h4, _⟩
  · injection h1 with _ _ h2
    subst h2
    exact ⟨Nat.le_refl _, by unfold maxLen; omega⟩
  · injection hv with _ _ h2
    subst h2
    exact ⟨h3, h4⟩

theorem wideN (six : Bool) : ∃ n : Nat, wideI six = n ∧ 0 < n ∧ n ≤ 128 := by
  refine ⟨(wideI six).toNat, ?_⟩
  unfold wideI
  split <;> decide

/-- Cell i of a row that the call owns, of integers. -/
theorem own_int {w : World} {base n cap g : Nat} {e : TypeId} {l : List Int} (h : w.ownsRow base e 1 (.slice (some ⟨g, 0, none⟩) n cap) n (l.map (Value.int .i64))) {i : Nat} {x : Int} (hx : l[i]? = some x) : w.cell? ⟨g, i, none⟩ = some (.int .i64 x) := by
  have := h.cells (g := g) rfl i (.int .i64 x) (by rw [List.getElem?_map, hx]; rfl)
  rwa [show (⟨g, 0, none⟩ : Addr).add i = ⟨g, i, none⟩ from by unfold Addr.add; split <;> simp_all] at this

theorem bitsL_at {six : Bool} {hi lo : Int} {m i : Nat} (hm : wideI six = m) (hi' : i < m) : (bitsL six hi lo)[i]? = some (bitI six hi lo i) := by
  unfold bitsL
  rw [hm, List.getElem?_map, List.getElem?_range (by simpa using hi')]
  rfl

def ZeroTo (six : Bool) (hi lo : Int) (k j : Nat) : Prop := ∀ i : Nat, k ≤ i → i < k + j → bitI six hi lo i = 0
theorem ZeroTo.zero (six : Bool) (hi lo : Int) (k : Nat) : ZeroTo six hi lo k 0 := fun _ _ _ => by omega
theorem ZeroTo.succ {six : Bool} {hi lo : Int} {k j : Nat} (h : ZeroTo six hi lo k j) (hb : bitI six hi lo ((k + j : Nat) : Int) = 0) : ZeroTo six hi lo k (j + 1) := fun i h1 h2 => by
  rcases Nat.lt_or_ge i (k + j) with h3 | h3
  · exact h i h1 h3
  · obtain rfl : i = k + j := by omega
    exact hb

set_option maxHeartbeats 1600000 in
theorem preFault_any (six : Bool) (hi lo n : Int) (w : World) (h1 : 0 ≤ hi ∧ hi < 18446744073709551616) (h2 : 0 ≤ lo ∧ lo < 18446744073709551616) :
    Calls Try.prog 81 #[.agg #[.bool six, .int .u64 hi, .int .u64 lo, .int .i64 n]] w fun e w' => e = .returned (.int .i64 (chk six hi lo n)) ∧ Below w.heap.size w w' := by
  unfold chk
  by_cases hm : mayB six hi lo = false
  · rw [if_pos hm]
    go_enter Try.func81, Try.ntmps81
    go_wp2_with (go_at_call 82; refine (refMay_any six hi lo _ h2.1).mono ?_; rintro e w1 ⟨rfl, hb⟩; obtain ⟨B1, S1, q0, q1, q2, q3⟩ := box4 hb; clear hb)
    go_ret
    exact ⟨rfl, B1⟩
  · rw [if_neg hm]
    have hm' : mayB six hi lo = true := by simpa using hm
    clear hm
    obtain ⟨m, hn, hpos, hle⟩ := wideN six
    rw [hn]
    have HN := Lib.hid hn
    clear hn
    by_cases hr : n < 0
    · rw [if_pos (.inl hr)]
      go_enter Try.func81, Try.ntmps81
      go_wp2_with (go_at_call 82; refine (refMay_any six hi lo _ h2.1).mono ?_; rintro e w1 ⟨rfl, hb⟩; obtain ⟨B1, S1, q0, q1, q2, q3⟩ := box4 hb; clear hb)
      refine (bitsOf_any six hi lo _ h1 h2).mono ?_
      rintro e w2 ⟨v, rfl, hown, hb2, hs2⟩
      have B2 := B1.trans (hb2.mono (Nat.le_of_lt S1))
      have Q0 := cell_step hb2 q0
      have Q1 := cell_step hb2 q1
      have Q2 := cell_step hb2 q2
      have Q3 := cell_step hb2 q3
      rw [HN.out] at hown
      simp only [Int.toNat_natCast] at hown
      obtain ⟨g, cap, rfl, hg, hlt⟩ := hown.form hpos
      have hncap := own_cap hown
      have HO := Lib.hid hown
      clear hown hb2 q0 q1 q2 q3
      go_wp2
      go_ret
      exact ⟨rfl, B2⟩
    · by_cases hr2 : (m : Int) < n
      · rw [if_pos (.inr hr2)]
        go_enter Try.func81, Try.ntmps81
        go_wp2_with (go_at_call 82; refine (refMay_any six hi lo _ h2.1).mono ?_; rintro e w1 ⟨rfl, hb⟩; obtain ⟨B1, S1, q0, q1, q2, q3⟩ := box4 hb; clear hb)
        refine (bitsOf_any six hi lo _ h1 h2).mono ?_
        rintro e w2 ⟨v, rfl, hown, hb2, hs2⟩
        have B2 := B1.trans (hb2.mono (Nat.le_of_lt S1))
        have Q0 := cell_step hb2 q0
        have Q1 := cell_step hb2 q1
        have Q2 := cell_step hb2 q2
        have Q3 := cell_step hb2 q3
        rw [HN.out] at hown
        simp only [Int.toNat_natCast] at hown
        obtain ⟨g, cap, rfl, hg, hlt⟩ := hown.form hpos
        have hncap := own_cap hown
        have HO := Lib.hid hown
        clear hown hb2 q0 q1 q2 q3
        go_wp2
        go_ret
        exact ⟨rfl, B2⟩
      · rw [if_neg (by omega)]
        obtain ⟨k, rfl⟩ := Int.eq_ofNat_of_zero_le (by omega : 0 ≤ n)
        have hkm : k ≤ m := by omega
        obtain ⟨r, hr0⟩ : ∃ r : Int, r = if cleanB six hi lo k = true then 0 else 5 := ⟨_, rfl⟩
        rw [← hr0]
        have hci := clean_iff six hi lo k h1 h2 hm' (by rw [HN.out]; omega)
        rw [HN.out] at hci
        have hall : ZeroTo six hi lo k (m - k) → r = 0 := fun hz => by
          rw [hr0, if_pos (hci.2 fun i h3 h4 => hz i h3 (by omega))]
        have hone : ∀ j : Nat, j < m - k → bitI six hi lo ((k + j : Nat) : Int) = 1 → r = 5 := fun j hj hb => by
          rw [hr0, if_neg]
          intro hc
          have := hci.1 hc (k + j) (by omega) (by omega)
          omega
        have HA := Lib.hid hall
        have HB := Lib.hid hone
        clear hall hone hr0 hci hr hr2
        have hd : decide ((k : Int) < 0) = false := by simp
        have hd2 : decide ((m : Int) < (k : Int)) = false := by simp; omega
        go_enter Try.func81, Try.ntmps81
        go_wp2_with (go_at_call 82; refine (refMay_any six hi lo _ h2.1).mono ?_; rintro e w1 ⟨rfl, hb⟩; obtain ⟨B1, S1, q0, q1, q2, q3⟩ := box4 hb; clear hb)
        refine (bitsOf_any six hi lo _ h1 h2).mono ?_
        rintro e w2 ⟨v, rfl, hown, hb2, hs2⟩
        have B2 := B1.trans (hb2.mono (Nat.le_of_lt S1))
        have Q0 := cell_step hb2 q0
        have Q1 := cell_step hb2 q1
        have Q2 := cell_step hb2 q2
        have Q3 := cell_step hb2 q3
        rw [HN.out] at hown
        simp only [Int.toNat_natCast] at hown
        obtain ⟨g, cap, rfl, hg, hlt⟩ := hown.form hpos
        have hncap := own_cap hown
        have HO := Lib.hid hown
        clear hown hb2 q0 q1 q2 q3
        have hc1 := hncap.1
        have hc2 := hncap.2
        unfold maxLen at hc2
        clear hncap
        have hz1 : ((m - k : Nat) : Int) ≤ 128 := by omega
        by_cases hck : cap = k
        · obtain rfl : m = k := by omega
          go_wp2
          refine wp_loop_rounds 1 ?_
          rw [rounds_succ]
          go_wp2
          go_ret
          exact ⟨ret_int (HA.out (by rw [Nat.sub_self]; exact ZeroTo.zero _ _ _ _)).symm, B2⟩
        · go_wp2
          go_loop [28, 5] (fun i _ => ∃ j : Nat, j ≤ m - k ∧ i = .int .i64 j ∧ ZeroTo six hi lo k j) (fun i _ => m - k - (intOf i).toNat)
          case atStart => exact ⟨0, by omega, rfl, ZeroTo.zero _ _ _ _⟩
          case round =>
            obtain ⟨j, hj, rfl, hz⟩ := hrel
            by_cases hlt : j < m - k
            · have hcell := own_int HO.out (bitsL_at (hi := hi) (lo := lo) HN.out (show k + j < m by omega))
              have h01 := bitI_01 six hi lo ((k + j : Nat) : Int)
              have HZ := Lib.hid hz
              clear hz
              by_cases hb1 : bitI six hi lo ((k + j : Nat) : Int) = 1
              · have hr5 := HB.out j hlt hb1
                rw [hb1] at hcell
                clear hb1 h01
                have HR := Lib.hid hr5
                clear hr5
                go_wp2
                go_ret
                exact ⟨ret_int HR.out.symm, B2⟩
              · have hb0 : bitI six hi lo ((k + j : Nat) : Int) = 0 := by omega
                rw [hb0] at hcell
                have HZ2 := Lib.hid (HZ.out.succ hb0)
                clear hb1 hb0 h01
                go_wp2
                go_round
                case rel => exact ⟨j + 1, by omega, by go_num, HZ2.out⟩
                case measure => simp [intOf]; omega
            · obtain rfl : j = m - k := by omega
              have HR := Lib.hid (HA.out hz)
              clear hz
              go_wp2
              go_ret
              exact ⟨ret_int HR.out.symm, B2⟩

end Go.Proofs.Ytonelibgaceflaa

namespace Go.Proofs.Ytonelibgaceflaa
open Go.RowKit

theorem cell_add {w : World} {X : Addr} {j : Nat} {u : Value} (h : w.cell? (X.add j) = some u) : w.cell? ⟨X.block, X.off + j, none⟩ = some u := by
  have hs := World.cell?_spot h
  have e : X.add j = ⟨X.block, X.off + j, none⟩ := by
    obtain ⟨b, o, s⟩ := X
    unfold Addr.add at hs ⊢
    by_cases hj : j = 0
    · subst hj
      simp at hs ⊢
      exact hs
    · simp [hj] at hs ⊢
      try exact hs
  rwa [e] at h

theorem flat_at {α : Type} {size : Nat} {f : α → List Value} (hf : ∀ x, (f x).length = size) : ∀ (l : List α) (k : Nat) (x : α) (j : Nat) (u : Value), l[k]? = some x → (f x)[j]? = some u → (l.flatMap f)[k * size + j]? = some u
  | [], k, x, j, u, h, _ => by simp at h
  | y :: l, 0, x, j, u, h, hu => by
    simp at h
    subst h
    rw [List.flatMap_cons, List.getElem?_append_left (by have := (List.getElem?_eq_some_iff.1 hu).1; omega), Nat.zero_mul, Nat.zero_add]
    exact hu
  | y :: l, k + 1, x, j, u, h, hu => by
    rw [List.flatMap_cons, List.getElem?_append_right (by rw [hf, Nat.succ_mul]; omega), hf, show (k + 1) * size + j - size = k * size + j from by rw [Nat.succ_mul]; omega]
    exact flat_at hf l k x j u (by simpa using h) hu

/-- Element k of a slice of structs, cell by cell, in the walk's own spelling. -/
theorem Reads.atS {w : World} {B n k size : Nat} {A : Option Addr} {α : Type} {l : List α} {f : α → List Value} (hf : ∀ x, (f x).length = size) (hz : l.length = n) (h : Reads w B size A n (l.flatMap f)) (hk : k < n) :
    ∃ ad x, A = some ad ∧ l[k]? = some x ∧ l.take (k + 1) = l.take k ++ [x] ∧ x ∈ l ∧ ad.block < B ∧ (∀ u, (f x)[0]? = some u → w.cell? (ad.add (k * size)) = some u) ∧
      ∀ j u, (f x)[j]? = some u → w.cell? ⟨(ad.add (k * size)).block, (ad.add (k * size)).off + j, none⟩ = some u := by
  obtain ⟨ad, rfl, hb, hc⟩ := h.2 (by omega)
  have hx : l[k]? = some (l[k]'(by omega)) := List.getElem?_eq_getElem (by omega)
  refine ⟨ad, l[k]'(by omega), rfl, hx, by rw [List.take_add_one, hx]; rfl, List.getElem_mem _, hb, fun u hu => ?_, fun j u hu => ?_⟩
  · have := hc _ u (flat_at hf l k _ 0 u hx hu)
    exact this
  · have := hc _ u (flat_at hf l k _ j u hx hu)
    rw [← add_of_add] at this
    exact cell_add this

theorem box1b {w w1 : World} {cs : List Value} {t : TypeId} {fr : Nat × Nat} {o : Obj} (hb : Below ((w.alloc (.cells cs.toArray t fr)).alloc o).heap.size ((w.alloc (.cells cs.toArray t fr)).alloc o) w1) :
    Below w.heap.size w w1 ∧ w.heap.size + 1 < w1.heap.size ∧ ∀ j u, cs[j]? = some u → w1.cell? ⟨w.heap.size, j, none⟩ = some u := by
  have hs := hb.size
  simp at hs
  refine ⟨below_step (((Below.refl _ _).alloc (Nat.le_refl _) _).alloc (by simp) _) hb, by omega, fun j u hj => cell_step hb ?_⟩
  rw [World.cell?_alloc_past _ _ _ (by simp)]
  have e := heap_alloc_new w (.cells cs.toArray t fr)
  unfold World.cell?
  simp only [e]
  simpa using hj
theorem step1 {w1 w2 : World} {o : Obj} (hb : Below (w1.alloc o).heap.size (w1.alloc o) w2) : Below w1.heap.size w1 w2 := below_step ((Below.refl _ _).alloc (Nat.le_refl _) _) hb

end Go.Proofs.Ytonelibgaceflaa

namespace Go.Proofs.Ytonelibgaceflaa
open Go.ChangeShapes Go.WideShapes Go.ChangeAt Go.RowKit

structure RuleV where
  yes : Bool
  six : Bool
  hi : Int
  lo : Int
  n : Int
  least : Int
  most : Int

def RuleV.cells (r : RuleV) : List Value := [.bool r.yes, .bool r.six, .int .u64 r.hi, .int .u64 r.lo, .int .i64 r.n, .int .i64 r.least, .int .i64 r.most]
theorem RuleV.cells_length (r : RuleV) : r.cells.length = 7 := rfl
def RuleV.Ok (r : RuleV) : Prop := (0 ≤ r.hi ∧ r.hi < 18446744073709551616) ∧ (0 ≤ r.lo ∧ r.lo < 18446744073709551616)

/-- The fault of one rule. -/
def RuleV.fault (r : RuleV) : Int :=
  if ¬ chk r.six r.hi r.lo r.n = 0 then chk r.six r.hi r.lo r.n else if r.least < r.n ∨ r.most < r.least ∨ wideI r.six < r.most then 2 else 0

/-- The first fault of a list. -/
def rulesE : List RuleV → Int
  | [] => 0
  | r :: l => if r.fault = 0 then rulesE l else r.fault
def RulesTo (l : List RuleV) (k : Nat) : Prop := rulesE (l.take k) = 0

theorem rulesE_append : ∀ (a b : List RuleV), rulesE a = 0 → rulesE (a ++ b) = rulesE b
  | [], _, _ => rfl
  | r :: a, b, h => by
    unfold rulesE at h
    by_cases hf : r.fault = 0
    · rw [if_pos hf] at h
      rw [List.cons_append, show rulesE (r :: (a ++ b)) = if r.fault = 0 then rulesE (a ++ b) else r.fault from rfl, if_pos hf]
      exact rulesE_append a b h
    · rw [if_neg hf] at h
      exact absurd h hf
theorem rulesE_at {l : List RuleV} {k : Nat} {r : RuleV} (h : RulesTo l k) (hk : l[k]? = some r) (hf : ¬ r.fault = 0) : rulesE l = r.fault := by
  have e : l = l.take k ++ l.drop k := (List.take_append_drop k l).symm
  have hl : k < l.length := (List.getElem?_eq_some_iff.1 hk).1
  have e2 : l.drop k = r :: l.drop (k + 1) := by
    rw [List.drop_eq_getElem_cons hl]
    rw [List.getElem?_eq_getElem hl] at hk
    injection hk with hk
    rw [hk]
  rw [e, rulesE_append _ _ h, e2]
  unfold rulesE
  rw [if_neg hf]
theorem rulesTo_succ {l : List RuleV} {k : Nat} {r : RuleV} (h : RulesTo l k) (hk : l.take (k + 1) = l.take k ++ [r]) (hf : r.fault = 0) : RulesTo l (k + 1) := by
  unfold RulesTo
  rw [hk, rulesE_append _ _ h]
  unfold rulesE
  rw [if_pos hf]
  rfl
theorem rulesE_end {l : List RuleV} {k : Nat} (h : RulesTo l k) (hl : l.length = k) : rulesE l = 0 := by
  unfold RulesTo at h
  rwa [← hl, List.take_length] at h

theorem refWide_any (six : Bool) (w : World) : Calls Try.prog 156 #[.bool six] w fun e w' => e = .returned (.int .i64 (wideI six)) ∧ w = w' := by
  cases six <;>
  · go_enter Try.func156, Try.ntmps156
    go_wp2
    go_ret
    exact ⟨rfl, rfl⟩

set_option maxHeartbeats 1600000 in
theorem ruleCheck_any (A : Option Addr) (n c : Nat) (l : List RuleV) (w : World) (hn : n ≤ 30) (hz : l.length = n) (hw : ∀ r ∈ l, r.Ok) (hr : Reads w w.heap.size 7 A n (l.flatMap RuleV.cells)) :
    Calls Try.prog 77 #[.slice A n c] w fun e w' => e = .returned (.int .i64 (rulesE l)) ∧ Below w.heap.size w w' := by
  have HZ := Lib.hid hz
  have HR := Lib.hid hr
  have HW := Lib.hid hw
  obtain ⟨r, hr0⟩ : ∃ r, r = rulesE l := ⟨_, rfl⟩
  rw [← hr0]
  have H0 := Lib.hid hr0
  clear hz hr hw hr0
  go_enter Try.func77, Try.ntmps77
  go_wp2
  go_loopw [11, 4, 5] (fun i _ _ wr => ∃ k : Nat, k ≤ n ∧ i = .int .i64 k ∧ RulesTo l k ∧ Below w.heap.size w wr) (fun i _ _ _ => n - (intOf i).toNat)
  case atStart => exact ⟨0, by omega, rfl, rfl, Below.refl _ _⟩
  case round =>
    obtain ⟨k, hk, rfl, hto, hb⟩ := hrel
    have HT := Lib.hid hto
    clear hto
    by_cases hlt : k < n
    · obtain ⟨ad, ⟨yes, six, hi, lo, m, least, most⟩, rfl, hlk, htk, hmem, hbk, hc0, hcj⟩ := HR.out.atS RuleV.cells_length HZ.out hlt
      have q0 := (hb.cell (p := ad.add (k * 7)) (by rw [block_of_add]; exact hbk)).trans (hc0 _ rfl)
      have q1 := (hb.cell (p := ⟨(ad.add (k * 7)).block, (ad.add (k * 7)).off + 1, none⟩) (by rw [block_of_add]; exact hbk)).trans (hcj 1 _ rfl)
      have q2 := (hb.cell (p := ⟨(ad.add (k * 7)).block, (ad.add (k * 7)).off + 2, none⟩) (by rw [block_of_add]; exact hbk)).trans (hcj 2 _ rfl)
      have q3 := (hb.cell (p := ⟨(ad.add (k * 7)).block, (ad.add (k * 7)).off + 3, none⟩) (by rw [block_of_add]; exact hbk)).trans (hcj 3 _ rfl)
      have q4 := (hb.cell (p := ⟨(ad.add (k * 7)).block, (ad.add (k * 7)).off + 4, none⟩) (by rw [block_of_add]; exact hbk)).trans (hcj 4 _ rfl)
      have q5 := (hb.cell (p := ⟨(ad.add (k * 7)).block, (ad.add (k * 7)).off + 5, none⟩) (by rw [block_of_add]; exact hbk)).trans (hcj 5 _ rfl)
      have q6 := (hb.cell (p := ⟨(ad.add (k * 7)).block, (ad.add (k * 7)).off + 6, none⟩) (by rw [block_of_add]; exact hbk)).trans (hcj 6 _ rfl)
      have hw := HW.out _ hmem
      obtain ⟨w1hi, w1lo⟩ := hw
      simp only at w1hi w1lo
      have hfd : RuleV.fault ⟨yes, six, hi, lo, m, least, most⟩ = if ¬ chk six hi lo m = 0 then chk six hi lo m else if least < m ∨ most < least ∨ wideI six < most then 2 else 0 := rfl
      have hcc := fun w => check_any six hi lo m w w1hi w1lo
      clear hc0 hcj hmem hbk
      by_cases hz : chk six hi lo m = 0
      · rw [hz] at hfd hcc
        rw [if_neg (fun h => h rfl)] at hfd
        have CC := Lib.hid hcc
        clear hcc hz
        by_cases h1 : least < m ∨ most < least ∨ wideI six < most
        · rw [if_pos h1] at hfd
          have HR2 := Lib.hid (rulesE_at HT.out hlk (by rw [hfd]; omega))
          rw [hfd] at HR2
          clear hfd hlk htk
          by_cases k1 : least < m
          · clear h1
            go_wp2_with fail
            refine (CC.out _).mono ?_
            rintro e w1 ⟨rfl, hbw⟩
            obtain ⟨B1, S1, F⟩ := box1 (cs := [.bool yes, .bool six, .int .u64 hi, .int .u64 lo, .int .i64 m, .int .i64 least, .int .i64 most]) hbw
            have p1 := F 1 _ rfl
            have p4 := F 4 _ rfl
            have p5 := F 5 _ rfl
            have p6 := F 6 _ rfl
            clear hbw F
            go_wp2_with fail
            go_quiet (((go_at_call 150; exact Calls.quiet_of_same ((wide_any six _).mono fun e w' h => ⟨h.1, h.2.symm⟩))))
            go_wp2
            go_ret
            exact ⟨ret_int (HR2.out.symm.trans H0.out.symm), below_drewN (hb.trans (B1.mono hb.size)) _⟩
          · have hd1 : decide (least < m) = false := by simpa using k1
            by_cases k2 : most < least
            · clear h1
              go_wp2_with fail
              refine (CC.out _).mono ?_
              rintro e w1 ⟨rfl, hbw⟩
              obtain ⟨B1, S1, F⟩ := box1 (cs := [.bool yes, .bool six, .int .u64 hi, .int .u64 lo, .int .i64 m, .int .i64 least, .int .i64 most]) hbw
              have p1 := F 1 _ rfl
              have p4 := F 4 _ rfl
              have p5 := F 5 _ rfl
              have p6 := F 6 _ rfl
              clear hbw F
              go_wp2_with fail
              go_quiet (((go_at_call 150; exact Calls.quiet_of_same ((wide_any six _).mono fun e w' h => ⟨h.1, h.2.symm⟩))))
              go_wp2
              go_ret
              exact ⟨ret_int (HR2.out.symm.trans H0.out.symm), below_drewN (hb.trans (B1.mono hb.size)) _⟩
            · have hd2 : decide (most < least) = false := by simpa using k2
              have k3 : wideI six < most := by omega
              clear h1
              go_wp2_with fail
              refine (CC.out _).mono ?_
              rintro e w1 ⟨rfl, hbw⟩
              obtain ⟨B1, S1, F⟩ := box1 (cs := [.bool yes, .bool six, .int .u64 hi, .int .u64 lo, .int .i64 m, .int .i64 least, .int .i64 most]) hbw
              have p1 := F 1 _ rfl
              have p4 := F 4 _ rfl
              have p5 := F 5 _ rfl
              have p6 := F 6 _ rfl
              clear hbw F
              go_wp2_with fail
              go_quiet (((go_at_call 150; exact Calls.quiet_of_same ((wide_any six _).mono fun e w' h => ⟨h.1, h.2.symm⟩))))
              go_wp2
              go_ret
              exact ⟨ret_int (HR2.out.symm.trans H0.out.symm), below_drewN (hb.trans (B1.mono hb.size)) _⟩
        · rw [if_neg h1] at hfd
          have HT2 := Lib.hid (rulesTo_succ HT.out htk hfd)
          clear hfd hlk htk
          have h2 : ¬ least < m := by omega
          have h3 : ¬ most < least := by omega
          have h4 : ¬ wideI six < most := by omega
          have h1' := h1
          clear h1
          have hd1 : decide (least < m) = false := by simpa using h2
          have hd2 : decide (most < least) = false := by simpa using h3
          have hd3 : decide (wideI six < most) = false := by simpa using h4
          go_wp2_with fail
          refine (CC.out _).mono ?_
          rintro e w1 ⟨rfl, hbw⟩
          obtain ⟨B1, S1, F⟩ := box1 (cs := [.bool yes, .bool six, .int .u64 hi, .int .u64 lo, .int .i64 m, .int .i64 least, .int .i64 most]) hbw
          have p1 := F 1 _ rfl
          have p4 := F 4 _ rfl
          have p5 := F 5 _ rfl
          have p6 := F 6 _ rfl
          clear hbw F
          go_wp2_with fail
          go_quiet (((go_at_call 150; exact Calls.quiet_of_same ((wide_any six _).mono fun e w' h => ⟨h.1, h.2.symm⟩))))
          go_wp2
          go_roundw
          case rel => exact ⟨k + 1, by omega, by go_num, HT2.out, below_drewN (hb.trans (B1.mono hb.size)) _⟩
          case measure => simp [intOf]; omega
      · rw [if_pos hz] at hfd
        have HR2 := Lib.hid (rulesE_at HT.out hlk (by rw [hfd]; exact hz))
        rw [hfd] at HR2
        clear hfd hlk htk
        generalize chk six hi lo m = q at *
        have CC := Lib.hid hcc
        have hb1 : (q == 0) = false := by simpa using hz
        have hb2 : (q != 0) = true := by simpa using hz
        clear hcc
        go_wp2_with fail
        refine (CC.out _).mono ?_
        rintro e w1 ⟨rfl, hbw⟩
        obtain ⟨B1, S1, F⟩ := box1 (cs := [.bool yes, .bool six, .int .u64 hi, .int .u64 lo, .int .i64 m, .int .i64 least, .int .i64 most]) hbw
        have p1 := F 1 _ rfl
        have p4 := F 4 _ rfl
        have p5 := F 5 _ rfl
        have p6 := F 6 _ rfl
        clear hbw F
        go_wp2
        go_ret
        exact ⟨ret_int (HR2.out.symm.trans H0.out.symm), hb.trans (B1.mono hb.size)⟩
    · obtain rfl : k = n := by omega
      have HR2 := Lib.hid (rulesE_end HT.out HZ.out)
      go_wp2
      go_ret
      exact ⟨ret_int (HR2.out.symm.trans H0.out.symm), hb⟩

set_option maxHeartbeats 1600000 in
theorem ruleFault_any (A : Option Addr) (n c : Nat) (l : List RuleV) (w : World) (hn : n ≤ 30) (hz : l.length = n) (hw : ∀ r ∈ l, r.Ok) (hr : Reads w w.heap.size 7 A n (l.flatMap RuleV.cells)) :
    Calls Try.prog 79 #[.slice A n c] w fun e w' => e = .returned (.int .i64 (rulesE l)) ∧ Below w.heap.size w w' := by
  have HZ := Lib.hid hz
  have HR := Lib.hid hr
  have HW := Lib.hid hw
  obtain ⟨r, hr0⟩ : ∃ r, r = rulesE l := ⟨_, rfl⟩
  rw [← hr0]
  have H0 := Lib.hid hr0
  clear hz hr hw hr0
  go_enter Try.func79, Try.ntmps79
  go_wp2
  go_loopw [11, 4, 5] (fun i _ _ wr => ∃ k : Nat, k ≤ n ∧ i = .int .i64 k ∧ RulesTo l k ∧ Below w.heap.size w wr) (fun i _ _ _ => n - (intOf i).toNat)
  case atStart => exact ⟨0, by omega, rfl, rfl, Below.refl _ _⟩
  case round =>
    obtain ⟨k, hk, rfl, hto, hb⟩ := hrel
    have HT := Lib.hid hto
    clear hto
    by_cases hlt : k < n
    · obtain ⟨ad, ⟨yes, six, hi, lo, m, least, most⟩, rfl, hlk, htk, hmem, hbk, hc0, hcj⟩ := HR.out.atS RuleV.cells_length HZ.out hlt
      have q0 := (hb.cell (p := ad.add (k * 7)) (by rw [block_of_add]; exact hbk)).trans (hc0 _ rfl)
      have q1 := (hb.cell (p := ⟨(ad.add (k * 7)).block, (ad.add (k * 7)).off + 1, none⟩) (by rw [block_of_add]; exact hbk)).trans (hcj 1 _ rfl)
      have q2 := (hb.cell (p := ⟨(ad.add (k * 7)).block, (ad.add (k * 7)).off + 2, none⟩) (by rw [block_of_add]; exact hbk)).trans (hcj 2 _ rfl)
      have q3 := (hb.cell (p := ⟨(ad.add (k * 7)).block, (ad.add (k * 7)).off + 3, none⟩) (by rw [block_of_add]; exact hbk)).trans (hcj 3 _ rfl)
      have q4 := (hb.cell (p := ⟨(ad.add (k * 7)).block, (ad.add (k * 7)).off + 4, none⟩) (by rw [block_of_add]; exact hbk)).trans (hcj 4 _ rfl)
      have q5 := (hb.cell (p := ⟨(ad.add (k * 7)).block, (ad.add (k * 7)).off + 5, none⟩) (by rw [block_of_add]; exact hbk)).trans (hcj 5 _ rfl)
      have q6 := (hb.cell (p := ⟨(ad.add (k * 7)).block, (ad.add (k * 7)).off + 6, none⟩) (by rw [block_of_add]; exact hbk)).trans (hcj 6 _ rfl)
      have hw := HW.out _ hmem
      obtain ⟨w1hi, w1lo⟩ := hw
      simp only at w1hi w1lo
      have hfd : RuleV.fault ⟨yes, six, hi, lo, m, least, most⟩ = if ¬ chk six hi lo m = 0 then chk six hi lo m else if least < m ∨ most < least ∨ wideI six < most then 2 else 0 := rfl
      have hcc := fun w => preFault_any six hi lo m w w1hi w1lo
      clear hc0 hcj hmem hbk
      by_cases hz : chk six hi lo m = 0
      · rw [hz] at hfd hcc
        rw [if_neg (fun h => h rfl)] at hfd
        have CC := Lib.hid hcc
        clear hcc hz
        by_cases h1 : least < m ∨ most < least ∨ wideI six < most
        · rw [if_pos h1] at hfd
          have HR2 := Lib.hid (rulesE_at HT.out hlk (by rw [hfd]; omega))
          rw [hfd] at HR2
          clear hfd hlk htk
          by_cases k1 : least < m
          · have hd1 : decide (m ≤ least) = false := by simp; omega
            clear h1
            go_wp2_with fail
            refine (CC.out _).mono ?_
            rintro e w1 ⟨rfl, hbw⟩
            obtain ⟨B1, S1, F⟩ := box1 (cs := [.bool yes, .bool six, .int .u64 hi, .int .u64 lo, .int .i64 m, .int .i64 least, .int .i64 most]) hbw
            have p1 := F 1 _ rfl
            have p4 := F 4 _ rfl
            have p5 := F 5 _ rfl
            have p6 := F 6 _ rfl
            clear hbw F
            go_wp2_with fail
            go_quiet (((go_at_call 156; exact Calls.quiet_of_same ((refWide_any six _).mono fun e w' h => ⟨h.1, h.2.symm⟩))))
            go_wp2
            go_ret
            exact ⟨ret_int (HR2.out.symm.trans H0.out.symm), below_drewN (hb.trans (B1.mono hb.size)) _⟩
          · have hd1 : m ≤ least := by omega
            by_cases k2 : most < least
            · have hd2 : decide (least ≤ most) = false := by simp; omega
              clear h1
              go_wp2_with fail
              refine (CC.out _).mono ?_
              rintro e w1 ⟨rfl, hbw⟩
              obtain ⟨B1, S1, F⟩ := box1 (cs := [.bool yes, .bool six, .int .u64 hi, .int .u64 lo, .int .i64 m, .int .i64 least, .int .i64 most]) hbw
              have p1 := F 1 _ rfl
              have p4 := F 4 _ rfl
              have p5 := F 5 _ rfl
              have p6 := F 6 _ rfl
              clear hbw F
              go_wp2_with fail
              go_quiet (((go_at_call 156; exact Calls.quiet_of_same ((refWide_any six _).mono fun e w' h => ⟨h.1, h.2.symm⟩))))
              go_wp2
              go_ret
              exact ⟨ret_int (HR2.out.symm.trans H0.out.symm), below_drewN (hb.trans (B1.mono hb.size)) _⟩
            · have hd2 : least ≤ most := by omega
              have hd3 : decide (most ≤ wideI six) = false := by simp; omega
              clear h1
              go_wp2_with fail
              refine (CC.out _).mono ?_
              rintro e w1 ⟨rfl, hbw⟩
              obtain ⟨B1, S1, F⟩ := box1 (cs := [.bool yes, .bool six, .int .u64 hi, .int .u64 lo, .int .i64 m, .int .i64 least, .int .i64 most]) hbw
              have p1 := F 1 _ rfl
              have p4 := F 4 _ rfl
              have p5 := F 5 _ rfl
              have p6 := F 6 _ rfl
              clear hbw F
              go_wp2_with fail
              go_quiet (((go_at_call 156; exact Calls.quiet_of_same ((refWide_any six _).mono fun e w' h => ⟨h.1, h.2.symm⟩))))
              go_wp2
              go_ret
              exact ⟨ret_int (HR2.out.symm.trans H0.out.symm), below_drewN (hb.trans (B1.mono hb.size)) _⟩
        · rw [if_neg h1] at hfd
          have HT2 := Lib.hid (rulesTo_succ HT.out htk hfd)
          clear hfd hlk htk
          have h2 : m ≤ least := by omega
          have h3 : least ≤ most := by omega
          have h4 : most ≤ wideI six := by omega
          have h1' := h1
          clear h1
          clear h1' 
          go_wp2_with fail
          refine (CC.out _).mono ?_
          rintro e w1 ⟨rfl, hbw⟩
          obtain ⟨B1, S1, F⟩ := box1 (cs := [.bool yes, .bool six, .int .u64 hi, .int .u64 lo, .int .i64 m, .int .i64 least, .int .i64 most]) hbw
          have p1 := F 1 _ rfl
          have p4 := F 4 _ rfl
          have p5 := F 5 _ rfl
          have p6 := F 6 _ rfl
          clear hbw F
          go_wp2_with fail
          go_quiet (((go_at_call 156; exact Calls.quiet_of_same ((refWide_any six _).mono fun e w' h => ⟨h.1, h.2.symm⟩))))
          go_wp2
          go_roundw
          case rel => exact ⟨k + 1, by omega, by go_num, HT2.out, below_drewN (hb.trans (B1.mono hb.size)) _⟩
          case measure => simp [intOf]; omega
      · rw [if_pos hz] at hfd
        have HR2 := Lib.hid (rulesE_at HT.out hlk (by rw [hfd]; exact hz))
        rw [hfd] at HR2
        clear hfd hlk htk
        generalize chk six hi lo m = q at *
        have CC := Lib.hid hcc
        have hb1 : (q == 0) = false := by simpa using hz
        have hb2 : (q != 0) = true := by simpa using hz
        clear hcc
        go_wp2_with fail
        refine (CC.out _).mono ?_
        rintro e w1 ⟨rfl, hbw⟩
        obtain ⟨B1, S1, F⟩ := box1 (cs := [.bool yes, .bool six, .int .u64 hi, .int .u64 lo, .int .i64 m, .int .i64 least, .int .i64 most]) hbw
        have p1 := F 1 _ rfl
        have p4 := F 4 _ rfl
        have p5 := F 5 _ rfl
        have p6 := F 6 _ rfl
        clear hbw F
        go_wp2
        go_ret
        exact ⟨ret_int (HR2.out.symm.trans H0.out.symm), hb.trans (B1.mono hb.size)⟩
    · obtain rfl : k = n := by omega
      have HR2 := Lib.hid (rulesE_end HT.out HZ.out)
      go_wp2
      go_ret
      exact ⟨ret_int (HR2.out.symm.trans H0.out.symm), hb⟩


end Go.Proofs.Ytonelibgaceflaa
