
/-
  Proved here: small general facts. A law's row follows from its walk. Values of flat struct types are rows of booleans and numbers.
-/
import Derived.WalkKit
import Derived.WalkSpells
import Derived.WalkLawsBesides
import Derived.Lib.Hide
import Derived.BigQuiet
import Derived.Deep.QuietTactic
import Derived.Deep.RegionHeld3
import Derived.ProofKit
import Derived.OpenShut
import Derived.ChangeOld
import Derived.Below
import Derived.SizedLaws
import Derived.Lib.SmallJoins
import Derived.Deep.Slices
import Derived.Deep.Fields
import Derived.ChangeSame
import Derived.RowKit3
import Derived.JoinedAt
import Derived.JoinedOf
namespace Go.Proofs.Ytonelibgaceflaa
open Go.ChangeShapes Go.WideShapes Go.ChangeAt Go.RowKit

theorem trodAll_below {H : Type} {enc : TypeId × Value → H} {P : Program} (hl : laidOutB P = true) {W W' : World} (hb : Below W.heap.size W W') :
    ∀ (ts : List TypeId) (vs : List Value) (ds : List (DataW H)) (ps : List MemPlace), (∀ t ∈ ts, P.readableRec t = true ∧ t < P.types.size) →
      (∀ x ∈ ps, x.block < W.heap.size) → DataW.TrodAll enc P W 0 (fun _ => true) true ts vs ds ps →
      DataW.TrodAll enc P W' 0 (fun b => decide (b < W.heap.size)) true ts vs ds ps
  | [], [], [], _, _, _, h => h
  | t :: ts, v :: vs, d :: ds, ps, ht, hp, h => by
    obtain ⟨p, q, h1, h2, rfl⟩ := h
    have h3 := ht t (by simp)
    exact ⟨p, q, Below.trod hl h3.1 h3.2 h1 hb (fun x hx => hp x (by simp [hx])), trodAll_below hl hb ts vs ds q (fun t' h' => ht t' (by simp [h'])) (fun x hx => hp x (by simp [hx])) h2, rfl⟩
  | [], [], _ :: _, _, _, _, h => h.elim
  | [], _ :: _, _, _, _, _, h => h.elim
  | _ :: _, [], _, _, _, _, h => h.elim
  | _ :: _, _ :: _, [], _, _, _, h => h.elim

theorem trodAll_length {H : Type} {enc : TypeId × Value → H} {P : Program} {W : World} {base : Nat} {sp : Nat → Bool} {held : Bool} :
    ∀ (ts : List TypeId) (vs : List Value) (ds : List (DataW H)) (ps : List MemPlace), DataW.TrodAll enc P W base sp held ts vs ds ps → ds.length = ts.length ∧ vs.length = ts.length
  | [], [], [], _, _ => ⟨rfl, rfl⟩
  | _ :: ts, _ :: vs, _ :: ds, _, h => by
    obtain ⟨p, q, _, h2, rfl⟩ := h
    have := trodAll_length ts vs ds q h2
    exact ⟨by simp [this.1], by simp [this.2]⟩
  | [], [], _ :: _, _, h => h.elim
  | [], _ :: _, _, _, h => h.elim
  | _ :: _, [], _, _, h => h.elim
  | _ :: _, _ :: _, [], _, h => h.elim

/-- What a law's walk is told of its arguments. -/
def ArgsOk (P : Program) (ts : List TypeId) (H : Type) (enc : TypeId × Value → H) (W : World) (vs : List Value) (ds : List (DataW H)) (ps : List MemPlace) : Prop :=
  DataW.TrodAll enc P W 0 (fun _ => true) true ts vs ds ps ∧ (∃ base, ∀ (j : Nat) t v, ts[j]? = some t → vs[j]? = some v → Value.okWide P W .any base t v) ∧
    (DataW.weightsEach P ts ds).all (· ≤ reachBytes) = true ∧ (∀ x ∈ ps, x.block < W.heap.size)

theorem law_lift {H : Type} {enc : TypeId × Value → H} {C : Checked} {os : Os} {f : FuncId} {fn : Func} {s : ChangeSpec} {tb : TypeId} {ts : List TypeId}
    (own : ownKnob C.prog.godebug = none) (laid : laidOutB C.prog = true) (started : os.Started) (noInit : C.prog.inits.idxOf? f = none) (hfn : C.prog.funcs[f]? = some fn)
    (witness : ∃ (w : World) (tape : Tape) (i : Input), w.os = os ∧ (w.forCall tape i).Shaped C.prog ∧ i.vars = [] ∧ Input.okWide C.prog (w.forCall tape i) .any w.heap.size f i ∧
      s.pre6 enc C.prog fn [] false (w.forCall tape i).memory i.args ∧ Assume.holds {} C.prog (lone (Frame.enter C.prog f i.args .normal) [] (w.forCall tape i)))
    (hts : fn.params.toList = ts) (hpar : ∀ t ∈ ts, C.prog.readableRec t = true ∧ t < C.prog.types.size)
    (hres : fn.resultTypes = #[tb]) (htb : C.prog.underlying tb = some .bool) (hvars : s.vars = []) (hvt : s.plain.varTypes C.prog = [])
    (hspec : ∀ ds : List (DataW H), ds.length = ts.length → (s.fn H (ds ++ [])).results = [.lit (.bool true)] ∧ (s.fn H (ds ++ [])).args = ds ∧ (s.fn H (ds ++ [])).vars = [])
    (walk : ∀ (W : World) (vs : Array Value) (ds : List (DataW H)) (ps : List MemPlace), ArgsOk C.prog ts H enc W vs.toList ds ps →
      Calls C.prog f vs W fun e W' => e = .returned (.bool true) ∧ Below W.heap.size W W') :
    ReturnsInHanded {} C os f .any (s.pre6 enc C.prog fn [] false) (s.post enc C.prog fn false true false false) := by
  refine returnsInHanded_of_change_sized (C := C) own started noInit hfn witness ?_
  intro W base args ds gs before hval hW _ hsz _
  have hW' := hW
  obtain ⟨p, q, hA, hV, rfl, _, _⟩ := hW
  rw [hvars] at hV
  obtain ⟨rfl, rfl⟩ := trodVars_none hV
  rw [hts] at hA hsz
  simp only [List.append_nil] at hW'
  have hlt : ∀ x ∈ p, x.block < W.heap.size := fun x hx => by simpa using hW'.lt x hx
  have hl := trodAll_length _ _ _ _ hA
  obtain ⟨e1, e2, e3⟩ := hspec ds hl.1
  rw [hvt] at hsz
  simp only [List.append_nil] at hsz
  refine (walk W args ds p ⟨hA, ⟨base, fun j t v ht hv => hval j t v (by rw [← hts] at ht; simpa using ht) (by simpa using hv)⟩, hsz, hlt⟩).mono fun e W' he => ?_
  obtain ⟨rfl, hb⟩ := he
  refine ⟨_, rfl, ds, [], p, [], p, [], hW', ?_, ?_, ?_, hb.frame _, fun h => by cases h⟩
  · rw [e1, hres]
    exact trodAll_mk1 (shut_bool htb true)
  · rw [e2, hts]
    exact trodAll_below laid hb _ _ _ _ hpar hlt hA
  · rw [e3, hvars]
    rfl

/-! FLAT TYPES -/

/-- The scalars of which a flat type is made, in order: none: a bool; some k: an integer of the kind k. -/
def flat (P : Program) : Nat → TypeId → Option (List (Option IntKind))
  | 0, _ => none
  | n + 1, t =>
    match P.underlying t with
    | some .bool => some [none]
    | some (.int k) => some [some k]
    | some (.struct fs) => fs.toList.foldl (fun acc f => match acc, flat P n f.type with
        | some l, some ks => if f.offset = l.length ∧ P.cellsOf f.type = ks.length then some (l ++ ks) else none
        | _, _ => none) (some [])
    | _ => none

def Fits (k : Option IntKind) (v : Value) : Prop :=
  match k with
  | none => ∃ b, v = .bool b
  | some k => ∃ n, v = .int k n ∧ (Lit.int k n).wf = true

def FitsAll : List (Option IntKind) → List Value → Prop
  | [], [] => True
  | k :: ks, v :: vs => Fits k v ∧ FitsAll ks vs
  | _, _ => False

theorem FitsAll.append : ∀ {ks ks' : List (Option IntKind)} {vs vs' : List Value}, FitsAll ks vs → FitsAll ks' vs' → FitsAll (ks ++ ks') (vs ++ vs')
  | [], _, [], _, _, h => h
  | _ :: _, _, _ :: _, _, h, h' => ⟨h.1, FitsAll.append h.2 h'⟩
  | [], _, _ :: _, _, h, _ => h.elim
  | _ :: _, _, [], _, h, _ => h.elim

theorem FitsAll.length : ∀ {ks : List (Option IntKind)} {vs : List Value}, FitsAll ks vs → vs.length = ks.length
  | [], [], _ => rfl
  | _ :: _, _ :: _, h => by simp [FitsAll.length h.2]
  | [], _ :: _, h => h.elim
  | _ :: _, [], h => h.elim

theorem FitsAll.cons_inv {k : Option IntKind} {ks : List (Option IntKind)} {vs : List Value} (h : FitsAll (k :: ks) vs) : ∃ v vs', vs = v :: vs' ∧ Fits k v ∧ FitsAll ks vs' := by
  cases vs with
  | nil => exact h.elim
  | cons v vs => exact ⟨v, vs, rfl, h.1, h.2⟩
theorem FitsAll.nil_inv {vs : List Value} (h : FitsAll [] vs) : vs = [] := by
  cases vs with
  | nil => rfl
  | cons v vs => exact h.elim
theorem FitsAll.bool_inv {ks : List (Option IntKind)} {vs : List Value} (h : FitsAll (none :: ks) vs) : ∃ b vs', vs = .bool b :: vs' ∧ FitsAll ks vs' := by
  obtain ⟨v, vs', rfl, ⟨b, rfl⟩, h'⟩ := h.cons_inv
  exact ⟨b, vs', rfl, h'⟩
theorem FitsAll.int_inv {k : IntKind} {ks : List (Option IntKind)} {vs : List Value} (h : FitsAll (some k :: ks) vs) : ∃ n vs', vs = .int k n :: vs' ∧ (Lit.int k n).wf = true ∧ FitsAll ks vs' := by
  obtain ⟨v, vs', rfl, ⟨n, rfl, hw⟩, h'⟩ := h.cons_inv
  exact ⟨n, vs', rfl, hw, h'⟩

/-- A flat struct that came in by value. -/
theorem open_flat {H : Type} {enc : TypeId × Value → H} {P : Program} {W : World} {base : Nat} {sp : Nat → Bool} {held : Bool} {b0 : Nat} {v : Value} {d : DataW H} {p : List MemPlace} {t : TypeId} {fs : Array Field} {ks : List (Option IntKind)}
    (trod : ∀ (fuel : Nat) (cs : List Value) (x : DataW H × List MemPlace), cs.length = P.cellsOf t → DataW.trod enc P W base sp held fuel t cs = some x → FitsAll ks cs)
    (hs : P.underlying t = some (.struct fs)) (hv : Value.okWide P W .any b0 t v) (h : DataW.Trod enc P W base sp held t v d p) : ∃ cs : List Value, v = .agg cs.toArray ∧ FitsAll ks cs := by
  obtain ⟨cs, rfl, hsz⟩ := okWide_struct hs hv
  obtain ⟨fuel, hf⟩ := h
  refine ⟨cs.toList, by simp, trod fuel _ _ (by simpa [Value.cells] using hsz) (by simpa [Value.cells] using hf)⟩

theorem range_u64 {n : Int} (h : (Lit.int .u64 n).wf = true) : 0 ≤ n ∧ n < 18446744073709551616 := by
  have h1 := bounds_u64 h
  refine ⟨h1.1, ?_⟩
  have h2 := h1.2
  omega

theorem trod_flat {H : Type} {enc : TypeId × Value → H} {P : Program} {w : World} {base : Nat} {sp : Nat → Bool} {held : Bool} :
    ∀ (n : Nat) (t : TypeId) (ks : List (Option IntKind)) (fuel : Nat) (cs : List Value) (x : DataW H × List MemPlace),
      flat P n t = some ks → cs.length = P.cellsOf t → P.cellsOf t = ks.length → DataW.trod enc P w base sp held fuel t cs = some x → FitsAll ks cs := by
  intro n
  induction n with
  | zero => intro t ks fuel cs x h; simp [flat] at h
  | succ n ih =>
    intro t ks fuel cs x h hcl hkl hx
    cases fuel with
    | zero => simp [DataW.trod] at hx
    | succ fuel =>
      unfold flat at h
      cases hu : P.underlying t with
      | none => simp [hu] at h
      | some u =>
        rw [hu] at h
        cases u with
        | bool =>
          simp only [Option.some.injEq] at h
          subst h
          obtain ⟨b, hb⟩ : ∃ b, cs = [.bool b] := by
            unfold DataW.trod at hx
            simp only [hu] at hx
            split at hx <;> simp_all
          subst hb
          exact ⟨⟨b, rfl⟩, trivial⟩
        | int k =>
          simp only [Option.some.injEq] at h
          subst h
          obtain ⟨m, hm, hw⟩ : ∃ m, cs = [.int k m] ∧ (Lit.int k m).wf = true := by
            unfold DataW.trod at hx
            simp only [hu] at hx
            split at hx <;> simp_all
          subst hm
          exact ⟨⟨m, rfl, hw⟩, trivial⟩
        | struct fs =>
          simp only at h
          have hm : ∃ xs, fs.toList.mapM (fun f => DataW.trod enc P w base sp held fuel f.type ((cs.drop f.offset).take (P.cellsOf f.type))) = some xs := by
            unfold DataW.trod at hx
            simp only [hu] at hx
            rw [if_pos hcl] at hx
            cases hq : fs.toList.mapM (fun f => DataW.trod enc P w base sp held fuel f.type ((cs.drop f.offset).take (P.cellsOf f.type))) with
            | none => rw [hq] at hx; simp at hx
            | some xs => exact ⟨xs, rfl⟩
          obtain ⟨xs, hxs⟩ := hm
          have gen : ∀ (l : List Field) (acc : List (Option IntKind)) (out : List (Option IntKind)) (ys : List (DataW H × List MemPlace)),
              l.foldl (fun acc f => match acc, flat P n f.type with
                | some l, some ks => if f.offset = l.length ∧ P.cellsOf f.type = ks.length then some (l ++ ks) else none
                | _, _ => none) (some acc) = some out →
              out.length ≤ cs.length → FitsAll acc (cs.take acc.length) →
              l.mapM (fun f => DataW.trod enc P w base sp held fuel f.type ((cs.drop f.offset).take (P.cellsOf f.type))) = some ys → acc.length ≤ out.length ∧ FitsAll out (cs.take out.length) := by
            have stuck : ∀ (l : List Field), l.foldl (fun acc f => match acc, flat P n f.type with
                | some l, some ks => if f.offset = l.length ∧ P.cellsOf f.type = ks.length then some (l ++ ks) else none
                | _, _ => none) (none : Option (List (Option IntKind))) = none := by
              intro l
              induction l with
              | nil => rfl
              | cons f l ihl => simpa using ihl
            intro l
            induction l with
            | nil =>
              intro acc out ys ho _ ha _
              simp only [List.foldl_nil, Option.some.injEq] at ho
              subst ho
              exact ⟨Nat.le_refl _, ha⟩
            | cons f l ihl =>
              intro acc out ys ho hol ha hys
              simp only [List.foldl_cons] at ho
              cases hf : flat P n f.type with
              | none => rw [hf] at ho; simp only at ho; rw [stuck l] at ho; cases ho
              | some kf =>
                rw [hf] at ho
                simp only at ho
                by_cases hc : f.offset = acc.length ∧ P.cellsOf f.type = kf.length
                · rw [if_pos hc] at ho
                  rw [List.mapM_cons] at hys
                  cases hy : DataW.trod enc P w base sp held fuel f.type ((cs.drop f.offset).take (P.cellsOf f.type)) with
                  | none => rw [hy] at hys; simp at hys
                  | some y =>
                    rw [hy] at hys
                    cases hz : l.mapM (fun f => DataW.trod enc P w base sp held fuel f.type ((cs.drop f.offset).take (P.cellsOf f.type))) with
                    | none => rw [hz] at hys; simp at hys
                    | some zs =>
                      have mono : ∀ (l : List Field) (acc out : List (Option IntKind)), l.foldl (fun acc f => match acc, flat P n f.type with
                          | some l, some ks => if f.offset = l.length ∧ P.cellsOf f.type = ks.length then some (l ++ ks) else none
                          | _, _ => none) (some acc) = some out → acc.length ≤ out.length := by
                        intro l
                        induction l with
                        | nil => intro acc out h; simp only [List.foldl_nil, Option.some.injEq] at h; subst h; exact Nat.le_refl _
                        | cons g l ihm =>
                          intro acc out h
                          simp only [List.foldl_cons] at h
                          cases hg : flat P n g.type with
                          | none => rw [hg] at h; simp only at h; rw [stuck l] at h; cases h
                          | some kg =>
                            rw [hg] at h
                            simp only at h
                            by_cases hc' : g.offset = acc.length ∧ P.cellsOf g.type = kg.length
                            · rw [if_pos hc'] at h
                              have := ihm _ _ h
                              simp at this
                              omega
                            · rw [if_neg hc', stuck l] at h; cases h
                      have hle := mono _ _ _ ho
                      simp only [List.length_append] at hle
                      have hfit : FitsAll kf ((cs.drop f.offset).take (P.cellsOf f.type)) := by
                        refine ih f.type kf fuel _ y hf ?_ hc.2 hy
                        rw [List.length_take, List.length_drop, hc.1, hc.2]
                        omega
                      have hnew : FitsAll (acc ++ kf) (cs.take (acc ++ kf).length) := by
                        have e : cs.take (acc ++ kf).length = cs.take acc.length ++ ((cs.drop f.offset).take (P.cellsOf f.type)) := by
                          rw [List.length_append, hc.1, hc.2, List.take_add]
                        rw [e]
                        exact ha.append hfit
                      have := ihl _ _ zs ho hol hnew hz
                      simp only [List.length_append] at this
                      exact ⟨by omega, this.2⟩
                · rw [if_neg hc, stuck l] at ho; cases ho
          have r := gen fs.toList [] ks xs h (by omega) (by simp [FitsAll]) hxs
          have e : cs.take ks.length = cs := by rw [← hkl, ← hcl]; exact List.take_length
          rw [e] at r
          exact r.2
        | _ => simp at h

/-! STEPS OF A REGION THAT DRAWS ITS ORDER -/
theorem below_step {w0 w1 w' : World} (h : Below w0.heap.size w0 w1) (hb : Below w1.heap.size w1 w') : Below w0.heap.size w0 w' := h.trans (hb.mono h.size)
theorem cell_drew {w : World} {a : Addr} {v : Value} (h : w.cell? a = some v) : w.drew.cell? a = some v := h
theorem size_drew {w : World} {n : Nat} (h : n < w.heap.size) : n < w.drew.heap.size := h
theorem size_step {w1 w' : World} {n : Nat} (h : n < w1.heap.size) (hb : Below w1.heap.size w1 w') : n < w'.heap.size := Nat.lt_of_lt_of_le h hb.size
theorem cell_step {w1 w' : World} {a : Addr} {v : Value} (hb : Below w1.heap.size w1 w') (hc : w1.cell? a = some v) : w'.cell? a = some v := cell_later hb hc

#print axioms law_lift
#print axioms trod_flat
end Go.Proofs.Ytonelibgaceflaa
