/-
  
  
  
  
  
  
  
  
  
  
  
-/
import Derived.WalkKit
import Derived.WalkSpells
import Derived.WalkLawsBesides
import Derived.Lib.Hide
import Derived.BigQuiet
import Derived.Deep.QuietTactic
import Derived.Deep.RegionHeld3
import Derived.ProofKit
import Derived.OpenShut
import Derived.ChangeOld
import Derived.Below
import Derived.SizedLaws
import Derived.Lib.SmallJoins
import Derived.Deep.Slices
import Derived.Deep.Fields
import Derived.ChangeSame
import Derived.RowKit3
import Derived.JoinedAt
import Derived.JoinedOf
import Derived.Test.YtmljdjakbbedlaaRows
import Derived.Lib.BitFns
import Derived.Lib.ItoaNum
import Derived.Laws.OwnMore
import Derived.Deep.AppendLies
import Derived.Deep.Draws
import Derived.Laws.Rows
import Derived.Maps.AppendAt
import Derived.RegionTactic
import Derived.OwnWalk
namespace Go.Proofs.Ytmljdjakbbedlaa
open Go.ChangeShapes Go.WideShapes Go.ChangeAt Go.RowKit

theorem trodAll_below {H : Type} {enc : TypeId × Value → H} {P : Program} (hl : laidOutB P = true) {W W' : World} (hb : Below W.heap.size W W') :
    ∀ (ts : List TypeId) (vs : List Value) (ds : List (DataW H)) (ps : List MemPlace), (∀ t ∈ ts, P.readableRec t = true ∧ t < P.types.size) →
      (∀ x ∈ ps, x.block < W.heap.size) → DataW.TrodAll enc P W 0 (fun _ => true) true ts vs ds ps →
      DataW.TrodAll enc P W' 0 (fun b => decide (b < W.heap.size)) true ts vs ds ps
  | [], [], [], _, _, _, h => h
  | t :: ts, v :: vs, d :: ds, ps, ht, hp, h => by
    obtain ⟨p, q, h1, h2, rfl⟩ := h
    have h3 := ht t (by simp)
    exact ⟨p, q, Below.trod hl h3.1 h3.2 h1 hb (fun x hx => hp x (by simp [hx])), trodAll_below hl hb ts vs ds q (fun t' h' => ht t' (by simp [h'])) (fun x hx => hp x (by simp [hx])) h2, rfl⟩
  | [], [], _ :: _, _, _, _, h => h.elim
  | [], _ :: _, _, _, _, _, h => h.elim
  | _ :: _, [], _, _, _, _, h => h.elim
  | _ :: _, _ :: _, [], _, _, _, h => h.elim

theorem trodAll_length {H : Type} {enc : TypeId × Value → H} {P : Program} {W : World} {base : Nat} {sp : Nat → Bool} {held : Bool} :
    ∀ (ts : List TypeId) (vs : List Value) (ds : List (DataW H)) (ps : List MemPlace), DataW.TrodAll enc P W base sp held ts vs ds ps → ds.length = ts.length ∧ vs.length = ts.length
  | [], [], [], _, _ => ⟨rfl, rfl⟩
  | _ :: ts, _ :: vs, _ :: ds, _, h => by
    obtain ⟨p, q, _, h2, rfl⟩ := h
    have := trodAll_length ts vs ds q h2
    exact ⟨by simp [this.1], by simp [this.2]⟩
  | [], [], _ :: _, _, h => h.elim
  | [], _ :: _, _, _, h => h.elim
  | _ :: _, [], _, _, h => h.elim
  | _ :: _, _ :: _, [], _, h => h.elim

/-- What a law's walk is told of its arguments. -/
def ArgsOk (P : Program) (ts : List TypeId) (H : Type) (enc : TypeId × Value → H) (W : World) (vs : List Value) (ds : List (DataW H)) (ps : List MemPlace) : Prop :=
  DataW.TrodAll enc P W 0 (fun _ => true) true ts vs ds ps ∧ (∃ base, ∀ (j : Nat) t v, ts[j]? = some t → vs[j]? = some v → Value.okWide P W .any base t v) ∧
    (DataW.weightsEach P ts ds).all (· ≤ reachBytes) = true ∧ (∀ x ∈ ps, x.block < W.heap.size)

theorem law_lift {H : Type} {enc : TypeId × Value → H} {C : Checked} {os : Os} {f : FuncId} {fn : Func} {s : ChangeSpec} {tb : TypeId} {ts : List TypeId}
    (own : ownKnob C.prog.godebug = none) (laid : laidOutB C.prog = true) (started : os.Started) (noInit : C.prog.inits.idxOf? f = none) (hfn : C.prog.funcs[f]? = some fn)
    (witness : ∃ (w : World) (tape : Tape) (i : Input), w.os = os ∧ (w.forCall tape i).Shaped C.prog ∧ i.vars = [] ∧ Input.okWide C.prog (w.forCall tape i) .any w.heap.size f i ∧
      s.pre6 enc C.prog fn [] false (w.forCall tape i).memory i.args ∧ Assume.holds {} C.prog (lone (Frame.enter C.prog f i.args .normal) [] (w.forCall tape i)))
    (hts : fn.params.toList = ts) (hpar : ∀ t ∈ ts, C.prog.readableRec t = true ∧ t < C.prog.types.size)
    (hres : fn.resultTypes = #[tb]) (htb : C.prog.underlying tb = some .bool) (hvars : s.vars = []) (hvt : s.plain.varTypes C.prog = [])
    (hspec : ∀ ds : List (DataW H), ds.length = ts.length → (s.fn H (ds ++ [])).results = [.lit (.bool true)] ∧ (s.fn H (ds ++ [])).args = ds ∧ (s.fn H (ds ++ [])).vars = [])
    (walk : ∀ (W : World) (vs : Array Value) (ds : List (DataW H)) (ps : List MemPlace), ArgsOk C.prog ts H enc W vs.toList ds ps →
      Calls C.prog f vs W fun e W' => e = .returned (.bool true) ∧ Below W.heap.size W W') :
    ReturnsInHanded {} C os f .any (s.pre6 enc C.prog fn [] false) (s.post enc C.prog fn false true false false) := by
  refine returnsInHanded_of_change_sized (C := C) own started noInit hfn witness ?_
  intro W base args ds gs before hval hW _ hsz _
  have hW' := hW
  obtain ⟨p, q, hA, hV, rfl, _, _⟩ := hW
  rw [hvars] at hV
  obtain ⟨rfl, rfl⟩ := trodVars_none hV
  rw [hts] at hA hsz
  simp only [List.append_nil] at hW'
  have hlt : ∀ x ∈ p, x.block < W.heap.size := fun x hx => by simpa using hW'.lt x hx
  have hl := trodAll_length _ _ _ _ hA
  obtain ⟨e1, e2, e3⟩ := hspec ds hl.1
  rw [hvt] at hsz
  simp only [List.append_nil] at hsz
  refine (walk W args ds p ⟨hA, ⟨base, fun j t v ht hv => hval j t v (by rw [← hts] at ht; simpa using ht) (by simpa using hv)⟩, hsz, hlt⟩).mono fun e W' he => ?_
  obtain ⟨rfl, hb⟩ := he
  refine ⟨_, rfl, ds, [], p, [], p, [], hW', ?_, ?_, ?_, hb.frame _, fun h => by cases h⟩
  · rw [e1, hres]
    exact trodAll_mk1 (shut_bool htb true)
  · rw [e2, hts]
    exact trodAll_below laid hb _ _ _ _ hpar hlt hA
  · rw [e3, hvars]
    rfl

/-! FLAT TYPES -/

/-- The scalars of which a flat type is made, in order: none: a bool; some k: an integer of the kind k. -/
def flat (P : Program) : Nat → TypeId → Option (List (Option IntKind))
  | 0, _ => none
  | n + 1, t =>
    match P.underlying t with
    | some .bool => some [none]
    | some (.int k) => some [some k]
    | some (.struct fs) => fs.toList.foldl (fun acc f => match acc, flat P n f.type with
        | some l, some ks => if f.offset = l.length ∧ P.cellsOf f.type = ks.length then some (l ++ ks) else none
        | _, _ => none) (some [])
    | _ => none

def Fits (k : Option IntKind) (v : Value) : Prop :=
  match k with
  | none => ∃ b, v = .bool b
  | some k => ∃ n, v = .int k n ∧ (Lit.int k n).wf = true

def FitsAll : List (Option IntKind) → List Value → Prop
  | [], [] => True
  | k :: ks, v :: vs => Fits k v ∧ FitsAll ks vs
  | _, _ => False

theorem FitsAll.append : ∀ {ks ks' : List (Option IntKind)} {vs vs' : List Value}, FitsAll ks vs → FitsAll ks' vs' → FitsAll (ks ++ ks') (vs ++ vs')
  | [], _, [], _, _, h => h
  | _ :: _, _, _ :: _, _, h, h' => ⟨h.1, FitsAll.append h.2 h'⟩
  | [], _, _ :: _, _, h, _ => h.elim
  | _ :: _, _, [], _, h, _ => h.elim

theorem FitsAll.length : ∀ {ks : List (Option IntKind)} {vs : List Value}, FitsAll ks vs → vs.length = ks.length
  | [], [], _ => rfl
  | _ :: _, _ :: _, h => by simp [FitsAll.length h.2]
  | [], _ :: _, h => h.elim
  | _ :: _, [], h => h.elim

theorem FitsAll.cons_inv {k : Option IntKind} {ks : List (Option IntKind)} {vs : List Value} (h : FitsAll (k :: ks) vs) : ∃ v vs', vs = v :: vs' ∧ Fits k v ∧ FitsAll ks vs' := by
  cases vs with
  | nil => exact h.elim
  | cons v vs => exact ⟨v, vs, rfl, h.1, h.2⟩
theorem FitsAll.nil_inv {vs : List Value} (h : FitsAll [] vs) : vs = [] := by
  cases vs with
  | nil => rfl
  | cons v vs => exact h.elim
theorem FitsAll.bool_inv {ks : List (Option IntKind)} {vs : List Value} (h : FitsAll (none :: ks) vs) : ∃ b vs', vs = .bool b :: vs' ∧ FitsAll ks vs' := by
  obtain ⟨v, vs', rfl, ⟨b, rfl⟩, h'⟩ := h.cons_inv
  exact ⟨b, vs', rfl, h'⟩
theorem FitsAll.int_inv {k : IntKind} {ks : List (Option IntKind)} {vs : List Value} (h : FitsAll (some k :: ks) vs) : ∃ n vs', vs = .int k n :: vs' ∧ (Lit.int k n).wf = true ∧ FitsAll ks vs' := by
  obtain ⟨v, vs', rfl, ⟨n, rfl, hw⟩, h'⟩ := h.cons_inv
  exact ⟨n, vs', rfl, hw, h'⟩

/-- A flat struct that came in by value. -/
theorem open_flat {H : Type} {enc : TypeId × Value → H} {P : Program} {W : World} {base : Nat} {sp : Nat → Bool} {held : Bool} {b0 : Nat} {v : Value} {d : DataW H} {p : List MemPlace} {t : TypeId} {fs : Array Field} {ks : List (Option IntKind)}
    (trod : ∀ (fuel : Nat) (cs : List Value) (x : DataW H × List MemPlace), cs.length = P.cellsOf t → DataW.trod enc P W base sp held fuel t cs = some x → FitsAll ks cs)
    (hs : P.underlying t = some (.struct fs)) (hv : Value.okWide P W .any b0 t v) (h : DataW.Trod enc P W base sp held t v d p) : ∃ cs : List Value, v = .agg cs.toArray ∧ FitsAll ks cs := by
  obtain ⟨cs, rfl, hsz⟩ := okWide_struct hs hv
  obtain ⟨fuel, hf⟩ := h
  refine ⟨cs.toList, by simp, trod fuel _ _ (by simpa [Value.cells] using hsz) (by simpa [Value.cells] using hf)⟩

theorem range_u64 {n : Int} (h : (Lit.int .u64 n).wf = true) : 0 ≤ n ∧ n < 18446744073709551616 := by
  have h1 := bounds_u64 h
  refine ⟨h1.1, ?_⟩
  have h2 := h1.2
  omega

theorem trod_flat {H : Type} {enc : TypeId × Value → H} {P : Program} {w : World} {base : Nat} {sp : Nat → Bool} {held : Bool} :
    ∀ (n : Nat) (t : TypeId) (ks : List (Option IntKind)) (fuel : Nat) (cs : List Value) (x : DataW H × List MemPlace),
      flat P n t = some ks → cs.length = P.cellsOf t → P.cellsOf t = ks.length → DataW.trod enc P w base sp held fuel t cs = some x → FitsAll ks cs := by
  intro n
  induction n with
  | zero => intro t ks fuel cs x h; simp [flat] at h
  | succ n ih =>
    intro t ks fuel cs x h hcl hkl hx
    cases fuel with
    | zero => simp [DataW.trod] at hx
    | succ fuel =>
      unfold flat at h
      cases hu : P.underlying t with
      | none => simp [hu] at h
      | some u =>
        rw [hu] at h
        cases u with
        | bool =>
          simp only [Option.some.injEq] at h
          subst h
          obtain ⟨b, hb⟩ : ∃ b, cs = [.bool b] := by
            unfold DataW.trod at hx
            simp only [hu] at hx
            split at hx <;> simp_all
          subst hb
          exact ⟨⟨b, rfl⟩, trivial⟩
        | int k =>
          simp only [Option.some.injEq] at h
          subst h
          obtain ⟨m, hm, hw⟩ : ∃ m, cs = [.int k m] ∧ (Lit.int k m).wf = true := by
            unfold DataW.trod at hx
            simp only [hu] at hx
            split at hx <;> simp_all
          subst hm
          exact ⟨⟨m, rfl, hw⟩, trivial⟩
        | struct fs =>
          simp only at h
          have hm : ∃ xs, fs.toList.mapM (fun f => DataW.trod enc P w base sp held fuel f.type ((cs.drop f.offset).take (P.cellsOf f.type))) = some xs := by
            unfold DataW.trod at hx
            simp only [hu] at hx
            rw [if_pos hcl] at hx
            cases hq : fs.toList.mapM (fun f => DataW.trod enc P w base sp held fuel f.type ((cs.drop f.offset).take (P.cellsOf f.type))) with
            | none => rw [hq] at hx; simp at hx
            | some xs => exact ⟨xs, rfl⟩
          obtain ⟨xs, hxs⟩ := hm
          have gen : ∀ (l : List Field) (acc : List (Option IntKind)) (out : List (Option IntKind)) (ys : List (DataW H × List MemPlace)),
              l.foldl (fun acc f => match acc, flat P n f.type with
                | some l, some ks => if f.offset = l.length ∧ P.cellsOf f.type = ks.length then some (l ++ ks) else none
                | _, _ => none) (some acc) = some out →
              out.length ≤ cs.length → FitsAll acc (cs.take acc.length) →
              l.mapM (fun f => DataW.trod enc P w base sp held fuel f.type ((cs.drop f.offset).take (P.cellsOf f.type))) = some ys → acc.length ≤ out.length ∧ FitsAll out (cs.take out.length) := by
            have stuck : ∀ (l : List Field), l.foldl (fun acc f => match acc, flat P n f.type with
                | some l, some ks => if f.offset = l.length ∧ P.cellsOf f.type = ks.length then some (l ++ ks) else none
                | _, _ => none) (none : Option (List (Option IntKind))) = none := by
              intro l
              induction l with
              | nil => rfl
              | cons f l ihl => simpa using ihl
            intro l
            induction l with
            | nil =>
              intro acc out ys ho _ ha _
              simp only [List.foldl_nil, Option.some.injEq] at ho
              subst ho
              exact ⟨Nat.le_refl _, ha⟩
            | cons f l ihl =>
              intro acc out ys ho hol ha hys
              simp only [List.foldl_cons] at ho
              cases hf : flat P n f.type with
              | none => rw [hf] at ho; simp only at ho; rw [stuck l] at ho; cases ho
              | some kf =>
                rw [hf] at ho
                simp only at ho
                by_cases hc : f.offset = acc.length ∧ P.cellsOf f.type = kf.length
                · rw [if_pos hc] at ho
                  rw [List.mapM_cons] at hys
                  cases hy : DataW.trod enc P w base sp held fuel f.type ((cs.drop f.offset).take (P.cellsOf f.type)) with
                  | none => rw [hy] at hys; simp at hys
                  | some y =>
                    rw [hy] at hys
                    cases hz : l.mapM (fun f => DataW.trod enc P w base sp held fuel f.type ((cs.drop f.offset).take (P.cellsOf f.type))) with
                    | none => rw [hz] at hys; simp at hys
                    | some zs =>
                      have mono : ∀ (l : List Field) (acc out : List (Option IntKind)), l.foldl (fun acc f => match acc, flat P n f.type with
                          | some l, some ks => if f.offset = l.length ∧ P.cellsOf f.type = ks.length then some (l ++ ks) else none
                          | _, _ => none) (some acc) = some out → acc.length ≤ out.length := by
                        intro l
                        induction l with
                        | nil => intro acc out h; simp only [List.foldl_nil, Option.some.injEq] at h; subst h; exact Nat.le_refl _
                        | cons g l ihm =>
                          intro acc out h
                          simp only [List.foldl_cons] at h
                          cases hg : flat P n g.type with
                          | none => rw [hg] at h; simp only at h; rw [stuck l] at h; cases h
                          | some kg =>
                            rw [hg] at h
                            simp only at h
                            by_cases hc' : g.offset = acc.length ∧ P.cellsOf g.type = kg.length
                            · rw [if_pos hc'] at h
                              have := ihm _ _ h
                              simp at this
                              omega
                            · rw [if_neg hc', stuck l] at h; cases h
                      have hle := mono _ _ _ ho
                      simp only [List.length_append] at hle
                      have hfit : FitsAll kf ((cs.drop f.offset).take (P.cellsOf f.type)) := by
                        refine ih f.type kf fuel _ y hf ?_ hc.2 hy
                        rw [List.length_take, List.length_drop, hc.1, hc.2]
                        omega
                      have hnew : FitsAll (acc ++ kf) (cs.take (acc ++ kf).length) := by
                        have e : cs.take (acc ++ kf).length = cs.take acc.length ++ ((cs.drop f.offset).take (P.cellsOf f.type)) := by
                          rw [List.length_append, hc.1, hc.2, List.take_add]
                        rw [e]
                        exact ha.append hfit
                      have := ihl _ _ zs ho hol hnew hz
                      simp only [List.length_append] at this
                      exact ⟨by omega, this.2⟩
                · rw [if_neg hc, stuck l] at ho; cases ho
          have r := gen fs.toList [] ks xs h (by omega) (by simp [FitsAll]) hxs
          have e : cs.take ks.length = cs := by rw [← hkl, ← hcl]; exact List.take_length
          rw [e] at r
          exact r.2
        | _ => simp at h

/-! STEPS OF A REGION THAT DRAWS ITS ORDER -/
theorem below_step {w0 w1 w' : World} (h : Below w0.heap.size w0 w1) (hb : Below w1.heap.size w1 w') : Below w0.heap.size w0 w' := h.trans (hb.mono h.size)
theorem cell_drew {w : World} {a : Addr} {v : Value} (h : w.cell? a = some v) : w.drew.cell? a = some v := h
theorem size_drew {w : World} {n : Nat} (h : n < w.heap.size) : n < w.drew.heap.size := h
theorem size_step {w1 w' : World} {n : Nat} (h : n < w1.heap.size) (hb : Below w1.heap.size w1 w') : n < w'.heap.size := Nat.lt_of_lt_of_le h hb.size
theorem cell_step {w1 w' : World} {a : Addr} {v : Value} (hb : Below w1.heap.size w1 w') (hc : w1.cell? a = some v) : w'.cell? a = some v := cell_later hb hc

#print axioms law_lift
#print axioms trod_flat
end Go.Proofs.Ytmljdjakbbedlaa

namespace Go.Proofs.Ytmljdjakbbedlaa
open Go.ChangeShapes Go.WideShapes Go.ChangeAt Go.RowKit

def headNums : List Nat := [104, 97, 114, 110, 101, 115, 115, 32, 101, 53, 53, 54, 97, 50, 102, 97, 54, 100, 52, 54, 56, 51, 55, 98, 101, 98, 102, 54, 54, 53, 49, 100, 52, 57, 99, 101, 57, 53, 51, 51, 100, 51, 48, 48, 101, 100, 100, 52, 55, 48, 49, 52, 48, 53, 97, 100, 57, 97, 101, 99, 49, 57, 99, 57, 49, 57, 48, 55, 50, 55, 52, 49, 32, 99, 117, 116, 32, 97, 116, 32, 119, 104, 105, 112, 99, 111, 114, 100, 47, 119, 104, 105, 112, 99, 111, 114, 100, 116, 111, 112, 46, 84, 111, 112, 79, 102, 102, 101, 114, 115, 32, 119, 104, 105, 112, 99, 111, 114, 100, 47, 119, 104, 105, 112, 99, 111, 114, 100, 108, 97, 119, 46, 83, 116, 114, 105, 100, 101, 77, 97, 107, 101, 115, 32, 119, 104, 105, 112, 99, 111, 114, 100, 47, 119, 104, 105, 112, 99, 111, 114, 100, 108, 97, 119, 46, 80, 97, 105, 114, 80, 108, 97, 121, 115, 32, 119, 104, 105, 112, 99, 111, 114, 100, 47, 119, 104, 105, 112, 99, 111, 114, 100, 108, 97, 119, 46, 80, 97, 105, 114, 70, 114, 101, 101, 100, 115, 32, 119, 104, 105, 112, 99, 111, 114, 100, 47, 119, 104, 105, 112, 99, 111, 114, 100, 108, 97, 119, 46, 86, 105, 97, 65, 108, 108, 115, 32, 119, 104, 105, 112, 99, 111, 114, 100, 47, 119, 104, 105, 112, 99, 111, 114, 100, 108, 97, 119, 46, 79, 102, 102, 101, 114, 66, 101, 115, 116, 115, 32, 119, 104, 105, 112, 99, 111, 114, 100, 47, 119, 104, 105, 112, 99, 111, 114, 100, 108, 97, 119, 46, 79, 102, 102, 101, 114, 84, 97, 98, 108, 101, 115, 32, 119, 104, 105, 112, 99, 111, 114, 100, 47, 119, 104, 105, 112, 99, 111, 114, 100, 108, 97, 119, 46, 70, 101, 119, 101, 115, 116, 70, 101, 119, 115, 32, 119, 104, 105, 112, 99, 111, 114, 100, 47, 119, 104, 105, 112, 99, 111, 114, 100, 108, 97, 119, 46, 73, 109, 97, 103, 101, 83, 97, 118, 101, 115, 32, 119, 104, 105, 112, 99, 111, 114, 100, 47, 119, 104, 105, 112, 99, 111, 114, 100, 108, 97, 119, 46, 73, 109, 97, 103, 101, 76, 111, 97, 100, 115]
theorem headIs : Try.pinned.checked.prog.initOrder = String.ofList (headNums.map Char.ofNat) := by kernel_rfl
theorem headList : Try.pinned.checked.prog.initOrder.toList = headNums.map Char.ofNat := by rw [headIs, String.toList_ofList]
theorem cutIs : [Char.ofNat 99, Char.ofNat 117, Char.ofNat 116] = "cut".toList := by
  rw [show "cut" = String.ofList [Char.ofNat 99, Char.ofNat 117, Char.ofNat 116] from by kernel_rfl, String.toList_ofList]
theorem toList_ne {s o : String} (h : s ≠ o) : ¬ s.toList = o.toList := fun he => h (String.toList_inj.1 he)
theorem beq_ne {s o : String} (h : s ≠ o) : (s.toList == o.toList) = false := by simpa using toList_ne h
theorem strip_none (r : List (List Char)) : ∀ l : List String, (∀ o ∈ l, "cut" ≠ o) → stripLifts l ("cut".toList :: r) = ([], "cut".toList :: r)
  | [], _ => by unfold stripLifts; rfl
  | o :: l, h => by
    unfold stripLifts
    rw [beq_ne (h o (by simp)), if_neg (by simp)]
    exact strip_none r l (fun o' h' => h o' (by simp [h']))
def headRest : List (List Char) := (behindMainWord (wordsSigns (headNums.map Char.ofNat))).tail
theorem headWs : behindMainWord (wordsSigns Try.pinned.checked.prog.initOrder.toList) = "cut".toList :: headRest := by
  rw [headList, ← cutIs]
  kernel_rfl
theorem strip_head : stripLifts liftWords ("cut".toList :: headRest) = ([], "cut".toList :: headRest) := strip_none _ _ (by unfold liftWords; decide)
theorem laysLater_is : Try.pinned.checked.prog.laysLater = false := by kernel_rfl
theorem bearsReflect_is : Try.pinned.checked.prog.bearsReflect = false := by kernel_rfl
theorem doorFits_is : Try.pinned.checked.prog.doorFits [] = true := by kernel_rfl
theorem mayEnter_of {P : Program} {r : List (List Char)} {x : List Char} (h : behindMainWord (wordsSigns P.initOrder.toList) = x :: r) (hx : x = "cut".toList) (hs : stripLifts liftWords (x :: r) = ([], x :: r)) (h1 : P.laysLater = false) (h2 : P.bearsReflect = false) (h3 : P.doorFits [] = true) : P.mayEnter = true := by
  unfold Program.mayEnter
  rw [h]
  show ((_ || _) || _) = true
  rw [Bool.or_eq_true]
  right
  rw [hs, h1, h2, h3]
  show (((((some x == some "cut".toList) && _) && _) && _) && true) = true
  rw [hx, beq_self_eq_true]
  rfl
theorem mayEnter_is : Try.pinned.checked.prog.mayEnter = true := mayEnter_of headWs rfl strip_head laysLater_is bearsReflect_is doorFits_is
theorem headLifts_of {P : Program} {r : List (List Char)} {x : List Char} (h : behindMainWord (wordsSigns P.initOrder.toList) = x :: r) (hs : stripLifts liftWords (x :: r) = ([], x :: r)) : P.headLifts = [] := by
  unfold Program.headLifts
  rw [h, hs]
  show (if (some x == some "cut".toList) = true then [] else []) = []
  split <;> rfl
theorem headLifts_is : Try.pinned.checked.prog.headLifts = [] := headLifts_of headWs strip_head
theorem liftsFinal_of {P : Program} {r : List (List Char)} {x : List Char} (h : behindMainWord (wordsSigns P.initOrder.toList) = x :: r) (hl : P.headLifts = []) (hx : (some x == some "carried".toList) = false) : P.liftsFinal = false := by
  unfold Program.liftsFinal
  rw [h, hl]
  show ((some x == some "carried".toList && _) || false) = false
  rw [hx]
  rfl
theorem liftsFinal_is : Try.pinned.checked.prog.liftsFinal = false := liftsFinal_of headWs headLifts_is (by rw [Option.some_beq_some]; exact beq_ne (by decide))
theorem make_of {P : Program} {r : List (List Char)} {x : List Char} (h : behindMainWord (wordsSigns P.initOrder.toList) = x :: r) (h1 : (x == "gc".toList) = false) (h2 : (x == "spec".toList) = false) (hx : x = "cut".toList) : P.make = some .cut := by
  unfold Program.make
  rw [h]
  show (if (x == "gc".toList || x == "spec".toList) = true then some Make.whole else if (x == "cut".toList || _) = true then some Make.cut else _) = some Make.cut
  rw [h1, h2, if_neg (by decide), if_pos (by rw [hx, beq_self_eq_true]; rfl)]
theorem make_is : Try.pinned.checked.prog.make = some .cut := make_of headWs (beq_ne (by decide)) (beq_ne (by decide)) rfl
end Go.Proofs.Ytmljdjakbbedlaa

namespace Go.Proofs.Ytmljdjakbbedlaa
set_option linter.unusedVariables false

/-- The first n of 64 bits are 1. -/
def onesI (n : Int) : Int := if n ≤ 0 then 0 else if 64 ≤ n then 18446744073709551615 else 18446744073709551616 - 2 ^ (64 - n).toNat

theorem two_pow_pos (k : Nat) : (0 : Int) < 2 ^ k := Int.pow_pos (by omega)
theorem two_pow_le (k : Nat) (h : k ≤ 64) : (2 : Int) ^ k ≤ 18446744073709551616 := by
  have : (2 : Nat) ^ k ≤ 2 ^ 64 := Nat.pow_le_pow_right (by omega) h
  have e : ((2 ^ k : Nat) : Int) = 2 ^ k := by simp
  rw [← e]
  have : (2 ^ 64 : Nat) = 18446744073709551616 := by decide
  omega

theorem onesI_range (n : Int) : 0 ≤ onesI n ∧ onesI n < 18446744073709551616 := by
  unfold onesI
  split
  · omega
  · split
    · omega
    · have h1 := two_pow_pos (64 - n).toNat
      have h2 := two_pow_le (64 - n).toNat (by omega)
      omega

theorem ones_wrap (k : Nat) (h : k ≤ 64) : (18446744073709551615 * 2 ^ k : Int) % 18446744073709551616 = 18446744073709551616 - 2 ^ k := by
  have h1 := two_pow_pos k
  have h2 := two_pow_le k h
  generalize (2 : Int) ^ k = p at *
  have e : (18446744073709551615 * p : Int) = (18446744073709551616 - p) + 18446744073709551616 * (p - 1) := by omega
  rw [e, Int.add_mul_emod_self_left]
  rw [Int.emod_eq_of_lt (by omega) (by omega)]

theorem and_ones_nat (x k : Nat) (hx : x < 2 ^ 64) (hk : k ≤ 64) : x &&& (2 ^ 64 - 2 ^ k) = x / 2 ^ k * 2 ^ k := by
  have e : (2 : Nat) ^ 64 - 2 ^ k = (2 ^ (64 - k) - 1) * 2 ^ k := by
    rw [Nat.sub_mul, ← Nat.pow_add, Nat.sub_add_cancel hk, Nat.one_mul]
  rw [e]
  apply Nat.eq_of_testBit_eq
  intro i
  rw [Nat.testBit_and, ← Nat.shiftLeft_eq, ← Nat.shiftLeft_eq, Nat.testBit_shiftLeft, Nat.testBit_shiftLeft, Nat.testBit_two_pow_sub_one, Nat.testBit_div_two_pow]
  by_cases h : k ≤ i
  · simp only [ge_iff_le, h, decide_true, Bool.true_and, Nat.sub_add_cancel h]
    by_cases h2 : i - k < 64 - k
    · simp [h2]
    · have : x.testBit i = false := by
        apply Nat.testBit_lt_two_pow
        exact Nat.lt_of_lt_of_le hx (Nat.pow_le_pow_right (by omega) (by omega))
      simp [this]
  · simp [h]

/-- What is left of a word when all but its first n bits are cleared. -/
def keepW (x n : Int) : Int := if n ≤ 0 then 0 else if 64 ≤ n then x else x / 2 ^ (64 - n).toNat * 2 ^ (64 - n).toNat

/-! ADDRESSES AND PREFIXES, AS NUMBERS -/
/-- Is an address valid? -/
def mayB (six : Bool) (hi lo : Int) : Bool := six || (hi == 0 && decide (lo < 4294967296))

def wideI (six : Bool) : Int := if six then 128 else 32

/-- Bit i of an address, the highest first. -/
def bitI (six : Bool) (hi lo i : Int) : Int :=
  if six then (if i < 64 then hi / 2 ^ (63 - i).toNat % 2 else lo / 2 ^ (127 - i).toNat % 2) else lo / 2 ^ (31 - i).toNat % 2

theorem bitI_01 (six : Bool) (hi lo i : Int) : 0 ≤ bitI six hi lo i ∧ bitI six hi lo i ≤ 1 := by
  unfold bitI
  split
  · split <;> omega
  · omega

/-- All bits of an address. -/
def bitsL (six : Bool) (hi lo : Int) : List Int := (List.range (wideI six).toNat).map fun (i : Nat) => bitI six hi lo (i : Int)
theorem bitsL_length (six : Bool) (hi lo : Int) : (bitsL six hi lo).length = (wideI six).toNat := by simp [bitsL]

def cutHi (six : Bool) (hi n : Int) : Int := if six then keepW hi n else 0
def cutLo (six : Bool) (lo n : Int) : Int := if six then keepW lo (n - 64) else keepW (lo * 4294967296) n / 4294967296

def cleanB (six : Bool) (hi lo n : Int) : Bool := cutHi six hi n == hi && cutLo six lo n == lo

/-- The fault of a prefix. -/
def chk (six : Bool) (hi lo n : Int) : Int :=
  if mayB six hi lo = false then 4 else if n < 0 ∨ wideI six < n then 2 else if cleanB six hi lo n = true then 0 else 5

theorem mayB_four {hi lo : Int} (h : mayB false hi lo = true) : hi = 0 ∧ lo < 4294967296 := by simpa [mayB] using h
theorem wideI_le (six : Bool) : 32 ≤ wideI six ∧ wideI six ≤ 128 := by unfold wideI; split <;> omega


theorem and_ones_int (x n : Int) (h1 : 0 ≤ x) (h2 : x < 18446744073709551616) : ((x.toNat &&& (onesI n).toNat : Nat) : Int) = keepW x n := by
  unfold onesI keepW
  split
  · simp
  · split
    · have : x.toNat &&& (18446744073709551615 : Int).toNat = x.toNat := by
        have := Nat.and_two_pow_sub_one_eq_mod x.toNat 64
        rw [show (18446744073709551615 : Int).toNat = 2 ^ 64 - 1 from by decide, this]
        apply Nat.mod_eq_of_lt
        omega
      rw [this]
      omega
    · obtain ⟨k, hk⟩ : ∃ k : Nat, (64 - n).toNat = k := ⟨_, rfl⟩
      have hk2 : k ≤ 64 := by omega
      rw [hk]
      have e : (18446744073709551616 - 2 ^ k : Int).toNat = 2 ^ 64 - 2 ^ k := by
        have h3 := two_pow_le k hk2
        have h4 : ((2 ^ k : Nat) : Int) = 2 ^ k := by simp
        have h5 : (2 ^ 64 : Nat) = 18446744073709551616 := by decide
        rw [h5]
        omega
      rw [e, and_ones_nat _ _ (by have : (2 ^ 64 : Nat) = 18446744073709551616 := by decide
                                  omega) hk2]
      simp [Int.toNat_of_nonneg h1]

/-- The low bits of a word are 0 just if each of them is. -/
theorem low_zero (x : Int) : ∀ k : Nat, x % 2 ^ k = 0 ↔ ∀ j, j < k → x / 2 ^ j % 2 = 0
  | 0 => by simp [Int.emod_one]
  | k + 1 => by
    have ih := low_zero x k
    have hp := two_pow_pos k
    have e : x % 2 ^ (k + 1) = x % 2 ^ k + 2 ^ k * (x / 2 ^ k % 2) := by
      rw [Int.pow_succ]
      generalize (2 : Int) ^ k = p at *
      have h1 := Int.mul_ediv_add_emod x (p * 2)
      have h2 := Int.mul_ediv_add_emod x p
      have h3 := Int.mul_ediv_add_emod (x / p) 2
      have h4 : x / (p * 2) = x / p / 2 := by rw [Int.ediv_ediv_of_nonneg (by omega)]
      rw [h4] at h1
      generalize x / p / 2 = q at *
      generalize x / p % 2 = r at *
      have h5 : x / p = 2 * q + r := by omega
      rw [h5, Int.mul_add] at h2
      have h6 : p * (2 * q) = p * 2 * q := by rw [Int.mul_assoc]
      omega
    rw [e]
    have hn := Int.emod_nonneg x (show (2 : Int) ^ k ≠ 0 by omega)
    have hr : 0 ≤ x / 2 ^ k % 2 ∧ x / 2 ^ k % 2 ≤ 1 := by omega
    constructor
    · intro h j hj
      have hz : x / 2 ^ k % 2 = 0 := by
        rcases (by omega : x / 2 ^ k % 2 = 0 ∨ x / 2 ^ k % 2 = 1) with h0 | h0
        · exact h0
        · rw [h0] at h; omega
      rw [hz] at h
      rcases Nat.lt_or_ge j k with hjk | hjk
      · exact ih.1 (by omega) j hjk
      · obtain rfl : j = k := by omega
        exact hz
    · intro h
      rw [h k (by omega), ih.2 (fun j hj => h j (by omega))]
      omega

theorem keepW_eq (x n : Int) (h1 : 0 ≤ x) (h2 : x < 18446744073709551616) (hn0 : 0 ≤ n) (hn : n ≤ 64) : keepW x n = x ↔ x % 2 ^ (64 - n).toNat = 0 := by
  unfold keepW
  by_cases hz : n ≤ 0
  · rw [if_pos hz]
    obtain rfl : n = 0 := by omega
    rw [show (64 - (0 : Int)).toNat = 64 from rfl, show (2 : Int) ^ 64 = 18446744073709551616 from by decide, Int.emod_eq_of_lt h1 h2]
    omega
  · rw [if_neg hz]
    by_cases h64 : 64 ≤ n
    · rw [if_pos h64]
      obtain rfl : n = 64 := by omega
      simp [Int.emod_one]
    · rw [if_neg h64]
      have := Int.mul_ediv_add_emod x (2 ^ (64 - n).toNat)
      rw [Int.mul_comm] at this
      omega

theorem keepW_range (x n : Int) (h1 : 0 ≤ x) (h2 : x < 18446744073709551616) : 0 ≤ keepW x n ∧ keepW x n < 18446744073709551616 := by
  unfold keepW
  split
  · omega
  · split
    · omega
    · have hp := two_pow_pos (64 - n).toNat
      have := Int.mul_ediv_add_emod x (2 ^ (64 - n).toNat)
      rw [Int.mul_comm] at this
      have h3 := Int.emod_nonneg x (show (2 : Int) ^ (64 - n).toNat ≠ 0 by omega)
      have h4 : 0 ≤ x / 2 ^ (64 - n).toNat * 2 ^ (64 - n).toNat := Int.mul_nonneg (Int.ediv_nonneg h1 (by omega)) (by omega)
      omega

/-! CLEAN PREFIXES, BIT BY BIT -/
theorem keep4_eq (lo n : Int) : keepW (lo * 4294967296) n / 4294967296 = if n ≤ 0 then 0 else if 32 ≤ n then lo else lo / 2 ^ (32 - n).toNat * 2 ^ (32 - n).toNat := by
  unfold keepW
  by_cases hn : n ≤ 0
  · rw [if_pos hn, if_pos hn]; rfl
  · rw [if_neg hn, if_neg hn]
    by_cases h64 : 64 ≤ n
    · rw [if_pos h64, if_pos (by omega)]
      omega
    · rw [if_neg h64]
      by_cases h32 : 32 ≤ n
      · rw [if_pos h32]
        obtain ⟨k, hk⟩ : ∃ k : Nat, (64 - n).toNat = k := ⟨_, rfl⟩
        rw [hk]
        have e : (4294967296 : Int) = 2 ^ (32 - k) * 2 ^ k := by
          rw [← Int.pow_add, show 32 - k + k = 32 from by omega]; decide
        have hp := two_pow_pos k
        have e2 : lo * 4294967296 / 2 ^ k * 2 ^ k = lo * 4294967296 := by
          rw [e, ← Int.mul_assoc, Int.mul_ediv_cancel _ (by omega)]
        rw [e2]
        omega
      · rw [if_neg h32]
        obtain ⟨k, hk⟩ : ∃ k : Nat, (32 - n).toNat = k := ⟨_, rfl⟩
        have hk2 : (64 - n).toNat = k + 32 := by omega
        rw [hk, hk2, Int.pow_add, show (2 : Int) ^ 32 = 4294967296 from by decide]
        have hp := two_pow_pos k
        have e : lo * 4294967296 / (2 ^ k * 4294967296) = lo / 2 ^ k := Int.mul_ediv_mul_of_pos_left _ _ (by omega)
        rw [e, ← Int.mul_assoc]
        omega

theorem keep4_iff (lo n : Int) (h1 : 0 ≤ lo) (h2 : lo < 4294967296) (hn0 : 0 ≤ n) (hn : n ≤ 32) : keepW (lo * 4294967296) n / 4294967296 = lo ↔ lo % 2 ^ (32 - n).toNat = 0 := by
  rw [keep4_eq lo n]
  by_cases hz : n ≤ 0
  · rw [if_pos hz]
    obtain rfl : n = 0 := by omega
    rw [show (32 - (0 : Int)).toNat = 32 from rfl, show (2 : Int) ^ 32 = 4294967296 from by decide]
    omega
  · rw [if_neg hz]
    by_cases h : 32 ≤ n
    · rw [if_pos h]
      obtain rfl : n = 32 := by omega
      simp [Int.emod_one]
    · rw [if_neg h]
      have := Int.mul_ediv_add_emod lo (2 ^ (32 - n).toNat)
      rw [Int.mul_comm] at this
      omega

theorem clean_iff (six : Bool) (hi lo : Int) (n : Nat) (h1 : 0 ≤ hi ∧ hi < 18446744073709551616) (h2 : 0 ≤ lo ∧ lo < 18446744073709551616) (hm : mayB six hi lo = true) (hn : (n : Int) ≤ wideI six) :
    cleanB six hi lo n = true ↔ ∀ i : Nat, n ≤ i → (i : Int) < wideI six → bitI six hi lo i = 0 := by
  unfold cleanB
  rw [Bool.and_eq_true, beq_iff_eq, beq_iff_eq]
  cases six
  · have hf := mayB_four hm
    have hn' : (n : Int) ≤ 32 := hn
    unfold cutHi cutLo bitI wideI
    simp only [Bool.false_eq_true, if_false]
    rw [keep4_iff lo n h2.1 hf.2 (by omega) hn', low_zero]
    constructor
    · rintro ⟨_, h⟩ i hi1 hi2
      exact h _ (by omega)
    · intro h
      refine ⟨hf.1.symm, fun j hj => ?_⟩
      have := h (31 - j) (by omega) (by omega)
      rwa [show (31 - ((31 - j : Nat) : Int)).toNat = j from by omega] at this
  · have hn' : (n : Int) ≤ 128 := hn
    unfold cutHi cutLo bitI wideI
    simp only [if_true]
    by_cases h64 : n ≤ 64
    · rw [keepW_eq hi n h1.1 h1.2 (by omega) (by omega), low_zero]
      have e : keepW lo ((n : Int) - 64) = lo ↔ lo % 2 ^ 64 = 0 := by
        unfold keepW
        rw [if_pos (by omega), show (2 : Int) ^ 64 = 18446744073709551616 from by decide]
        omega
      rw [e, low_zero]
      constructor
      · rintro ⟨ha, hb⟩ i hi1 hi2
        split
        · exact ha _ (by omega)
        · exact hb _ (by omega)
      · intro h
        refine ⟨fun j hj => ?_, fun j hj => ?_⟩
        · have := h (63 - j) (by omega) (by omega)
          rw [if_pos (by omega)] at this
          rwa [show (63 - ((63 - j : Nat) : Int)).toNat = j from by omega] at this
        · have := h (127 - j) (by omega) (by omega)
          rw [if_neg (by omega)] at this
          rwa [show (127 - ((127 - j : Nat) : Int)).toNat = j from by omega] at this
    · have e : keepW hi n = hi := by
        unfold keepW
        rw [if_neg (by omega), if_pos (by omega)]
      rw [e, keepW_eq lo _ h2.1 h2.2 (by omega) (by omega), low_zero]
      constructor
      · rintro ⟨_, hb⟩ i hi1 hi2
        rw [if_neg (by omega)]
        exact hb _ (by omega)
      · intro h
        refine ⟨rfl, fun j hj => ?_⟩
        have := h (127 - j) (by omega) (by omega)
        rw [if_neg (by omega)] at this
        rwa [show (127 - ((127 - j : Nat) : Int)).toNat = j from by omega] at this

/-! BITS OF WORDS -/
theorem mod_succ (x : Int) (k : Nat) : x % 2 ^ (k + 1) = x % 2 ^ k + 2 ^ k * (x / 2 ^ k % 2) := by
  have hp := two_pow_pos k
  rw [Int.pow_succ]
  generalize (2 : Int) ^ k = p at *
  have h1 := Int.mul_ediv_add_emod x (p * 2)
  have h2 := Int.mul_ediv_add_emod x p
  have h3 := Int.mul_ediv_add_emod (x / p) 2
  have h4 : x / (p * 2) = x / p / 2 := by rw [Int.ediv_ediv_of_nonneg (by omega)]
  rw [h4] at h1
  generalize x / p / 2 = q at *
  generalize x / p % 2 = r at *
  have h5 : x / p = 2 * q + r := by omega
  rw [h5, Int.mul_add] at h2
  have h6 : p * (2 * q) = p * 2 * q := by rw [Int.mul_assoc]
  omega

theorem mod_ext (x y : Int) : ∀ k : Nat, (∀ j, j < k → x / 2 ^ j % 2 = y / 2 ^ j % 2) → x % 2 ^ k = y % 2 ^ k
  | 0, _ => by simp [Int.emod_one]
  | k + 1, h => by rw [mod_succ, mod_succ, mod_ext x y k (fun j hj => h j (by omega)), h k (by omega)]

theorem word_ext (x y : Int) (k : Nat) (hx : 0 ≤ x ∧ x < 2 ^ k) (hy : 0 ≤ y ∧ y < 2 ^ k) (h : ∀ j, j < k → x / 2 ^ j % 2 = y / 2 ^ j % 2) : x = y := by
  have := mod_ext x y k h
  rwa [Int.emod_eq_of_lt hx.1 hx.2, Int.emod_eq_of_lt hy.1 hy.2] at this

theorem bit_trunc (x : Int) (k j : Nat) : x / 2 ^ k * 2 ^ k / 2 ^ j % 2 = if k ≤ j then x / 2 ^ j % 2 else 0 := by
  have hk := two_pow_pos k
  have hj := two_pow_pos j
  split
  · rename_i h
    obtain ⟨d, rfl⟩ : ∃ d, j = k + d := ⟨j - k, by omega⟩
    rw [Int.pow_add, ← Int.ediv_ediv_of_nonneg (by omega), Int.mul_ediv_cancel _ (by omega), ← Int.ediv_ediv_of_nonneg (by omega)]
  · rename_i h
    obtain ⟨d, rfl⟩ : ∃ d, k = j + (d + 1) := ⟨k - j - 1, by omega⟩
    have e : x / 2 ^ (j + (d + 1)) * 2 ^ (j + (d + 1)) = (x / 2 ^ (j + (d + 1)) * 2 ^ d * 2) * 2 ^ j := by
      rw [Int.mul_assoc, Int.mul_assoc]
      congr 1
      rw [Int.pow_add, Int.pow_succ, Int.mul_comm, Int.mul_assoc]
    rw [e, Int.mul_ediv_cancel _ (by omega)]
    omega

theorem bit_keepW (x n : Int) (j : Nat) (hj : j < 64) : keepW x n / 2 ^ j % 2 = if 64 - n ≤ j then x / 2 ^ j % 2 else 0 := by
  unfold keepW
  by_cases h0 : n ≤ 0
  · rw [if_pos h0, if_neg (by omega)]
    simp
  · rw [if_neg h0]
    by_cases h64 : 64 ≤ n
    · rw [if_pos h64, if_pos (by omega)]
    · rw [if_neg h64, bit_trunc]
      by_cases h : 64 - n ≤ j
      · rw [if_pos h, if_pos (by omega)]
      · rw [if_neg h, if_neg (by omega)]

/-- Valid addresses whose bits are alike are one. -/
theorem addr_ext (six : Bool) (hi lo hi' lo' : Int) (h1 : 0 ≤ hi ∧ hi < 18446744073709551616) (h2 : 0 ≤ lo ∧ lo < 18446744073709551616) (h3 : 0 ≤ hi' ∧ hi' < 18446744073709551616) (h4 : 0 ≤ lo' ∧ lo' < 18446744073709551616)
    (hm : mayB six hi lo = true) (hm' : mayB six hi' lo' = true) (h : ∀ i : Nat, (i : Int) < wideI six → bitI six hi lo i = bitI six hi' lo' i) : hi = hi' ∧ lo = lo' := by
  have e64 : (2 : Int) ^ 64 = 18446744073709551616 := by decide
  have e32 : (2 : Int) ^ 32 = 4294967296 := by decide
  cases six
  · have f1 := mayB_four hm
    have f2 := mayB_four hm'
    refine ⟨by omega, word_ext lo lo' 32 (by omega) (by omega) fun j hj => ?_⟩
    have := h (31 - j) (by unfold wideI; simp; omega)
    unfold bitI at this
    rw [if_neg (by simp), if_neg (by simp), show (31 - ((31 - j : Nat) : Int)).toNat = j from by omega] at this
    exact this
  · refine ⟨word_ext hi hi' 64 (by omega) (by omega) fun j hj => ?_, word_ext lo lo' 64 (by omega) (by omega) fun j hj => ?_⟩
    · have := h (63 - j) (by unfold wideI; simp; omega)
      unfold bitI at this
      rw [if_pos rfl, if_pos rfl, if_pos (by omega), if_pos (by omega), show (63 - ((63 - j : Nat) : Int)).toNat = j from by omega] at this
      exact this
    · have := h (127 - j) (by unfold wideI; simp; omega)
      unfold bitI at this
      rw [if_pos rfl, if_pos rfl, if_neg (by omega), if_neg (by omega), show (127 - ((127 - j : Nat) : Int)).toNat = j from by omega] at this
      exact this

theorem cutHi_range (six : Bool) (hi n : Int) (h1 : 0 ≤ hi ∧ hi < 18446744073709551616) : 0 ≤ cutHi six hi n ∧ cutHi six hi n < 18446744073709551616 := by
  unfold cutHi
  split
  · exact keepW_range hi n h1.1 h1.2
  · omega
theorem cutLo_range (six : Bool) (hi lo n : Int) (h2 : 0 ≤ lo ∧ lo < 18446744073709551616) (hm : mayB six hi lo = true) : (0 ≤ cutLo six lo n ∧ cutLo six lo n < 18446744073709551616) ∧ mayB six (cutHi six hi n) (cutLo six lo n) = true := by
  cases six
  · have f := mayB_four hm
    have := keepW_range (lo * 4294967296) n (by omega) (by omega)
    unfold cutLo cutHi mayB
    simp only [Bool.false_eq_true, if_false, Bool.false_or, Bool.and_eq_true, beq_self_eq_true, decide_eq_true_eq, true_and]
    omega
  · exact ⟨keepW_range lo _ h2.1 h2.2, by simp [mayB]⟩

/-- The bits of an address cut behind n bits. -/
theorem bit_cut (six : Bool) (hi lo n : Int) (i : Nat) (hm : mayB six hi lo = true) (hi' : (i : Int) < wideI six) :
    bitI six (cutHi six hi n) (cutLo six lo n) i = if (i : Int) < n then bitI six hi lo i else 0 := by
  cases six
  · have f := mayB_four hm
    have h32 : (i : Int) < 32 := hi'
    unfold bitI cutLo
    simp only [Bool.false_eq_true, ↓reduceIte]
    rw [keep4_eq]
    by_cases h0 : n ≤ 0
    · rw [if_pos h0, if_neg (by omega)]
      simp
    · rw [if_neg h0]
      by_cases h3 : 32 ≤ n
      · rw [if_pos h3, if_pos (by omega)]
      · rw [if_neg h3, bit_trunc]
        by_cases h : (i : Int) < n
        · rw [if_pos h, if_pos (by omega)]
        · rw [if_neg h, if_neg (by omega)]
  · have h128 : (i : Int) < 128 := hi'
    unfold bitI cutLo cutHi
    simp only [↓reduceIte]
    by_cases h64 : (i : Int) < 64
    · rw [if_pos h64, if_pos h64, bit_keepW hi n _ (by omega)]
      by_cases h : (i : Int) < n
      · rw [if_pos h, if_pos (by omega)]
      · rw [if_neg h, if_neg (by omega)]
    · rw [if_neg h64, if_neg h64, bit_keepW lo _ _ (by omega)]
      by_cases h : (i : Int) < n
      · rw [if_pos h, if_pos (by omega)]
      · rw [if_neg h, if_neg (by omega)]

/-- Has a prefix an address of its family? -/
def inB (six : Bool) (hi lo n : Int) (six' : Bool) (hi' lo' : Int) : Bool :=
  (six' == six) && (cutHi six' hi' n == hi && cutLo six' lo' n == lo)

/-- A valid prefix. -/
structure Pfx (six : Bool) (hi lo n : Int) : Prop where
  rhi : 0 ≤ hi ∧ hi < 18446744073709551616
  rlo : 0 ≤ lo ∧ lo < 18446744073709551616
  may : mayB six hi lo = true
  len : 0 ≤ n ∧ n ≤ wideI six
  clean : cleanB six hi lo n = true

theorem chk_zero {six : Bool} {hi lo n : Int} (h1 : 0 ≤ hi ∧ hi < 18446744073709551616) (h2 : 0 ≤ lo ∧ lo < 18446744073709551616) (h : chk six hi lo n = 0) : Pfx six hi lo n := by
  unfold chk at h
  by_cases hm : mayB six hi lo = false
  · rw [if_pos hm] at h; omega
  · rw [if_neg hm] at h
    by_cases hr : n < 0 ∨ wideI six < n
    · rw [if_pos hr] at h; omega
    · rw [if_neg hr] at h
      by_cases hc : cleanB six hi lo n = true
      · exact ⟨h1, h2, by simpa using hm, by omega, hc⟩
      · rw [if_neg hc] at h; omega

theorem inB_iff {six : Bool} {hi lo hi' lo' : Int} {n : Nat} (hp : Pfx six hi lo n) (h1 : 0 ≤ hi' ∧ hi' < 18446744073709551616) (h2 : 0 ≤ lo' ∧ lo' < 18446744073709551616) (hm : mayB six hi' lo' = true) :
    inB six hi lo n six hi' lo' = true ↔ ∀ i : Nat, i < n → bitI six hi lo i = bitI six hi' lo' i := by
  have hc := (clean_iff six hi lo n hp.rhi hp.rlo hp.may hp.len.2).1 hp.clean
  unfold inB
  simp only [beq_self_eq_true, Bool.true_and, Bool.and_eq_true, beq_iff_eq]
  constructor
  · rintro ⟨e1, e2⟩ i hi0
    have := bit_cut six hi' lo' n i hm (by have := hp.len.2; omega)
    rw [e1, e2, if_pos (by omega)] at this
    exact this
  · intro h
    have hr := cutLo_range six hi' lo' n h2 hm
    refine addr_ext six _ _ _ _ (cutHi_range six hi' n h1) hr.1 hp.rhi hp.rlo hr.2 hp.may fun i hi0 => ?_
    rw [bit_cut six hi' lo' n i hm hi0]
    split
    · exact (h i (by omega)).symm
    · exact (hc i (by omega) hi0).symm

end Go.Proofs.Ytmljdjakbbedlaa

namespace Go.Proofs.Ytmljdjakbbedlaa
set_option linter.unusedVariables false

/-- The number that bits make, the highest first. -/
def numL (l : List Int) : Int := l.foldl (fun a b => 2 * a + b) 0
def Bits (l : List Int) : Prop := ∀ b ∈ l, 0 ≤ b ∧ b ≤ 1

theorem numL_nil : numL [] = 0 := rfl
theorem numL_snoc (l : List Int) (b : Int) : numL (l ++ [b]) = 2 * numL l + b := by simp [numL, List.foldl_append]
theorem numL_range (l : List Int) (h : Bits l) : 0 ≤ numL l ∧ numL l < 2 ^ l.length := by
  induction hk : l.length generalizing l with
  | zero =>
    have : l = [] := List.eq_nil_of_length_eq_zero hk
    subst this
    simp [numL]
  | succ m ih =>
    rcases List.eq_nil_or_concat l with rfl | ⟨l', b, rfl⟩
    · simp at hk
    · rw [List.concat_eq_append] at *
      have hb := h b (by simp)
      have := ih l' (fun x hx => h x (by simp [hx])) (by simpa using hk)
      rw [numL_snoc, Int.pow_succ]
      omega

/-- The bits of such a number are the bits. -/
theorem numL_bit (l : List Int) (h : Bits l) : ∀ (i : Nat) (b : Int), l[i]? = some b → numL l / 2 ^ (l.length - 1 - i) % 2 = b := by
  induction hk : l.length generalizing l with
  | zero =>
    intro i b hb
    have : l = [] := List.eq_nil_of_length_eq_zero hk
    subst this
    simp at hb
  | succ m ih =>
    intro i b hb
    rcases List.eq_nil_or_concat l with rfl | ⟨l', c, rfl⟩
    · simp at hk
    · rw [List.concat_eq_append] at *
      have hc := h c (by simp)
      have hl : l'.length = m := by simpa using hk
      rw [numL_snoc]
      rcases Nat.lt_or_ge i m with hi | hi
      · rw [List.getElem?_append_left (by omega)] at hb
        have := ih l' (fun x hx => h x (by simp [hx])) hl i b hb
        rw [show m + 1 - 1 - i = (m - 1 - i) + 1 from by omega, Int.pow_succ, Int.mul_comm (2 ^ (m - 1 - i)) 2, ← Int.ediv_ediv_of_nonneg (by omega)]
        rw [show (2 * numL l' + c) / 2 = numL l' from by omega]
        exact this
      · rw [List.getElem?_append_right (by omega)] at hb
        have hz : i - l'.length = 0 := by
          rcases Nat.eq_zero_or_pos (i - l'.length) with h0 | h0
          · exact h0
          · rw [List.getElem?_eq_none (by simp; omega)] at hb; cases hb
        rw [hz] at hb
        simp at hb
        subst hb
        rw [show m + 1 - 1 - i = 0 from by omega]
        simp
        omega

theorem Bits.take {l : List Int} (h : Bits l) (k : Nat) : Bits (l.take k) := fun b hb => h b (List.mem_of_mem_take hb)
theorem Bits.drop {l : List Int} (h : Bits l) (k : Nat) : Bits (l.drop k) := fun b hb => h b (List.mem_of_mem_drop hb)

/-- The words that bits of an address make. -/
def hiOf (six : Bool) (l : List Int) : Int := if six then numL (l.take 64) else 0
def loOf (six : Bool) (l : List Int) : Int := if six then numL (l.drop 64) else numL l

theorem e64 : (2 : Int) ^ 64 = 18446744073709551616 := by decide
theorem e32 : (2 : Int) ^ 32 = 4294967296 := by decide

theorem of_range (six : Bool) (l : List Int) (h : Bits l) (hl : (l.length : Int) = wideI six) :
    (0 ≤ hiOf six l ∧ hiOf six l < 18446744073709551616) ∧ (0 ≤ loOf six l ∧ loOf six l < 18446744073709551616) ∧ mayB six (hiOf six l) (loOf six l) = true := by
  cases six
  · have hl' : (l.length : Int) = 32 := hl
    have hl2 : l.length = 32 := by omega
    have r := numL_range l h
    rw [hl2, e32] at r
    unfold hiOf loOf mayB
    simp only [Bool.false_eq_true, ↓reduceIte, Bool.false_or, Bool.and_eq_true, beq_self_eq_true, decide_eq_true_eq, true_and]
    omega
  · have hl' : (l.length : Int) = 128 := hl
    have r1 := numL_range (l.take 64) (h.take 64)
    have r2 := numL_range (l.drop 64) (h.drop 64)
    rw [List.length_take, show min 64 l.length = 64 from by omega, e64] at r1
    rw [List.length_drop, show l.length - 64 = 64 from by omega, e64] at r2
    unfold hiOf loOf
    simp only [↓reduceIte]
    exact ⟨r1, r2, by simp [mayB]⟩

theorem of_bit (six : Bool) (l : List Int) (h : Bits l) (hl : (l.length : Int) = wideI six) (i : Nat) (b : Int) (hb : l[i]? = some b) : bitI six (hiOf six l) (loOf six l) i = b := by
  have hil := (List.getElem?_eq_some_iff.1 hb).1
  cases six
  · have hl' : (l.length : Int) = 32 := hl
    have := numL_bit l h i b hb
    unfold bitI loOf
    simp only [Bool.false_eq_true, ↓reduceIte]
    rwa [show (31 - (i : Int)).toNat = l.length - 1 - i from by omega]
  · have hl' : (l.length : Int) = 128 := hl
    unfold bitI loOf hiOf
    simp only [↓reduceIte]
    by_cases h64 : i < 64
    · rw [if_pos (by omega)]
      have := numL_bit (l.take 64) (h.take 64) i b (by rw [List.getElem?_take_of_lt h64]; exact hb)
      rw [List.length_take, show min 64 l.length = 64 from by omega] at this
      rwa [show (63 - (i : Int)).toNat = 64 - 1 - i from by omega]
    · rw [if_neg (by omega)]
      have := numL_bit (l.drop 64) (h.drop 64) (i - 64) b (by rw [List.getElem?_drop, show 64 + (i - 64) = i from by omega]; exact hb)
      rw [List.length_drop, show l.length - 64 = 64 from by omega] at this
      rwa [show (127 - (i : Int)).toNat = 64 - 1 - (i - 64) from by omega]

/-- Words whose bits are given. -/
theorem of_unique (six : Bool) (l : List Int) (h : Bits l) (hl : (l.length : Int) = wideI six) (hi lo : Int) (h1 : 0 ≤ hi ∧ hi < 18446744073709551616) (h2 : 0 ≤ lo ∧ lo < 18446744073709551616) (hm : mayB six hi lo = true)
    (hb : ∀ i : Nat, (i : Int) < wideI six → l[i]? = some (bitI six hi lo i)) : hiOf six l = hi ∧ loOf six l = lo := by
  have r := of_range six l h hl
  exact addr_ext six _ _ _ _ r.1 r.2.1 h1 h2 r.2.2 hm fun i hi' => of_bit six l h hl i _ (hb i hi')

end Go.Proofs.Ytmljdjakbbedlaa

namespace Go.Proofs.Ytmljdjakbbedlaa
set_option linter.unusedVariables false

theorem int_bit (x j : Nat) : ((x : Int) / 2 ^ j % 2) = ((x.testBit j).toNat : Int) := by
  have e : ((x : Int) / 2 ^ j % 2) = ((x / 2 ^ j % 2 : Nat) : Int) := by simp
  rw [e, Nat.testBit_eq_decide_div_mod_eq]
  rcases (by omega : x / 2 ^ j % 2 = 0 ∨ x / 2 ^ j % 2 = 1) with h | h <;> simp [h]

theorem onesI_keep (n : Int) : onesI n = keepW 18446744073709551615 n := by
  have h := and_ones_int 18446744073709551615 n (by omega) (by omega)
  have hr := onesI_range n
  rw [← h, Nat.and_comm, show (18446744073709551615 : Int).toNat = 2 ^ 64 - 1 from by decide, Nat.and_two_pow_sub_one_eq_mod]
  have : (2 ^ 64 : Nat) = 18446744073709551616 := by decide
  rw [Nat.mod_eq_of_lt (by omega)]
  omega

theorem ones_bit (n : Int) (j : Nat) (hj : j < 64) : (onesI n).toNat.testBit j = decide (64 - n ≤ j) := by
  have h1 := int_bit (onesI n).toNat j
  rw [Int.toNat_of_nonneg (onesI_range n).1, onesI_keep, bit_keepW _ n j hj] at h1
  have h2 : (18446744073709551615 : Int) / 2 ^ j % 2 = 1 := by
    have := int_bit (2 ^ 64 - 1) j
    rw [Nat.testBit_two_pow_sub_one] at this
    have e : ((2 ^ 64 - 1 : Nat) : Int) = 18446744073709551615 := by decide
    rw [e] at this
    rw [this]
    simp [hj]
  rw [h2] at h1
  cases hb : (onesI n).toNat.testBit j
  · rw [← onesI_keep, hb] at h1
    by_cases hc : 64 - n ≤ (j : Int)
    · rw [if_pos hc] at h1; simp at h1
    · simp [hc]
  · rw [← onesI_keep, hb] at h1
    by_cases hc : 64 - n ≤ (j : Int)
    · simp [hc]
    · rw [if_neg hc] at h1; simp at h1

/-- A word behind whose first n bits all is 1. -/
def fillN (x m : Int) : Nat := x.toNat ||| (18446744073709551615 ^^^ m.toNat)

theorem fillN_lt (x m : Int) (hx : 0 ≤ x ∧ x < 18446744073709551616) (hm : 0 ≤ m ∧ m < 18446744073709551616) : fillN x m < 2 ^ 64 := by
  have e : (2 ^ 64 : Nat) = 18446744073709551616 := by decide
  exact Nat.or_lt_two_pow (by omega) (Nat.xor_lt_two_pow (by omega) (by omega))
theorem fillN_bit (x m : Int) (j : Nat) (hj : j < 64) : (fillN x m).testBit j = (x.toNat.testBit j || !m.toNat.testBit j) := by
  unfold fillN
  rw [Nat.testBit_or, Nat.testBit_xor, show (18446744073709551615 : Nat) = 2 ^ 64 - 1 from by decide, Nat.testBit_two_pow_sub_one]
  simp [hj]

/-- All bits of the last address of a prefix. -/
def lastL (six : Bool) (hi lo n : Int) : List Int := (List.range (wideI six).toNat).map fun (i : Nat) => if (i : Int) < n then bitI six hi lo i else 1
def lastHi (six : Bool) (hi lo n : Int) : Int := hiOf six (lastL six hi lo n)
def lastLo (six : Bool) (hi lo n : Int) : Int := loOf six (lastL six hi lo n)

theorem lastL_length (six : Bool) (hi lo n : Int) : ((lastL six hi lo n).length : Int) = wideI six := by
  unfold lastL wideI
  cases six <;> simp
theorem lastL_bits (six : Bool) (hi lo n : Int) : Bits (lastL six hi lo n) := by
  intro b hb
  unfold lastL at hb
  obtain ⟨i, _, rfl⟩ := List.mem_map.1 hb
  have := bitI_01 six hi lo i
  split <;> omega
theorem lastL_at (six : Bool) (hi lo n : Int) (i : Nat) (hi' : (i : Int) < wideI six) : (lastL six hi lo n)[i]? = some (if (i : Int) < n then bitI six hi lo i else 1) := by
  unfold lastL
  rw [List.getElem?_map, List.getElem?_range (by omega)]
  rfl

theorem last_range (six : Bool) (hi lo n : Int) : (0 ≤ lastHi six hi lo n ∧ lastHi six hi lo n < 18446744073709551616) ∧ (0 ≤ lastLo six hi lo n ∧ lastLo six hi lo n < 18446744073709551616) ∧ mayB six (lastHi six hi lo n) (lastLo six hi lo n) = true :=
  of_range six _ (lastL_bits six hi lo n) (lastL_length six hi lo n)
theorem last_bit (six : Bool) (hi lo n : Int) (i : Nat) (hi' : (i : Int) < wideI six) : bitI six (lastHi six hi lo n) (lastLo six hi lo n) i = if (i : Int) < n then bitI six hi lo i else 1 :=
  of_bit six _ (lastL_bits six hi lo n) (lastL_length six hi lo n) i _ (lastL_at six hi lo n i hi')

theorem last_six_eq (hi lo n : Int) (h1 : 0 ≤ hi ∧ hi < 18446744073709551616) (h2 : 0 ≤ lo ∧ lo < 18446744073709551616) :
    lastHi true hi lo n = (fillN hi (onesI n) : Int) ∧ lastLo true hi lo n = (fillN lo (onesI (n - 64)) : Int) := by
  have e : (2 ^ 64 : Nat) = 18446744073709551616 := by decide
  have f1 := fillN_lt hi (onesI n) h1 (onesI_range n)
  have f2 := fillN_lt lo (onesI (n - 64)) h2 (onesI_range _)
  refine of_unique true _ (lastL_bits true hi lo n) (lastL_length true hi lo n) _ _ (by omega) (by omega) (by simp [mayB]) fun i hi' => ?_
  rw [lastL_at true hi lo n i hi']
  have h128 : (i : Int) < 128 := hi'
  congr 1
  unfold bitI
  simp only [↓reduceIte]
  by_cases h64 : (i : Int) < 64
  · rw [if_pos h64, if_pos h64]
    rw [int_bit, fillN_bit _ _ _ (by omega), ones_bit _ _ (by omega)]
    have := int_bit hi.toNat (63 - (i : Int)).toNat
    rw [Int.toNat_of_nonneg h1.1] at this
    rw [this]
    by_cases hc : (i : Int) < n
    · rw [if_pos hc, show decide (64 - n ≤ ((63 - (i : Int)).toNat : Int)) = true from by simp; omega]
      simp
    · rw [if_neg hc, show decide (64 - n ≤ ((63 - (i : Int)).toNat : Int)) = false from by simp; omega]
      simp
  · rw [if_neg h64, if_neg h64]
    rw [int_bit, fillN_bit _ _ _ (by omega), ones_bit _ _ (by omega)]
    have := int_bit lo.toNat (127 - (i : Int)).toNat
    rw [Int.toNat_of_nonneg h2.1] at this
    rw [this]
    by_cases hc : (i : Int) < n
    · rw [if_pos hc, show decide (64 - (n - 64) ≤ ((127 - (i : Int)).toNat : Int)) = true from by simp; omega]
      simp
    · rw [if_neg hc, show decide (64 - (n - 64) ≤ ((127 - (i : Int)).toNat : Int)) = false from by simp; omega]
      simp

theorem last_four_eq (hi lo n : Int) (h2 : 0 ≤ lo ∧ lo < 18446744073709551616) :
    lastHi false hi lo n = 0 ∧ lastLo false hi lo n = ((fillN lo (onesI n / 4294967296) % 2 ^ 32 : Nat) : Int) := by
  have e : (2 ^ 32 : Nat) = 4294967296 := by decide
  have hlt : fillN lo (onesI n / 4294967296) % 2 ^ 32 < 2 ^ 32 := Nat.mod_lt _ (by omega)
  refine of_unique false _ (lastL_bits false hi lo n) (lastL_length false hi lo n) _ _ (by omega) (by omega) (by simp [mayB]; omega) fun i hi' => ?_
  rw [lastL_at false hi lo n i hi']
  have h32 : (i : Int) < 32 := hi'
  congr 1
  unfold bitI
  simp only [Bool.false_eq_true, ↓reduceIte]
  rw [int_bit, Nat.testBit_mod_two_pow, fillN_bit _ _ _ (by omega)]
  have hm : (onesI n / 4294967296).toNat.testBit (31 - (i : Int)).toNat = (onesI n).toNat.testBit (63 - (i : Int)).toNat := by
    rw [show (onesI n / 4294967296).toNat = (onesI n).toNat / 2 ^ 32 from by have := onesI_range n; omega, Nat.testBit_div_two_pow, show (31 - (i : Int)).toNat + 32 = (63 - (i : Int)).toNat from by omega]
  rw [hm, ones_bit _ _ (by omega)]
  have := int_bit lo.toNat (31 - (i : Int)).toNat
  rw [Int.toNat_of_nonneg h2.1] at this
  rw [this, show decide ((31 - (i : Int)).toNat < 32) = true from by simp; omega]
  by_cases hc : (i : Int) < n
  · rw [if_pos hc, show decide (64 - n ≤ ((63 - (i : Int)).toNat : Int)) = true from by simp; omega]
    simp
  · rw [if_neg hc, show decide (64 - n ≤ ((63 - (i : Int)).toNat : Int)) = false from by simp; omega]
    simp

end Go.Proofs.Ytmljdjakbbedlaa

namespace Go.Proofs.Ytmljdjakbbedlaa
set_option linter.unusedVariables false

/-- A word with bit k set. -/
def setN (x : Int) (k : Nat) : Nat := x.toNat ||| 2 ^ k
theorem setN_lt (x : Int) (k : Nat) (hx : 0 ≤ x ∧ x < 18446744073709551616) (hk : k < 64) : setN x k < 2 ^ 64 := by
  have e : (2 ^ 64 : Nat) = 18446744073709551616 := by decide
  exact Nat.or_lt_two_pow (by omega) (Nat.pow_lt_pow_right (by omega) hk)
theorem setN_lt4 (x : Int) (k : Nat) (hx : 0 ≤ x ∧ x < 4294967296) (hk : k < 32) : setN x k < 2 ^ 32 := by
  have e : (2 ^ 32 : Nat) = 4294967296 := by decide
  exact Nat.or_lt_two_pow (by omega) (Nat.pow_lt_pow_right (by omega) hk)
theorem setN_bit (x : Int) (k j : Nat) (hx : 0 ≤ x) : ((setN x k : Nat) : Int) / 2 ^ j % 2 = if j = k then 1 else x / 2 ^ j % 2 := by
  rw [int_bit]
  unfold setN
  rw [Nat.testBit_or, Nat.testBit_two_pow]
  have h := int_bit x.toNat j
  rw [Int.toNat_of_nonneg hx] at h
  rw [h]
  by_cases hj : j = k
  · subst hj
    simp
  · rw [if_neg hj, show decide (k = j) = false from by simp; omega]
    simp

def setHi (six : Bool) (hi : Int) (n : Nat) : Int := if six = true ∧ n < 64 then (setN hi (63 - n) : Int) else hi
def setLo (six : Bool) (lo : Int) (n : Nat) : Int := if six = true then (if n < 64 then lo else (setN lo (127 - n) : Int)) else (setN lo (31 - n) : Int)

theorem set_range (six : Bool) (hi lo : Int) (n : Nat) (h1 : 0 ≤ hi ∧ hi < 18446744073709551616) (h2 : 0 ≤ lo ∧ lo < 18446744073709551616) (hm : mayB six hi lo = true) (hn : (n : Int) < wideI six) :
    (0 ≤ setHi six hi n ∧ setHi six hi n < 18446744073709551616) ∧ (0 ≤ setLo six lo n ∧ setLo six lo n < 18446744073709551616) ∧ mayB six (setHi six hi n) (setLo six lo n) = true := by
  have e : (2 ^ 64 : Nat) = 18446744073709551616 := by decide
  have e' : (2 ^ 32 : Nat) = 4294967296 := by decide
  cases six
  · have hn' : (n : Int) < 32 := hn
    have hq := mayB_four hm
    have := setN_lt4 lo (31 - n) ⟨h2.1, hq.2⟩ (by omega)
    unfold setHi setLo
    simp only [Bool.false_eq_true, false_and, ↓reduceIte]
    refine ⟨h1, by omega, ?_⟩
    simp only [mayB, Bool.false_or, Bool.and_eq_true, beq_iff_eq, decide_eq_true_eq]
    exact ⟨hq.1, by omega⟩
  · have hn' : (n : Int) < 128 := hn
    unfold setHi setLo
    simp only [true_and, ↓reduceIte]
    by_cases h64 : n < 64
    · rw [if_pos h64, if_pos h64]
      have := setN_lt hi (63 - n) h1 (by omega)
      exact ⟨by omega, h2, by simp [mayB]⟩
    · rw [if_neg h64, if_neg h64]
      have := setN_lt lo (127 - n) h2 (by omega)
      exact ⟨h1, by omega, by simp [mayB]⟩

theorem set_bit (six : Bool) (hi lo : Int) (n i : Nat) (h1 : 0 ≤ hi ∧ hi < 18446744073709551616) (h2 : 0 ≤ lo ∧ lo < 18446744073709551616) (hn : (n : Int) < wideI six) (hi' : (i : Int) < wideI six) :
    bitI six (setHi six hi n) (setLo six lo n) i = if i = n then 1 else bitI six hi lo i := by
  cases six
  · have hn' : (n : Int) < 32 := hn
    have hi2 : (i : Int) < 32 := hi'
    unfold bitI setLo
    simp only [Bool.false_eq_true, ↓reduceIte]
    rw [setN_bit _ _ _ h2.1]
    by_cases hc : i = n
    · rw [if_pos (by omega), if_pos hc]
    · rw [if_neg (by omega), if_neg hc]
  · have hn' : (n : Int) < 128 := hn
    have hi2 : (i : Int) < 128 := hi'
    unfold bitI setHi setLo
    simp only [true_and, ↓reduceIte]
    by_cases h64 : n < 64
    · rw [if_pos h64, if_pos h64]
      by_cases hi64 : (i : Int) < 64
      · rw [if_pos hi64, if_pos hi64, setN_bit _ _ _ h1.1]
        by_cases hc : i = n
        · rw [if_pos (by omega), if_pos hc]
        · rw [if_neg (by omega), if_neg hc]
      · rw [if_neg hi64, if_neg hi64, if_neg (by omega)]
    · rw [if_neg h64, if_neg h64]
      by_cases hi64 : (i : Int) < 64
      · rw [if_pos hi64, if_pos hi64, if_neg (by omega)]
      · rw [if_neg hi64, if_neg hi64, setN_bit _ _ _ h2.1]
        by_cases hc : i = n
        · rw [if_pos (by omega), if_pos hc]
        · rw [if_neg (by omega), if_neg hc]

/-- The bits of an address, one of them set, make that address. -/
theorem set_bits (six : Bool) (hi lo : Int) (n : Nat) (h1 : 0 ≤ hi ∧ hi < 18446744073709551616) (h2 : 0 ≤ lo ∧ lo < 18446744073709551616) (hm : mayB six hi lo = true) (hn : (n : Int) < wideI six) :
    hiOf six ((bitsL six hi lo).set n 1) = setHi six hi n ∧ loOf six ((bitsL six hi lo).set n 1) = setLo six lo n := by
  have hr := set_range six hi lo n h1 h2 hm hn
  have hlen : (bitsL six hi lo).length = (wideI six).toNat := bitsL_length six hi lo
  have hw := wideI_le six
  refine of_unique six _ ?_ (by rw [List.length_set, hlen]; omega) _ _ hr.1 hr.2.1 hr.2.2 fun i hi' => ?_
  · intro b hb
    rcases List.mem_or_eq_of_mem_set hb with hb | rfl
    · obtain ⟨j, _, rfl⟩ := List.mem_map.1 hb
      exact bitI_01 six hi lo j
    · omega
  · rw [set_bit six hi lo n i h1 h2 hn hi', List.getElem?_set]
    by_cases hc : i = n
    · subst hc
      rw [if_pos rfl, if_pos rfl, if_pos (by omega)]
    · rw [if_neg (fun h => hc h.symm), if_neg hc]
      unfold bitsL
      rw [List.getElem?_map, List.getElem?_range (by omega)]
      rfl

end Go.Proofs.Ytmljdjakbbedlaa

namespace Go.Proofs.Ytmljdjakbbedlaa
set_option linter.unusedVariables false

theorem bitLen_zero : Lib.bitLen 0 = 0 := Lib.bitLenAux_zero _
theorem bitLen_bounds (x : Nat) (h : x < 2 ^ 64) (h0 : x ≠ 0) : 1 ≤ Lib.bitLen x ∧ 2 ^ (Lib.bitLen x - 1) ≤ x ∧ x < 2 ^ Lib.bitLen x := Lib.bitLenAux_bounds 64 x h h0

/-- The bits above a number's length are 0. -/
theorem bitLen_above (x j : Nat) (h : x < 2 ^ 64) (hj : Lib.bitLen x ≤ j) : x.testBit j = false := by
  by_cases h0 : x = 0
  · subst h0; simp
  · exact Nat.testBit_lt_two_pow (Nat.lt_of_lt_of_le (bitLen_bounds x h h0).2.2 (Nat.pow_le_pow_right (by omega) hj))
/-- Its highest bit is 1. -/
theorem bitLen_top (x : Nat) (h : x < 2 ^ 64) (h0 : x ≠ 0) : x.testBit (Lib.bitLen x - 1) = true := by
  have hb := bitLen_bounds x h h0
  rw [Nat.testBit_eq_decide_div_mod_eq]
  have h1 : x / 2 ^ (Lib.bitLen x - 1) = 1 := by
    have hp : (2 : Nat) ^ Lib.bitLen x = 2 ^ (Lib.bitLen x - 1) * 2 := by rw [← Nat.pow_succ, show (Lib.bitLen x - 1).succ = Lib.bitLen x from by omega]
    apply Nat.div_eq_of_lt_le
    · omega
    · omega
  rw [h1]
  rfl

theorem xor_bit (x y : Int) (j : Nat) (hx : 0 ≤ x) (hy : 0 ≤ y) : (x.toNat ^^^ y.toNat).testBit j = false ↔ x / 2 ^ j % 2 = y / 2 ^ j % 2 := by
  rw [Nat.testBit_xor]
  have h1 := int_bit x.toNat j
  have h2 := int_bit y.toNat j
  rw [Int.toNat_of_nonneg hx] at h1
  rw [Int.toNat_of_nonneg hy] at h2
  rw [h1, h2]
  cases x.toNat.testBit j <;> cases y.toNat.testBit j <;> simp

/-- How many of the first W bits of two words are alike. -/
def wordAlike (W : Nat) (x y : Int) : Int := W - (Lib.bitLen (x.toNat ^^^ y.toNat) : Int)

theorem xor_lt (W : Nat) (x y : Int) (hx : 0 ≤ x ∧ x < 2 ^ W) (hy : 0 ≤ y ∧ y < 2 ^ W) : x.toNat ^^^ y.toNat < 2 ^ W := by
  have h1 : x.toNat < 2 ^ W := by
    have : ((2 ^ W : Nat) : Int) = (2 : Int) ^ W := by simp
    omega
  have h2 : y.toNat < 2 ^ W := by
    have : ((2 ^ W : Nat) : Int) = (2 : Int) ^ W := by simp
    omega
  exact Nat.xor_lt_two_pow h1 h2

theorem bitLen_le_of_lt (x W : Nat) (hW : W ≤ 64) (h : x < 2 ^ W) : Lib.bitLen x ≤ W := by
  by_cases h0 : x = 0
  · subst h0; rw [bitLen_zero]; omega
  · have h64 : x < 2 ^ 64 := Nat.lt_of_lt_of_le h (Nat.pow_le_pow_right (by omega) hW)
    have hb := bitLen_bounds x h64 h0
    rcases Nat.lt_or_ge W (Lib.bitLen x) with hlt | hge
    · exfalso
      have : (2 : Nat) ^ W ≤ 2 ^ (Lib.bitLen x - 1) := Nat.pow_le_pow_right (by omega) (by omega)
      omega
    · exact hge

theorem wordAlike_range (W : Nat) (x y : Int) (hW : W ≤ 64) (hx : 0 ≤ x ∧ x < 2 ^ W) (hy : 0 ≤ y ∧ y < 2 ^ W) : 0 ≤ wordAlike W x y ∧ wordAlike W x y ≤ W := by
  have := bitLen_le_of_lt _ W hW (xor_lt W x y hx hy)
  unfold wordAlike
  omega

/-- The first n bits of two words are the same just if n is at most so much. -/
theorem wordAlike_iff (W : Nat) (x y : Int) (n : Nat) (hW : W ≤ 64) (hn : n ≤ W) (hx : 0 ≤ x ∧ x < 2 ^ W) (hy : 0 ≤ y ∧ y < 2 ^ W) :
    (n : Int) ≤ wordAlike W x y ↔ ∀ i : Nat, i < n → x / 2 ^ (W - 1 - i) % 2 = y / 2 ^ (W - 1 - i) % 2 := by
  have hlt := xor_lt W x y hx hy
  have h64 : x.toNat ^^^ y.toNat < 2 ^ 64 := Nat.lt_of_lt_of_le hlt (Nat.pow_le_pow_right (by omega) hW)
  have hle := bitLen_le_of_lt _ W hW hlt
  unfold wordAlike
  constructor
  · intro h i hi
    rw [← xor_bit x y _ hx.1 hy.1]
    exact bitLen_above _ _ h64 (by omega)
  · intro h
    by_cases h0 : x.toNat ^^^ y.toNat = 0
    · rw [h0, bitLen_zero]; omega
    · have hb := bitLen_bounds _ h64 h0
      have ht := bitLen_top _ h64 h0
      generalize Lib.bitLen (x.toNat ^^^ y.toNat) = L at *
      rcases Nat.lt_or_ge (W - L) n with hc | hc
      · exfalso
        have := h (W - L) hc
        rw [show W - 1 - (W - L) = L - 1 from by omega, ← xor_bit x y _ hx.1 hy.1] at this
        rw [this] at ht
        cases ht
      · omega

theorem wordAlike_eq (W : Nat) (x : Int) : wordAlike W x x = W := by
  unfold wordAlike
  rw [Nat.xor_self, bitLen_zero]
  simp

/-- How many bits two addresses of one family have in common, from the first one on. -/
def alikeI (six : Bool) (hi lo hi' lo' : Int) : Int :=
  if six = false then wordAlike 32 lo lo' else if hi = hi' then 64 + wordAlike 64 lo lo' else wordAlike 64 hi hi'

theorem alike_iff (six : Bool) (hi lo hi' lo' : Int) (n : Nat) (h1 : 0 ≤ hi ∧ hi < 18446744073709551616) (h2 : 0 ≤ lo ∧ lo < 18446744073709551616) (h3 : 0 ≤ hi' ∧ hi' < 18446744073709551616) (h4 : 0 ≤ lo' ∧ lo' < 18446744073709551616)
    (hm : mayB six hi lo = true) (hm' : mayB six hi' lo' = true) (hn : (n : Int) ≤ wideI six) :
    (n : Int) ≤ alikeI six hi lo hi' lo' ↔ ∀ i : Nat, i < n → bitI six hi lo i = bitI six hi' lo' i := by
  have e : (2 : Int) ^ 64 = 18446744073709551616 := by decide
  have e' : (2 : Int) ^ 32 = 4294967296 := by decide
  cases six
  · have hn' : (n : Int) ≤ 32 := hn
    have q := mayB_four hm
    have q' := mayB_four hm'
    unfold alikeI
    rw [if_pos rfl, wordAlike_iff 32 lo lo' n (by omega) (by omega) (by omega) (by omega)]
    have hb : ∀ (hi lo : Int) (i : Nat), i < n → bitI false hi lo i = lo / 2 ^ (32 - 1 - i) % 2 := by
      intro hi lo i hi0
      unfold bitI
      rw [if_neg (by simp), show (31 - (i : Int)).toNat = 32 - 1 - i from by omega]
    constructor
    · intro h i hi0; rw [hb _ _ _ hi0, hb _ _ _ hi0]; exact h i hi0
    · intro h i hi0; have := h i hi0; rw [hb _ _ _ hi0, hb _ _ _ hi0] at this; exact this
  · have hn' : (n : Int) ≤ 128 := hn
    have hH : ∀ (hi lo : Int) (i : Nat), i < 64 → bitI true hi lo i = hi / 2 ^ (64 - 1 - i) % 2 := by
      intro hi lo i hi0
      unfold bitI
      rw [if_pos rfl, if_pos (by omega), show (63 - (i : Int)).toNat = 64 - 1 - i from by omega]
    have hL : ∀ (hi lo : Int) (i : Nat), i < 64 → bitI true hi lo ((64 + i : Nat) : Int) = lo / 2 ^ (64 - 1 - i) % 2 := by
      intro hi lo i hi0
      unfold bitI
      rw [if_pos rfl, if_neg (by omega), show (127 - ((64 + i : Nat) : Int)).toNat = 64 - 1 - i from by omega]
    unfold alikeI
    rw [if_neg (by simp)]
    by_cases hh : hi = hi'
    · subst hh
      rw [if_pos rfl]
      have r := wordAlike_range 64 lo lo' (by omega) (by omega) (by omega)
      rcases Nat.lt_or_ge n 64 with hc | hc
      · constructor
        · intro _ i hi0; rw [hH _ _ _ (by omega), hH _ _ _ (by omega)]
        · intro _; omega
      · have hw := wordAlike_iff 64 lo lo' (n - 64) (by omega) (by omega) (by omega) (by omega)
        have e1 : (n : Int) ≤ 64 + wordAlike 64 lo lo' ↔ ((n - 64 : Nat) : Int) ≤ wordAlike 64 lo lo' := by omega
        rw [e1, hw]
        constructor
        · intro h i hi0
          rcases Nat.lt_or_ge i 64 with hi64 | hi64
          · rw [hH _ _ _ hi64, hH _ _ _ hi64]
          · obtain ⟨j, rfl⟩ : ∃ j, i = 64 + j := ⟨i - 64, by omega⟩
            rw [hL _ _ _ (by omega), hL _ _ _ (by omega)]
            exact h j (by omega)
        · intro h j hj
          have := h (64 + j) (by omega)
          rw [hL _ _ _ (by omega), hL _ _ _ (by omega)] at this
          exact this
    · rw [if_neg hh]
      have r := wordAlike_range 64 hi hi' (by omega) (by omega) (by omega)
      have hne : ∃ j : Nat, j < 64 ∧ ¬ hi / 2 ^ (64 - 1 - j) % 2 = hi' / 2 ^ (64 - 1 - j) % 2 := by
        apply Classical.byContradiction
        intro hcon
        apply hh
        refine word_ext hi hi' 64 (by omega) (by omega) fun j hj => ?_
        apply Classical.byContradiction
        intro hb
        exact hcon ⟨63 - j, by omega, by rw [show 64 - 1 - (63 - j) = j from by omega]; exact hb⟩
      obtain ⟨j, hj, hbj⟩ := hne
      rcases Nat.lt_or_ge 64 n with hc | hc
      · constructor
        · intro h; omega
        · intro h
          exfalso
          have := h j (by omega)
          rw [hH _ _ _ hj, hH _ _ _ hj] at this
          exact hbj this
      · rw [wordAlike_iff 64 hi hi' n (by omega) hc (by omega) (by omega)]
        constructor
        · intro h i hi0; rw [hH _ _ _ (by omega), hH _ _ _ (by omega)]; exact h i hi0
        · intro h i hi0; have := h i hi0; rw [hH _ _ _ (by omega), hH _ _ _ (by omega)] at this; exact this

theorem alike_range (six : Bool) (hi lo hi' lo' : Int) (h1 : 0 ≤ hi ∧ hi < 18446744073709551616) (h2 : 0 ≤ lo ∧ lo < 18446744073709551616) (h3 : 0 ≤ hi' ∧ hi' < 18446744073709551616) (h4 : 0 ≤ lo' ∧ lo' < 18446744073709551616)
    (hm : mayB six hi lo = true) (hm' : mayB six hi' lo' = true) : 0 ≤ alikeI six hi lo hi' lo' ∧ alikeI six hi lo hi' lo' ≤ wideI six := by
  have e : (2 : Int) ^ 64 = 18446744073709551616 := by decide
  have e' : (2 : Int) ^ 32 = 4294967296 := by decide
  unfold alikeI wideI
  cases six
  · have q := mayB_four hm
    have q' := mayB_four hm'
    simp only [↓reduceIte, Bool.false_eq_true]
    exact wordAlike_range 32 lo lo' (by omega) (by omega) (by omega)
  · simp only [Bool.true_eq_false, ↓reduceIte]
    have r1 := wordAlike_range 64 lo lo' (by omega) (by omega) (by omega)
    have r2 := wordAlike_range 64 hi hi' (by omega) (by omega) (by omega)
    split <;> omega

end Go.Proofs.Ytmljdjakbbedlaa

namespace Go.Proofs.Ytmljdjakbbedlaa
set_option linter.unusedVariables false

/-- Does a prefix cover another one of its family? -/
def overB (six : Bool) (hi lo n : Int) (six' : Bool) (hi' lo' n' : Int) : Bool := decide (n ≤ n') && inB six hi lo n six' hi' lo'

theorem over_iff {six : Bool} {hi lo hi' lo' : Int} {n n' : Nat} (hp : Pfx six hi lo n) (hq : Pfx six hi' lo' n') :
    overB six hi lo n six hi' lo' n' = (inB six hi lo n six hi' lo' && inB six hi lo n six (lastHi six hi' lo' n') (lastLo six hi' lo' n')) := by
  have hr := last_range six hi' lo' n'
  have h1 := inB_iff hp hq.rhi hq.rlo hq.may
  have h2 := inB_iff hp hr.1 hr.2.1 hr.2.2
  have hc := (clean_iff six hi' lo' n' hq.rhi hq.rlo hq.may hq.len.2).1 hq.clean
  have hlp := hp.len.2
  rw [Bool.eq_iff_iff]
  unfold overB
  rw [Bool.and_eq_true, Bool.and_eq_true, decide_eq_true_eq, h1, h2]
  constructor
  · rintro ⟨ha, hb⟩
    refine ⟨hb, fun i hi0 => ?_⟩
    rw [last_bit six hi' lo' n' i (by omega), if_pos (by omega)]
    exact hb i hi0
  · rintro ⟨ha, hb⟩
    refine ⟨?_, ha⟩
    rcases Nat.lt_or_ge n' n with h | h
    · have x1 := ha n' h
      have x2 := hb n' h
      rw [last_bit six hi' lo' n' n' (by omega), if_neg (by omega)] at x2
      have x3 := hc n' (Nat.le_refl _) (by omega)
      omega
    · omega

end Go.Proofs.Ytmljdjakbbedlaa

namespace Go.Proofs.Ytmljdjakbbedlaa
set_option linter.unusedVariables false

/-- The bits of an address, k of them from the n-th on turned to 0. -/
def zeroAt (six : Bool) (hi lo : Int) (m n k : Nat) : List Int := (List.range m).map fun (j : Nat) => if j < n then bitI six hi lo j else if j < n + k then 0 else bitI six hi lo j
theorem zeroAt_length (six : Bool) (hi lo : Int) (m n k : Nat) : (zeroAt six hi lo m n k).length = m := by simp [zeroAt]
theorem zeroAt_zero {six : Bool} {hi lo : Int} {m n : Nat} (hm : wideI six = m) : zeroAt six hi lo m n 0 = bitsL six hi lo := by
  unfold zeroAt bitsL
  rw [hm]
  apply List.map_congr_left
  intro j _
  split
  · rfl
  · rw [if_neg (by omega)]
theorem zeroAt_set {six : Bool} {hi lo : Int} {m n k : Nat} (hk : n + k < m) : (zeroAt six hi lo m n k).set (n + k) 0 = zeroAt six hi lo m n (k + 1) := by
  apply List.ext_getElem?
  intro j
  unfold zeroAt
  rw [List.getElem?_set]
  by_cases h : n + k = j
  · subst h
    rw [if_pos rfl, if_pos (by simpa using hk), List.getElem?_map, List.getElem?_range hk]
    simp only [Option.map_some, Option.some.injEq]
    rw [if_neg (by omega), if_pos (by omega)]
  · rw [if_neg h, List.getElem?_map, List.getElem?_map]
    rcases Nat.lt_or_ge j m with hj | hj
    · rw [List.getElem?_range hj]
      simp only [Option.map_some, Option.some.injEq]
      by_cases h1 : j < n
      · rw [if_pos h1, if_pos h1]
      · rw [if_neg h1, if_neg h1]
        by_cases h2 : j < n + k
        · rw [if_pos h2, if_pos (by omega)]
        · rw [if_neg h2, if_neg (by omega)]
    · rw [List.getElem?_eq_none (by simpa using hj)]
      rfl
theorem zeroAt_bits (six : Bool) (hi lo : Int) (m n k : Nat) : Bits (zeroAt six hi lo m n k) := by
  intro b hb
  unfold zeroAt at hb
  obtain ⟨i, _, rfl⟩ := List.mem_map.1 hb
  have := bitI_01 six hi lo i
  split
  · omega
  · split <;> omega
theorem zeroAt_words {six : Bool} {hi lo : Int} {m n k : Nat} (hm : wideI six = m) (hk : n + k = m) (h1 : 0 ≤ hi ∧ hi < 18446744073709551616) (h2 : 0 ≤ lo ∧ lo < 18446744073709551616) (hmay : mayB six hi lo = true) :
    hiOf six (zeroAt six hi lo m n k) = cutHi six hi n ∧ loOf six (zeroAt six hi lo m n k) = cutLo six lo n := by
  have hr := cutLo_range six hi lo n h2 hmay
  refine of_unique six _ (zeroAt_bits six hi lo m n k) (by rw [zeroAt_length, hm]) _ _ (cutHi_range six hi n h1) hr.1 hr.2 fun i hi' => ?_
  rw [bit_cut six hi lo n i hmay hi']
  unfold zeroAt
  rw [List.getElem?_map, List.getElem?_range (by omega)]
  simp only [Option.map_some, Option.some.injEq]
  by_cases h : i < n
  · rw [if_pos h, if_pos (by omega)]
  · rw [if_neg h, if_pos (show i < n + k by omega), if_neg (by omega)]

/-- A cut address is a prefix of that length. -/
theorem cut_pfx {six : Bool} {hi lo : Int} {n : Nat} (h1 : 0 ≤ hi ∧ hi < 18446744073709551616) (h2 : 0 ≤ lo ∧ lo < 18446744073709551616) (hm : mayB six hi lo = true) (hn : (n : Int) ≤ wideI six) :
    Pfx six (cutHi six hi n) (cutLo six lo n) n := by
  have hr := cutLo_range six hi lo n h2 hm
  have hh := cutHi_range six hi n h1
  refine ⟨hh, hr.1, hr.2, ⟨by omega, hn⟩, ?_⟩
  rw [clean_iff six _ _ n hh hr.1 hr.2 hn]
  intro i h3 h4
  rw [bit_cut six hi lo n i hm h4, if_neg (by omega)]

/-- The prefix of length n of an address covers another prefix just if n is at most that one's length, and the first n bits are the same. -/
theorem cut_over {six : Bool} {hi lo hi' lo' : Int} {n k' : Nat} (h1 : 0 ≤ hi ∧ hi < 18446744073709551616) (h2 : 0 ≤ lo ∧ lo < 18446744073709551616) (hm : mayB six hi lo = true) (hn : (n : Int) ≤ wideI six) (hq : Pfx six hi' lo' k') (hk : n ≤ k') :
    overB six (cutHi six hi n) (cutLo six lo n) n six hi' lo' k' = decide ((n : Int) ≤ alikeI six hi lo hi' lo') := by
  have hp := cut_pfx h1 h2 hm hn
  have hib := inB_iff hp hq.rhi hq.rlo hq.may
  have ha := alike_iff six hi lo hi' lo' n h1 h2 hq.rhi hq.rlo hm hq.may hn
  unfold overB
  rw [Bool.eq_iff_iff, Bool.and_eq_true, decide_eq_true_eq, decide_eq_true_eq, hib, ha]
  constructor
  · rintro ⟨_, h⟩ i hi0
    have := h i hi0
    rwa [bit_cut six hi lo n i hm (by omega), if_pos (by omega)] at this
  · intro h
    refine ⟨by omega, fun i hi0 => ?_⟩
    rw [bit_cut six hi lo n i hm (by omega), if_pos (by omega)]
    exact h i hi0

end Go.Proofs.Ytmljdjakbbedlaa

namespace Go.Proofs.Ytmljdjakbbedlaa
set_option linter.unusedVariables false

/-- A prefix as numbers. -/
structure PV where
  six : Bool
  hi : Int
  lo : Int
  n : Int

theorem PV.ext' {p q : PV} (h1 : p.six = q.six) (h2 : p.hi = q.hi) (h3 : p.lo = q.lo) (h4 : p.n = q.n) : p = q := by
  cases p; cases q; simp_all
instance : DecidableEq PV := fun a b => decidable_of_iff (a.six = b.six ∧ a.hi = b.hi ∧ a.lo = b.lo ∧ a.n = b.n)
  ⟨fun h => PV.ext' h.1 h.2.1 h.2.2.1 h.2.2.2, fun h => by subst h; exact ⟨rfl, rfl, rfl, rfl⟩⟩

def PV.Ok (p : PV) : Prop := Pfx p.six p.hi p.lo p.n
def PV.bit (p : PV) (i : Int) : Int := bitI p.six p.hi p.lo i
def PV.over (p q : PV) : Bool := overB p.six p.hi p.lo p.n q.six q.hi q.lo q.n
def PV.comN (p q : PV) : Int := min (min p.n q.n) (alikeI p.six p.hi p.lo q.hi q.lo)
def PV.com (p q : PV) : PV := ⟨p.six, cutHi p.six p.hi (p.comN q), cutLo p.six p.lo (p.comN q), p.comN q⟩

theorem PV.bit01 (p : PV) (i : Int) : p.bit i = 0 ∨ p.bit i = 1 := by have := bitI_01 p.six p.hi p.lo i; unfold PV.bit; omega

theorem over_iff' {p q : PV} (hp : p.Ok) (hq : q.Ok) : p.over q = true ↔ p.six = q.six ∧ p.n ≤ q.n ∧ ∀ i : Nat, (i : Int) < p.n → p.bit i = q.bit i := by
  obtain ⟨six, hi, lo, n⟩ := p
  obtain ⟨six', hi', lo', n'⟩ := q
  unfold PV.Ok at hp hq
  simp only at hp hq
  obtain ⟨k, rfl⟩ : ∃ k : Nat, n = k := ⟨n.toNat, by have := hp.len; omega⟩
  unfold PV.over PV.bit overB
  simp only [Bool.and_eq_true, decide_eq_true_eq]
  by_cases h6 : six = six'
  · subst h6
    have := inB_iff hp hq.rhi hq.rlo hq.may
    rw [this]
    constructor
    · rintro ⟨a, b⟩; exact ⟨rfl, a, fun i hi => b i (by omega)⟩
    · rintro ⟨_, a, b⟩; exact ⟨a, fun i hi => b i (by omega)⟩
  · constructor
    · rintro ⟨_, b⟩
      unfold inB at b
      simp at b
      exact absurd b.1.symm h6
    · rintro ⟨a, _⟩; exact absurd a h6

theorem ok_clean {p : PV} (hp : p.Ok) : ∀ i : Nat, p.n ≤ (i : Int) → (i : Int) < wideI p.six → p.bit i = 0 := by
  obtain ⟨six, hi, lo, n⟩ := p
  unfold PV.Ok at hp
  simp only at hp
  obtain ⟨k, rfl⟩ : ∃ k : Nat, n = k := ⟨n.toNat, by have := hp.len; omega⟩
  have hc := (clean_iff six hi lo k hp.rhi hp.rlo hp.may hp.len.2).1 hp.clean
  intro i h1 h2
  exact hc i (by simp only at h1; omega) h2

theorem over_eq {p q : PV} (hp : p.Ok) (hq : q.Ok) (h : p.over q = true) (hn : q.n ≤ p.n) : p = q := by
  obtain ⟨h6, h1, h2⟩ := (over_iff' hp hq).1 h
  have he : p.n = q.n := by omega
  have cp := ok_clean hp
  have cq := ok_clean hq
  obtain ⟨six, hi, lo, n⟩ := p
  obtain ⟨six', hi', lo', n'⟩ := q
  simp only at h6 he hn h1
  subst h6
  subst he
  unfold PV.Ok at hp hq
  simp only at hp hq
  have := addr_ext six hi lo hi' lo' hp.rhi hp.rlo hq.rhi hq.rlo hp.may hq.may fun i hi0 => by
    by_cases hlt : (i : Int) < n
    · exact h2 i hlt
    · have a := cp i (by simp only; omega) hi0
      have b := cq i (by simp only; omega) hi0
      exact a.trans b.symm
  rw [this.1, this.2]

theorem over_refl {p : PV} (hp : p.Ok) : p.over p = true := (over_iff' hp hp).2 ⟨rfl, Int.le_refl _, fun _ _ => rfl⟩
theorem over_trans {a b c : PV} (ha : a.Ok) (hb : b.Ok) (hc : c.Ok) (h1 : a.over b = true) (h2 : b.over c = true) : a.over c = true := by
  obtain ⟨x1, x2, x3⟩ := (over_iff' ha hb).1 h1
  obtain ⟨y1, y2, y3⟩ := (over_iff' hb hc).1 h2
  exact (over_iff' ha hc).2 ⟨x1.trans y1, by omega, fun i hi => (x3 i hi).trans (y3 i (by omega))⟩
/-- Of two that cover a third one the shorter covers the longer. -/
theorem over_two {a b c : PV} (ha : a.Ok) (hb : b.Ok) (hc : c.Ok) (h1 : a.over c = true) (h2 : b.over c = true) (hn : a.n ≤ b.n) : a.over b = true := by
  obtain ⟨x1, x2, x3⟩ := (over_iff' ha hc).1 h1
  obtain ⟨y1, y2, y3⟩ := (over_iff' hb hc).1 h2
  exact (over_iff' ha hb).2 ⟨x1.trans y1.symm, hn, fun i hi => (x3 i hi).trans (y3 i (by omega)).symm⟩
theorem over_n {p q : PV} (hp : p.Ok) (hq : q.Ok) (h : p.over q = true) : p.n ≤ q.n := ((over_iff' hp hq).1 h).2.1
theorem over_six {p q : PV} (hp : p.Ok) (hq : q.Ok) (h : p.over q = true) : p.six = q.six := ((over_iff' hp hq).1 h).1
theorem over_bit {p q : PV} (hp : p.Ok) (hq : q.Ok) (h : p.over q = true) {i : Int} (h0 : 0 ≤ i) (hi : i < p.n) : p.bit i = q.bit i := by
  obtain ⟨k, rfl⟩ : ∃ k : Nat, i = k := ⟨i.toNat, by omega⟩
  exact ((over_iff' hp hq).1 h).2.2 k hi

theorem ok_n {p : PV} (hp : p.Ok) : 0 ≤ p.n ∧ p.n ≤ wideI p.six := Pfx.len hp

theorem com_facts {p q : PV} (hp : p.Ok) (hq : q.Ok) (h6 : p.six = q.six) :
    (p.com q).Ok ∧ (p.com q).n ≤ p.n ∧ (p.com q).n ≤ q.n ∧ (p.com q).over p = true ∧ (p.com q).over q = true ∧
      (∀ k : Nat, (k : Int) ≤ p.n → (k : Int) ≤ q.n → (∀ i : Nat, i < k → p.bit i = q.bit i) → (k : Int) ≤ (p.com q).n) := by
  obtain ⟨six, hi, lo, n⟩ := p
  obtain ⟨six', hi', lo', n'⟩ := q
  simp only at h6
  subst h6
  have HP := hp
  have HQ := hq
  unfold PV.Ok at hp hq
  simp only at hp hq
  have ra := alike_range six hi lo hi' lo' hp.rhi hp.rlo hq.rhi hq.rlo hp.may hq.may
  have l1 := hp.len
  have l2 := hq.len
  have hm : ∃ m : Nat, min (min n n') (alikeI six hi lo hi' lo') = m := ⟨(min (min n n') (alikeI six hi lo hi' lo')).toNat, by omega⟩
  obtain ⟨m, hm⟩ := hm
  have hcom : PV.com ⟨six, hi, lo, n⟩ ⟨six, hi', lo', n'⟩ = ⟨six, cutHi six hi m, cutLo six lo m, m⟩ := by unfold PV.com PV.comN; rw [hm]
  have hmw : (m : Int) ≤ wideI six := by omega
  have hok : PV.Ok ⟨six, cutHi six hi m, cutLo six lo m, m⟩ := cut_pfx hp.rhi hp.rlo hp.may hmw
  have hbit : ∀ i : Nat, i < m → PV.bit ⟨six, cutHi six hi m, cutLo six lo m, m⟩ i = bitI six hi lo i := by
    intro i hi0
    unfold PV.bit
    simp only
    rw [bit_cut six hi lo m i hp.may (by omega), if_pos (by omega)]
  have hal := alike_iff six hi lo hi' lo' m hp.rhi hp.rlo hq.rhi hq.rlo hp.may hq.may hmw
  have heq := hal.1 (by omega)
  rw [hcom]
  refine ⟨hok, by simp only; omega, by simp only; omega, ?_, ?_, ?_⟩
  · exact (over_iff' hok HP).2 ⟨rfl, by simp only; omega, fun i hi0 => hbit i (by simp only at hi0; omega)⟩
  · exact (over_iff' hok HQ).2 ⟨rfl, by simp only; omega, fun i hi0 => (hbit i (by simp only at hi0; omega)).trans (heq i (by simp only at hi0; omega))⟩
  · intro k h1 h2 h3
    have := (alike_iff six hi lo hi' lo' k hp.rhi hp.rlo hq.rhi hq.rlo hp.may hq.may (by simp only at h1; omega)).2 h3
    simp only at *
    omega

theorem com_bit {p q : PV} (hp : p.Ok) (hq : q.Ok) (h6 : p.six = q.six) (h1 : (p.com q).n < p.n) (h2 : (p.com q).n < q.n) : ¬ p.bit (p.com q).n = q.bit (p.com q).n := by
  obtain ⟨ok, _, _, o1, o2, hk⟩ := com_facts hp hq h6
  intro he
  have h0 := ok_n ok
  obtain ⟨m, hm⟩ : ∃ m : Nat, (p.com q).n = m := ⟨(p.com q).n.toNat, by omega⟩
  have := hk (m + 1) (by omega) (by omega) fun i hi => by
    by_cases hlt : i < m
    · exact ((over_bit ok hp o1 (Int.natCast_nonneg i) (by omega)).symm).trans (over_bit ok hq o2 (Int.natCast_nonneg i) (by omega))
    · obtain rfl : i = m := by omega
      rw [hm] at he
      exact he
  omega
theorem com_lt {q p : PV} (hq : q.Ok) (hp : p.Ok) (h6 : q.six = p.six) (h : q.over p = false) : (q.com p).n < q.n := by
  obtain ⟨ok, l1, l2, o1, o2, hk⟩ := com_facts hq hp h6
  rcases Int.lt_or_le (q.com p).n q.n with hlt | hge
  · exact hlt
  · exfalso
    have := over_eq ok hq o1 (by omega)
    rw [this] at o2
    rw [o2] at h
    cases h

/-! TREES -/
inductive Tr where
  | nil : Tr
  | node (g : Nat) (p : PV) (h : Int) (l r : Tr) : Tr

/-- A node with a part on the side of a bit, and another part on the other side. -/
def node2 (g : Nat) (p : PV) (h : Int) (b : Int) (x y : Tr) : Tr := if b = 0 then .node g p h x y else .node g p h y x

/-- What stands below q, on the side of a bit. -/
def Under (q : PV) (b : Bool) (p : PV) : Prop := q.n < p.n ∧ q.over p = true ∧ (p.bit q.n = 0 ↔ b = true)

def Inv (six : Bool) : (PV → Prop) → Tr → Prop
  | _, .nil => True
  | U, .node _ q h l r => q.Ok ∧ q.six = six ∧ U q ∧ (0 ≤ h ∧ h ≤ 999) ∧ Inv six (Under q true) l ∧ Inv six (Under q false) r

def hopAt : Tr → PV → Int
  | .nil, _ => 0
  | .node _ q h l r, p => if q = p then h else if q.over p = false then 0 else if p.bit q.n = 0 then hopAt l p else hopAt r p

def forkT (q p : PV) (hop : Int) (G1 G2 : Nat) (t : Tr) : Tr :=
  if q.com p = p then node2 G1 p hop (q.bit (q.com p).n) t .nil else node2 G1 (q.com p) 0 (q.bit (q.com p).n) t (.node G2 p hop .nil .nil)

def putT (p : PV) (hop : Int) (G1 G2 : Nat) : Tr → Tr
  | .nil => .node G1 p hop .nil .nil
  | .node g q h l r => if q = p then .node g q hop l r
    else if q.over p = false then forkT q p hop G1 G2 (.node g q h l r)
    else if p.bit q.n = 0 then .node g q h (putT p hop G1 G2 l) r else .node g q h l (putT p hop G1 G2 r)

theorem Inv.weak {six : Bool} {U U' : PV → Prop} {t : Tr} (h : Inv six U t) (hU : ∀ p, p.Ok → U p → U' p) : Inv six U' t := by
  cases t with
  | nil => trivial
  | node g q hh l r => exact ⟨h.1, h.2.1, hU q h.1 h.2.2.1, h.2.2.2⟩

theorem hopAt_ne {g : Nat} {q p : PV} {h : Int} {l r : Tr} (hne : ¬ hopAt (.node g q h l r) p = 0) : q = p ∨ q.over p = true := by
  by_cases he : q = p
  · exact .inl he
  · right
    unfold hopAt at hne
    rw [if_neg he] at hne
    cases ho : q.over p with
    | true => rfl
    | false => rw [if_pos ho] at hne; exact absurd rfl hne

theorem hopAt_node2 (g : Nat) (q : PV) (h b : Int) (x y : Tr) (p : PV) :
    hopAt (node2 g q h b x y) p = if q = p then h else if q.over p = false then 0 else if (p.bit q.n = 0 ↔ b = 0) then hopAt x p else hopAt y p := by
  unfold node2
  by_cases hb : b = 0
  · rw [if_pos hb]
    show (if q = p then h else if q.over p = false then 0 else if p.bit q.n = 0 then hopAt x p else hopAt y p) = _
    simp only [hb, iff_true]
  · rw [if_neg hb]
    show (if q = p then h else if q.over p = false then 0 else if p.bit q.n = 0 then hopAt y p else hopAt x p) = _
    by_cases e1 : q = p
    · rw [if_pos e1, if_pos e1]
    · rw [if_neg e1, if_neg e1]
      by_cases e2 : q.over p = false
      · rw [if_pos e2, if_pos e2]
      · rw [if_neg e2, if_neg e2]
        by_cases e3 : p.bit q.n = 0
        · rw [if_pos e3, if_neg (by rw [iff_true_left e3]; exact hb)]
        · rw [if_neg e3, if_pos (iff_of_false e3 hb)]

theorem under_com {q a b : PV} {s : Bool} {six : Bool} (hq : q.Ok) (ha : a.Ok) (hb : b.Ok) (h6 : a.six = six) (h6' : b.six = six) (h1 : Under q s a) (h2 : Under q s b) : Under q s (a.com b) := by
  obtain ⟨ok, l1, l2, o1, o2, hk⟩ := com_facts ha hb (h6.trans h6'.symm)
  have h0 := ok_n hq
  obtain ⟨m, hm⟩ : ∃ m : Nat, q.n = m := ⟨q.n.toNat, by omega⟩
  have hx : a.bit q.n = b.bit q.n := by
    have x1 := h1.2.2
    have x2 := h2.2.2
    rcases a.bit01 q.n with e | e <;> rcases b.bit01 q.n with e' | e' <;> cases s <;> simp_all
  have hlt := hk (m + 1) (by have := h1.1; omega) (by have := h2.1; omega) fun i hi => by
    by_cases hlt : i < m
    · exact ((over_bit hq ha h1.2.1 (Int.natCast_nonneg i) (by omega)).symm).trans (over_bit hq hb h2.2.1 (Int.natCast_nonneg i) (by omega))
    · obtain rfl : i = m := by omega
      rw [hm] at hx
      exact hx
  refine ⟨by omega, over_two hq ok ha h1.2.1 o1 (by omega), ?_⟩
  rw [over_bit ok ha o1 (by omega) (by omega)]
  exact h1.2.2

theorem side_of {b : Int} {s : Bool} {t : Tr} {six : Bool} {q : PV} : (if b = 0 then Inv six (Under q true) t else Inv six (Under q false) t) → Inv six (Under q (decide (b = 0))) t := by
  intro h
  by_cases hb : b = 0
  · rw [if_pos hb] at h; simpa [hb] using h
  · rw [if_neg hb] at h; simpa [hb] using h

theorem inv_node2 {six : Bool} {U : PV → Prop} {g : Nat} {q : PV} {h b : Int} {x y : Tr} (h1 : q.Ok) (h2 : q.six = six) (h3 : U q) (h4 : 0 ≤ h ∧ h ≤ 999) (hx : Inv six (Under q (decide (b = 0))) x) (hy : Inv six (Under q (!decide (b = 0))) y) :
    Inv six U (node2 g q h b x y) := by
  unfold node2
  by_cases hb : b = 0
  · rw [if_pos hb]
    simp only [hb, decide_true, Bool.not_true] at hx hy
    exact ⟨h1, h2, h3, h4, hx, hy⟩
  · rw [if_neg hb]
    simp only [hb, decide_false, Bool.not_false] at hx hy
    exact ⟨h1, h2, h3, h4, hy, hx⟩

theorem inv_fork {six : Bool} {U : PV → Prop} {p : PV} {hop : Int} {G1 G2 g : Nat} {q : PV} {h : Int} {l r : Tr} (hp : p.Ok) (h6 : p.six = six) (hop2 : 0 ≤ hop ∧ hop ≤ 999) (hU : U p) (hcl : U (q.com p)) (hi : Inv six U (.node g q h l r))
    (hov : q.over p = false) : Inv six U (forkT q p hop G1 G2 (.node g q h l r)) := by
  obtain ⟨hq, hq6, hUq, hh, hl, hr⟩ := hi
  obtain ⟨ok, l1, l2, o1, o2, hk⟩ := com_facts hq hp (hq6.trans h6.symm)
  have hlt := com_lt hq hp (hq6.trans h6.symm) hov
  have hbq : Under (q.com p) (decide (q.bit (q.com p).n = 0)) q := ⟨hlt, o1, by simp⟩
  have ht : Inv six (Under (q.com p) (decide (q.bit (q.com p).n = 0))) (.node g q h l r) := ⟨hq, hq6, hbq, hh, hl, hr⟩
  unfold forkT
  by_cases hc : q.com p = p
  · rw [if_pos hc]
    rw [hc] at ht ⊢
    exact inv_node2 hp h6 hU hop2 ht trivial
  · rw [if_neg hc]
    have hltp : (q.com p).n < p.n := by
      rcases Int.lt_or_le (q.com p).n p.n with hx | hx
      · exact hx
      · exact absurd (over_eq ok hp o2 (by omega)) hc
    have hb := com_bit hq hp (hq6.trans h6.symm) hlt hltp
    refine inv_node2 ok hq6 hcl (by omega) ht ⟨hp, h6, ⟨hltp, o2, ?_⟩, hop2, trivial, trivial⟩
    rcases q.bit01 (q.com p).n with e | e <;> rcases p.bit01 (q.com p).n with e' | e' <;> simp_all

theorem inv_put {six : Bool} {p : PV} {hop : Int} {G1 G2 : Nat} (hp : p.Ok) (h6 : p.six = six) (hop2 : 0 ≤ hop ∧ hop ≤ 999) :
    ∀ (t : Tr) (U : PV → Prop), Inv six U t → U p → (∀ a b, a.Ok → b.Ok → a.six = six → b.six = six → U a → U b → U (a.com b)) → Inv six U (putT p hop G1 G2 t) := by
  intro t
  induction t with
  | nil => intro U _ hU _; exact ⟨hp, h6, hU, hop2, trivial, trivial⟩
  | node g q h l r ihl ihr =>
    intro U hi hU hcl
    unfold putT
    by_cases he : q = p
    · rw [if_pos he]; exact ⟨hi.1, hi.2.1, hi.2.2.1, hop2, hi.2.2.2.2⟩
    · rw [if_neg he]
      by_cases ho : q.over p = false
      · rw [if_pos ho]
        exact inv_fork hp h6 hop2 hU (hcl q p hi.1 hp hi.2.1 h6 hi.2.2.1 hU) hi ho
      · rw [if_neg ho]
        have ho' : q.over p = true := by simpa using ho
        have hn := over_n hi.1 hp ho'
        have hlt : q.n < p.n := by
          rcases Int.lt_or_le q.n p.n with hx | hx
          · exact hx
          · exact absurd (over_eq hi.1 hp ho' hx) he
        by_cases hb : p.bit q.n = 0
        · rw [if_pos hb]
          exact ⟨hi.1, hi.2.1, hi.2.2.1, hi.2.2.2.1, ihl _ hi.2.2.2.2.1 ⟨hlt, ho', by simpa using hb⟩ (fun a b ha hb' x y => under_com hi.1 ha hb' x y), hi.2.2.2.2.2⟩
        · rw [if_neg hb]
          exact ⟨hi.1, hi.2.1, hi.2.2.1, hi.2.2.2.1, hi.2.2.2.2.1, ihr _ hi.2.2.2.2.2 ⟨hlt, ho', by simpa using hb⟩ (fun a b ha hb' x y => under_com hi.1 ha hb' x y)⟩

theorem hopAt_fork {six : Bool} {U : PV → Prop} {p : PV} {hop : Int} {G1 G2 g : Nat} {q : PV} {h : Int} {l r : Tr} (hp : p.Ok) (h6 : p.six = six) (hi : Inv six U (.node g q h l r)) (hov : q.over p = false) (p' : PV) (hp' : p'.Ok) :
    hopAt (forkT q p hop G1 G2 (.node g q h l r)) p' = if p' = p then hop else hopAt (.node g q h l r) p' := by
  obtain ⟨hq, hq6, _, _, _, _⟩ := hi
  obtain ⟨ok, l1, l2, o1, o2, hk⟩ := com_facts hq hp (hq6.trans h6.symm)
  have hlt := com_lt hq hp (hq6.trans h6.symm) hov
  have hb := fun hx => com_bit hq hp (hq6.trans h6.symm) hlt hx
  have hpn : (q.com p).n < p.n ∨ q.com p = p := by
    rcases Int.lt_or_le (q.com p).n p.n with hx | hx
    · exact .inl hx
    · exact .inr (over_eq ok hp o2 (by omega))
  generalize hcc : q.com p = c at *
  -- what t has is under c, on q's side
  have hun : ¬ hopAt (.node g q h l r) p' = 0 → c.n < p'.n ∧ c.over p' = true ∧ p'.bit c.n = q.bit c.n := by
    intro hne
    have hqp : q.over p' = true := by
      rcases hopAt_ne hne with rfl | e
      · exact over_refl hp'
      · exact e
    have := over_n hq hp' hqp
    exact ⟨by omega, over_trans ok hq hp' o1 hqp, (over_bit hq hp' hqp (ok_n ok).1 hlt).symm⟩
  have hside : (p'.bit c.n = 0 ↔ q.bit c.n = 0) ↔ p'.bit c.n = q.bit c.n := by
    rcases q.bit01 c.n with e | e <;> rcases p'.bit01 c.n with e' | e' <;> simp [e, e']
  unfold forkT
  rw [hcc]
  by_cases hc : c = p
  · rw [if_pos hc, hopAt_node2]
    subst hc
    by_cases e : c = p'
    · rw [if_pos e, if_pos e.symm]
    · have e' : ¬ p' = c := fun h => e h.symm
      rw [if_neg e, if_neg e']
      by_cases h0 : hopAt (.node g q h l r) p' = 0
      · rw [h0]
        by_cases e2 : c.over p' = false
        · rw [if_pos e2]
        · rw [if_neg e2]; split <;> rfl
      · obtain ⟨_, a, b⟩ := hun h0
        rw [if_neg (by simp [a]), if_pos (hside.2 b)]
  · rw [if_neg hc, hopAt_node2]
    have hltp : c.n < p.n := by
      rcases hpn with h | h
      · exact h
      · exact absurd h hc
    have hb := hb hltp
    by_cases e : c = p'
    · subst e
      rw [if_pos rfl, if_neg hc]
      apply Classical.byContradiction
      intro hne
      have := (hun (fun h => hne h.symm)).1
      omega
    · rw [if_neg e]
      by_cases ep : p' = p
      · subst ep
        rw [if_pos rfl, if_neg (by simp [o2]), if_neg (fun h => hb ((hside.1 h).symm))]
        unfold hopAt
        rw [if_pos rfl]
      · rw [if_neg ep]
        by_cases h0 : hopAt (.node g q h l r) p' = 0
        · rw [h0]
          by_cases e2 : c.over p' = false
          · rw [if_pos e2]
          · rw [if_neg e2]
            split
            · rfl
            · show (if p = p' then hop else if p.over p' = false then 0 else if p'.bit p.n = 0 then hopAt .nil p' else hopAt .nil p') = 0
              rw [if_neg (fun h => ep h.symm)]
              unfold hopAt
              split <;> simp
        · obtain ⟨_, a, b⟩ := hun h0
          rw [if_neg (by simp [a]), if_pos (hside.2 b)]

theorem hopAt_put {six : Bool} {p : PV} {hop : Int} {G1 G2 : Nat} (hp : p.Ok) (h6 : p.six = six) (p' : PV) (hp' : p'.Ok) :
    ∀ (t : Tr) (U : PV → Prop), Inv six U t → hopAt (putT p hop G1 G2 t) p' = if p' = p then hop else hopAt t p' := by
  intro t
  induction t with
  | nil =>
    intro U _
    show (if p = p' then hop else if p.over p' = false then 0 else if p'.bit p.n = 0 then hopAt .nil p' else hopAt .nil p') = _
    by_cases e : p' = p
    · rw [if_pos e, if_pos e.symm]
    · rw [if_neg e, if_neg (fun h => e h.symm)]
      unfold hopAt
      split <;> simp
  | node g q h l r ihl ihr =>
    intro U hi
    unfold putT
    by_cases he : q = p
    · subst he
      rw [if_pos rfl]
      show (if q = p' then hop else if q.over p' = false then 0 else if p'.bit q.n = 0 then hopAt l p' else hopAt r p') = _
      by_cases e : p' = q
      · rw [if_pos e, if_pos e.symm]
      · have e' : ¬ q = p' := fun h => e h.symm
        rw [if_neg e, if_neg e']
        conv => rhs; unfold hopAt
        rw [if_neg e']
    · rw [if_neg he]
      by_cases ho : q.over p = false
      · rw [if_pos ho]
        exact hopAt_fork hp h6 hi ho p' hp'
      · rw [if_neg ho]
        have hl := ihl _ hi.2.2.2.2.1
        have hr := ihr _ hi.2.2.2.2.2
        by_cases hb : p.bit q.n = 0
        · rw [if_pos hb]
          show (if q = p' then h else if q.over p' = false then 0 else if p'.bit q.n = 0 then hopAt (putT p hop G1 G2 l) p' else hopAt r p') = _
          rw [hl]
          conv => rhs; unfold hopAt
          by_cases e : p' = p
          · subst e
            rw [if_neg he, if_neg ho, if_pos hb, if_pos rfl, if_pos rfl]
          · rw [if_neg e, if_neg e]
        · rw [if_neg hb]
          show (if q = p' then h else if q.over p' = false then 0 else if p'.bit q.n = 0 then hopAt l p' else hopAt (putT p hop G1 G2 r) p') = _
          rw [hr]
          conv => rhs; unfold hopAt
          by_cases e : p' = p
          · subst e
            rw [if_neg he, if_neg ho, if_neg hb, if_pos rfl, if_pos rfl]
          · rw [if_neg e, if_neg e]

/-- The hop and the length of the longest prefix that covers p; acc: where there is none. -/
def lookT (p : PV) : Tr → Int × Int → Int × Int
  | .nil, acc => acc
  | .node _ q h l r, acc => if q.over p = false then acc else
    if q = p then (if h = 0 then acc else (h, q.n)) else if p.bit q.n = 0 then lookT p l (if h = 0 then acc else (h, q.n)) else lookT p r (if h = 0 then acc else (h, q.n))

def Best (six : Bool) (t : PV → Int) (p : PV) (acc res : Int × Int) : Prop :=
  (res = acc ∧ ∀ q, q.Ok → q.over p = true → t q = 0) ∨
    ∃ q, q.Ok ∧ q.over p = true ∧ ¬ t q = 0 ∧ res = (t q, q.n) ∧ ∀ q', q'.Ok → q'.over p = true → ¬ t q' = 0 → q'.n ≤ q.n

theorem hopAt_under {six : Bool} {q p : PV} {b : Bool} {t : Tr} (hq : q.Ok) (hp : p.Ok) (hi : Inv six (Under q b) t) (hne : ¬ hopAt t p = 0) : Under q b p := by
  cases t with
  | nil => exact absurd rfl hne
  | node g x h l r =>
    obtain ⟨hx, _, hu, _⟩ := hi
    have hxp : x.over p = true := by
      rcases hopAt_ne hne with rfl | e
      · exact over_refl hp
      · exact e
    have := over_n hx hp hxp
    have := hu.1
    refine ⟨by omega, over_trans hq hx hp hu.2.1 hxp, ?_⟩
    rw [← over_bit hx hp hxp (ok_n hq).1 hu.1]
    exact hu.2.2

theorem look_best {six : Bool} {p : PV} (hp : p.Ok) (h6 : p.six = six) : ∀ (t : Tr) (U : PV → Prop) (acc : Int × Int), Inv six U t → Best six (hopAt t) p acc (lookT p t acc) := by
  intro t
  induction t with
  | nil => intro U acc _; exact .inl ⟨rfl, fun _ _ _ => rfl⟩
  | node g q h l r ihl ihr =>
    intro U acc hi
    have hq := hi.1
    unfold lookT
    by_cases ho : q.over p = false
    · rw [if_pos ho]
      refine .inl ⟨rfl, fun q' hq' hov => ?_⟩
      apply Classical.byContradiction
      intro hne
      have : q.over p = true := by
        rcases hopAt_ne hne with rfl | e
        · exact hov
        · exact over_trans hq hq' hp e hov
      rw [this] at ho
      cases ho
    · rw [if_neg ho]
      have ho' : q.over p = true := by simpa using ho
      have hself : hopAt (.node g q h l r) q = h := by unfold hopAt; rw [if_pos rfl]
      -- another one that is there, and covers p, lies on p's side
      have hside : ∀ q', q'.Ok → q'.over p = true → ¬ hopAt (.node g q h l r) q' = 0 → ¬ q' = q → q.n < q'.n ∧ hopAt (.node g q h l r) q' = if p.bit q.n = 0 then hopAt l q' else hopAt r q' := by
        intro q' hq' hov hne hnq
        have hqq : q.over q' = true := by
          rcases hopAt_ne hne with e | e
          · exact absurd e.symm hnq
          · exact e
        have hle := over_n hq hq' hqq
        have hlt : q.n < q'.n := by
          rcases Int.lt_or_le q.n q'.n with hx | hx
          · exact hx
          · exact absurd (over_eq hq hq' hqq hx).symm hnq
        refine ⟨hlt, ?_⟩
        have hbit := over_bit hq' hp hov (ok_n hq).1 hlt
        conv => lhs; unfold hopAt
        rw [if_neg (fun h => hnq h.symm), if_neg (by simp [hqq]), hbit]
      by_cases he : q = p
      · subst he
        rw [if_pos rfl]
        by_cases h0 : h = 0
        · rw [if_pos h0]
          refine .inl ⟨rfl, fun q' hq' hov => ?_⟩
          apply Classical.byContradiction
          intro hne
          by_cases e : q' = q
          · subst e; rw [hself] at hne; exact hne h0
          · have a := (hside q' hq' hov hne e).1
            have b := over_n hq' hp hov
            omega
        · rw [if_neg h0]
          exact .inr ⟨q, hq, ho', by rw [hself]; exact h0, by rw [hself], fun q' hq' hov _ => over_n hq' hp hov⟩
      · rw [if_neg he]
        have hnode : ∀ {b : Bool} {k : Tr}, Inv six (Under q b) k → (b = true ↔ p.bit q.n = 0) → (hopAt (.node g q h l r) = fun q' => if q = q' then h else if q.over q' = false then 0 else if q'.bit q.n = 0 then hopAt l q' else hopAt r q') →
            (k = if p.bit q.n = 0 then l else r) → Best six (hopAt k) p (if h = 0 then acc else (h, q.n)) (lookT p k (if h = 0 then acc else (h, q.n))) → Best six (hopAt (.node g q h l r)) p acc (lookT p k (if h = 0 then acc else (h, q.n))) := by
          intro b k hk hb _ hkk hbest
          have hkid : ∀ q', (if p.bit q.n = 0 then hopAt l q' else hopAt r q') = hopAt k q' := by intro q'; rw [hkk]; split <;> rfl
          rcases hbest with ⟨hres, hall⟩ | ⟨q', hq', hov, hne, hres, hmax⟩
          · rw [hres]
            by_cases h0 : h = 0
            · rw [if_pos h0]
              refine .inl ⟨rfl, fun q' hq' hov => ?_⟩
              apply Classical.byContradiction
              intro hne
              by_cases e : q' = q
              · subst e; rw [hself] at hne; exact hne h0
              · have a := (hside q' hq' hov hne e).2
                rw [hkid, hall q' hq' hov] at a
                exact hne a
            · rw [if_neg h0]
              refine .inr ⟨q, hq, ho', by rw [hself]; exact h0, by rw [hself], fun q' hq' hov hne => ?_⟩
              by_cases e : q' = q
              · subst e; exact Int.le_refl _
              · have a := (hside q' hq' hov hne e).2
                rw [hkid, hall q' hq' hov] at a
                exact absurd a hne
          · have hu := hopAt_under hq hq' hk hne
            have hnq : ¬ q = q' := by intro e; subst e; exact absurd hu.1 (by omega)
            have hat : hopAt (.node g q h l r) q' = hopAt k q' := by
              rw [← hkid]
              conv => lhs; unfold hopAt
              rw [if_neg hnq, if_neg (by simp [hu.2.1]), over_bit hq' hp hov (ok_n hq).1 hu.1]
            rw [hres]
            refine .inr ⟨q', hq', hov, by rw [hat]; exact hne, by rw [hat], fun q'' hq'' hov'' hne'' => ?_⟩
            by_cases e : q'' = q
            · subst e; have := hu.1; omega
            · have a := (hside q'' hq'' hov'' hne'' e).2
              rw [hkid] at a
              exact hmax q'' hq'' hov'' (by rw [← a]; exact hne'')
        by_cases hb : p.bit q.n = 0
        · rw [if_pos hb]
          exact hnode hi.2.2.2.2.1 (by simp [hb]) rfl (by rw [if_pos hb]) (ihl _ _ hi.2.2.2.2.1)
        · rw [if_neg hb]
          exact hnode hi.2.2.2.2.2 (by simp [hb]) rfl (by rw [if_neg hb]) (ihr _ _ hi.2.2.2.2.2)

end Go.Proofs.Ytmljdjakbbedlaa

namespace Go.Proofs.Ytmljdjakbbedlaa
open Go.RowKit

theorem block_of_add (a : Addr) (n : Nat) : (a.add n).block = a.block := by unfold Addr.add; split <;> rfl
theorem add_of_add (a : Addr) (i j : Nat) : (a.add i).add j = a.add (i + j) := by
  unfold Addr.add
  by_cases hi : i = 0 <;> by_cases hj : j = 0 <;> simp [hi, hj, Nat.add_assoc]

def Reads (w : World) (B size : Nat) (A : Option Addr) (n : Nat) (xs : List Value) : Prop :=
  xs.length = n * size ∧ (0 < n → ∃ ad, A = some ad ∧ ad.block < B ∧ ∀ j u, xs[j]? = some u → w.cell? (ad.add j) = some u)

section
variable {w w' : World} {B B' size n : Nat} {A : Option Addr} {xs : List Value}
theorem Reads.none_ : Reads w B size A 0 [] := ⟨by simp, fun h => absurd h (by omega)⟩
theorem Reads.at_ {k : Nat} (h : Reads w B 1 A n xs) (hk : k < n) : ∃ ad u, A = some ad ∧ ad.block < B ∧ xs[k]? = some u ∧ w.cell? (ad.add k) = some u := by
  obtain ⟨ad, e, hb, hc⟩ := h.2 (by omega)
  have hl : k < xs.length := by have := h.1; omega
  exact ⟨ad, xs[k], e, hb, List.getElem?_eq_getElem hl, hc k _ (List.getElem?_eq_getElem hl)⟩
theorem Reads.keep (h : Reads w B size A n xs) (hk : ∀ p : Addr, p.block < B → w'.cell? p = w.cell? p) : Reads w' B size A n xs :=
  ⟨h.1, fun hn => by
    obtain ⟨ad, e, hb, hc⟩ := h.2 hn
    exact ⟨ad, e, hb, fun j u hu => (hk _ (by rw [block_of_add]; exact hb)).trans (hc j u hu)⟩⟩
theorem Reads.more (h : Reads w B size A n xs) (hB : B ≤ B') : Reads w B' size A n xs :=
  ⟨h.1, fun hn => by
    obtain ⟨ad, e, hb, hc⟩ := h.2 hn
    exact ⟨ad, e, by omega, hc⟩⟩
theorem Reads.below (h : Reads w B size A n xs) (hb : Below B w w') : Reads w' B size A n xs := h.keep fun _ hp => hb.cell hp
theorem Reads.drew (h : Reads w B size A n xs) : Reads w.drew B size A n xs := h
theorem Reads.drewN (h : Reads w B size A n xs) (k : Nat) : Reads (w.drewN k) B size A n xs := h
theorem Reads.alloc (h : Reads w B size A n xs) (hB : B ≤ w.heap.size) (o : Obj) : Reads (w.alloc o) B size A n xs := h.keep fun p hp => World.cell?_alloc_lt w o p (by omega)
theorem Reads.setCell (h : Reads w B size A n xs) {p : Addr} (hB : B ≤ p.block) (u : Value) : Reads (w.setCell p u) B size A n xs :=
  h.keep fun q hq => World.cell?_setCell_other w p q u (fun e => by subst e; omega)
theorem Reads.grown (h : Reads w B size A n xs) {row : Option Nat} (hg : w.grownBy w' row) (hB : B ≤ w.heap.size) (hr : ∀ g, row = some g → B ≤ g) : Reads w' B size A n xs :=
  h.keep fun p hp => World.cell?_of_block (hg.block p.block (by omega) (fun e => by have := hr _ e.symm; omega))
theorem Reads.cut (h : Reads w B size A n xs) {k cap : Nat} (hk : k ≤ n) (hc : n ≤ cap) :
    Reads w B size (if cap = k then A else A.map (·.add (k * size))) (n - k) (xs.drop (k * size)) := by
  refine ⟨by rw [List.length_drop, h.1, Nat.sub_mul], fun hn => ?_⟩
  obtain ⟨ad, rfl, hb, hcell⟩ := h.2 (by omega)
  rw [if_neg (by omega)]
  refine ⟨ad.add (k * size), rfl, by rw [block_of_add]; exact hb, fun j u hu => ?_⟩
  rw [add_of_add]
  exact hcell _ u (by rw [← hu, List.getElem?_drop])
theorem Reads.of_own {base : Nat} {e : TypeId} {c : Nat} (h : w.ownsRow base e size (.slice A n c) n xs) : Reads w w.heap.size size A n xs := by
  refine ⟨h.1, fun hn => ?_⟩
  obtain ⟨g, cap, hv, _, hlt⟩ := h.form hn
  have hA : A = some ⟨g, 0, none⟩ := by injection hv
  subst hA
  exact ⟨_, rfl, hlt, h.cells (g := g) rfl⟩
end

def Blk (w : World) (g : Nat) (t : TypeId) (cs : Array Value) : Prop := w.heap[g]? = some (.cells cs t (0, 0))

section
variable {w w' : World} {g : Nat} {t : TypeId} {cs : Array Value}
theorem Blk.lt (h : Blk w g t cs) : g < w.heap.size := by
  rcases Nat.lt_or_ge g w.heap.size with hlt | hge
  · exact hlt
  · unfold Blk at h; rw [Array.getElem?_eq_none hge] at h; cases h
theorem Blk.cell (h : Blk w g t cs) (i : Nat) : w.cell? ⟨g, i, none⟩ = cs[i]? := cell_of_row w g i cs t (0, 0) h
theorem Blk.frozen (h : Blk w g t cs) (i : Nat) : w.frozen? ⟨g, i, none⟩ = false := by
  unfold Blk at h
  simp [World.frozen?, h]
theorem Blk.new (w : World) (t : TypeId) (cs : Array Value) : Blk (w.alloc (.cells cs t)) w.heap.size t cs := heap_alloc_new w _
theorem Blk.drew (h : Blk w g t cs) : Blk w.drew g t cs := h
theorem Blk.drewN (h : Blk w g t cs) (n : Nat) : Blk (w.drewN n) g t cs := h
theorem Blk.alloc (h : Blk w g t cs) (o : Obj) : Blk (w.alloc o) g t cs := (Below.heap_alloc w o g h.lt).trans h
theorem Blk.set_ (h : Blk w g t cs) (i : Nat) (u : Value) : Blk (w.setCell ⟨g, i, none⟩ u) g t (cs.setIfInBounds i u) := by
  unfold Blk at h ⊢
  simp [World.setCell, Array.getElem?_modify, h]
theorem Blk.far (h : Blk w g t cs) {p : Addr} (hp : g ≠ p.block) (u : Value) : Blk (w.setCell p u) g t cs := (Below.heap_setCell w p u g hp).trans h
theorem Blk.below {B : Nat} (h : Blk w g t cs) (hb : Below B w w') (hg : g < B) : Blk w' g t cs := (hb.block g hg).trans h
theorem Blk.grown {row : Option Nat} (h : Blk w g t cs) (hb : w.grownBy w' row) (hg : some g ≠ row) : Blk w' g t cs := (hb.block g h.lt hg).trans h
theorem Blk.ne_ {g' : Nat} {t' : TypeId} {cs' : Array Value} (h : Blk w g t cs) (h' : Blk w g' t' cs') (hne : t ≠ t') : g ≠ g' := by
  rintro rfl
  unfold Blk at h h'
  rw [h] at h'
  injection h' with h'
  injection h' with _ ht
  exact hne ht
theorem own_blk_ne {base : Nat} {e : TypeId} {size n : Nat} {v : Value} {xs : List Value} (h : w.ownsRow base e size v n xs) (hg : Blk w g t cs) (hne : e ≠ t) : v.ownBlock ≠ some g := by
  rcases h.2 with ⟨rfl, _⟩ | ⟨g', cap, cur, rfl, _, hh, _⟩
  · simp [Value.ownBlock]
  · intro he
    have : g' = g := by simpa [Value.ownBlock] using he
    subst this
    exact Blk.ne_ (t := e) hh hg hne rfl
end

section
variable {P : Program} (w : World)

theorem run_append_of_nil (base : Nat) (t ty e : TypeId) (i : TypeInfo) (size : Nat) (ht : P.underlying t = some (.slice e)) (hi : P.info? e = some i)
    (v : Value) (n : Nat) (xs : List Value) (hown : w.ownsRow base e size v n xs) (c : Nat) : (Builtin.append_ #[t, t] ty #[v, .slice none 0 c]).run P w = .ok v w := by
  rcases hown.2 with ⟨rfl, rfl⟩ | ⟨g, cap, cur, rfl, _, _, hnc, _⟩
  · simp [Builtin.append_, run_underlying ht, sizeOf, typeInfo, hi, Builtin.lenOf, Builtin.firstCells]
  · simp [Builtin.append_, run_underlying ht, sizeOf, typeInfo, hi, Builtin.lenOf, Builtin.firstCells, hnc, storeCells]

theorem run_append_any (base : Nat) (t ty e : TypeId) (i : TypeInfo) (z : Value) (size bytes : Nat) (ht : P.underlying t = some (.slice e)) (hi : P.info? e = some i) (hz : i.zero = some z)
    (hsize : i.size = size) (hby : i.bytes = bytes) (hzs : z.cells.size = size) (hsz : 0 < size)
    (v : Value) (n : Nat) (xs : List Value) (hown : w.ownsRow base e size v n xs)
    (B : Nat) (A : Option Addr) (m c : Nat) (news : List Value) (hr : Reads w B size A m news) (h1 : ∀ u ∈ news, u.oneCell' = true)
    (h63 : n + m ≤ maxLen) (hbytes : (n + m) * bytes ≤ 140737488355328) (hbase : base ≤ w.heap.size) :
    ∃ v' w', (Builtin.append_ #[t, t] ty #[v, .slice A m c]).run P w = .ok v' w' ∧ w'.ownsRow base e size v' (n + m) (xs ++ news) ∧ w.grownBy w' v.ownBlock ∧
      (v'.ownBlock = v.ownBlock ∨ v'.ownBlock = some w.heap.size) := by
  rcases A with _ | ad
  · have hm : m = 0 := by
      rcases Nat.eq_zero_or_pos m with h0 | h0
      · exact h0
      · obtain ⟨ad, h, _⟩ := hr.2 h0
        cases h
    subst hm
    have hn : news = [] := List.eq_nil_of_length_eq_zero (by simpa using hr.1)
    subst hn
    exact ⟨v, w, run_append_of_nil w base t ty e i size ht hi v n xs hown c, by simpa using hown, World.grownBy.refl w _, .inl rfl⟩
  · have hcells : ∀ j u, news[j]? = some u → w.cell? (ad.add j) = some u := by
      intro j u hu
      rcases Nat.eq_zero_or_pos m with h0 | h0
      · subst h0
        have hn : news = [] := List.eq_nil_of_length_eq_zero (by simpa using hr.1)
        subst hn
        simp at hu
      · obtain ⟨ad', h, _, hc⟩ := hr.2 h0
        injection h with h
        subst h
        exact hc j u hu
    obtain ⟨v', w', hrun, h2, h3, _, h5⟩ := run_append_own_at (P := P) w base t ty e i z size bytes ht hi hz hsize hby hzs hsz v n xs hown ad m c news hr.1 hcells h1 h63 hbytes hbase
    exact ⟨v', w', hrun, h2, h3, h5⟩

theorem wp_append_any {o : Oper} {a : Act} {K : Act → World → Prop} {Q : Exit → Act → World → Prop} (s x : Operand) (t : TypeId)
    (ho : o.op = .call { callee := .builtin .append, args := #[s, x], argTypes := #[t, t] })
    (base : Nat) (e : TypeId) (i : TypeInfo) (z : Value) (size bytes : Nat) (ht : P.underlying t = some (.slice e)) (hi : P.info? e = some i) (hz : i.zero = some z)
    (hsize : i.size = size) (hby : i.bytes = bytes) (hzs : z.cells.size = size) (hsz : 0 < size)
    (v : Value) (n : Nat) (xs : List Value) (hs : a.eval s = v) (hown : w.ownsRow base e size v n xs)
    (B : Nat) (A : Option Addr) (m c : Nat) (news : List Value) (hx : a.eval x = .slice A m c) (hr : Reads w B size A m news) (h1 : ∀ u ∈ news, u.oneCell' = true)
    (h63 : n + m ≤ maxLen) (hbytes : (n + m) * bytes ≤ 140737488355328) (hbase : base ≤ w.heap.size)
    (h : ∀ v' w', w'.ownsRow base e size v' (n + m) (xs ++ news) → w.grownBy w' v.ownBlock → (v'.ownBlock = v.ownBlock ∨ v'.ownBlock = some w.heap.size) → K (a.put o.dst v') w') : o.wp P a w K Q := by
  obtain ⟨v', w', hrun, h2, h3, h4⟩ := run_append_any (P := P) w base t o.type e i z size bytes ht hi hz hsize hby hzs hsz v n xs hown B A m c news hr h1 h63 hbytes hbase
  unfold Oper.wp execOp
  simp only [ho, resolve, invoke, builtin, Sem.run_bind, Sem.run_pure, Result.andThen_ok, List.map_toArray, List.map_cons, List.map_nil, hs, hx, hrun]
  exact h v' w' h2 h3 h4

theorem wpList_append_any {ops : Array Oper} {rest : List Oper} {o : Oper} {a : Act} {Q : Exit → Act → World → Prop} (hgd : o.guard = none) (s x : Operand) (t : TypeId)
    (ho : o.op = .call { callee := .builtin .append, args := #[s, x], argTypes := #[t, t] })
    (base : Nat) (e : TypeId) (i : TypeInfo) (z : Value) (size bytes : Nat) (ht : P.underlying t = some (.slice e)) (hi : P.info? e = some i) (hz : i.zero = some z)
    (hsize : i.size = size) (hby : i.bytes = bytes) (hzs : z.cells.size = size) (hsz : 0 < size)
    (v : Value) (n : Nat) (xs : List Value) (hs : a.eval s = v) (hown : w.ownsRow base e size v n xs)
    (B : Nat) (A : Option Addr) (m c : Nat) (news : List Value) (hx : a.eval x = .slice A m c) (hr : Reads w B size A m news) (h1 : ∀ u ∈ news, u.oneCell' = true)
    (h63 : n + m ≤ maxLen) (hbytes : (n + m) * bytes ≤ 140737488355328) (hbase : base ≤ w.heap.size)
    (h : ∀ v' w', w'.ownsRow base e size v' (n + m) (xs ++ news) → w.grownBy w' v.ownBlock → (v'.ownBlock = v.ownBlock ∨ v'.ownBlock = some w.heap.size) → wpList P ops Q rest (a.put o.dst v') w') : wpList P ops Q (o :: rest) a w :=
  wpList_plain hgd fun _ hK => wp_append_any w s x t ho base e i z size bytes ht hi hz hsize hby hzs hsz v n xs hs hown B A m c news hx hr h1 h63 hbytes hbase fun v' w' h2 h3 h4 => hK _ _ (h v' w' h2 h3 h4)

theorem step_append_any {ops : Array Oper} {o : Oper} {a : Act} {K : Act → World → Prop} {Q : Exit → Act → World → Prop} {E : Prop} (hgd : o.guard = none) (s x : Operand) (t : TypeId)
    (ho : o.op = .call { callee := .builtin .append, args := #[s, x], argTypes := #[t, t] })
    (base : Nat) (e : TypeId) (i : TypeInfo) (z : Value) (size bytes : Nat) (ht : P.underlying t = some (.slice e)) (hi : P.info? e = some i) (hz : i.zero = some z)
    (hsize : i.size = size) (hby : i.bytes = bytes) (hzs : z.cells.size = size) (hsz : 0 < size)
    (v : Value) (n : Nat) (xs : List Value) (hs : a.eval s = v) (hown : w.ownsRow base e size v n xs)
    (B : Nat) (A : Option Addr) (m c : Nat) (news : List Value) (hx : a.eval x = .slice A m c) (hr : Reads w B size A m news) (h1 : ∀ u ∈ news, u.oneCell' = true)
    (h63 : n + m ≤ maxLen) (hbytes : (n + m) * bytes ≤ 140737488355328) (hbase : base ≤ w.heap.size)
    (h : ∀ v' w', w'.ownsRow base e size v' (n + m) (xs ++ news) → w.grownBy w' v.ownBlock → (v'.ownBlock = v.ownBlock ∨ v'.ownBlock = some w.heap.size) → K (a.put o.dst v') w') :
    if Region.wanted o (yielded ops a.tmps) = true then Oper.wp P o a w K Q else E := by
  have hw : Region.wanted o (yielded ops a.tmps) = true := by simp [Region.wanted, hgd]
  rw [if_pos hw]
  exact wp_append_any w s x t ho base e i z size bytes ht hi hz hsize hby hzs hsz v n xs hs hown B A m c news hx hr h1 h63 hbytes hbase h
end

theorem Reads.at1 {w : World} {B n k : Nat} {A : Option Addr} {α : Type} {l : List α} {f : α → Value} (h : Reads w B 1 A n (l.map f)) (hk : k < n) :
    ∃ ad x, A = some ad ∧ w.cell? (ad.add k) = some (f x) ∧ l.take (k + 1) = l.take k ++ [x] ∧ l[k]? = some x ∧ x ∈ l := by
  obtain ⟨ad, u, rfl, _, hx, hc⟩ := h.at_ hk
  rw [List.getElem?_map] at hx
  cases hl : l[k]? with
  | none => rw [hl] at hx; cases hx
  | some x =>
    rw [hl] at hx
    simp only [Option.map_some, Option.some.injEq] at hx
    subst hx
    exact ⟨ad, x, rfl, hc, by rw [List.take_add_one, hl]; rfl, rfl, List.mem_of_getElem? hl⟩

/-- append of one element, laid just before in a block of its own, onto a row of the call's own. -/
theorem wpList_append_one {P : Program} {ops : Array Oper} {rest : List Oper} {o : Oper} {a : Act} {Q : Exit → Act → World → Prop} {w0 : World} {us : List Value} {fr : Nat × Nat} {e : TypeId} (hgd : o.guard = none) (s x : Operand) (t : TypeId)
    (ho : o.op = .call { callee := .builtin .append, args := #[s, x], argTypes := #[t, t] })
    (base : Nat) (z : Value) (size bytes : Nat) (ht : P.underlying t = some (.slice e)) (hi : (P.info? e).map (fun i => (i.zero, i.size, i.bytes)) = some (some z, size, bytes))
    (hzs : z.cells.size = size) (hsz : 0 < size) (v : Value) (n : Nat) (xs : List Value) (hs : a.eval s = v) (hown : w0.ownsRow base e size v n xs) (hbase : base ≤ w0.heap.size)
    (hl : us.length = size) (h1 : ∀ u ∈ us, u.oneCell' = true)
    (hx : a.eval x = .slice (some ⟨w0.heap.size, 0, none⟩) 1 1) (h63 : n + 1 ≤ maxLen) (hbytes : (n + 1) * bytes ≤ 140737488355328)
    (h : ∀ v' w', w'.ownsRow base e size v' (n + 1) (xs ++ us) → Below base w0 w' → w0.heap.size < w'.heap.size → wpList P ops Q rest (a.put o.dst v') w') :
    wpList P ops Q (o :: rest) a (w0.alloc (.cells us.toArray e fr)) := by
  obtain ⟨i0, hi, hz0, hz1, hz2⟩ := info_parts hi
  refine wpList_append_own _ hgd s x t ho base e i0 z size bytes ht hi hz0 hz1 hz2 hzs hsz v n xs hs (hown.alloc _) ⟨w0.heap.size, 0, none⟩ 1 1 us hx (by omega) ?_ h1 h63 hbytes (by simp; omega) ?_
  · intro j u hj
    have e1 : (⟨w0.heap.size, 0, none⟩ : Addr).add j = ⟨w0.heap.size, j, none⟩ := by unfold Addr.add; split <;> simp_all
    rw [e1]
    have : (w0.alloc (.cells us.toArray e fr)).heap[w0.heap.size]? = some (.cells us.toArray e fr) := heap_alloc_new w0 _
    unfold World.cell?
    simp only [this]
    simpa using hj
  · intro v' w' hown' hg _
    have hb : Below base w0 (w0.alloc (.cells us.toArray e fr)) := (Below.refl _ _).alloc hbase _
    refine h v' w' hown' (hb.grown hg (by simp; omega) ?_) ?_
    · intro k hk
      rcases hown.2 with ⟨rfl, _⟩ | ⟨g, cap, cur, rfl, hgb, _⟩
      · simp [Value.ownBlock] at hk
      · simp only [Value.ownBlock, Option.some.injEq] at hk
        omega
    · have := hg.size
      simp at this
      omega

theorem own_mono {w : World} {base base' : Nat} {e : TypeId} {size n : Nat} {v : Value} {xs : List Value} (h : w.ownsRow base e size v n xs) (hb : base' ≤ base) : w.ownsRow base' e size v n xs := by
  obtain ⟨h1, h2⟩ := h
  refine ⟨h1, ?_⟩
  rcases h2 with h2 | ⟨g, cap, cur, hv, hg, r⟩
  · exact .inl h2
  · exact .inr ⟨g, cap, cur, hv, by omega, r⟩

theorem own_below {w w' : World} {base : Nat} {e : TypeId} {size n : Nat} {v : Value} {xs : List Value} (h : w.ownsRow base e size v n xs) (hb : Below w.heap.size w w') : w'.ownsRow base e size v n xs := by
  obtain ⟨h1, h2⟩ := h
  refine ⟨h1, ?_⟩
  rcases h2 with h2 | ⟨g, cap, cur, hv, hg, hh, r⟩
  · exact .inl h2
  · refine .inr ⟨g, cap, cur, hv, hg, ?_, r⟩
    rw [hb.block g ?_]
    · exact hh
    · rcases Nat.lt_or_ge g w.heap.size with h3 | h3
      · exact h3
      · rw [Array.getElem?_eq_none h3] at hh; cases hh

/-- Behind the box of a parameter. -/
theorem below_box {w wr : World} {o : Obj} (h : Below (w.heap.size + 1) (w.alloc o) wr) : Below w.heap.size w wr :=
  ((Below.refl _ _).alloc (Nat.le_refl _) o).trans (h.mono (by omega))
theorem box_cell {w wr : World} {cs : List Value} {t : TypeId} {fr : Nat × Nat} (h : Below (w.heap.size + 1) (w.alloc (.cells cs.toArray t fr)) wr) (j : Nat) : wr.cell? ⟨w.heap.size, j, none⟩ = cs[j]? := by
  rw [h.cell (p := ⟨w.heap.size, j, none⟩) (by simp)]
  have e := heap_alloc_new w (.cells cs.toArray t fr)
  unfold World.cell?
  simp only [e]
  simp

theorem box1 {w w1 : World} {cs : List Value} {t : TypeId} {fr : Nat × Nat} (hb : Below (w.alloc (.cells cs.toArray t fr)).heap.size (w.alloc (.cells cs.toArray t fr)) w1) :
    Below w.heap.size w w1 ∧ w.heap.size < w1.heap.size ∧ ∀ j u, cs[j]? = some u → w1.cell? ⟨w.heap.size, j, none⟩ = some u := by
  have hb' : Below (w.heap.size + 1) (w.alloc (.cells cs.toArray t fr)) w1 := by simpa using hb
  have hs := hb.size
  simp at hs
  exact ⟨below_box hb', by omega, fun j u hj => (box_cell hb' j).trans hj⟩
theorem box3 {w w1 : World} {a b c : Value} {t : TypeId} {fr : Nat × Nat} (hb : Below (w.alloc (.cells #[a, b, c] t fr)).heap.size (w.alloc (.cells #[a, b, c] t fr)) w1) :
    Below w.heap.size w w1 ∧ w.heap.size < w1.heap.size ∧ w1.cell? ⟨w.heap.size, 0, none⟩ = some a ∧ w1.cell? ⟨w.heap.size, 1, none⟩ = some b ∧ w1.cell? ⟨w.heap.size, 2, none⟩ = some c := by
  obtain ⟨h1, h2, h3⟩ := box1 (cs := [a, b, c]) hb
  exact ⟨h1, h2, h3 0 a rfl, h3 1 b rfl, h3 2 c rfl⟩
theorem box4 {w w1 : World} {a b c d : Value} {t : TypeId} {fr : Nat × Nat} (hb : Below (w.alloc (.cells #[a, b, c, d] t fr)).heap.size (w.alloc (.cells #[a, b, c, d] t fr)) w1) :
    Below w.heap.size w w1 ∧ w.heap.size < w1.heap.size ∧ w1.cell? ⟨w.heap.size, 0, none⟩ = some a ∧ w1.cell? ⟨w.heap.size, 1, none⟩ = some b ∧ w1.cell? ⟨w.heap.size, 2, none⟩ = some c ∧ w1.cell? ⟨w.heap.size, 3, none⟩ = some d := by
  obtain ⟨h1, h2, h3⟩ := box1 (cs := [a, b, c, d]) hb
  exact ⟨h1, h2, h3 0 a rfl, h3 1 b rfl, h3 2 c rfl, h3 3 d rfl⟩

theorem choose_list {α β : Type} {f : α → β} {Q : α → Prop} : ∀ (css : List β), (∀ cs ∈ css, ∃ x, Q x ∧ cs = f x) → ∃ l : List α, css = l.map f ∧ ∀ x ∈ l, Q x
  | [], _ => ⟨[], rfl, by simp⟩
  | cs :: css, h => by
    obtain ⟨x, hq, rfl⟩ := h cs (by simp)
    obtain ⟨l, rfl, hl⟩ := choose_list css (fun c hc => h c (by simp [hc]))
    exact ⟨x :: l, rfl, fun y hy => by
      rcases List.mem_cons.1 hy with rfl | hy
      · exact hq
      · exact hl y hy⟩

theorem choose_nat {β : Type} {Q : Nat → β → Prop} : ∀ (n : Nat), (∀ i, i < n → ∃ x, Q i x) → ∃ l : List β, l.length = n ∧ ∀ i x, l[i]? = some x → Q i x
  | 0, _ => ⟨[], rfl, by simp⟩
  | n + 1, h => by
    obtain ⟨l, hl, hq⟩ := choose_nat n (fun i hi => h i (by omega))
    obtain ⟨x, hx⟩ := h n (by omega)
    refine ⟨l ++ [x], by simp [hl], fun i y hy => ?_⟩
    rcases Nat.lt_or_ge i l.length with hi | hi
    · rw [List.getElem?_append_left hi] at hy
      exact hq i y hy
    · rw [List.getElem?_append_right hi] at hy
      have : i - l.length = 0 := by
        rcases Nat.eq_zero_or_pos (i - l.length) with h0 | h0
        · exact h0
        · rw [List.getElem?_eq_none (by simp; omega)] at hy; cases hy
      rw [this] at hy
      simp at hy
      subst hy
      obtain rfl : i = n := by omega
      exact hx

theorem flatten_at {α : Type} {k : Nat} : ∀ (css : List (List α)), (∀ cs ∈ css, cs.length = k) → ∀ (j : Nat) (u : α), css.flatten[j]? = some u → ∃ cs, css[j / k]? = some cs ∧ cs[j % k]? = some u
  | [], _, j, u, h => by simp at h
  | cs :: css, hk, j, u, h => by
    have h0 := hk cs (by simp)
    rw [List.flatten_cons] at h
    rcases Nat.lt_or_ge j cs.length with hj | hj
    · rw [List.getElem?_append_left hj] at h
      refine ⟨cs, ?_, ?_⟩
      · rw [Nat.div_eq_of_lt (by omega)]; rfl
      · rw [Nat.mod_eq_of_lt (by omega)]; exact h
    · rw [List.getElem?_append_right hj] at h
      obtain ⟨c, h1, h2⟩ := flatten_at css (fun c hc => hk c (by simp [hc])) _ u h
      have hkp : 0 < k := by
        rcases Nat.eq_zero_or_pos k with hz | hz
        · subst hz
          have : c = [] := List.eq_nil_of_length_eq_zero (hk c (by simp [List.mem_of_getElem? h1]))
          subst this
          simp at h2
        · exact hz
      have e1 : j / k = (j - cs.length) / k + 1 := by
        rw [h0]
        rw [Nat.div_eq_sub_div hkp (by omega)]
      have e2 : j % k = (j - cs.length) % k := by
        rw [h0]
        exact Nat.mod_eq_sub_mod (by omega)
      exact ⟨c, by rw [e1]; exact h1, by rw [e2]; exact h2⟩

/-- A slice of a flat type that came in. -/
theorem open_flats {H : Type} {enc : TypeId × Value → H} {P : Program} {W : World} {base : Nat} {sp : Nat → Bool} {held : Bool} {t e : TypeId} {ks : List (Option IntKind)} {a0 : Option Addr} {len cap : Nat} {d : DataW H} {p : List MemPlace}
    (ht : P.underlying t = some (.slice e)) (hk : flat P 9 e = some ks) (hC : P.cellsOf e = ks.length) (hpos : 0 < ks.length) (h : DataW.Trod enc P W base sp held t (.slice a0 len cap) d p) :
    ∃ css : List (List Value), css.length = len ∧ (∀ cs ∈ css, FitsAll ks cs) ∧ Reads W W.heap.size ks.length a0 len css.flatten ∧ len ≤ cap ∧ cap ≤ maxLen := by
  obtain ⟨fuel, hf⟩ := h
  rcases Go.Deep.open_slice ht hf with ⟨hcs, _⟩ | ⟨a, len', cap', m, n, D, Pl, hcs, hb, hl, hm, hmm, hx, hi⟩
  · simp [Value.cells] at hcs
    obtain ⟨rfl, rfl, rfl⟩ := hcs
    exact ⟨[], rfl, by simp, by simpa using Reads.none_, Nat.le_refl _, by unfold maxLen; omega⟩
  · simp [Value.cells] at hcs
    obtain ⟨rfl, rfl, rfl⟩ := hcs
    have hml : len ≤ m := by rw [hmm]; split <;> omega
    have h1 : ∀ i, i < len → ∃ cs : List Value, FitsAll ks cs ∧ ∀ j u, cs[j]? = some u → W.cell? ((a.add (i * ks.length)).add j) = some u := by
      intro i hil
      obtain ⟨cs', hc, ht'⟩ := hi i (by omega)
      obtain ⟨_, hcl, hat⟩ := World.cells?_some hc
      refine ⟨cs', trod_flat 9 e ks _ cs' _ hk hcl hC ht', fun j u hj => ?_⟩
      rw [← hC, hat j (by have := (List.getElem?_eq_some_iff.1 hj).1; omega)]
      exact hj
    obtain ⟨css, hcl, hq⟩ := choose_nat len h1
    have hfit : ∀ cs ∈ css, FitsAll ks cs := by
      intro cs hc
      obtain ⟨i, hi⟩ := List.getElem?_of_mem hc
      exact (hq i cs hi).1
    refine ⟨css, hcl, hfit, ⟨?_, fun hn => ⟨a, rfl, ?_, ?_⟩⟩, hl, hm⟩
    · rw [List.length_flatten, ← hcl]
      clear hq hcl
      induction css with
      | nil => simp
      | cons c css ih =>
        rw [List.map_cons, List.sum_cons, ih (fun x hx => hfit x (by simp [hx])), (hfit c (by simp)).length, List.length_cons, Nat.succ_mul]
        omega
    · obtain ⟨cs, hc⟩ : ∃ cs, css[0]? = some cs := ⟨_, List.getElem?_eq_getElem (by omega)⟩
      have hlen := (hq 0 cs hc).1.length
      have hcell := (hq 0 cs hc).2 0 (cs[0]'(by omega)) (List.getElem?_eq_getElem (by omega))
      have := World.block_lt_of_cell? _ _ hcell
      rwa [block_of_add, block_of_add] at this
    · intro j u hj
      obtain ⟨cs, h1, h2⟩ := flatten_at css (fun c hc => (hfit c hc).length) j u hj
      have := (hq _ _ h1).2 _ _ h2
      rw [add_of_add] at this
      rwa [show j / ks.length * ks.length + j % ks.length = j from by rw [Nat.mul_comm]; exact Nat.div_add_mod _ _] at this

theorem ret_int {k : IntKind} {a b : Int} (h : a = b) : Ending.returned (.int k a) = .returned (.int k b) := by rw [h]

end Go.Proofs.Ytmljdjakbbedlaa
