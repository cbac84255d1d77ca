
/-
  Proved here: routes as rows of numbers; what is refused of them; what a list of routes says of a prefix. Plain.
-/
import Derived.Test.YtonelibgaceflaaTriePlain
import Derived.Test.YtonelibgaceflaaFaults
namespace Go.Proofs.Ytonelibgaceflaa

structure RouteV where
  p : PV
  hop : Int

structure RouteV.Ok (r : RouteV) : Prop where
  a : 0 ≤ r.p.hi ∧ r.p.hi < 18446744073709551616
  b : 0 ≤ r.p.lo ∧ r.p.lo < 18446744073709551616
  c : -9223372036854775808 ≤ r.p.n ∧ r.p.n ≤ 9223372036854775807
  d : -9223372036854775808 ≤ r.hop ∧ r.hop ≤ 9223372036854775807

def PV.chk (p : PV) : Int := Go.Proofs.Ytonelibgaceflaa.chk p.six p.hi p.lo p.n
def hasR (l : List RouteV) (p : PV) : Bool := l.any (fun r => decide (r.p = p))
/-- The fault of a route behind some others. -/
def routeF (before : List RouteV) (p : PV) (hop : Int) : Int :=
  if ¬ p.chk = 0 then p.chk else if hop < 1 ∨ 999 < hop then 2 else if hasR before p = true then 8 else 0
def routeAt (l : List RouteV) (i : Nat) : Int := match l[i]? with
  | some s => routeF (l.take i) s.p s.hop
  | none => 0
/-- The first fault of a list of routes. -/
def routesE (l : List RouteV) : Int := firstF (routeAt l) (List.range l.length)
def routesF (l : List RouteV) : Int := if 60 < l.length then 1 else routesE l

/-- The hop of a prefix. -/
def getR : List RouteV → PV → Int
  | [], _ => 0
  | r :: l, p => if r.p = p then r.hop else getR l p
/-- Routes that may be, no prefix twice. -/
def Valid (l : List RouteV) : Prop := (∀ r ∈ l, r.p.Ok ∧ 1 ≤ r.hop ∧ r.hop ≤ 999) ∧ (l.map RouteV.p).Nodup

theorem getR_none {l : List RouteV} {p : PV} (h : hasR l p = false) : getR l p = 0 := by
  induction l with
  | nil => rfl
  | cons r l ih =>
    unfold hasR at h
    simp only [List.any_cons, Bool.or_eq_false_iff, decide_eq_false_iff_not] at h
    unfold getR
    rw [if_neg h.1]
    exact ih h.2
theorem getR_some {l : List RouteV} {p : PV} (hv : ∀ r ∈ l, 1 ≤ r.hop) (h : hasR l p = true) : ¬ getR l p = 0 := by
  induction l with
  | nil => simp [hasR] at h
  | cons r l ih =>
    unfold getR
    by_cases hp : r.p = p
    · rw [if_pos hp]; have := hv r (by simp); omega
    · rw [if_neg hp]
      unfold hasR at h
      simp only [List.any_cons, Bool.or_eq_true, decide_eq_true_eq] at h
      rcases h with h | h
      · exact absurd h hp
      · exact ih (fun r hr => hv r (by simp [hr])) h
theorem getR_snoc {l : List RouteV} {p p' : PV} {hop : Int} (h : hasR l p = false) : getR (l ++ [⟨p, hop⟩]) p' = if p' = p then hop else getR l p' := by
  induction l with
  | nil =>
    show (if p = p' then hop else getR [] p') = _
    by_cases e : p' = p
    · rw [if_pos e, if_pos e.symm]
    · have e' : ¬ p = p' := fun h => e h.symm
      rw [if_neg e, if_neg e']
  | cons r l ih =>
    unfold hasR at h
    simp only [List.any_cons, Bool.or_eq_false_iff, decide_eq_false_iff_not] at h
    show (if r.p = p' then r.hop else getR (l ++ [⟨p, hop⟩]) p') = _
    rw [ih h.2]
    conv => rhs; unfold getR
    by_cases e : r.p = p'
    · have : ¬ p' = p := fun h' => h.1 (e.trans h')
      rw [if_pos e, if_neg this, if_pos e]
    · rw [if_neg e, if_neg e]
theorem valid_snoc {l : List RouteV} {p : PV} {hop : Int} (hv : Valid l) (hp : p.Ok) (hh : 1 ≤ hop ∧ hop ≤ 999) (h : hasR l p = false) : Valid (l ++ [⟨p, hop⟩]) := by
  refine ⟨fun r hr => ?_, ?_⟩
  · rcases List.mem_append.1 hr with hr | hr
    · exact hv.1 r hr
    · simp at hr; subst hr; exact ⟨hp, hh.1, hh.2⟩
  · rw [List.map_append, List.nodup_append]
    refine ⟨hv.2, by simp, fun a ha b hb e => ?_⟩
    simp at hb
    subst hb
    subst e
    obtain ⟨r, hr, he⟩ := List.mem_map.1 ha
    unfold hasR at h
    rw [List.any_eq_false] at h
    exact h r hr (by simpa using he)

end Go.Proofs.Ytonelibgaceflaa
