
/-
  Proved here: where an address goes by a list of routes is what the tree says. Plain.
-/
import Derived.Test.YtonelibgaceflaaRoutePlain
namespace Go.Proofs.Ytonelibgaceflaa

def hasB (r : RouteV) (six : Bool) (hi lo : Int) : Bool := inB r.p.six r.p.hi r.p.lo r.p.n six hi lo
/-- The hop and the length of the longest prefix so far. -/
def bestStep (six : Bool) (hi lo : Int) (b : Int × Int) (r : RouteV) : Int × Int := if hasB r six hi lo = true ∧ b.2 < r.p.n then (r.hop, r.p.n) else b
def bestTo (l : List RouteV) (six : Bool) (hi lo : Int) : Int × Int := l.foldl (bestStep six hi lo) (0, -1)
def goesR (l : List RouteV) (six : Bool) (hi lo : Int) : Int × Int := if (bestTo l six hi lo).2 < 0 then ((bestTo l six hi lo).1, 0) else bestTo l six hi lo
theorem bestTo_snoc (l : List RouteV) (r : RouteV) (six : Bool) (hi lo : Int) : bestTo (l ++ [r]) six hi lo = bestStep six hi lo (bestTo l six hi lo) r := by
  unfold bestTo; rw [List.foldl_append]; rfl

theorem bestTo_cases (six : Bool) (hi lo : Int) : ∀ (l : List RouteV), (∀ r ∈ l, 0 ≤ r.p.n) →
    (bestTo l six hi lo = (0, -1) ∧ ∀ r ∈ l, hasB r six hi lo = false) ∨ ∃ r ∈ l, hasB r six hi lo = true ∧ bestTo l six hi lo = (r.hop, r.p.n) ∧ ∀ r' ∈ l, hasB r' six hi lo = true → r'.p.n ≤ r.p.n := by
  intro l
  induction hn : l.length generalizing l with
  | zero =>
    intro _
    have : l = [] := List.eq_nil_of_length_eq_zero hn
    subst this
    exact .inl ⟨rfl, by simp⟩
  | succ n ih =>
    intro hpos
    rcases List.eq_nil_or_concat l with rfl | ⟨l', r, rfl⟩
    · simp at hn
    rw [List.concat_eq_append] at *
    have hl' : l'.length = n := by simpa using hn
    have hrn := hpos r (by simp)
    rw [bestTo_snoc]
    unfold bestStep
    rcases ih l' hl' (fun r hr => hpos r (by simp [hr])) with ⟨h1, h2⟩ | ⟨x, hx, h1, h2, h3⟩
    · rw [h1]
      by_cases hb : hasB r six hi lo = true
      · rw [if_pos ⟨hb, by simp only; omega⟩]
        refine .inr ⟨r, by simp, hb, rfl, fun r' hr' hb' => ?_⟩
        rcases List.mem_append.1 hr' with h | h
        · rw [h2 r' h] at hb'; cases hb'
        · simp at h; subst h; exact Int.le_refl _
      · rw [if_neg (fun h => hb h.1)]
        refine .inl ⟨rfl, fun r' hr' => ?_⟩
        rcases List.mem_append.1 hr' with h | h
        · exact h2 r' h
        · simp at h; subst h; simpa using hb
    · rw [h2]
      by_cases hb : hasB r six hi lo = true ∧ x.p.n < r.p.n
      · rw [if_pos hb]
        refine .inr ⟨r, by simp, hb.1, rfl, fun r' hr' hb' => ?_⟩
        rcases List.mem_append.1 hr' with h | h
        · have := h3 r' h hb'; omega
        · simp at h; subst h; exact Int.le_refl _
      · rw [if_neg hb]
        refine .inr ⟨x, by simp [hx], h1, rfl, fun r' hr' hb' => ?_⟩
        rcases List.mem_append.1 hr' with h | h
        · exact h3 r' h hb'
        · simp at h
          subst h
          apply Classical.byContradiction
          intro hc
          exact hb ⟨hb', by omega⟩

theorem getR_mem {l : List RouteV} (hv : Valid l) : ∀ r ∈ l, getR l r.p = r.hop := by
  obtain ⟨hv1, hv2⟩ := hv
  induction l with
  | nil => simp
  | cons x l ih =>
    intro r hr
    simp only [List.map_cons, List.nodup_cons] at hv2
    unfold getR
    rcases List.mem_cons.1 hr with rfl | hr
    · rw [if_pos rfl]
    · rw [if_neg (fun he => hv2.1 (by rw [he]; exact List.mem_map.2 ⟨r, hr, rfl⟩))]
      exact ih (fun r hr => hv1 r (by simp [hr])) hv2.2 r hr
theorem getR_ne {l : List RouteV} {p : PV} (h : ¬ getR l p = 0) : ∃ r ∈ l, r.p = p := by
  induction l with
  | nil => exact absurd rfl h
  | cons x l ih =>
    unfold getR at h
    by_cases hx : x.p = p
    · exact ⟨x, by simp, hx⟩
    · rw [if_neg hx] at h
      obtain ⟨r, hr, he⟩ := ih h
      exact ⟨r, by simp [hr], he⟩

theorem over_addr {q : PV} (hq : q.Ok) (six : Bool) (hi lo : Int) : q.over ⟨six, hi, lo, wideI six⟩ = inB q.six q.hi q.lo q.n six hi lo := by
  unfold PV.over overB
  simp only
  by_cases h : inB q.six q.hi q.lo q.n six hi lo = true
  · rw [h]
    have h6 : q.six = six := by
      unfold inB at h
      simp at h
      exact h.1.symm
    have := (ok_n hq).2
    rw [h6] at this
    simp [this]
  · rw [Bool.not_eq_true] at h
    rw [h]; simp

/-- What the tree finds is what the list says. -/
theorem look_goes {l : List RouteV} {t : Tr} {six : Bool} {hi lo : Int} (hv : Valid l) (hp : PV.Ok ⟨six, hi, lo, wideI six⟩) (hI : Inv six (fun _ => True) t) (hm : ∀ p : PV, p.Ok → p.six = six → hopAt t p = getR l p) :
    lookT ⟨six, hi, lo, wideI six⟩ t (0, 0) = goesR l six hi lo := by
  have hb := look_best hp rfl t _ (0, 0) hI
  have hc := bestTo_cases six hi lo l (fun r hr => (ok_n (hv.1 r hr).1).1)
  unfold goesR
  rcases hb with ⟨hres, hall⟩ | ⟨q, hq, hov, hne, hres, hmax⟩
  · rw [hres]
    rcases hc with ⟨h1, h2⟩ | ⟨r, hr, h1, h2, h3⟩
    · rw [h1, if_pos (by simp only; omega)]
    · exfalso
      have hrv := hv.1 r hr
      have ho := over_addr hrv.1 six hi lo
      have ho2 : r.p.over ⟨six, hi, lo, wideI six⟩ = true := by rw [ho]; exact h1
      have := hall r.p hrv.1 ho2
      rw [hm r.p hrv.1 (over_six hrv.1 hp ho2), getR_mem hv r hr] at this
      omega
  · rw [hres]
    rw [hm q hq (over_six hq hp hov)] at hne
    rw [hm q hq (over_six hq hp hov)]
    obtain ⟨x, hx, rfl⟩ := getR_ne hne
    have hxb : hasB x six hi lo = true := by unfold hasB; rw [← over_addr hq]; exact hov
    rcases hc with ⟨h1, h2⟩ | ⟨r, hr, h1, h2, h3⟩
    · rw [h2 x hx] at hxb; cases hxb
    · have hrv := hv.1 r hr
      have ho2 : r.p.over ⟨six, hi, lo, wideI six⟩ = true := by rw [over_addr hrv.1]; exact h1
      have hr0 := (ok_n hrv.1).1
      have n1 := h3 x hx hxb
      have n2 := hmax r.p hrv.1 ho2 (by rw [hm r.p hrv.1 (over_six hrv.1 hp ho2), getR_mem hv r hr]; omega)
      have he : x.p = r.p := over_eq hq hrv.1 (over_two hq hrv.1 hp hov ho2 n1) (by omega)
      rw [h2, if_neg (by simp only; omega), he, getR_mem hv r hr]

end Go.Proofs.Ytonelibgaceflaa
