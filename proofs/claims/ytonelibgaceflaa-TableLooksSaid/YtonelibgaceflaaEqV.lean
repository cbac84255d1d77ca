
/-
  Proved here: '==' on addresses, prefixes and routes.
-/
import Derived.Test.YtonelibgaceflaaRouteV
import Derived.Laws.StructEq
namespace Go.Proofs.Ytonelibgaceflaa
open Go.ChangeShapes Go.WideShapes Go.ChangeAt Go.RowKit

set_option maxRecDepth 100000 in
/-- '==' on addresses. -/
theorem eqAV (d : Nat) (six : Bool) (hi lo : Int) (six' : Bool) (hi' lo' : Int) (w : World) : (Op.equalIn (d + 1 + 1) 24 (.agg #[.bool six, .int .u64 hi, .int .u64 lo]) (.agg #[.bool six', .int .u64 hi', .int .u64 lo'])).run Try.prog w = .ok (six == six' && (hi == hi' && lo == lo')) w := by
  have hS : Try.prog.underlying 24 = some (.struct (Try.prog.fieldsOf 24)) := by kernel_rfl
  have hp : Try.prog.stoodInHeld 24 = false := by kernel_rfl
  rw [run_equalIn_agg w (d + 1) 24 _ _ hS hp]
  clear hS hp
  have a1 := Try.isAgg22
  have z1 := Try.sizeOf22
  have a2 := Try.isAgg4
  have z2 := Try.sizeOf4
  simp only [Program.fieldsOf, Try.underlying24]
  go_simp
  by_cases h1 : six = six' <;> by_cases h2 : hi = hi' <;> by_cases h3 : lo = lo' <;> simp [h1, h2, h3]

set_option maxRecDepth 100000 in
/-- '==' on prefixes. -/
theorem eqPVd (d : Nat) (p q : PV) (w : World) : (Op.equalIn (d + 1 + 1 + 1) 35 p.val q.val).run Try.prog w = .ok (decide (p = q)) w := by
  obtain ⟨six, hi, lo, n⟩ := p
  obtain ⟨six', hi', lo', n'⟩ := q
  have hS : Try.prog.underlying 35 = some (.struct (Try.prog.fieldsOf 35)) := by kernel_rfl
  have hp : Try.prog.stoodInHeld 35 = false := by kernel_rfl
  have inner := fun w => eqAV d six hi lo six' hi' lo' w
  have e : (decide ((⟨six, hi, lo, n⟩ : PV) = ⟨six', hi', lo', n'⟩)) = ((six == six' && (hi == hi' && lo == lo')) && n == n') := by
    rw [Bool.eq_iff_iff]
    simp
    constructor
    · rintro ⟨a, b, c, d⟩; exact ⟨⟨a, b, c⟩, d⟩
    · rintro ⟨⟨a, b, c⟩, d⟩; exact ⟨a, b, c, d⟩
  rw [e]
  unfold PV.val
  simp only
  rw [run_equalIn_agg w (d + 1 + 1) 35 _ _ hS hp]
  clear hS hp e
  generalize (six == six' && (hi == hi' && lo == lo')) = b at *
  have a1 := Try.isAgg24
  have z1 := Try.sizeOf24
  have a2 := Try.isAgg3
  have z2 := Try.sizeOf3
  simp only [Program.fieldsOf, Try.underlying35]
  go_simp
  cases b <;> by_cases h4 : n = n' <;> simp [h4]
theorem eqPV (p q : PV) (w : World) : (Op.equalIn 10000 35 p.val q.val).run Try.prog w = .ok (decide (p = q)) w := eqPVd 9997 p q w

def RouteV.val (r : RouteV) : Value := .agg #[.bool r.p.six, .int .u64 r.p.hi, .int .u64 r.p.lo, .int .i64 r.p.n, .int .i64 r.hop]
theorem RouteV.ext' {r r' : RouteV} (h1 : r.p = r'.p) (h2 : r.hop = r'.hop) : r = r' := by cases r; cases r'; simp_all
instance : DecidableEq RouteV := fun a b => decidable_of_iff (a.p = b.p ∧ a.hop = b.hop) ⟨fun h => RouteV.ext' h.1 h.2, fun h => by subst h; exact ⟨rfl, rfl⟩⟩
set_option maxRecDepth 100000 in
/-- '==' on routes. -/
theorem eqRV (r r' : RouteV) (w : World) : (Op.equalIn 10000 37 r.val r'.val).run Try.prog w = .ok (decide (r = r')) w := by
  obtain ⟨⟨six, hi, lo, n⟩, h⟩ := r
  obtain ⟨⟨six', hi', lo', n'⟩, h'⟩ := r'
  have hS : Try.prog.underlying 37 = some (.struct (Try.prog.fieldsOf 37)) := by kernel_rfl
  have hp : Try.prog.stoodInHeld 37 = false := by kernel_rfl
  have inner := fun w => eqPVd 9996 ⟨six, hi, lo, n⟩ ⟨six', hi', lo', n'⟩ w
  have e : (decide ((⟨⟨six, hi, lo, n⟩, h⟩ : RouteV) = ⟨⟨six', hi', lo', n'⟩, h'⟩)) = (decide ((⟨six, hi, lo, n⟩ : PV) = ⟨six', hi', lo', n'⟩) && h == h') := by
    rw [Bool.eq_iff_iff]
    simp
  rw [e]
  unfold RouteV.val
  unfold PV.val at inner
  simp only at inner ⊢
  rw [show (10000 : Nat) = 9999 + 1 from rfl, run_equalIn_agg w 9999 37 _ _ hS hp]
  clear hS hp e
  generalize decide ((⟨six, hi, lo, n⟩ : PV) = ⟨six', hi', lo', n'⟩) = b at *
  have a1 := Try.isAgg35
  have z1 := Try.sizeOf35
  have a2 := Try.isAgg3
  have z2 := Try.sizeOf3
  simp only [Program.fieldsOf, Try.underlying37]
  go_simp
  cases b <;> by_cases h4 : h = h' <;> simp [h4]

end Go.Proofs.Ytonelibgaceflaa
