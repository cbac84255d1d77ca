
/-
  Proved here: a prefix covers another one just if it has its first and its last address. No program.
-/
import Derived.Test.YtonelibgaceflaaLastPlain
namespace Go.Proofs.Ytonelibgaceflaa
set_option linter.unusedVariables false

/-- Does a prefix cover another one of its family? -/
def overB (six : Bool) (hi lo n : Int) (six' : Bool) (hi' lo' n' : Int) : Bool := decide (n ≤ n') && inB six hi lo n six' hi' lo'

theorem over_iff {six : Bool} {hi lo hi' lo' : Int} {n n' : Nat} (hp : Pfx six hi lo n) (hq : Pfx six hi' lo' n') :
    overB six hi lo n six hi' lo' n' = (inB six hi lo n six hi' lo' && inB six hi lo n six (lastHi six hi' lo' n') (lastLo six hi' lo' n')) := by
  have hr := last_range six hi' lo' n'
  have h1 := inB_iff hp hq.rhi hq.rlo hq.may
  have h2 := inB_iff hp hr.1 hr.2.1 hr.2.2
  have hc := (clean_iff six hi' lo' n' hq.rhi hq.rlo hq.may hq.len.2).1 hq.clean
  have hlp := hp.len.2
  rw [Bool.eq_iff_iff]
  unfold overB
  rw [Bool.and_eq_true, Bool.and_eq_true, decide_eq_true_eq, h1, h2]
  constructor
  · rintro ⟨ha, hb⟩
    refine ⟨hb, fun i hi0 => ?_⟩
    rw [last_bit six hi' lo' n' i (by omega), if_pos (by omega)]
    exact hb i hi0
  · rintro ⟨ha, hb⟩
    refine ⟨?_, ha⟩
    rcases Nat.lt_or_ge n' n with h | h
    · have x1 := ha n' h
      have x2 := hb n' h
      rw [last_bit six hi' lo' n' n' (by omega), if_neg (by omega)] at x2
      have x3 := hc n' (Nat.le_refl _) (by omega)
      omega
    · omega

end Go.Proofs.Ytonelibgaceflaa
