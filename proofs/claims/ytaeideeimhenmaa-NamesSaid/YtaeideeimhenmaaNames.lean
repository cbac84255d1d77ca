/-
  Proved here: the walk of the law Names.
-/
import Derived.Test.YtaeideeimhenmaaChecked
import Derived.Test.YtaeideeimhenmaaLaw
import Derived.BigQuiet
import Derived.Deep.QuietTactic
namespace Go.Proofs.Ytaeideeimhenmaa
open Go.ChangeShapes Go.WideShapes Go.ChangeAt Go.RowKit

theorem val13 : ∀ k : Nat, k < 13 → (#[Value.int .i64 0, .int .i64 1, .int .i64 2, .int .i64 3, .int .i64 4, .int .i64 5, .int .i64 6, .int .i64 7, .int .i64 8, .int .i64 9, .int .i64 10, .int .i64 11, .int .i64 12] : Array Value)[k]? = some (.int .i64 (k : Int)) := by
  intro k hk
  rcases k with _ | _ | _ | _ | _ | _ | _ | _ | _ | _ | _ | _ | _ | k <;> first | rfl | omega

def arr13 : Array Value := #[Value.int .i64 0, .int .i64 1, .int .i64 2, .int .i64 3, .int .i64 4, .int .i64 5, .int .i64 6, .int .i64 7, .int .i64 8, .int .i64 9, .int .i64 10, .int .i64 11, .int .i64 12]
theorem cell_arr13 (w : World) (k : Nat) (hk : k < 13) : (w.alloc (.cells #[Value.int .i64 0, .int .i64 1, .int .i64 2, .int .i64 3, .int .i64 4, .int .i64 5, .int .i64 6, .int .i64 7, .int .i64 8, .int .i64 9, .int .i64 10, .int .i64 11, .int .i64 12] 22)).cell? ⟨w.heap.size, k, none⟩ = some (.int .i64 (k : Int)) := by
  rw [World.cell?_alloc_at _ _ _ _ rfl]
  exact val13 k hk

structure NmFacts (w wr : World) : Prop where
  below : Below w.heap.size w wr
  a : ∀ k : Nat, k < 12 → ∃ n : Int, wr.cell? ⟨w.heap.size + 1, k, none⟩ = some (.int .i64 n) ∧ wr.cell? ⟨w.heap.size + 1 + 1, k, none⟩ = some (.int .i64 n)
  b : ∀ k : Nat, k < 15 → ∃ n : Int, wr.cell? ⟨w.heap.size + 1 + 1 + 1, k, none⟩ = some (.int .i64 n) ∧ wr.cell? ⟨w.heap.size + 1 + 1 + 1 + 1, k, none⟩ = some (.int .i64 n)

theorem NmFacts.drewN {w wr : World} (h : NmFacts w wr) (n : Nat) : NmFacts w (wr.drewN n) := ⟨below_drewN h.below n, h.a, h.b⟩

def NmRel (w : World) (n : Nat) (i : Value) (wr : World) : Prop := ∃ k : Nat, k ≤ n ∧ i = .int .i64 k ∧ NmFacts w wr

theorem nm_start (w : World) (o : Obj) (xs ys : Array Value) (t t' : TypeId) (hx : xs = #[.int .i64 1, .int .i64 2, .int .i64 3, .int .i64 4, .int .i64 1, .int .i64 2, .int .i64 3, .int .i64 4, .int .i64 1, .int .i64 2, .int .i64 1, .int .i64 2])
    (hy : ys = #[.int .i64 600, .int .i64 60, .int .i64 80, .int .i64 100, .int .i64 999, .int .i64 16, .int .i64 20, .int .i64 64, .int .i64 30, .int .i64 8, .int .i64 4, .int .i64 300, .int .i64 8, .int .i64 60, .int .i64 40]) :
    NmFacts w (((((w.alloc o).alloc (.cells xs t)).alloc (.cells xs t)).alloc (.cells ys t')).alloc (.cells ys t')) := by
  have ia : ∀ k : Nat, k < 12 → ∃ n : Int, xs[k]? = some (.int .i64 n) := by
    subst hx
    intro k hk
    rcases k with _ | _ | _ | _ | _ | _ | _ | _ | _ | _ | _ | _ | k <;> first | exact ⟨_, rfl⟩ | omega
  have ib : ∀ k : Nat, k < 15 → ∃ n : Int, ys[k]? = some (.int .i64 n) := by
    subst hy
    intro k hk
    rcases k with _ | _ | _ | _ | _ | _ | _ | _ | _ | _ | _ | _ | _ | _ | _ | k <;> first | exact ⟨_, rfl⟩ | omega
  clear hx hy
  refine ⟨?_, ?_, ?_⟩
  · exact (((((Below.refl _ _).alloc (Nat.le_refl _) _).alloc (by simp) _).alloc (by simp; omega) _).alloc (by simp; omega) _).alloc (by simp; omega) _
  · intro k hk
    obtain ⟨n, hn⟩ := ia k hk
    refine ⟨n, ?_, ?_⟩
    · rw [World.cell?_alloc_past _ _ _ (by first | (simp; done) | (simp; omega)), World.cell?_alloc_past _ _ _ (by simp), World.cell?_alloc_past _ _ _ (by simp), World.cell?_alloc_at _ _ _ _ (by simp)]
      exact hn
    · rw [World.cell?_alloc_past _ _ _ (by simp), World.cell?_alloc_past _ _ _ (by simp), World.cell?_alloc_at _ _ _ _ (by simp)]
      exact hn
  · intro k hk
    obtain ⟨n, hn⟩ := ib k hk
    refine ⟨n, ?_, ?_⟩
    · rw [World.cell?_alloc_past _ _ _ (by simp), World.cell?_alloc_at _ _ _ _ (by simp)]
      exact hn
    · rw [World.cell?_alloc_at _ _ _ _ (by simp)]
      exact hn

set_option maxHeartbeats 2000000 in
theorem names_any (w : World) :
    Calls Try.prog 3 #[] w fun e w' => e = .returned (.bool true) ∧ Below w.heap.size w w' := by
  go_enter Try.func3, Try.ntmps3
  go_wp2
  go_loop [2] (fun i => ∃ k : Nat, k ≤ 13 ∧ i = .int .i64 k) (fun i => 13 - (intOf i).toNat)
  case atStart => exact ⟨0, by omega, rfl⟩
  case round =>
    obtain ⟨k, hk, rfl⟩ := hrel
    by_cases hlt : k < 13
    · have hc := cell_arr13 w k hlt
      go_wp2
      go_round
      case rel => exact ⟨k + 1, by omega, by go_num⟩
      case measure => simp [intOf]; omega
    · obtain rfl : k = 13 := by omega
      go_wp2
      go_loopw [7] (fun i wr => NmRel w 12 i wr) (fun i _ => 12 - (intOf i).toNat)
      case atStart => exact ⟨0, by omega, rfl, nm_start w _ _ _ _ _ rfl rfl⟩
      case round =>
        obtain ⟨k, hk, rfl, hf⟩ := hrel
        by_cases hlt : k < 12
        · obtain ⟨n, c1, c2⟩ := hf.a k hlt
          have hb := hf.below
          have HF := Lib.hid hf
          clear hf
          have hk1 : (k : Int) < 12 := by omega
          have hk2 : (0 : Int) ≤ (k : Int) := by omega
          go_wp2
          go_quiet (fail)
          go_wp2
          go_roundw
          case rel => exact ⟨k + 1, by omega, by go_num, HF.out.drewN _⟩
          case measure => simp [intOf]; omega
        · obtain rfl : k = 12 := by omega
          have HF := Lib.hid hf
          clear hf
          go_wp2
          obtain ⟨wo, rfl⟩ : ∃ wo : World, wo = wr := ⟨_, rfl⟩
          go_loopw [8] (fun i wr => NmRel w 15 i wr) (fun i _ => 15 - (intOf i).toNat)
          case atStart => exact ⟨0, by omega, rfl, HF.out⟩
          case round =>
            obtain ⟨k, hk, rfl, hf⟩ := hrel
            by_cases hlt : k < 15
            · obtain ⟨n, c1, c2⟩ := hf.b k hlt
              have HG := Lib.hid hf
              clear hf
              have hk1 : (k : Int) < 15 := by omega
              have hk2 : (0 : Int) ≤ (k : Int) := by omega
              go_wp2
              go_quiet (fail)
              go_wp2
              go_roundw
              case rel => exact ⟨k + 1, by omega, by go_num, HG.out.drewN _⟩
              case measure => simp [intOf]; omega
            · obtain rfl : k = 15 := by omega
              have HG := Lib.hid hf
              clear hf
              go_wp2
              go_ret
              exact ⟨rfl, HG.out.below⟩

theorem names_walk {H : Type} {enc : TypeId × Value → H} (W : World) (vs : Array Value) (ds : List (DataW H)) (ps : List MemPlace) (h : ArgsOk Try.prog [] H enc W vs.toList ds ps) :
    Calls Try.prog 3 vs W fun e W' => e = .returned (.bool true) ∧ Below W.heap.size W W' := by
  obtain ⟨hA, ⟨base, hval⟩, _, _⟩ := h
  obtain rfl : vs = #[] := by
    have := (trodAll_length _ _ _ _ hA).2
    cases vs; simp_all
  exact names_any W

end Go.Proofs.Ytaeideeimhenmaa
