/-
  
  
  
  
  
  
  
  
-/
import Derived.Test.YtnflaaoapmhjgaaC6
import Derived.Sort.WalkA6
import Derived.Deep.DeepCutAuto
import Derived.Deep.CutBlock
import Derived.Test.YtnflaaoapmhjgaaC2
import Derived.Test.YtnflaaoapmhjgaaC4
import Derived.Sort.AssemblyPlain
import Derived.Shelf.SlSortFuncK.BreakPatternsK
import Derived.Shelf.SlSortFuncK.ComposeK
import Derived.Shelf.GgSortFunc.Tiny
import Derived.Test.YtnflaaoapmhjgaaC5
import Derived.Test.YtnflaaoapmhjgaaC3
import Derived.Laws.StructEq
namespace Go.Proofs.Ytnflaaoapmhjgaa
open Go.ChangeShapes Go.WideShapes Go.ChangeAt Go.RowKit
open Go.Sort (swp size_swp PermIn SortedIn SWO putRowK HoldsK scanSorted shiftDown shiftUp partialIns fixDown fixUp)

variable {α : Type} [Inhabited α] {enc : α → List Value} {k blk off : Nat} {lt : α → α → Bool} {g : Nat} {lb : Array Value} {sf : Nat} {sb : Array Value} {n : Nat} {w : World} {d : Array α}

set_option maxHeartbeats 4000000 in
set_option maxRecDepth 100000 in
theorem partialInsertionSort_g (S : Srt Try.prog enc k blk off lt g lb sf sb n w d) (a b : Nat) (hab : a < b) (hb : b ≤ n) :
    Calls Try.prog 261 #[.agg #[.func (.func g) #[] lb, .func (.func sf) #[] sb], .int .i64 a, .int .i64 b] w fun e w' =>
      ∃ d' fl, Go.Sort.partialInsertionSort lt d a b = (d', fl) ∧ e = .returned (.bool fl) ∧ RowIn enc k blk off w d' w' := by
  obtain ⟨post, hpost⟩ : ∃ post : Ending → World → Prop, (fun e w' => ∃ d' fl, Go.Sort.partialInsertionSort lt d a b = (d', fl) ∧ e = .returned (.bool fl) ∧ RowIn enc k blk off w d' w') = post := ⟨_, rfl⟩
  rw [hpost]
  have HPO := Lib.hid hpost
  clear hpost
  have S1 := S.box (.cells #[.func (.func g) #[] lb, .func (.func sf) #[] sb] 334)
  have eg := S.eg
  have hblk := S.lt'
  have hn := S.small
  have hsd := S.sz
  have PF : Hid (Go.Sort.partialInsertionSort lt d a b = partialIns lt a b (5 - 0) (a + 1) d) := rfl
  go_enter Try.func261, Try.ntmps261
  go_wp2
  go_loopw [7, 8] (fun v7 v8 wr => ∃ (i s : Nat) (dk : Array α), v7 = .int .i64 i ∧ v8 = .int .i64 s ∧ s ≤ 5 ∧ a < i ∧ i ≤ b ∧ dk.size = n ∧ RowIn enc k blk off (w.alloc (.cells #[.func (.func g) #[] lb, .func (.func sf) #[] sb] 334)) dk wr ∧ Hid (partialIns lt a b (5 - s) i dk = partialIns lt a b (5 - 0) (a + 1) d)) (fun _ v8 _ => 5 - (intOf v8).toNat)
  case atStart => exact ⟨a + 1, 0, d, by go_num, rfl, by omega, by omega, by omega, hsd, S1.start, rfl⟩
  case round =>
    obtain ⟨i, s, dk, rfl, rfl, hs5, hai, hib, hds, hR, HE⟩ := hrel
    by_cases hs : s < 5
    · have hsz : (s : Int) < 5 := by omega
      go_upto_block 2 with fail
      go_cut [7] from 17 to 30 (fun v wc => ∃ q : Nat, v = .int .i64 q ∧ Hid (q = scanSorted lt dk b i) ∧ (i ≤ q ∧ q ≤ b) ∧ RowIn enc k blk off (w.alloc (.cells #[.func (.func g) #[] lb, .func (.func sf) #[] sb] 334)) dk wc)
      case first =>
        go_wp2_with fail
        go_loopw [7] (fun v wr => ∃ q : Nat, v = .int .i64 q ∧ (i ≤ q ∧ q ≤ b) ∧ RowIn enc k blk off (w.alloc (.cells #[.func (.func g) #[] lb, .func (.func sf) #[] sb] 334)) dk wr ∧ Hid (scanSorted lt dk b q = scanSorted lt dk b i)) (fun v _ => b - (intOf v).toNat)
        case atStart => exact ⟨i, rfl, by omega, hR, rfl⟩
        case round =>
          obtain ⟨q, rfl, hbd, hR1, HEq⟩ := hrel
          obtain ⟨c0, c1⟩ := hR1.boxed hblk
          by_cases hle : q < b
          · have hlez : (q : Int) < (b : Int) := by omega
            have hl := S1.lessAt hR1 hds q (q - 1) (q : Int) ((q : Int) - 1) rfl (by omega) (by omega) (by omega)
            cases hv : lt dk[q]! dk[q - 1]! with
            | false =>
              rw [hv] at hl
              go_wp2_with fail
              go_at_fn g
              refine hl.mono ?_
              rintro e w2 ⟨rfl, hb2⟩
              have hR2 := hR1.step hb2
              clear hb2
              go_wp2
              go_roundw
              case rel => exact ⟨q + 1, by go_num, by omega, hR2, by show _ = _; rw [← HEq.out]; exact (scanSorted_go lt dk b q hle hv).symm⟩
              case measure => simp [intOf] <;> omega
            | true =>
              rw [hv] at hl
              go_wp2_with fail
              go_at_fn g
              refine hl.mono ?_
              rintro e w2 ⟨rfl, hb2⟩
              have hR2 := hR1.step hb2
              clear hb2
              go_wp2
              go_meet
              case rel => exact ⟨q, rfl, by show _ = _; rw [← HEq.out]; exact (scanSorted_stop lt dk b q (Or.inr hv)).symm, hbd, hR2⟩
          · have hlez : ¬ ((q : Int) < (b : Int)) := by omega
            go_wp2
            go_meet
            case rel => exact ⟨q, rfl, by show _ = _; rw [← HEq.out]; exact (scanSorted_stop lt dk b q (Or.inl hle)).symm, hbd, hR1⟩
      case rest =>
        obtain ⟨q, rfl, Hq, hbd, hRq⟩ := hcut
        clear hR
        obtain ⟨c0, c1⟩ := hRq.boxed hblk
        by_cases hqb : q = b
        · have hqz : ((q : Int) == (b : Int)) = true := by simp; omega
          have hqn : (q == b) = true := by simp; omega
          have HQ := Lib.hid hqb
          clear hqb
          go_wp2
          rw [← HPO.out]
          exact ⟨dk, true, by rw [PF.out, ← HE.out]; exact pi_true lt a b s i dk hs (by rw [← Hq.out]; exact HQ.out), rfl, hRq.box hblk⟩
        · have hqz : ((q : Int) == (b : Int)) = false := by simp; omega
          have hqn : (q == b) = false := by simp; omega
          by_cases h50 : b - a < 50
          · have h50z : (b : Int) - (a : Int) < 50 := by omega
            go_wp2
            rw [← HPO.out]
            exact ⟨dk, false, by rw [PF.out, ← HE.out]; exact pi_short lt a b s i dk hs (by rw [← Hq.out]; exact hqb) h50, rfl, hRq.box hblk⟩
          · have h50z : ¬ ((b : Int) - (a : Int) < 50) := by omega
            obtain ⟨w5, hrun5, hRD1⟩ := S1.swapAt hRq hds q (q - 1) (q : Int) ((q : Int) - 1) rfl (by omega) (by omega) (by omega)
            have hsD1 : (swp dk q (q - 1)).size = n := by rw [size_swp]; exact hds
            obtain ⟨D1, hD1⟩ : ∃ D1, D1 = swp dk q (q - 1) := ⟨_, rfl⟩
            rw [← hD1] at hRD1 hsD1
            have HD1 := Lib.hid hD1
            clear hD1
            go_upto_if 47 with fail
            go_cut [9] from 44 to 66 (fun _ wc => ∃ D' : Array α, D'.size = n ∧ Hid (D' = fixDown lt a q D1) ∧ RowIn enc k blk off (w.alloc (.cells #[.func (.func g) #[] lb, .func (.func sf) #[] sb] 334)) D' wc)
            case first =>
              by_cases h2 : q - a ≥ 2
              · have h2z : (2 : Int) ≤ (q : Int) - (a : Int) := by omega
                go_wp2_with fail
                go_loopw [9] (fun v wr => ∃ (j : Nat) (dj : Array α), v = .int .i64 j ∧ (j ≤ q - 1) ∧ dj.size = n ∧ RowIn enc k blk off (w.alloc (.cells #[.func (.func g) #[] lb, .func (.func sf) #[] sb] 334)) dj wr ∧ Hid (shiftDown lt j dj = shiftDown lt (q - 1) D1)) (fun v _ => (intOf v).toNat)
                case atStart => exact ⟨q - 1, D1, by go_num, by omega, hsD1, hRD1, rfl⟩
                case round =>
                  obtain ⟨j, dj, rfl, hbd2, hsj, hR1, HEj⟩ := hrel
                  obtain ⟨c0, c1⟩ := hR1.boxed hblk
                  clear hRD1
                  by_cases hle : 1 ≤ j
                  · have hlez : (1 : Int) ≤ (j : Int) := by omega
                    have hl := S1.lessAt hR1 hsj j (j - 1) (j : Int) ((j : Int) - 1) rfl (by omega) (by omega) (by omega)
                    cases hv : lt dj[j]! dj[j - 1]! with
                    | true =>
                      rw [hv] at hl
                      go_wp2_with fail
                      go_at_fn g
                      refine hl.mono ?_
                      rintro e w2 ⟨rfl, hb2⟩
                      have hR2 := hR1.step hb2
                      clear hb2
                      obtain ⟨c02, c12⟩ := hR2.boxed hblk
                      obtain ⟨w4, hrun, hR4⟩ := S1.swapAt hR2 hsj j (j - 1) (j : Int) ((j : Int) - 1) rfl (by omega) (by omega) (by omega)
                      go_wp2
                      go_roundw
                      case rel => exact ⟨j - 1, swp dj j (j - 1), by go_num, by omega, by rw [size_swp]; exact hsj, hR4, by show _ = _; rw [← HEj.out]; exact (shiftDown_go lt j dj hle hv).symm⟩
                      case measure => simp [intOf] <;> omega
                    | false =>
                      rw [hv] at hl
                      go_wp2_with fail
                      go_at_fn g
                      refine hl.mono ?_
                      rintro e w2 ⟨rfl, hb2⟩
                      have hR2 := hR1.step hb2
                      clear hb2
                      go_wp2
                      go_meet
                      case rel => exact ⟨dj, hsj, (by show _ = _; unfold fixDown; rw [if_pos h2, ← HEj.out]; exact (shiftDown_stop lt j dj (Or.inr hv)).symm), hR2⟩
                  · have hlez : ¬ ((1 : Int) ≤ (j : Int)) := by omega
                    go_wp2
                    go_meet
                    case rel => exact ⟨dj, hsj, (by show _ = _; unfold fixDown; rw [if_pos h2, ← HEj.out]; exact (shiftDown_stop lt j dj (Or.inl (by omega))).symm), hR1⟩
              · have h2z : ¬ ((2 : Int) ≤ (q : Int) - (a : Int)) := by omega
                go_wp2
                go_meet
                case rel => exact ⟨D1, hsD1, (by show _ = _; unfold fixDown; rw [if_neg h2]), hRD1⟩
            case rest =>
              obtain ⟨D2, hsD2, HD2, hRD2⟩ := hcut
              clear hRD1

              by_cases h2 : b - q ≥ 2
              · have h2z : (2 : Int) ≤ (b : Int) - (q : Int) := by omega
                go_wp2_with fail
                go_loopw [10] (fun v wr => ∃ (j : Nat) (dj : Array α), v = .int .i64 j ∧ (q + 1 ≤ j ∧ j ≤ b) ∧ dj.size = n ∧ RowIn enc k blk off (w.alloc (.cells #[.func (.func g) #[] lb, .func (.func sf) #[] sb] 334)) dj wr ∧ Hid (shiftUp lt b j dj = shiftUp lt b (q + 1) D2)) (fun v _ => b - (intOf v).toNat)
                case atStart => exact ⟨q + 1, D2, by go_num, by omega, hsD2, hRD2, rfl⟩
                case round =>
                  obtain ⟨j, dj, rfl, hbd2, hsj, hR1, HEj⟩ := hrel
                  obtain ⟨c0, c1⟩ := hR1.boxed hblk
                  clear hRD2
                  by_cases hle : j < b
                  · have hlez : (j : Int) < (b : Int) := by omega
                    have hl := S1.lessAt hR1 hsj j (j - 1) (j : Int) ((j : Int) - 1) rfl (by omega) (by omega) (by omega)
                    cases hv : lt dj[j]! dj[j - 1]! with
                    | true =>
                      rw [hv] at hl
                      go_wp2_with fail
                      go_at_fn g
                      refine hl.mono ?_
                      rintro e w2 ⟨rfl, hb2⟩
                      have hR2 := hR1.step hb2
                      clear hb2
                      obtain ⟨c02, c12⟩ := hR2.boxed hblk
                      obtain ⟨w4, hrun, hR4⟩ := S1.swapAt hR2 hsj j (j - 1) (j : Int) ((j : Int) - 1) rfl (by omega) (by omega) (by omega)
                      go_wp2
                      go_roundw
                      case rel => exact ⟨j + 1, swp dj j (j - 1), by go_num, by omega, by rw [size_swp]; exact hsj, hR4, by show _ = _; rw [← HEj.out]; exact (shiftUp_go lt b j dj hle hv).symm⟩
                      case measure => simp [intOf] <;> omega
                    | false =>
                      rw [hv] at hl
                      go_wp2_with fail
                      go_at_fn g
                      refine hl.mono ?_
                      rintro e w2 ⟨rfl, hb2⟩
                      have hR2 := hR1.step hb2
                      clear hb2
                      have HD3 : Hid (dj = fixUp lt b q D2) := (by show _ = _; unfold fixUp; rw [if_pos h2, ← HEj.out]; exact (shiftUp_stop lt b j dj (Or.inr hv)).symm)
                      go_wp2
                      go_roundw
                      case rel => exact ⟨q, s + 1, dj, rfl, by go_num, by omega, by omega, by omega, hsj, hR2, by show _ = _; rw [← HE.out, pi_go lt a b s i q dk hs Hq.out.symm hqb h50, HD3.out, HD2.out, HD1.out]⟩
                      case measure => simp [intOf] <;> omega
                  · have hlez : ¬ ((j : Int) < (b : Int)) := by omega
                    have HD3 : Hid (dj = fixUp lt b q D2) := (by show _ = _; unfold fixUp; rw [if_pos h2, ← HEj.out]; exact (shiftUp_stop lt b j dj (Or.inl hle)).symm)
                    go_wp2
                    go_roundw
                    case rel => exact ⟨q, s + 1, dj, rfl, by go_num, by omega, by omega, by omega, hsj, hR1, by show _ = _; rw [← HE.out, pi_go lt a b s i q dk hs Hq.out.symm hqb h50, HD3.out, HD2.out, HD1.out]⟩
                    case measure => simp [intOf] <;> omega
              · have h2z : ¬ ((2 : Int) ≤ (b : Int) - (q : Int)) := by omega
                have HD3 : Hid (D2 = fixUp lt b q D2) := (by show _ = _; unfold fixUp; rw [if_neg h2])
                go_wp2
                go_roundw
                case rel => exact ⟨q, s + 1, D2, rfl, by go_num, by omega, by omega, by omega, hsD2, hRD2, by show _ = _; rw [← HE.out, pi_go lt a b s i q dk hs Hq.out.symm hqb h50, HD3.out, HD2.out, HD1.out]⟩
                case measure => simp [intOf] <;> omega

    · obtain rfl : s = 5 := by omega
      go_wp2
      rw [← HPO.out]
      exact ⟨dk, false, by rw [PF.out, ← HE.out]; rfl, rfl, hR.box hblk⟩

end Go.Proofs.Ytnflaaoapmhjgaa

namespace Go.Proofs.Ytnflaaoapmhjgaa
open Go.ChangeShapes Go.WideShapes Go.ChangeAt Go.RowKit
open Go.Sort (swp size_swp PermIn SortedIn SWO putRowK HoldsK)

variable {α : Type} [Inhabited α] {enc : α → List Value} {k blk off : Nat} {lt : α → α → Bool} {g : Nat} {lb : Array Value} {sf : Nat} {sb : Array Value} {n : Nat} {w w' : World} {d d' : Array α}

/-- From the library's own family of worlds. -/
theorem RowIn.of_sortWorld (h : HoldsK enc k w blk off d) (hlt : blk < w.heap.size) (hs : d'.size = d.size) (hw : ∃ m os, w' = Go.Proofs.sortWorldK enc k w blk off m d' os) : RowIn enc k blk off w d' w' := by
  obtain ⟨m, os, rfl⟩ := hw
  refine ⟨⟨rfl, rfl, rfl, ?_, fun b hb => ?_⟩, Go.Proofs.holdsK_sortWorldK enc k w blk off m d d' os hlt h hs, hlt⟩
  · rw [size_putK]
    unfold Go.Proofs.sortWorldK
    rw [Go.Sort.size_grow, size_putK]
    show w.heap.size ≤ w.heap.size + _
    omega
  · unfold Go.Proofs.sortWorldK
    rw [Go.Sort.heap_grow_old _ _ (by rw [size_putK]; exact hb)]
    rfl

theorem breakPatterns_g (S : Srt Try.prog enc k blk off lt g lb sf sb n w d) (a b : Nat) (hab : a ≤ b) (hb : b ≤ n) :
    Calls Try.prog 258 #[.agg #[.func (.func g) #[] lb, .func (.func sf) #[] sb], .int .i64 a, .int .i64 b] w fun e w' => e = .returned (.tuple #[]) ∧ RowIn enc k blk off w (Go.Sort.breakPatterns d a b) w' := by
  have hp := (Go.Sort.breakPatterns_holds d a b hab (by rw [S.sz]; exact hb)).1
  have h := Go.Proofs.Any.breakPatterns_func_cells_w (P := Try.prog) (ρ := Try.laysGg14_ren) { Try.laysGg14 with } enc k S.hk (.func g) #[] lb sf sb blk off a b d w (by rw [S.sz]; exact S.swap) S.holds S.lt' hab (by rw [S.sz]; exact hb) (by rw [S.sz]; exact S.small)
  exact h.mono fun e w' ⟨he, hw⟩ => ⟨he, RowIn.of_sortWorld S.holds S.lt' hp hw⟩
theorem reverseRange_g (S : Srt Try.prog enc k blk off lt g lb sf sb n w d) (a b : Nat) (hab : a ≤ b) (hb : b ≤ n) :
    Calls Try.prog 260 #[.agg #[.func (.func g) #[] lb, .func (.func sf) #[] sb], .int .i64 a, .int .i64 b] w fun e w' => e = .returned (.tuple #[]) ∧ RowIn enc k blk off w (Go.Sort.reverseRange d a b) w' := by
  have hp := (Go.Sort.reverseRange_holds d a b hab (by rw [S.sz]; exact hb)).1
  have h := Go.Proofs.Any.reverseRange_func_cells_w (P := Try.prog) (ρ := Try.laysGg14_ren) { Try.laysGg14 with } enc k S.hk (.func g) #[] lb sf sb blk off a b d w (by rw [S.sz]; exact S.swap) S.holds S.lt' hab (by rw [S.sz]; exact hb) (by rw [S.sz]; exact S.small)
  exact h.mono fun e w' ⟨he, hw⟩ => ⟨he, RowIn.of_sortWorld S.holds S.lt' hp hw⟩

/-- What sorts a part sorts the whole. -/
def Goes (lt : α → α → Bool) (a b : Nat) (d : Array α) (x y : Nat) (dk : Array α) : Prop := ∀ R, PermIn x y dk R → SortedIn lt x y R → PermIn a b d R ∧ SortedIn lt a b R
theorem Goes.perm {a b x y : Nat} {dk : Array α} (h : Goes lt a b d x y dk) (hp : PermIn x y dk d') : Goes lt a b d x y d' := fun R hR hs => h R (Go.Sort.permIn_trans _ _ _ x y hp hR) hs

def Sorts (enc : α → List Value) (k blk off : Nat) (lt : α → α → Bool) (a b : Nat) (w : World) (d : Array α) (e : Ending) (w' : World) : Prop :=
  e = .returned (.tuple #[]) ∧ ∃ d', PermIn a b d d' ∧ SortedIn lt a b d' ∧ RowIn enc k blk off w d' w'

set_option maxHeartbeats 8000000 in
set_option maxRecDepth 1000000 in
theorem pdqsort_g (hO : SWO lt) : ∀ (N a b limit : Nat) (d : Array α) (w : World), b - a < N → Srt Try.prog enc k blk off lt g lb sf sb n w d → a ≤ b → b ≤ n → limit < 4611686018427387904 → Go.Sort.Below lt a b d →
    Calls Try.prog 229 #[.agg #[.func (.func g) #[] lb, .func (.func sf) #[] sb], .int .i64 a, .int .i64 b, .int .i64 limit] w (Sorts enc k blk off lt a b w d) := by
  intro N
  induction N with
  | zero => intro _ _ _ _ _ h; exact absurd h (Nat.not_lt_zero _)
  | succ N ih =>
    intro a b limit d w hN S hab hb hlimit hBel0
    have IH := Lib.hid ih
    clear ih
    have S1 := S.box (.cells #[.func (.func g) #[] lb, .func (.func sf) #[] sb] 334)
    have eg := S.eg
    have hblk := S.lt'
    have hn := S.small
    have hsd := S.sz
    obtain ⟨post, hpost⟩ : ∃ post : Ending → World → Prop, Sorts enc k blk off lt a b w d = post := ⟨_, rfl⟩
    rw [hpost]
    have HPO := Lib.hid hpost
    clear hpost
    go_enter Try.func229, Try.ntmps229
    go_wp2
    go_loopw [1, 2, 3, 8, 9] (fun s1 s2 s3 s8 s9 wr => ∃ (a' b' lim : Nat) (wb wp : Bool) (dk : Array α), s1 = .int .i64 a' ∧ s2 = .int .i64 b' ∧ s3 = .int .i64 lim ∧ s8 = .bool wb ∧ s9 = .bool wp ∧
      a ≤ a' ∧ a' ≤ b' ∧ b' ≤ b ∧ lim ≤ limit ∧ dk.size = n ∧ Go.Sort.Below lt a' b' dk ∧ RowIn enc k blk off (w.alloc (.cells #[.func (.func g) #[] lb, .func (.func sf) #[] sb] 334)) dk wr ∧ Goes lt a b d a' b' dk) (fun s1 s2 _ _ _ _ => (intOf s2).toNat - (intOf s1).toNat)
    case atStart => exact ⟨a, b, limit, true, true, d, rfl, rfl, rfl, rfl, rfl, Nat.le_refl _, hab, Nat.le_refl _, Nat.le_refl _, hsd, hBel0, S1.start, fun R hR hs => ⟨hR, hs⟩⟩
    case round =>
      obtain ⟨a', b', lim, wb, wp, dk, rfl, rfl, rfl, rfl, rfl, haa, hab', hbb, hlim, hds, hBel, hR, hG⟩ := hrel
      have HG := Lib.hid hG
      have HBel := Lib.hid hBel
      clear hG hBel hBel0
      obtain ⟨c0, c1⟩ := hR.boxed hblk
      by_cases h12 : b' - a' ≤ 12
      · have h12z : (b' : Int) - (a' : Int) ≤ 12 := by omega
        have C := Lib.hid (insertionSort_g (S1.to hR hds) a' b' hab' (by omega))
        go_wp2_with ((with_reducible refine C.out.mono ?_); rintro e w1 ⟨rfl, hR1⟩)
        (try simp only [Exit.inBlock, Exit.then])
        refine bodyPost_ret (results_none rfl _ _ _) rfl ?_
        rw [← HPO.out]
        have hp := Go.Sort.insertionSort_holds hO dk a' b' hab' (by omega)
        obtain ⟨g1, g2⟩ := HG.out _ hp.1 hp.2
        exact ⟨rfl, _, g1, g2, (hR.on hR1 hp.1.1).box hblk⟩
      · have h12z : ¬ ((b' : Int) - (a' : Int) ≤ 12) := by omega
        by_cases hl0 : lim = 0
        · subst hl0
          have C := Lib.hid (heapSort_g (S1.to hR hds) a' b' (by omega) (by omega))
          go_wp2_with ((with_reducible refine C.out.mono ?_); rintro e w1 ⟨rfl, hR1⟩)
          (try simp only [Exit.inBlock, Exit.then])
          refine bodyPost_ret (results_none rfl _ _ _) rfl ?_
          rw [← HPO.out]
          have hp := Go.Sort.heapSort_holds hO dk a' b' hab' (by omega)
          obtain ⟨g1, g2⟩ := HG.out _ hp.1 hp.2
          exact ⟨rfl, _, g1, g2, (hR.on hR1 hp.1.1).box hblk⟩
        · have hl0z : ¬ ((lim : Int) = 0) := by omega
          have hl0y : ((lim : Int) == 0) = false := by simp; omega
          go_upto_if 35 with fail
          go_cut [3] from 19 (fun s3 wc => ∃ (lim' : Nat) (dk' : Array α), s3 = .int .i64 lim' ∧ lim' ≤ lim ∧ dk'.size = n ∧ Hid (PermIn a' b' dk dk') ∧ RowIn enc k blk off (w.alloc (.cells #[.func (.func g) #[] lb, .func (.func sf) #[] sb] 334)) dk' wc)
          case first =>
            cases wb
            · have C := Lib.hid (breakPatterns_g (S1.to hR hds) a' b' hab' (by omega))
              have hp := Go.Sort.breakPatterns_holds dk a' b' hab' (by omega)
              have hps := hp.1
              have HP := Lib.hid hp
              clear hp
              go_wp2_with ((with_reducible refine C.out.mono ?_); rintro e w1 ⟨rfl, hR1⟩)
              go_meet
              case rel => exact ⟨lim - 1, _, by go_num, by omega, by omega, HP.out, hR.on hR1 hps⟩
            · go_wp2_with fail
              go_meet
              case rel => exact ⟨lim, dk, rfl, Nat.le_refl _, hds, Go.Sort.permIn_refl _ _ _, hR⟩
          case rest =>
            obtain ⟨lim1, d1, rfl, hlim1, hs1, HP1, hR1⟩ := hcut
            clear c0 c1 hR
            obtain ⟨c0, c1⟩ := hR1.boxed hblk
            have C := Lib.hid (choosePivot_g (S1.to hR1 hs1) a' b' (by omega) (by omega))
            go_upto_if 50 with ((with_reducible refine C.out.mono ?_); rintro e w2 ⟨p, hc, rfl, hp1, hp2, hh, hb2⟩)
            have hR2 := hR1.step hb2
            clear hb2 c0 c1 hR1 C
            obtain ⟨c0, c1⟩ := hR2.boxed hblk
            go_cut [11, 12] from 19 (fun s11 s12 wc => ∃ (p' hc' : Nat) (dk' : Array α), s11 = .int .i64 p' ∧ s12 = .int .i64 hc' ∧ a' ≤ p' ∧ p' < b' ∧ hc' ≤ 2 ∧ dk'.size = n ∧ Hid (PermIn a' b' dk dk') ∧ RowIn enc k blk off (w.alloc (.cells #[.func (.func g) #[] lb, .func (.func sf) #[] sb] 334)) dk' wc)
            case first =>
              by_cases hh2 : hc = 2
              · subst hh2
                have C := Lib.hid (reverseRange_g (S1.to hR2 hs1) a' b' hab' (by omega))
                have hp := Go.Sort.reverseRange_holds d1 a' b' hab' (by omega)
                have hps := hp.1
                have HP := Lib.hid hp
                clear hp
                go_wp2_with ((with_reducible refine C.out.mono ?_); rintro e w3 ⟨rfl, hR3⟩)
                go_meet
                case rel => exact ⟨b' - 1 - (p - a'), 1, _, by congr 1; omega, rfl, by omega, by omega, by omega, by omega, Go.Sort.permIn_trans _ _ _ a' b' HP1.out HP.out, hR2.on hR3 hps⟩
              · have hh2z : ¬ ((hc : Int) = 2) := by omega
                have hh2y : ((hc : Int) == 2) = false := by simp; omega
                go_wp2_with fail
                go_meet
                case rel => exact ⟨p, hc, d1, rfl, rfl, hp1, hp2, hh, hs1, HP1.out, hR2⟩
            case rest =>
              obtain ⟨pv, hc3, d2, rfl, rfl, hpv1, hpv2, hh3, hs2, HP2, hR3⟩ := hcut
              clear c0 c1 hR2 HP1 hp1 hp2 hh
              obtain ⟨c0, c1⟩ := hR3.boxed hblk
              go_upto_region 16 with fail
              go_cut [68] from 19 (fun s68 wx => (∃ x : Bool, s68 = .bool x) ∧ wx = wc)
              case first =>
                by_cases h1 : hc3 = 1
                · subst h1
                  cases wb <;> cases wp <;>
                    (go_wp2_with fail
                     go_meet
                     exact ⟨⟨_, rfl⟩, rfl⟩)
                · have h1y : ((hc3 : Int) == 1) = false := by simp; omega
                  cases wb <;> cases wp <;>
                    (go_wp2_with fail
                     go_meet
                     exact ⟨⟨_, rfl⟩, rfl⟩)
              case rest =>
                obtain ⟨⟨x68, rfl⟩, rfl⟩ := hcut
                go_upto_if 68 with fail
                go_cut [] from 19 (fun wx => ∃ dk' : Array α, dk'.size = n ∧ Hid (PermIn a' b' dk dk') ∧ RowIn enc k blk off (w.alloc (.cells #[.func (.func g) #[] lb, .func (.func sf) #[] sb] 334)) dk' wx)
                case first =>
                  cases x68
                  · go_wp2_with fail
                    go_meet
                    case rel => exact ⟨d2, hs2, HP2.out, hR3⟩
                  · have C := Lib.hid (partialInsertionSort_g (S1.to hR3 hs2) a' b' (by omega) (by omega))
                    have hB2 := HBel.out.perm (by omega) HP2.out
                    have hq := Go.Sort.partialInsertionSort_holds hO d2 a' b' (by omega) (by omega) hB2
                    have HQ := Lib.hid hq
                    clear hq hB2
                    go_upto_if 72 with ((with_reducible refine C.out.mono ?_); rintro e w4 ⟨d4, fl, hx, rfl, hR4⟩)
                    have hq := HQ.out
                    rw [hx] at hq
                    obtain ⟨q1, q2⟩ := hq
                    simp only [] at q1 q2
                    have hs4 : d4.size = n := by rw [q1.1]; exact hs2
                    have HQ1 := Lib.hid q1
                    have HQ2 := Lib.hid q2
                    clear q1 q2 hx HQ
                    cases fl
                    · go_wp2_with fail
                      go_meet
                      case rel => exact ⟨d4, hs4, Go.Sort.permIn_trans _ _ _ a' b' HP2.out HQ1.out, hR3.on hR4 (by omega)⟩
                    · go_wp2_with fail
                      (try simp only [Exit.inBlock, Exit.then])
                      refine bodyPost_ret (results_none rfl _ _ _) rfl ?_
                      rw [← HPO.out]
                      obtain ⟨g1, g2⟩ := HG.out d4 (Go.Sort.permIn_trans _ _ _ a' b' HP2.out HQ1.out) (HQ2.out (by first | rfl | trivial))
                      exact ⟨rfl, _, g1, g2, (hR3.on hR4 (by omega)).box hblk⟩
                case rest =>
                  obtain ⟨d3, hs3, HP3, hR5⟩ := hcut
                  clear c0 c1 hR3 HP2
                  obtain ⟨c0, c1⟩ := hR5.boxed hblk
                  have HB3 : Hid (Go.Sort.Below lt a' b' d3) := HBel.out.perm (by omega) HP3.out
                  go_upto_region 18 with fail
                  go_cut [83] from 19 (fun s83 wx => s83 = .bool (decide (a' > 0) && !lt d3[a' - 1]! d3[pv]!) ∧ RowIn enc k blk off (w.alloc (.cells #[.func (.func g) #[] lb, .func (.func sf) #[] sb] 334)) d3 wx)
                  case first =>
                    rcases Nat.eq_zero_or_pos a' with ha0 | ha0
                    · have ha0z : decide ((a' : Int) > 0) = false := decide_eq_false (by omega)
                      go_wp2_with fail
                      go_meet
                      case rel => exact ⟨by simp [ha0], hR5⟩
                    · have ha0z : (a' : Int) > 0 := by omega
                      have hl := S1.lessAt hR5 hs3 (a' - 1) pv ((a' : Int) - 1) (pv : Int) (by omega) rfl (by omega) (by omega)
                      cases hlv : lt d3[a' - 1]! d3[pv]!
                      all_goals
                        rw [hlv] at hl
                        go_wp2_with fail
                        go_at_fn g
                        refine hl.mono ?_
                        rintro e w6 ⟨rfl, hb6⟩
                        have hR6 := hR5.step hb6
                        clear hb6
                        go_wp2_with fail
                        go_meet
                        exact ⟨by simp [ha0, hlv], hR6⟩
                  case rest =>
                    obtain ⟨rfl, hR6⟩ := hcut
                    clear c0 c1 hR5
                    obtain ⟨c0, c1⟩ := hR6.boxed hblk
                    cases h87 : (decide (a' > 0) && !lt d3[a' - 1]! d3[pv]!)
                    · have C := Lib.hid (partition_g (S1.to hR6 hs3) a' b' pv hpv1 hpv2 (by omega))
                      go_upto_if 109 with ((with_reducible refine C.out.mono ?_); rintro e w7 ⟨mid, ap, d4, hx, rfl, hR7⟩; obtain ⟨r1, r2, r3, r4, r5, r6, r7⟩ := Go.Sort.round_part hO (Go.Sort.partition_holds lt) hpv1 hpv2 (show b' ≤ d3.size by omega) HB3.out hx; have R3 := Lib.hid r3; have R4 := Lib.hid r4; have R5 := Lib.hid r5; have R6 := Lib.hid r6; have R7 := Lib.hid r7; clear hx r3 r4 r5 r6 r7)
                      have hs4 : d4.size = n := by rw [R3.out]; exact hs3
                      have hR8 := hR6.on hR7 R3.out
                      clear hR7 c0 c1 hR6
                      obtain ⟨c0, c1⟩ := hR8.boxed hblk
                      by_cases h4 : mid - a' < b' - mid
                      · have h4z : (mid : Int) - (a' : Int) < (b' : Int) - (mid : Int) := by omega
                        have CI := Lib.hid (IH.out a' mid lim1 d4 _ (by omega) (S1.to hR8 hs4) (by omega) (by omega) (by omega) R4.out)
                        go_wp2_with ((with_reducible refine CI.out.mono ?_); rintro e w8 ⟨rfl, d5, p5, s5, hR9⟩)
                        go_roundw
                        case measure => simp [intOf] <;> omega
                        case rel =>
                          obtain ⟨x1, x2⟩ := R6.out d5 p5 s5
                          exact ⟨mid + 1, b', lim1, _, ap, d5, by go_num, rfl, rfl, rfl, rfl, by omega, by omega, hbb, by omega, by rw [p5.1]; exact hs4, x1, hR8.on hR9 p5.1, fun R hR hs => (HG.out.perm HP3.out) R (x2 R hR hs).1 (x2 R hR hs).2⟩
                      · have h4z : ¬ ((mid : Int) - (a' : Int) < (b' : Int) - (mid : Int)) := by omega
                        have CI := IH.out (mid + 1) b' lim1 d4 _ (by omega) (S1.to hR8 hs4) (by omega) (by omega) (by omega) R5.out
                        rw [show ((mid + 1 : Nat) : Int) = (mid : Int) + 1 by omega] at CI
                        have CI := Lib.hid CI
                        go_wp2_with ((with_reducible refine CI.out.mono ?_); rintro e w8 ⟨rfl, d5, p5, s5, hR9⟩)
                        go_roundw
                        case measure => simp [intOf] <;> omega
                        case rel =>
                          obtain ⟨x1, x2⟩ := R7.out d5 p5 s5
                          exact ⟨a', mid, lim1, _, ap, d5, rfl, rfl, rfl, rfl, rfl, haa, by omega, by omega, by omega, by rw [p5.1]; exact hs4, x1, hR8.on hR9 p5.1, fun R hR hs => (HG.out.perm HP3.out) R (x2 R hR hs).1 (x2 R hR hs).2⟩
                    · have h87' := h87
                      simp only [Bool.and_eq_true, decide_eq_true_eq, Bool.not_eq_true'] at h87'
                      have C := Lib.hid (partitionEqual_g (S1.to hR6 hs3) a' b' pv hpv1 hpv2 (by omega))
                      go_wp2_with ((with_reducible refine C.out.mono ?_); rintro e w7 ⟨mid, d4, hx, rfl, hR7⟩)
                      obtain ⟨r1, r2, r3, r4, r5⟩ := Go.Sort.round_eq hO (Go.Sort.partitionEqual_holds lt) h87'.1 hpv1 hpv2 (show b' ≤ d3.size by omega) HB3.out h87'.2 hx
                      go_roundw
                      case measure => simp [intOf] <;> omega
                      case rel => exact ⟨mid, b', lim1, wb, wp, d4, rfl, rfl, rfl, rfl, rfl, by omega, r2, hbb, by omega, by rw [r3]; exact hs3, r4, hR6.on hR7 r3, fun R hR hs => (HG.out.perm HP3.out) R (r5 R hR hs).1 (r5 R hR hs).2⟩

end Go.Proofs.Ytnflaaoapmhjgaa

namespace Go.Proofs.Ytnflaaoapmhjgaa
open Go.ChangeShapes Go.WideShapes Go.ChangeAt Go.RowKit
open Go.Sort (swp size_swp PermIn SortedIn SWO putRowK HoldsK)

noncomputable def tyR : TypeInfo := (Try.prog.info? 36).get (by kernel_rfl)
noncomputable def tyE : TypeInfo := (Try.prog.info? 57).get (by kernel_rfl)
theorem swapK (n : Nat) (h2 : 2 ≤ n) : Lib.swapperK n tyE 25 = 9 := by
  have a : tyE.hasPointers = false := by kernel_rfl
  have b : tyE.bytes = 40 := by kernel_rfl
  have c : (n == 0) = false := by simp; omega
  have d : (n == 1) = false := by simp; omega
  simp [Lib.swapperK, a, b, c, d]

set_option maxRecDepth 100000 in
theorem sortSlice_g (W : World) (blk n c : Nat) (g : Nat) (lb : Array Value) (d : Array OkR) (h2 : 2 ≤ n) (hn : n < 4611686018427387904)
    (eg : ∀ args w, (callFunc g args).run Try.prog w = .ok (.enter g args) w) (hH : HoldsK encR 5 W blk 0 d) (hblk : blk < W.heap.size) (hs : d.size = n)
    (hless : LessG Try.prog g lb encR 5 ltR blk 0 W n) :
    Calls Try.prog 183 #[.iface 36 (.slice (some ⟨blk, 0, none⟩) n c), .func (.func g) #[] lb] W fun e w' => e = .returned (.tuple #[]) ∧ ∃ d', PermIn 0 n d d' ∧ SortedIn ltR 0 n d' ∧ RowIn encR 5 blk 0 W d' w' := by
  refine Go.Proofs.Any.sort_Slice_of_pdq Try.laysGg6 36 57 tyR tyE (by kernel_rfl) (by kernel_rfl) (by kernel_rfl) (by kernel_rfl) 25 (fun _ => by kernel_rfl) (some ⟨blk, 0, none⟩) n c hn 255 (by rw [swapK n h2]; kernel_rfl) (.func g) #[] lb W _ ?_
  unfold Go.Proofs.sliceBound
  rw [swapK n h2]
  have hB : Below W.heap.size W (Go.Proofs.sliceWorld Try.prog Try.laysGg6_ren 36 (some ⟨blk, 0, none⟩) n c W) := by
    unfold Go.Proofs.sliceWorld
    exact ((Below.refl _ _).alloc (Nat.le_refl _) _).alloc (by simp) _
  have S0 : Srt Try.prog encR 5 blk 0 ltR g lb 255 #[.slice (some ⟨blk, 0, none⟩) n c, typeHandle Try.prog 57] n W d :=
    ⟨encR_length, eg, hless, Go.Proofs.swapSwapsK_of_literal false 255 (fun args W => run_callFunc_extern Try.func255 (by kernel_rfl) (by kernel_rfl) (by kernel_rfl) (e := Extern.ReflectliteSwapper.swap false) (by kernel_rfl) args W) 57 tyE (by kernel_rfl) encR 5 encR_length (by kernel_rfl) (fun w => by kernel_rfl) (by intro x v hv; simp [encR, RouteV.cells] at hv; rcases hv with rfl | rfl | rfl | rfl | rfl <;> rfl) blk 0 n c, hH, hblk, hs, hn⟩
  have S1 := S0.to (S0.start.step hB) hs
  have hbl : Lib.bitLen n < 4611686018427387904 := Nat.lt_of_le_of_lt (Lib.bitLen_le n 62 (by omega) (by omega)) (by omega)
  refine (pdqsort_g swo_ltR (n + 1) 0 n (Lib.bitLen n) d _ (by omega) S1 (Nat.zero_le _) (Nat.le_refl _) hbl (Or.inl rfl)).mono ?_
  rintro e w' ⟨rfl, d', hp, hso, hr⟩
  exact ⟨rfl, d', hp, hso, (S0.start.step hB).on hr (hp.1)⟩

/-- What is told of a row that was sorted. -/
def SortedRow (w : World) (base : Nat) (v : Value) (n : Nat) (l : List OkR) (e : Ending) (w' : World) : Prop :=
  e = .returned (.tuple #[]) ∧ ∃ l' : List OkR, l'.Perm l ∧ l'.Pairwise (fun x y => ltR y x = false) ∧ w'.ownsRow base 57 5 v n (l'.flatMap encR) ∧ w.grownBy w' v.ownBlock

theorem RowIn.grown {α : Type} [Inhabited α] {enc : α → List Value} {k blk off : Nat} {w W : World} {d : Array α} (h : RowIn enc k blk off w d W) : w.grownBy W (some blk) :=
  ⟨h.below.os, h.below.tape, h.below.output, h.size, fun b hb hn => h.block hb (fun e => hn (by rw [e]))⟩
theorem perm_list {α : Type} [Inhabited α] {l : List α} {d' : Array α} (h : PermIn 0 l.length l.toArray d') : d'.toList.Perm l := by
  have h3 := h.2.2
  have e1 : (d'.extract 0 l.length).toList = d'.toList := by
    have : d'.size = l.length := by rw [h.1]; simp
    rw [← this]; simp
  have e2 : (l.toArray.extract 0 l.length).toList = l := by simp
  rw [e1, e2] at h3
  exact h3
theorem sorted_list {α : Type} [Inhabited α] {lt : α → α → Bool} {d : Array α} {n : Nat} (hs : d.size = n) (h : SortedIn lt 0 n d) : d.toList.Pairwise (fun x y => lt y x = false) := by
  rw [List.pairwise_iff_getElem]
  intro i j hi hj hij
  have := h i j (Nat.zero_le _) hij (by simpa [hs] using hj)
  rw [getElem!_pos d j (by simpa using hj), getElem!_pos d i (by simpa using hi)] at this
  exact this

set_option maxRecDepth 100000 in
set_option maxHeartbeats 1000000 in
theorem sortRoutes_any {w : World} {base n : Nat} {v : Value} {l : List OkR} (h : w.ownsRow base 57 5 v n (l.flatMap encR)) (hl : l.length = n) (hn : n < 4611686018427387904) :
    Calls Try.prog 126 #[v] w (SortedRow w base v n l) := by
  obtain ⟨A, c, rfl, hcap, _⟩ := own_reads h
  have hB : Below w.heap.size w (w.alloc (.cells #[.slice A n c] 36)) := (Below.refl _ _).alloc (Nat.le_refl _) _
  obtain ⟨post, hpost⟩ : ∃ post : Ending → World → Prop, SortedRow w base (.slice A n c) n l = post := ⟨_, rfl⟩
  rw [hpost]
  have HPO := Lib.hid hpost
  clear hpost
  have H := Lib.hid h
  by_cases h2 : 2 ≤ n
  · obtain ⟨g, rfl⟩ : ∃ g, A = some ⟨g, 0, none⟩ := by
      rcases h.2 with ⟨hv, h0⟩ | ⟨g, cap, cur, hv, _⟩
      · omega
      · injection hv with h0 _ _
        exact ⟨g, h0⟩
    obtain ⟨hH, hg, hbg, _, _⟩ := own_holdsK encR_length h hl
    have hcell : (w.alloc (.cells #[.slice (some ⟨g, 0, none⟩) n c] 36)).cell? ⟨w.heap.size, 0, none⟩ = some (.slice (some ⟨g, 0, none⟩) n c) := by
      have hb := Blk.new w 36 #[.slice (some ⟨g, 0, none⟩) n c]
      exact hb.cell 0
    have hless : LessG Try.prog 184 #[.pointer (some ⟨w.heap.size, 0, none⟩)] encR 5 ltR g 0 (w.alloc (.cells #[.slice (some ⟨g, 0, none⟩) n c] 36)) n := by
      intro W dk hR hs i j hi hj
      exact sortLess_any W g n c w.heap.size dk hR.holds hR.lt' (Nat.lt_of_lt_of_le (by simp) hR.size) hs hn hcap i j hi hj (by rw [hR.cell (by simp) (by omega)]; exact hcell)
    have CS := Lib.hid (sortSlice_g _ g n c 184 #[.pointer (some ⟨w.heap.size, 0, none⟩)] l.toArray h2 hn (enters_of Try.func184 (by kernel_rfl) rfl) (holds_below hH hB hg) (by simp; omega) (by simpa using hl) hless)
    clear hless hcell h
    go_enter Try.func126, Try.ntmps126
    go_wp2_with (go_at_call 183; (with_reducible refine CS.out.mono ?_); rintro e w2 ⟨rfl, d', hp, hso, hr⟩)
    (try go_end0)
    rw [← HPO.out]
    have hr2 := hr.box hg
    have hs' : d'.size = n := by rw [hp.1]; simpa using hl
    exact ⟨rfl, d'.toList, perm_list (by rw [hl]; exact hp), sorted_list hs' hso, hr2.owns encR_length H.out hs', hr2.grown⟩
  · have hk : ∃ f, Try.prog.funcs.findIdx? (·.name == "internal/reflectlite" ++ ".Swapper$" ++ toString (Lib.swapperK n tyE 25)) = some f := by
      rcases (by omega : n = 0 ∨ n = 1) with rfl | rfl
      · exact ⟨247, by kernel_rfl⟩
      · exact ⟨248, by kernel_rfl⟩
    obtain ⟨f, hf⟩ := hk
    have CS : Hid (∀ X : World, Calls Try.prog 183 #[.iface 36 (.slice A n c), .func (.func 184) #[] #[.pointer (some ⟨w.heap.size, 0, none⟩)]] X fun e w' => e = .returned (.tuple #[]) ∧ ∃ os, w' = Go.Sort.grow X os) := (fun (X : World) => Go.Proofs.Any.sort_Slice_tiny Try.laysGg6 36 57 tyR tyE (by kernel_rfl) (by kernel_rfl) (by kernel_rfl) (by kernel_rfl) 25 (fun _ => by kernel_rfl) A n c (by omega) f hf (.func 184) #[] #[.pointer (some ⟨w.heap.size, 0, none⟩)] X)
    clear h hf
    go_enter Try.func126, Try.ntmps126
    go_wp2_with (go_at_call 183; (with_reducible refine (CS.out _).mono ?_); rintro e w2 ⟨rfl, os, rfl⟩)
    (try go_end0)
    rw [← HPO.out]
    have hb : Below w.heap.size w (Go.Sort.grow (w.alloc (.cells #[.slice A n c] 36)) os) := by
      refine hB.trans ⟨rfl, rfl, rfl, by rw [Go.Sort.size_grow]; omega, fun b hb => Go.Sort.heap_grow_old _ _ (by simp; omega)⟩
    have hpw : l.Pairwise (fun x y => ltR y x = false) := by
      match l, hl with
      | [], _ => exact List.Pairwise.nil
      | [x], _ => exact List.pairwise_singleton _ _
      | _ :: _ :: _, hl => simp at hl; omega
    exact ⟨rfl, l, List.Perm.refl _, hpw, own_below H.out hb, ⟨hb.os, hb.tape, hb.output, hb.size, fun b hb' _ => hb.block b hb'⟩⟩

end Go.Proofs.Ytnflaaoapmhjgaa

namespace Go.Proofs.Ytnflaaoapmhjgaa
open Go.ChangeShapes Go.WideShapes Go.ChangeAt Go.RowKit

theorem preIn_has (r : RouteV) (six' : Bool) (hi' lo' : Int) (w : World) (hp : r.p.Ok) (ha : AV.Ok ⟨six', hi', lo'⟩) :
    Calls Try.prog 161 #[.agg #[.bool r.p.six, .int .u64 r.p.hi, .int .u64 r.p.lo, .int .i64 r.p.n], .agg #[.bool six', .int .u64 hi', .int .u64 lo']] w fun e w' => e = .returned (.bool (hasB r six' hi' lo')) ∧ Below w.heap.size w w' := by
  obtain ⟨⟨six, hi, lo, n⟩, hop⟩ := r
  obtain ⟨m, rfl⟩ : ∃ m : Nat, n = m := ⟨n.toNat, by have := (ok_n hp).1; simp only at this; omega⟩
  exact preIn_any six hi lo m six' hi' lo' w hp ha.rhi ha.rlo ha.may

set_option maxRecDepth 100000 in
set_option maxHeartbeats 3200000 in
theorem goes_any (A : Option Addr) (n c : Nat) (l : List RouteV) (six : Bool) (hi lo : Int) (w : World) (h : IsRoutes w A n c l) (hv : Valid l) (ha : AV.Ok ⟨six, hi, lo⟩) (hn60 : n ≤ 60) :
    Calls Try.prog 98 #[.slice A n c, .agg #[.bool six, .int .u64 hi, .int .u64 lo]] w fun e w' => e = .returned (.agg #[.int .i64 0, .int .i64 (goesR l six hi lo).1, .int .i64 (goesR l six hi lo).2]) ∧ Below w.heap.size w w' := by
  have HR := Lib.hid h.2.2.2
  have HZ := Lib.hid h.1
  have HV := Lib.hid hv
  have HPI := Lib.hid (fun (r : RouteV) (w : World) (hr : r ∈ l) => preIn_has r six hi lo w (hv.1 r hr).1 ha)
  obtain ⟨res, hres⟩ : ∃ res, goesR l six hi lo = res := ⟨_, rfl⟩
  rw [hres]
  have HRES := Lib.hid hres
  clear h hv ha hres
  go_enter Try.func98, Try.ntmps98
  go_wp2_with fail
  obtain ⟨X, hX⟩ : ∃ X, (((w.alloc (.cells #[.bool six, .int .u64 hi, .int .u64 lo] 44)).alloc (.cells #[.int .i64 0, .int .i64 0, .int .i64 0] 47)).alloc (.cells #[.int .i64 0, .int .i64 0, .int .i64 (-1)] 47)) = X := ⟨_, rfl⟩
  have kA : Blk X w.heap.size 44 #[.bool six, .int .u64 hi, .int .u64 lo] := by rw [← hX]; exact ((Blk.new _ _ _).alloc _).alloc _
  have kR : Blk X (w.heap.size + 1) 47 #[.int .i64 0, .int .i64 0, .int .i64 0] := by
    rw [← hX]
    have := (Blk.new (w.alloc (.cells #[.bool six, .int .u64 hi, .int .u64 lo] 44)) 47 #[.int .i64 0, .int .i64 0, .int .i64 0])
    simp only [World.size_alloc] at this
    exact this.alloc _
  have kO : Blk X (w.heap.size + 1 + 1) 47 (NoteCs (0, -1)) := by
    rw [← hX]
    have := (Blk.new ((w.alloc (.cells #[.bool six, .int .u64 hi, .int .u64 lo] 44)).alloc (.cells #[.int .i64 0, .int .i64 0, .int .i64 0] 47)) 47 #[.int .i64 0, .int .i64 0, .int .i64 (-1)])
    simp only [World.size_alloc] at this
    exact this
  have hXs : X.heap.size = w.heap.size + 3 := by rw [← hX]; simp
  have hXb : Below w.heap.size w X := by rw [← hX]; exact ((((Below.refl _ _).alloc (Nat.le_refl _) _).alloc (by simp) _).alloc (by simp; omega) _)
  rw [hX]
  have HA := Lib.hid kA
  have HRR := Lib.hid kR
  have HOO := Lib.hid kO
  have HXB := Lib.hid hXb
  have HXS := Lib.hid hXs
  clear kA kR kO hXb hX hXs
  go_loopw [11, 7] (fun i _ wr => ∃ k : Nat, k ≤ n ∧ i = .int .i64 k ∧ Blk wr (w.heap.size + 1 + 1) 47 (NoteCs (bestTo (l.take k) six hi lo)) ∧ Kept [w.heap.size + 1 + 1] X wr) (fun i _ _ => n - (intOf i).toNat)
  case atStart => exact ⟨0, by omega, rfl, HOO.out, Kept.of_below (Below.refl _ _)⟩
  case round =>
    obtain ⟨k, hk, rfl, hbst, hkp⟩ := hrel
    have hxs := HXS.out
    have hsz := hkp.size
    have HB : Hid (Below w.heap.size w wr) := HXB.out.trans (hkp.below (by simp; omega) (by omega))
    have hb := HB.out
    have kA2 : Blk wr w.heap.size 44 _ := HA.out.keep1 hkp (by simp; omega)
    have kR2 : Blk wr (w.heap.size + 1) 47 _ := HRR.out.keep1 hkp (by simp)
    obtain ⟨bst, hbs⟩ : ∃ b, bestTo (l.take k) six hi lo = b := ⟨_, rfl⟩
    rw [hbs] at hbst
    have HBS := Lib.hid hbs
    have HBST := Lib.hid hbst
    have HKP := Lib.hid hkp
    have a0 := kA2.cell 0
    have a1 := kA2.cell 1
    have a2 := kA2.cell 2
    have b0 := hbst.cell 0
    have b1 := hbst.cell 1
    have b2 := hbst.cell 2
    have fb0 := hbst.frozen 0
    have fb1 := hbst.frozen 1
    have fb2 := hbst.frozen 2
    have r0 := kR2.cell 0
    have r1 := kR2.cell 1
    have r2 := kR2.cell 2
    have f0 := kR2.frozen 0
    have f1 := kR2.frozen 1
    have f2 := kR2.frozen 2
    simp [NoteCs] at a0 a1 a2 b0 b1 b2 r0 r1 r2
    have la : w.heap.size < wr.heap.size := by omega
    have lr : w.heap.size + 1 < wr.heap.size := by omega
    have lb : w.heap.size + 1 + 1 < wr.heap.size := by omega
    clear kA2 kR2 hbst hkp hbs hxs hsz
    by_cases hlt : k < n
    · obtain ⟨ad, ⟨⟨rsix, rhi, rlo, pn⟩, hop⟩, rfl, hlk, htk, hmem, hbk, hc0, hcj⟩ := HR.out.atS RouteV.cells_length HZ.out hlt
      have q0 := (hb.cell (p := ad.add (k * 5)) (by rw [block_of_add]; exact hbk)).trans (hc0 _ rfl)
      have q1 := (hb.cell (p := ⟨(ad.add (k * 5)).block, (ad.add (k * 5)).off + 1, none⟩) (by rw [block_of_add]; exact hbk)).trans (hcj 1 _ rfl)
      have q2 := (hb.cell (p := ⟨(ad.add (k * 5)).block, (ad.add (k * 5)).off + 2, none⟩) (by rw [block_of_add]; exact hbk)).trans (hcj 2 _ rfl)
      have q3 := (hb.cell (p := ⟨(ad.add (k * 5)).block, (ad.add (k * 5)).off + 3, none⟩) (by rw [block_of_add]; exact hbk)).trans (hcj 3 _ rfl)
      have q4 := (hb.cell (p := ⟨(ad.add (k * 5)).block, (ad.add (k * 5)).off + 4, none⟩) (by rw [block_of_add]; exact hbk)).trans (hcj 4 _ rfl)
      have CPI := Lib.hid (fun w => HPI.out _ w hmem)
      have HST : Hid (bestTo (l.take (k + 1)) six hi lo = bestStep six hi lo bst ⟨⟨rsix, rhi, rlo, pn⟩, hop⟩) := by show _ = _; rw [htk, bestTo_snoc, HBS.out]
      simp only at CPI
      obtain ⟨hv, hhv⟩ : ∃ hv, hasB ⟨⟨rsix, rhi, rlo, pn⟩, hop⟩ six hi lo = hv := ⟨_, rfl⟩
      unfold bestStep at HST
      rw [hhv] at CPI HST
      clear hlk htk hmem hbk hc0 hcj hb hhv
      by_cases hcase : hv = true ∧ bst.2 < pn
      · obtain ⟨rfl, hgt⟩ := hcase
        have HST2 : Hid (bestTo (l.take (k + 1)) six hi lo = (hop, pn)) := by show _ = _; rw [HST.out, if_pos ⟨rfl, hgt⟩]
        clear HST
        go_wp2_with fail
        refine (CPI.out _).mono ?_
        rintro e w2 ⟨rfl, hb2⟩
        obtain ⟨fc, ff⟩ := bcell hb2
        have hs2 := hb2.size
        simp at hs2
        have HB2 : Hid (Below wr.heap.size wr w2) := balloc1 hb2
        have l2 : wr.heap.size < w2.heap.size := by omega
        clear hb2
        go_wp2
        go_roundw
        case rel => exact ⟨k + 1, by omega, by go_num, by rw [HST2.out]; simpa [NoteCs] using ((((HBST.out.below HB2.out lb).set_ 0 (.int .i64 0)).set_ 1 (.int .i64 hop)).set_ 2 (.int .i64 pn)), ((((HKP.out.then_below HB2.out).setCell (.inl (by simp)) _).setCell (.inl (by simp)) _).setCell (.inl (by simp)) _)⟩
        case measure => simp [intOf]; omega
      · have HST2 : Hid (bestTo (l.take (k + 1)) six hi lo = bst) := by show _ = _; rw [HST.out, if_neg hcase]
        clear HST
        have hd : hv = false ∨ (hv = true ∧ pn ≤ bst.2) := by
          cases hv
          · exact .inl rfl
          · right
            refine ⟨rfl, ?_⟩
            rcases Int.lt_or_le bst.2 pn with hx | hx
            · exact absurd ⟨rfl, hx⟩ hcase
            · exact hx
        clear hcase
        rcases hd with rfl | ⟨rfl, hle⟩
        all_goals
          go_wp2_with fail
          refine (CPI.out _).mono ?_
          rintro e w2 ⟨rfl, hb2⟩
          obtain ⟨fc, ff⟩ := bcell hb2
          have hs2 := hb2.size
          simp at hs2
          have HB2 : Hid (Below wr.heap.size wr w2) := balloc1 hb2
          have l2 : wr.heap.size < w2.heap.size := by omega
          clear hb2
          go_wp2
          go_roundw
          case rel => exact ⟨k + 1, by omega, by go_num, by rw [HST2.out]; exact HBST.out.below HB2.out lb, HKP.out.then_below HB2.out⟩
          case measure => simp [intOf]; omega
    · obtain rfl : k = n := by omega
      have HB5 : Hid (res = if bst.2 < 0 then (bst.1, 0) else bst) := by
        show _ = _
        rw [← HRES.out]
        unfold goesR
        have := HBS.out
        rw [List.take_of_length_le (by rw [HZ.out]; omega)] at this
        rw [this]
      clear hb
      by_cases hneg : bst.2 < 0
      · have HB6 : Hid (res = (bst.1, 0)) := by show _ = _; rw [HB5.out, if_pos hneg]
        clear HB5
        go_wp2
        refine bodyPost_ret (v := .agg #[.int .i64 0, .int .i64 bst.1, .int .i64 0]) ?_ rfl ⟨by rw [HB6.out], ?_⟩
        · simp [results, Try.results98, go_sem, r0, r1, r2]
        · (repeat' first | with_reducible exact HB.out | with_reducible refine Below.drew ?_ | with_reducible refine below_drewN ?_ _ | with_reducible refine Below.setCell ?_ ?_ _ | (simp; done) | (simp; omega) | omega)
      · have HB6 : Hid (res = bst) := by show _ = _; rw [HB5.out, if_neg hneg]
        clear HB5
        go_wp2
        refine bodyPost_ret (v := .agg #[.int .i64 0, .int .i64 bst.1, .int .i64 bst.2]) ?_ rfl ⟨by rw [HB6.out], ?_⟩
        · simp [results, Try.results98, go_sem, r0, r1, r2]
        · (repeat' first | with_reducible exact HB.out | with_reducible refine Below.drew ?_ | with_reducible refine below_drewN ?_ _ | with_reducible refine Below.setCell ?_ ?_ _ | (simp; done) | (simp; omega) | omega)

end Go.Proofs.Ytnflaaoapmhjgaa

namespace Go.Proofs.Ytnflaaoapmhjgaa
open Go.ChangeShapes Go.WideShapes Go.ChangeAt Go.RowKit

theorem step_append_far {P : Program} {ops : Array Oper} {o : Oper} {a : Act} {w : World} {K : Act → World → Prop} {Q : Exit → Act → World → Prop} {E : Prop} (hgd : o.guard = none) (s x : Operand) (t : TypeId)
    (ho : o.op = .call { callee := .builtin .append, args := #[s, x], argTypes := #[t, t] })
    (base : Nat) (e : TypeId) (z : Value) (size bytes : Nat) (ht : P.underlying t = some (.slice e)) (hi : (P.info? e).map (fun i => (i.zero, i.size, i.bytes)) = some (some z, size, bytes))
    (hzs : z.cells.size = size) (hsz : 0 < size)
    (v : Value) (n : Nat) (xs : List Value) (hs : a.eval s = v) (hown : w.ownsRow base e size v n xs)
    (B : Nat) (A : Option Addr) (m c : Nat) (news : List Value) (hx : a.eval x = .slice A m c) (hr : Reads w B size A m news) (h1 : ∀ u ∈ news, u.oneCell' = true)
    (h63 : n + m ≤ maxLen) (hbytes : (n + m) * bytes ≤ 140737488355328) (hbase : base ≤ w.heap.size)
    (h : ∀ v' w', w'.ownsRow base e size v' (n + m) (xs ++ news) → Below base w w' → w.grownBy w' v.ownBlock → K (a.put o.dst v') w') :
    if Region.wanted o (yielded ops a.tmps) = true then Oper.wp P o a w K Q else E := by
  obtain ⟨i0, hi, hz0, hz1, hz2⟩ := info_parts hi
  refine step_append_any w hgd s x t ho base e i0 z size bytes ht hi hz0 hz1 hz2 hzs hsz v n xs hs hown B A m c news hx hr h1 h63 hbytes hbase fun v' w' h2 h3 _ => h v' w' h2 ((Below.refl _ _).grown h3 hbase ?_) h3
  intro k hk
  rcases hown.2 with ⟨rfl, _⟩ | ⟨g, cap, cur, rfl, hgb, _⟩
  · simp [Value.ownBlock] at hk
  · simp only [Value.ownBlock, Option.some.injEq] at hk
    omega
theorem step_append_farI {P : Program} {ops : Array Oper} {o : Oper} {a : Act} {w : World} {K : Act → World → Prop} {Q : Exit → Act → World → Prop} {E : Prop} {s x : Operand} (us : List Value) (m : Nat) (t : TypeId) (n : Nat) (xs : List Value) (hgd : o.guard = none)
    (ho : o.op = .call { callee := .builtin .append, args := #[s, x], argTypes := #[t, t] })
    (base : Nat) (e : TypeId) (z : Value) (size bytes : Nat) (ht : P.underlying t = some (.slice e)) (hi : (P.info? e).map (fun i => (i.zero, i.size, i.bytes)) = some (some z, size, bytes))
    (hzs : z.cells.size = size) (hsz : 0 < size)
    (hown : w.ownsRow base e size (a.eval s) n xs) (hx : ∃ A c, a.eval x = .slice A m c ∧ Reads w w.heap.size size A m us) (h1 : ∀ u ∈ us, u.oneCell' = true)
    (h63 : n + m ≤ maxLen) (hbytes : (n + m) * bytes ≤ 140737488355328) (hbase : base ≤ w.heap.size)
    (h : ∀ v' w', w'.ownsRow base e size v' (n + m) (xs ++ us) → Below base w w' → w.grownBy w' (a.eval s).ownBlock → K (a.put o.dst v') w') :
    if Region.wanted o (yielded ops a.tmps) = true then Oper.wp P o a w K Q else E := by
  obtain ⟨A, c, hx, hr⟩ := hx
  exact step_append_far hgd s x t ho base e z size bytes ht hi hzs hsz _ n xs rfl hown _ A m c us hx hr h1 h63 hbytes hbase h
theorem reads_new {w : World} {us : List Value} {e : TypeId} {fr : Nat × Nat} {size : Nat} (hl : us.length = size) :
    Reads (w.alloc (.cells us.toArray e fr)) (w.alloc (.cells us.toArray e fr)).heap.size size (some ⟨w.heap.size, 0, none⟩) 1 us := by
  refine ⟨by simp [hl], fun _ => ⟨_, rfl, by simp, fun j u hj => ?_⟩⟩
  have e1 : (⟨w.heap.size, 0, none⟩ : Addr).add j = ⟨w.heap.size, j, none⟩ := by unfold Addr.add; split <;> simp_all
  rw [e1]
  have : (w.alloc (.cells us.toArray e fr)).heap[w.heap.size]? = some (.cells us.toArray e fr) := heap_alloc_new w _
  unfold World.cell?
  simp only [this]
  simpa using hj

theorem reads_new_old {w w' : World} {us : List Value} {e : TypeId} {fr : Nat × Nat} {size : Nat} (hl : us.length = size) (hb : Below (w.alloc (.cells us.toArray e fr)).heap.size (w.alloc (.cells us.toArray e fr)) w') :
    Reads w' w'.heap.size size (some ⟨w.heap.size, 0, none⟩) 1 us := ((reads_new (w := w) (e := e) (fr := fr) hl).below hb).more hb.size
theorem reads_new_oldD {w w' : World} {us : List Value} {e : TypeId} {fr : Nat × Nat} {size : Nat} (hl : us.length = size) (hb : Below (w.alloc (.cells us.toArray e fr)).drew.heap.size (w.alloc (.cells us.toArray e fr)).drew w') :
    Reads w' w'.heap.size size (some ⟨w.heap.size, 0, none⟩) 1 us := reads_new_old hl (below_step ((Below.refl _ _).drew) hb)
theorem step_append_nilI {P : Program} {ops : Array Oper} {o : Oper} {a : Act} {w : World} {K : Act → World → Prop} {Q : Exit → Act → World → Prop} {E : Prop} {s x : Operand} (us : List Value) (m : Nat) (t : TypeId) (hgd : o.guard = none)
    (ho : o.op = .call { callee := .builtin .append, args := #[s, x], argTypes := #[t, t] })
    (base : Nat) (e : TypeId) (z : Value) (size bytes : Nat) (ht : P.underlying t = some (.slice e)) (hi : (P.info? e).map (fun i => (i.zero, i.size, i.bytes)) = some (some z, size, bytes))
    (hzs : z.cells.size = size) (hsz : 0 < size)
    (hs : a.eval s = .slice none 0 0) (hx : ∃ A c, a.eval x = .slice A m c ∧ Reads w w.heap.size size A m us) (h1 : ∀ u ∈ us, u.oneCell' = true)
    (h63 : m ≤ maxLen) (hbytes : m * bytes ≤ 140737488355328) (hbase : base ≤ w.heap.size)
    (h : ∀ v' w', w'.ownsRow base e size v' m us → Below w.heap.size w w' → K (a.put o.dst v') w') :
    if Region.wanted o (yielded ops a.tmps) = true then Oper.wp P o a w K Q else E := by
  obtain ⟨A, c, hx, hr⟩ := hx
  exact step_append_nil hgd s x t ho base e z size bytes ht hi hzs hsz hs _ A m c us hx hr h1 h63 hbytes hbase h

end Go.Proofs.Ytnflaaoapmhjgaa

namespace Go.Proofs.Ytnflaaoapmhjgaa
open Go.ChangeShapes Go.WideShapes Go.ChangeAt Go.RowKit

theorem Reads.front {w : World} {B size : Nat} {A : Option Addr} {n k : Nat} {α : Type} {f : α → List Value} {l : List α} (hf : ∀ x, (f x).length = size) (h : Reads w B size A n (l.flatMap f)) (hz : l.length = n) (hk : k ≤ n) : Reads w B size A k ((l.take k).flatMap f) := by
  have hlen : ∀ l : List α, (l.flatMap f).length = l.length * size := by
    intro l
    induction l with
    | nil => simp
    | cons x l ih => rw [List.flatMap_cons, List.length_append, hf, ih, List.length_cons, Nat.add_mul]; omega
  refine ⟨by rw [hlen, List.length_take, hz, Nat.min_eq_left hk], fun h0 => ?_⟩
  obtain ⟨ad, rfl, hb, hc⟩ := h.2 (by omega)
  refine ⟨ad, rfl, hb, fun j u hu => hc j u ?_⟩
  have e : l.flatMap f = (l.take k).flatMap f ++ (l.drop k).flatMap f := by rw [← List.flatMap_append, List.take_append_drop]
  rw [e]
  rw [List.getElem?_append_left]
  · exact hu
  · exact (List.getElem?_eq_some_iff.1 hu).1

end Go.Proofs.Ytnflaaoapmhjgaa

namespace Go.Proofs.Ytnflaaoapmhjgaa
open Go.ChangeShapes Go.WideShapes Go.ChangeAt Go.RowKit

theorem infoRouteP : (Try.prog.info? 57).map (fun i => (i.zero, i.size, i.bytes)) = some (some (.agg #[.bool false, .int .u64 0, .int .u64 0, .int .i64 0, .int .i64 0]), 5, 40) := by kernel_rfl
def OwnRs (w : World) (base : Nat) (v : Value) (L : List RouteV) : Prop := w.ownsRow base 57 5 v L.length (L.flatMap RouteV.cells)
theorem routes_flat_len (q : List RouteV) : (q.flatMap RouteV.cells).length = q.length * 5 := by
  induction q with
  | nil => rfl
  | cons x q ih => simp [List.flatMap_cons, ih, RouteV.cells]; omega
theorem rts_one (l : List RouteV) : ∀ u ∈ l.flatMap RouteV.cells, u.oneCell' = true := by
  intro u hu
  obtain ⟨a, _, ha⟩ := List.mem_flatMap.1 hu
  simp [RouteV.cells] at ha
  rcases ha with rfl | rfl | rfl | rfl | rfl <;> rfl
theorem rflat_drop (q : List RouteV) {z : Nat} (hz : z ≤ q.length) : (q.flatMap RouteV.cells).drop (z * 5) = (q.drop z).flatMap RouteV.cells := by
  have e : q.flatMap RouteV.cells = (q.take z).flatMap RouteV.cells ++ (q.drop z).flatMap RouteV.cells := by rw [← List.flatMap_append, List.take_append_drop]
  have hl : ((q.take z).flatMap RouteV.cells).length = z * 5 := by rw [routes_flat_len, List.length_take, Nat.min_eq_left hz]
  rw [e, ← hl, List.drop_left]
theorem rset_flat {q : List RouteV} {u : Nat} {a : RouteV} (hu : u < q.length) : (q.set u a).flatMap RouteV.cells = ((q.take u).flatMap RouteV.cells ++ a.cells) ++ (q.drop (u + 1)).flatMap RouteV.cells := by
  rw [List.set_eq_take_append_cons_drop, if_pos hu, List.flatMap_append, List.flatMap_cons, List.append_assoc]
/-- A row of routes of the call's own that is not empty: its place, its cells. -/
theorem OwnRs.form {w : World} {base : Nat} {v : Value} {L : List RouteV} (h : OwnRs w base v L) (h0 : 0 < L.length) :
    ∃ g c cur, v = .slice (some ⟨g, 0, none⟩) L.length c ∧ base ≤ g ∧ Blk w g 57 cur ∧ L.length ≤ c ∧ c ≤ maxLen ∧ cur.size = c * 5 ∧ cur.toList.take (L.length * 5) = L.flatMap RouteV.cells := by
  rcases h.2 with ⟨_, hz⟩ | ⟨g, cap, cur, hv, hg, hh, hn, hc, hs, ht⟩
  · omega
  · exact ⟨g, cap, cur, hv, hg, hh, hn, hc, hs, ht⟩
theorem OwnRs.at_ {w : World} {base : Nat} {L : List RouteV} {g c : Nat} (h : OwnRs w base (.slice (some ⟨g, 0, none⟩) L.length c) L) {t : Nat} {x : RouteV} (hx : L[t]? = some x) :
    (w.cell? ⟨g, t * 5, none⟩ = some (.bool x.p.six) ∧ w.cell? ⟨g, t * 5 + 1, none⟩ = some (.int .u64 x.p.hi) ∧ w.cell? ⟨g, t * 5 + 2, none⟩ = some (.int .u64 x.p.lo) ∧ w.cell? ⟨g, t * 5 + 3, none⟩ = some (.int .i64 x.p.n) ∧ w.cell? ⟨g, t * 5 + 4, none⟩ = some (.int .i64 x.hop)) ∧ g < w.heap.size ∧ base ≤ g := by
  have ht := (List.getElem?_eq_some_iff.1 hx).1
  obtain ⟨g', c', cur, hv, hg, hb, hn, hc, hs, hcur⟩ := h.form (by omega)
  injection hv with h0 _ _
  injection h0 with h0
  injection h0 with h0
  subst h0
  have hc5 : ∀ j u, x.cells[j]? = some u → w.cell? ⟨g, t * 5 + j, none⟩ = some u := by
    intro j u hj
    rw [hb.cell]
    have hfl := flat_at (f := RouteV.cells) RouteV.cells_length L t x j u hx hj
    have hjl : j < 5 := (List.getElem?_eq_some_iff.1 hj).1
    rw [← hcur, List.getElem?_take, if_pos (by omega)] at hfl
    rw [← Array.getElem?_toList]
    exact hfl
  exact ⟨⟨hc5 0 _ rfl, hc5 1 _ rfl, hc5 2 _ rfl, hc5 3 _ rfl, hc5 4 _ rfl⟩, hb.lt, hg⟩
theorem OwnRs.free {w : World} {base : Nat} {L : List RouteV} {g c : Nat} (h : OwnRs w base (.slice (some ⟨g, 0, none⟩) L.length c) L) (h0 : 0 < L.length) (o : Nat) : w.frozen? ⟨g, o, none⟩ = false := by
  obtain ⟨g', c', cur, hv, hg, hb, _⟩ := h.form h0
  injection hv with h1 _ _
  injection h1 with h1
  injection h1 with h1
  subst h1
  exact hb.frozen o
theorem flat_set_hop {L : List RouteV} {u : Nat} {x : RouteV} (hx : L[u]? = some x) (hop : Int) : (L.flatMap RouteV.cells).set (u * 5 + 4) (.int .i64 hop) = (L.set u ⟨x.p, hop⟩).flatMap RouteV.cells := by
  have hu := (List.getElem?_eq_some_iff.1 hx).1
  have e : L.flatMap RouteV.cells = (L.take u).flatMap RouteV.cells ++ (x.cells ++ (L.drop (u + 1)).flatMap RouteV.cells) := by
    have : L = L.take u ++ x :: L.drop (u + 1) := by
      have h1 := List.take_append_drop u L
      have h2 : L.drop u = x :: L.drop (u + 1) := by
        rw [List.drop_eq_getElem_cons hu]
        congr 1
        have := (List.getElem?_eq_some_iff.1 hx).2
        exact this
      rw [← h2, h1]
    conv => lhs; rw [this]
    rw [List.flatMap_append, List.flatMap_cons]
  have hl : ((L.take u).flatMap RouteV.cells).length = u * 5 := by rw [routes_flat_len, List.length_take, Nat.min_eq_left (by omega)]
  rw [rset_flat hu, e, List.set_append_right _ _ (by omega), hl, show u * 5 + 4 - u * 5 = 4 by omega]
  rw [List.append_assoc]
  rfl
/-- The hop of a row's route is written. -/
theorem OwnRs.set_ {w : World} {base : Nat} {L : List RouteV} {g c : Nat} (h : OwnRs w base (.slice (some ⟨g, 0, none⟩) L.length c) L) {u : Nat} {x : RouteV} (hx : L[u]? = some x) (hop : Int) :
    OwnRs (w.setCell ⟨g, u * 5 + 4, none⟩ (.int .i64 hop)) base (.slice (some ⟨g, 0, none⟩) L.length c) (L.set u ⟨x.p, hop⟩) := by
  have hu := (List.getElem?_eq_some_iff.1 hx).1
  obtain ⟨g', c', cur, hv, hg, hb, hn, hc, hs, hcur⟩ := h.form (by omega)
  injection hv with h0 _ h2
  injection h0 with h0
  injection h0 with h0
  subst h0 h2
  unfold OwnRs
  rw [List.length_set]
  refine ⟨by rw [routes_flat_len, List.length_set], .inr ⟨g, c, cur.setIfInBounds (u * 5 + 4) (.int .i64 hop), rfl, hg, hb.set_ _ _, hn, hc, by simpa using hs, ?_⟩⟩
  rw [Array.toList_setIfInBounds, List.take_set, hcur, flat_set_hop hx]
theorem OwnRs.below {w w' : World} {base : Nat} {v : Value} {L : List RouteV} (h : OwnRs w base v L) (hb : Below w.heap.size w w') : OwnRs w' base v L := own_below h hb
theorem OwnAs.below {w w' : World} {base : Nat} {v : Value} {L : List AnsV} (h : OwnAs w base v L) (hb : Below w.heap.size w w') : OwnAs w' base v L := own_below h hb
theorem own_blk_lt {w : World} {base size n : Nat} {e : TypeId} {v : Value} {xs : List Value} (h : w.ownsRow base e size v n xs) : ∀ b, v.ownBlock = some b → b < w.heap.size := by
  intro b hb
  rcases h.2 with ⟨rfl, _⟩ | ⟨g, cap, cur, rfl, _, hh, _⟩
  · simp [Value.ownBlock] at hb
  · simp [Value.ownBlock] at hb
    subst hb
    exact (Array.getElem?_eq_some_iff.1 hh).1
theorem Good.isRoutes {w : World} {base : Nat} {v : Value} {L : List RouteV} (h : OwnRs w base v L) (hv : Valid L) : ∃ A c, v = .slice A L.length c ∧ IsRoutes w A L.length c L := by
  obtain ⟨A, c, rfl, hc, hr⟩ := own_reads h
  refine ⟨A, c, rfl, rfl, hc, fun r hr' => ?_, hr⟩
  obtain ⟨h1, h2, h3⟩ := hv.1 r hr'
  have := h1.len
  have := wideI_le r.p.six
  exact ⟨h1.rhi, h1.rlo, by omega, by omega⟩

/-- A round's end: the routes and the answer. -/
def MetT (w wo : World) (L : List RouteV) (As : List AnsV) (v6 : Value) (tb : Nat) (a : ActV) (v5 : Value) (wx : World) : Prop :=
  OwnRs wx w.heap.size v5 (doL L a) ∧ OwnAs wx w.heap.size v6 As ∧ Blk wx tb 47 #[.int .i64 (doA L a).code, .int .i64 (doA L a).hop, .int .i64 (doA L a).len] ∧ Below w.heap.size w wx ∧ wo.heap.size ≤ tb ∧ tb < wx.heap.size
theorem metT_code {w wo V : World} {L : List RouteV} {As : List AnsV} {v5 v6 : Value} {tb : Nat} {a : ActV} {code : Int} (h5 : OwnRs V w.heap.size v5 L) (h6 : OwnAs V w.heap.size v6 As) (hn6 : ∀ b, v6.ownBlock = some b → b < wo.heap.size) (hn5 : ∀ b, v5.ownBlock = some b → b < wo.heap.size)
    (hk : Blk V tb 47 #[.int .i64 0, .int .i64 0, .int .i64 0]) (hb : Below w.heap.size w V) (htb : wo.heap.size ≤ tb) (hw : w.heap.size ≤ wo.heap.size) (hA : doA L a = ⟨code, 0, 0⟩) (hL : doL L a = L) :
    MetT w wo L As v6 tb a v5 (V.setCell ⟨tb, 0, none⟩ (.int .i64 code)) := by
  unfold MetT
  rw [hA, hL]
  exact ⟨ownsRow_setCell_other h5 (fun he => by have : tb < wo.heap.size := hn5 _ he; omega) _, ownsRow_setCell_other h6 (fun he => by have : tb < wo.heap.size := hn6 _ he; omega) _, hk.set_ 0 _, hb.setCell (by show w.heap.size ≤ tb; omega) _, htb, by simp; exact hk.lt⟩
theorem metT_hop {w wo V : World} {L L' : List RouteV} {As : List AnsV} {v5 v6 : Value} {tb : Nat} {a : ActV} {hop : Int} (h5 : OwnRs V w.heap.size v5 L') (h6 : OwnAs V w.heap.size v6 As) (hn6 : ∀ b, v6.ownBlock = some b → b < wo.heap.size) (hn5 : ∀ b, v5.ownBlock = some b → ¬ b = tb)
    (hk : Blk V tb 47 #[.int .i64 0, .int .i64 0, .int .i64 0]) (hb : Below w.heap.size w V) (htb : wo.heap.size ≤ tb) (hw : w.heap.size ≤ wo.heap.size) (hA : doA L a = ⟨0, hop, 0⟩) (hL : doL L a = L') :
    MetT w wo L As v6 tb a v5 (V.setCell ⟨tb, 1, none⟩ (.int .i64 hop)) := by
  unfold MetT
  rw [hA, hL]
  exact ⟨ownsRow_setCell_other h5 (fun he => hn5 _ he rfl) _, ownsRow_setCell_other h6 (fun he => by have : tb < wo.heap.size := hn6 _ he; omega) _, hk.set_ 1 _, hb.setCell (by show w.heap.size ≤ tb; omega) _, htb, by simp; exact hk.lt⟩

theorem metT_put {w wo V : World} {L : List RouteV} {As : List AnsV} {v6 : Value} {tb g5 c5 u : Nat} {a : ActV} {x : RouteV} (h5 : OwnRs V w.heap.size (.slice (some ⟨g5, 0, none⟩) L.length c5) L) (h6 : OwnAs V w.heap.size v6 As) (hn6 : ∀ b, v6.ownBlock = some b → b < wo.heap.size) (hg : g5 < wo.heap.size)
    (hk : Blk V tb 47 #[.int .i64 0, .int .i64 0, .int .i64 0]) (hb : Below w.heap.size w V) (htb : wo.heap.size ≤ tb) (_hw : w.heap.size ≤ wo.heap.size) (hx : L[u]? = some x) (hA : doA L a = ⟨0, x.hop, 0⟩) (hL : doL L a = L.set u ⟨x.p, a.hop⟩) :
    MetT w wo L As v6 tb a (.slice (some ⟨g5, 0, none⟩) L.length c5) ((V.setCell ⟨tb, 1, none⟩ (.int .i64 x.hop)).setCell ⟨g5, u * 5 + 4, none⟩ (.int .i64 a.hop)) := by
  have hu := (List.getElem?_eq_some_iff.1 hx).1
  have h5' : OwnRs (V.setCell ⟨tb, 1, none⟩ (.int .i64 x.hop)) w.heap.size (.slice (some ⟨g5, 0, none⟩) L.length c5) L := ownsRow_setCell_other h5 (fun he => by simp [Value.ownBlock] at he; omega) _
  have hbase : w.heap.size ≤ g5 := (h5.at_ hx).2.2
  have hne : ∀ b, v6.ownBlock = some b → ¬ b = g5 := by
    intro b hb' e
    subst e
    obtain ⟨g', c', cur, hv, _, hbl, _⟩ := h5.form (by omega)
    injection hv with q1 _ _
    injection q1 with q1
    injection q1 with q1
    subst q1
    exact own_blk_ne h6 hbl (by decide) hb'
  unfold MetT
  rw [hA, hL]
  refine ⟨?_, ?_, ((hk.set_ 1 _).far (by show ¬ tb = g5; omega) _), ?_, htb, by simp; exact hk.lt⟩
  · have := h5'.set_ hx a.hop
    exact this
  · exact ownsRow_setCell_other (ownsRow_setCell_other h6 (fun he => by have : tb < wo.heap.size := hn6 _ he; omega) _) (fun he => hne _ he rfl) _
  · exact (hb.setCell (by show w.heap.size ≤ tb; omega) _).setCell hbase _
theorem metT_get {w wo V : World} {L : List RouteV} {As : List AnsV} {v5 v6 : Value} {tb : Nat} {a : ActV} {h1 h2 : Int} (h5 : OwnRs V w.heap.size v5 L) (h6 : OwnAs V w.heap.size v6 As) (hn6 : ∀ b, v6.ownBlock = some b → b < wo.heap.size) (hn5 : ∀ b, v5.ownBlock = some b → b < wo.heap.size)
    (hk : Blk V tb 47 #[.int .i64 0, .int .i64 0, .int .i64 0]) (hb : Below w.heap.size w V) (htb : wo.heap.size ≤ tb) (hw : w.heap.size ≤ wo.heap.size) (hA : doA L a = ⟨0, h1, h2⟩) (hL : doL L a = L) :
    MetT w wo L As v6 tb a v5 ((V.setCell ⟨tb, 1, none⟩ (.int .i64 h1)).setCell ⟨tb, 2, none⟩ (.int .i64 h2)) := by
  unfold MetT
  rw [hA, hL]
  have e5 : ∀ b, v5.ownBlock = some b → ¬ b = tb := fun b hb' e => by have := hn5 _ hb'; omega
  have e6 : ∀ b, v6.ownBlock = some b → ¬ b = tb := fun b hb' e => by have := hn6 _ hb'; omega
  exact ⟨ownsRow_setCell_other (ownsRow_setCell_other h5 (fun he => e5 _ he rfl) _) (fun he => e5 _ he rfl) _, ownsRow_setCell_other (ownsRow_setCell_other h6 (fun he => e6 _ he rfl) _) (fun he => e6 _ he rfl) _, (hk.set_ 1 _).set_ 2 _, (hb.setCell (by show w.heap.size ≤ tb; omega) _).setCell (by show w.heap.size ≤ tb; omega) _, htb, by simp; exact hk.lt⟩
theorem metT_look {w wo V : World} {L : List RouteV} {As : List AnsV} {v5 v6 : Value} {tb : Nat} {a : ActV} {h0 h1 h2 : Int} (h5 : OwnRs V w.heap.size v5 L) (h6 : OwnAs V w.heap.size v6 As) (hn6 : ∀ b, v6.ownBlock = some b → b < wo.heap.size) (hn5 : ∀ b, v5.ownBlock = some b → b < wo.heap.size)
    (hk : Blk V tb 47 #[.int .i64 0, .int .i64 0, .int .i64 0]) (hb : Below w.heap.size w V) (htb : wo.heap.size ≤ tb) (hw : w.heap.size ≤ wo.heap.size) (hA : doA L a = ⟨h0, h1, h2⟩) (hL : doL L a = L) :
    MetT w wo L As v6 tb a v5 (((V.setCell ⟨tb, 0, none⟩ (.int .i64 h0)).setCell ⟨tb, 1, none⟩ (.int .i64 h1)).setCell ⟨tb, 2, none⟩ (.int .i64 h2)) := by
  unfold MetT
  rw [hA, hL]
  have e5 : ∀ b, v5.ownBlock = some b → ¬ b = tb := fun b hb' e => by have := hn5 _ hb'; omega
  have e6 : ∀ b, v6.ownBlock = some b → ¬ b = tb := fun b hb' e => by have := hn6 _ hb'; omega
  exact ⟨ownsRow_setCell_other (ownsRow_setCell_other (ownsRow_setCell_other h5 (fun he => e5 _ he rfl) _) (fun he => e5 _ he rfl) _) (fun he => e5 _ he rfl) _, ownsRow_setCell_other (ownsRow_setCell_other (ownsRow_setCell_other h6 (fun he => e6 _ he rfl) _) (fun he => e6 _ he rfl) _) (fun he => e6 _ he rfl) _, ((hk.set_ 0 _).set_ 1 _).set_ 2 _, ((hb.setCell (by show w.heap.size ≤ tb; omega) _).setCell (by show w.heap.size ≤ tb; omega) _).setCell (by show w.heap.size ≤ tb; omega) _, htb, by simp; exact hk.lt⟩

theorem metT_putM {w wo V : World} {L : List RouteV} {m : Nat} {As : List AnsV} {v6 : Value} {tb g5 c5 u : Nat} {a : ActV} {x : RouteV} (hm : L.length = m) (h5 : OwnRs V w.heap.size (.slice (some ⟨g5, 0, none⟩) L.length c5) L) (h6 : OwnAs V w.heap.size v6 As) (hn6 : ∀ b, v6.ownBlock = some b → b < wo.heap.size) (hg : g5 < wo.heap.size)
    (hk : Blk V tb 47 #[.int .i64 0, .int .i64 0, .int .i64 0]) (hb : Below w.heap.size w V) (htb : wo.heap.size ≤ tb) (hw : w.heap.size ≤ wo.heap.size) (hx : L[u]? = some x) (hA : doA L a = ⟨0, x.hop, 0⟩) (hL : doL L a = L.set u ⟨x.p, a.hop⟩) :
    MetT w wo L As v6 tb a (.slice (some ⟨g5, 0, none⟩) m c5) ((V.setCell ⟨tb, 1, none⟩ (.int .i64 x.hop)).setCell ⟨g5, u * 5 + 4, none⟩ (.int .i64 a.hop)) := by
  subst hm
  exact metT_put h5 h6 hn6 hg hk hb htb hw hx hA hL
theorem metT_getM {w wo V : World} {L : List RouteV} {m : Nat} {As : List AnsV} {g5 c5 : Nat} {v6 : Value} {tb : Nat} {a : ActV} {h1 h2 : Int} (hm : L.length = m) (h5 : OwnRs V w.heap.size (.slice (some ⟨g5, 0, none⟩) L.length c5) L) (h6 : OwnAs V w.heap.size v6 As) (hn6 : ∀ b, v6.ownBlock = some b → b < wo.heap.size) (hn5 : ∀ b, (Value.slice (some ⟨g5, 0, none⟩) L.length c5).ownBlock = some b → b < wo.heap.size)
    (hk : Blk V tb 47 #[.int .i64 0, .int .i64 0, .int .i64 0]) (hb : Below w.heap.size w V) (htb : wo.heap.size ≤ tb) (hw : w.heap.size ≤ wo.heap.size) (hA : doA L a = ⟨0, h1, h2⟩) (hL : doL L a = L) :
    MetT w wo L As v6 tb a (.slice (some ⟨g5, 0, none⟩) m c5) ((V.setCell ⟨tb, 1, none⟩ (.int .i64 h1)).setCell ⟨tb, 2, none⟩ (.int .i64 h2)) := by
  subst hm
  exact metT_get h5 h6 hn6 hn5 hk hb htb hw hA hL
theorem metT_app {w wo V W : World} {L L' : List RouteV} {n : Nat} {xs : List Value} {As : List AnsV} {v5 v5' v6 : Value} {tb : Nat} {a : ActV} (ho : OwnRs W w.heap.size v5' L') (h6 : OwnAs V w.heap.size v6 As) (h5 : V.ownsRow w.heap.size 57 5 v5 n xs)
    (hk : Blk V tb 47 #[.int .i64 0, .int .i64 0, .int .i64 0]) (hb : Below w.heap.size w V) (hb9 : Below w.heap.size V W) (hs : V.heap.size < W.heap.size) (hf : ∀ k, k < V.heap.size → v5.ownBlock ≠ some k → W.heap[k]? = V.heap[k]?) (htb : wo.heap.size ≤ tb) (hA : doA L a = ⟨0, 0, 0⟩) (hL : doL L a = L') :
    MetT w wo L As v6 tb a v5' W := by
  unfold MetT
  rw [hA, hL]
  have hkt : KeepT 47 V W := KeepT.of_own hf h5 (by decide)
  refine ⟨ho, own_keepT h6 hkt, (hkt tb _ hk).trans hk, hb.trans hb9, htb, ?_⟩
  have := hk.lt
  omega
theorem metT_cut {w wo V W : World} {L L' : List RouteV} {As : List AnsV} {v5 v6 : Value} {tb : Nat} {a : ActV} {h1 : Int} (ho : OwnRs W w.heap.size v5 L') (h6 : OwnAs W w.heap.size v6 As)
    (hk : Blk V tb 47 #[.int .i64 0, .int .i64 h1, .int .i64 0]) (hb : Below w.heap.size w V) (hb4 : Below V.heap.size V W) (htb : wo.heap.size ≤ tb) (hw : w.heap.size ≤ V.heap.size) (hA : doA L a = ⟨0, h1, 0⟩) (hL : doL L a = L') :
    MetT w wo L As v6 tb a v5 W := by
  unfold MetT
  rw [hA, hL]
  refine ⟨ho, h6, hk.below hb4 hk.lt, hb.trans (hb4.mono hw), htb, ?_⟩
  have := hk.lt
  have := hb4.size
  omega

theorem own_base {w : World} {base size n : Nat} {e : TypeId} {v : Value} {xs : List Value} (h : w.ownsRow base e size v n xs) : ∀ b, v.ownBlock = some b → base ≤ b := by
  intro b hb
  rcases h.2 with ⟨rfl, _⟩ | ⟨g, cap, cur, rfl, hg, hh, _⟩
  · simp [Value.ownBlock] at hb
  · simp [Value.ownBlock] at hb
    subst hb
    exact hg
theorem sorted_strict {S : List OkR} (h : S.Pairwise (fun x y => ltR y x = false)) (hn : ((S.map (fun x => x.1)).map RouteV.p).Nodup) : (S.map (fun x => x.1)).Pairwise (fun x y => ltP x.p y.p) := by
  induction S with
  | nil => exact List.Pairwise.nil
  | cons x S ih =>
    rw [List.pairwise_cons] at h
    simp only [List.map_cons, List.nodup_cons] at hn
    rw [List.map_cons, List.pairwise_cons]
    refine ⟨fun y hy => ?_, ih h.2 hn.2⟩
    obtain ⟨z, hz, rfl⟩ := List.mem_map.1 hy
    have h1 := h.1 z hz
    rw [Bool.eq_false_iff, ne_eq, ltR_iff] at h1
    refine Classical.byContradiction fun hx => ?_
    have e := ltP_total x.2 z.2 hx h1
    exact hn.1 (List.mem_map.2 ⟨z.1, List.mem_map.2 ⟨z, hz, rfl⟩, e.symm⟩)

def PlayedR (w : World) (n : Nat) (l : List ActV) (e : Ending) (w' : World) : Prop :=
  (100 < n → e = .returned (.tuple #[.slice none 0 0, .slice none 0 0, .int .i64 1]) ∧ Below w.heap.size w w') ∧
    (¬ 100 < n → ∃ v6 v5 S, e = .returned (.tuple #[v6, v5, .int .i64 0]) ∧ OwnAs w' w.heap.size v6 (ansL l []) ∧ OwnRs w' w.heap.size v5 S ∧ S.Perm (actL l []) ∧ S.Pairwise (fun x y => ltP x.p y.p) ∧ Below w.heap.size w w')

set_option maxRecDepth 100000 in
set_option maxHeartbeats 6400000 in
theorem refTab_any {w : World} {A : Option Addr} {n c : Nat} {l : List ActV} (h : IsActs w A n l) (hc : n ≤ c ∧ c ≤ maxLen) :
    Calls Try.prog 56 #[.slice A n c] w (PlayedR w n l) := by
  have HZ := Lib.hid h.len
  have HR := Lib.hid h.reads
  have HOK := Lib.hid h.ok
  have hcm := hc.2
  unfold maxLen at hcm
  clear h hc
  obtain ⟨post, hpost⟩ : ∃ post, PlayedR w n l = post := ⟨_, rfl⟩
  have HP := Lib.hid hpost
  rw [hpost]
  clear hpost
  by_cases h100 : 100 < n
  · have d1 : decide (100 < (n : Int)) = true := by simp; omega
    go_enter Try.func56, Try.ntmps56
    go_wp2
    (try go_ret3)
    rw [← HP.out]
    exact ⟨fun _ => ⟨rfl, Below.refl _ _⟩, fun hn => absurd h100 hn⟩
  · have d1 : decide (100 < (n : Int)) = false := by simp; omega
    go_enter Try.func56, Try.ntmps56
    go_wp2
    go_loopw [19, 5, 6] (fun i s5 s6 wr => ∃ (k : Nat) (v5 v6 : Value), k ≤ n ∧ i = .int .i64 k ∧ v5 = s5 ∧ v6 = s6 ∧ OwnRs wr w.heap.size v5 (actL (l.take k) []) ∧ OwnAs wr w.heap.size v6 (ansL (l.take k) []) ∧ Below w.heap.size w wr) (fun i _ _ _ => n - (intOf i).toNat)
    case atStart => exact ⟨0, _, _, by omega, rfl, rfl, rfl, World.ownsRow_nil _ _ _ _, World.ownsRow_nil _ _ _ _, Below.refl _ _⟩
    case round =>
      obtain ⟨k, v5, v6, hk, rfl, rfl, rfl, h5, h6, hb⟩ := hrel
      obtain ⟨wo, rfl⟩ : ∃ wo : World, wo = wr := ⟨_, rfl⟩
      have hszb := hb.size
      by_cases hlt : k < n
      · obtain ⟨ad, ⟨kd, ⟨six, hi, lo, n0⟩, hop, ⟨six2, hi2, lo2⟩⟩, rfl, hlk, htk, hmem, hbk, hc0, hcj⟩ := HR.out.atS ActV.cells_length' HZ.out hlt
        have q0 := (hb.cell (p := ad.add (k * 9)) (by rw [block_of_add]; exact hbk)).trans (hc0 _ rfl)
        have q1 := (hb.cell (p := ⟨(ad.add (k * 9)).block, (ad.add (k * 9)).off + 1, none⟩) (by rw [block_of_add]; exact hbk)).trans (hcj 1 _ rfl)
        have q2 := (hb.cell (p := ⟨(ad.add (k * 9)).block, (ad.add (k * 9)).off + 2, none⟩) (by rw [block_of_add]; exact hbk)).trans (hcj 2 _ rfl)
        have q3 := (hb.cell (p := ⟨(ad.add (k * 9)).block, (ad.add (k * 9)).off + 3, none⟩) (by rw [block_of_add]; exact hbk)).trans (hcj 3 _ rfl)
        have q4 := (hb.cell (p := ⟨(ad.add (k * 9)).block, (ad.add (k * 9)).off + 4, none⟩) (by rw [block_of_add]; exact hbk)).trans (hcj 4 _ rfl)
        have q5 := (hb.cell (p := ⟨(ad.add (k * 9)).block, (ad.add (k * 9)).off + 5, none⟩) (by rw [block_of_add]; exact hbk)).trans (hcj 5 _ rfl)
        have q6 := (hb.cell (p := ⟨(ad.add (k * 9)).block, (ad.add (k * 9)).off + 6, none⟩) (by rw [block_of_add]; exact hbk)).trans (hcj 6 _ rfl)
        have q7 := (hb.cell (p := ⟨(ad.add (k * 9)).block, (ad.add (k * 9)).off + 7, none⟩) (by rw [block_of_add]; exact hbk)).trans (hcj 7 _ rfl)
        have q8 := (hb.cell (p := ⟨(ad.add (k * 9)).block, (ad.add (k * 9)).off + 8, none⟩) (by rw [block_of_add]; exact hbk)).trans (hcj 8 _ rfl)
        obtain ⟨o1, o2, o3, o4⟩ := HOK.out _ hmem
        simp only at o1 o2 o3 o4
        have hG : GoodL (actL (l.take k) []) := goodL_play goodL_nil (fun a ha => HOK.out a (List.mem_of_mem_take ha))
        have hlk6 : (ansL (l.take k) []).length = k := by rw [ansL_length, List.length_take, HZ.out]; omega
        have HLK := Lib.hid hlk6
        obtain ⟨L, hL⟩ : ∃ L, actL (l.take k) [] = L := ⟨_, rfl⟩
        rw [hL] at h5 hG
        have HL := Lib.hid hL
        have HG := Lib.hid hG
        obtain ⟨A5, c5, rfl, hc5, _⟩ := own_reads h5
        obtain ⟨m, hm⟩ : ∃ m, L.length = m := ⟨_, rfl⟩
        rw [hm] at hc5
        have hm60 : m ≤ 60 := by rw [← hm]; exact hG.2
        have hc5m := hc5.2
        unfold maxLen at hc5m
        have HM := Lib.hid hm
        have H5 := Lib.hid h5
        have H6 := Lib.hid h6
        have HN5 := Lib.hid (own_blk_lt h5)
        have HN6 := Lib.hid (own_blk_lt h6)
        have HB := Lib.hid hb
        have HTK := Lib.hid htk
        have HEQ0 := fun w (x : PV) => eqPV x ⟨six, hi, lo, n0⟩ w
        unfold PV.val at HEQ0
        have HEQH := Lib.hid HEQ0
        clear HEQ0 hlk htk hmem hc0 hcj hb hbk hG hL h5 h6 hlk6
        rw [hm]
        clear hm
        go_wp2
        obtain ⟨Y, hY⟩ : ∃ Y : World, Y = wo.alloc (.cells #[.int .i64 kd, .bool six, .int .u64 hi, .int .u64 lo, .int .i64 n0, .int .i64 hop, .bool six2, .int .u64 hi2, .int .u64 lo2] 117) := ⟨_, rfl⟩
        have hbY : Below wo.heap.size wo Y := by rw [hY]; exact (Below.refl _ _).alloc (Nat.le_refl _) _
        have hYs : Y.heap.size = wo.heap.size + 1 := by rw [hY]; simp
        have hka : Blk Y wo.heap.size 117 #[.int .i64 kd, .bool six, .int .u64 hi, .int .u64 lo, .int .i64 n0, .int .i64 hop, .bool six2, .int .u64 hi2, .int .u64 lo2] := by rw [hY]; exact Blk.new _ _ _
        rw [← hY]
        have H5Y := Lib.hid (H5.out.below hbY)
        have HBY := Lib.hid hbY
        have HKA := Lib.hid hka
        have hYl : wo.heap.size < Y.heap.size := by omega
        clear hY hbY hka hYs
        go_loopw [25, 9] (fun i at_ wr => ∃ (t : Nat) (z : Int), t ≤ m ∧ i = .int .i64 t ∧ at_ = .int .i64 z ∧ FoundAt L ⟨six, hi, lo, n0⟩ t z ∧ Below Y.heap.size Y wr) (fun i _ _ => m - (intOf i).toNat)
        case atStart => exact ⟨0, -1, by omega, rfl, rfl, FoundAt.start _ _, Below.refl _ _⟩
        case round =>
          obtain ⟨t, z, ht, rfl, rfl, hat, hbr⟩ := hrel
          obtain ⟨wi, rfl⟩ : ∃ wi : World, wi = wr := ⟨_, rfl⟩
          have HAT := Lib.hid hat
          have HBR := Lib.hid hbr
          have hszi := hbr.size
          have hki := HKA.out.below hbr HKA.out.lt
          have HKI := Lib.hid hki
          have hlt2 : wo.heap.size < wi.heap.size := by omega
          have a0 := hki.cell 0
          have a1 := hki.cell 1
          have a2 := hki.cell 2
          have a3 := hki.cell 3
          have a4 := hki.cell 4
          have a5 := hki.cell 5
          have a6 := hki.cell 6
          have a7 := hki.cell 7
          have a8 := hki.cell 8
          simp at a0 a1 a2 a3 a4 a5 a6 a7 a8
          clear hat hki
          by_cases hti : t < m
          · have hLt : L[t]? = some (L[t]'(by rw [HM.out]; exact hti)) := List.getElem?_eq_getElem _
            obtain ⟨⟨⟨xs, xh, xl, xn⟩, xo⟩, hX⟩ : ∃ X, L[t]'(by rw [HM.out]; exact hti) = X := ⟨_, rfl⟩
            rw [hX] at hLt
            obtain ⟨g5, cc, cur, hv, _⟩ := H5Y.out.form (by rw [HM.out]; omega)
            injection hv with hv1 hv2 hv3
            subst hv1 hv3
            have HLT := Lib.hid hLt
            clear hX hLt hv2
            have h5i := H5Y.out.below hbr
            rw [HM.out] at h5i
            obtain ⟨⟨y0, y1, y2, y3, y4⟩, yg, _⟩ := (H5Y.out.below hbr).at_ HLT.out
            simp only at y0 y1 y2 y3 y4
            have HEQ := fun w => HEQH.out w ⟨xs, xh, xl, xn⟩
            simp only at HEQ
            clear hbr h5i
            by_cases he : (⟨xs, xh, xl, xn⟩ : PV) = ⟨six, hi, lo, n0⟩
            · rw [decide_eq_true he] at HEQ
              have HEE := Lib.hid he
              clear he
              go_wp2
              go_roundw
              case rel => exact ⟨t + 1, (t : Int), by omega, by go_num, rfl, FoundAt.hit HLT.out HEE.out, HBR.out.alloc (by omega) _⟩
              case measure => simp [intOf]; omega
            · rw [decide_eq_false he] at HEQ
              have HEE := Lib.hid he
              clear he
              go_wp2
              go_roundw
              case rel => exact ⟨t + 1, z, by omega, by go_num, rfl, HAT.out.miss HLT.out HEE.out, HBR.out.alloc (by omega) _⟩
              case measure => simp [intOf]; omega
          · obtain rfl : t = m := by omega
            
            have hkt0 : Blk (wi.alloc (.cells #[.int .i64 0, .int .i64 0, .int .i64 0] 47)) wi.heap.size 47 #[.int .i64 0, .int .i64 0, .int .i64 0] := Blk.new _ _ _
            have HKT0 := Lib.hid hkt0
            have CP := Lib.hid (preFault_any six hi lo n0 (wi.alloc (.cells #[.int .i64 0, .int .i64 0, .int .i64 0] 47)) o1 o2)
            clear hkt0 hbr
            go_upto_block 4 with (go_at_call 66; (with_reducible refine CP.out.mono ?_); rintro e V ⟨rfl, hbV⟩; have HKT := Lib.hid (HKT0.out.below hbV (by simp)); have HBW := Lib.hid (below_step ((Below.refl _ _).alloc (Nat.le_refl _) _) hbV); clear hbV)
            have hwv := HBW.out.size
            have hti2 : wi.heap.size < V.heap.size := HKT.out.lt
            have hwoV : wo.heap.size < V.heap.size := by omega
            have HBX : Hid (Below wo.heap.size wo V) := (HBY.out.trans (HBR.out.mono (by omega))).trans (HBW.out.mono (by omega))
            have H5V := Lib.hid (H5.out.below HBX.out)
            have H6V := Lib.hid (H6.out.below HBX.out)
            have H5M : Hid (OwnRs V w.heap.size (.slice A5 t c5) L) := by have := H5V.out; rw [HM.out] at this; exact this
            have HN5M : Hid (∀ b, (Value.slice A5 t c5).ownBlock = some b → b < wo.heap.size) := by rw [← HM.out]; exact HN5.out
            have HBV : Hid (Below w.heap.size w V) := HB.out.trans (HBX.out.mono (by omega))
            have hkv := HKI.out.below HBW.out (by omega)
            have e0 := hkv.cell 0
            have e1 := hkv.cell 1
            have e2 := hkv.cell 2
            have e3 := hkv.cell 3
            have e4 := hkv.cell 4
            have e5 := hkv.cell 5
            have e6 := hkv.cell 6
            have e7 := hkv.cell 7
            have e8 := hkv.cell 8
            simp at e0 e1 e2 e3 e4 e5 e6 e7 e8
            have u0 := HKT.out.cell 0
            have u1 := HKT.out.cell 1
            have u2 := HKT.out.cell 2
            simp at u0 u1 u2
            have f0 := HKT.out.frozen 0
            have f1 := HKT.out.frozen 1
            have f2 := HKT.out.frozen 2
            obtain ⟨ck, hck⟩ : ∃ ck, chk six hi lo n0 = ck := ⟨_, rfl⟩
            rw [hck]
            obtain ⟨aV, haV⟩ : ∃ aV : ActV, (⟨kd, ⟨six, hi, lo, n0⟩, hop, ⟨six2, hi2, lo2⟩⟩ : ActV) = aV := ⟨_, rfl⟩
            rw [haV] at HTK
            have HAE := Lib.hid haV
            have HCK : Hid ((⟨six, hi, lo, n0⟩ : PV).chk = ck) := hck
            obtain ⟨AS, hAS⟩ : ∃ AS, ansL (l.take k) [] = AS := ⟨_, rfl⟩
            rw [hAS] at H6V HLK
            have HAS := Lib.hid hAS
            clear hkv haV hck hAS a0 a1 a2 a3 a4 a5 a6 a7 a8 HKT0 HKI HKA CP q0 q1 q2 q3 q4 q5 q6 q7 q8 H5 H6 H5Y
            go_cut [5] (fun v5' wx => MetT w wo L AS v6 wi.heap.size aV v5' wx)
            case first =>
              by_cases k1 : kd < 1
              · have d2 : decide (kd < 1) = true := by simpa using k1
                have hA : doA L aV = ⟨3, 0, 0⟩ := by rw [← HAE.out]; unfold doA; rw [if_pos (Or.inl k1)]
                have hU : doL L aV = L := by rw [← HAE.out]; unfold doL; rw [if_pos (by simp only; omega)]
                have HA := Lib.hid hA
                have HU := Lib.hid hU
                clear hA hU
                go_wp2
                go_meet
                case rel => exact metT_code H5M.out H6V.out HN6.out HN5M.out HKT.out HBV.out (by omega) (by omega) HA.out HU.out
              · have d2 : decide (kd < 1) = false := by simpa using k1
                by_cases k4 : 4 < kd
                · have d3 : decide (4 < kd) = true := by simpa using k4
                  have hA : doA L aV = ⟨3, 0, 0⟩ := by rw [← HAE.out]; unfold doA; rw [if_pos (Or.inr k4)]
                  have hU : doL L aV = L := by rw [← HAE.out]; unfold doL; rw [if_pos (by simp only; omega)]
                  have HA := Lib.hid hA
                  have HU := Lib.hid hU
                  clear hA hU
                  go_wp2
                  go_meet
                  case rel => exact metT_code H5M.out H6V.out HN6.out HN5M.out HKT.out HBV.out (by omega) (by omega) HA.out HU.out
                · have hkd : kd = 1 ∨ kd = 2 ∨ kd = 3 ∨ kd = 4 := by omega
                  clear k1 k4 d2
                  rcases hkd with rfl | rfl | rfl | rfl
                  · by_cases hc0 : ck = 0
                    · have d3 : (ck != 0) = false := by simpa using hc0
                      by_cases hh : hop < 1 ∨ 999 < hop
                      · have hA : doA L aV = ⟨2, 0, 0⟩ := by rw [← HAE.out]; unfold doA; rw [if_neg (by simp), if_neg (by simp), if_neg (by simp only; rw [HCK.out]; simpa using hc0), if_neg (by simp), if_neg (by simp), if_pos hh]
                        have hU : doL L aV = L := by rw [← HAE.out]; unfold doL; rw [if_neg (by simp), if_neg (by simp only; rw [HCK.out]; simpa using hc0), if_neg (by simp), if_pos hh]
                        have HA := Lib.hid hA
                        have HU := Lib.hid hU
                        clear hA hU hc0
                        by_cases c1 : hop < 1
                        · have d4 : decide (hop < 1) = true := by simpa using c1
                          clear hh c1
                          go_wp2
                          go_meet
                          case rel => exact metT_code H5M.out H6V.out HN6.out HN5M.out HKT.out HBV.out (by omega) (by omega) HA.out HU.out
                        · have d4 : decide (hop < 1) = false := by simpa using c1
                          have d5 : decide (999 < hop) = true := by simp; omega
                          clear hh c1
                          go_wp2
                          go_meet
                          case rel => exact metT_code H5M.out H6V.out HN6.out HN5M.out HKT.out HBV.out (by omega) (by omega) HA.out HU.out
                      · have d4 : decide (hop < 1) = false := by simp; omega
                        have d5 : decide (999 < hop) = false := by simp; omega
                        rcases HAT.out with ⟨rfl, hno⟩ | ⟨u, x, rfl, hut, hux, hxp⟩
                        · have hnone : hasR L ⟨six, hi, lo, n0⟩ = false := FoundAt.none (fun i x hi hx => hno i x (by rw [← HM.out]; exact hi) hx)
                          have hg0 := getR_none hnone
                          clear hno
                          by_cases h60 : t = 60
                          · have d6 : decide ((60 : Int) ≤ (t : Int)) = true := by simp; omega
                            have hA : doA L aV = ⟨9, 0, 0⟩ := by rw [← HAE.out]; unfold doA; rw [if_neg (by simp), if_neg (by simp), if_neg (by simp only; rw [HCK.out]; simpa using hc0), if_neg (by simp), if_neg (by simp), if_neg hh, if_pos ⟨by rw [HM.out]; exact h60, hg0⟩]
                            have hU : doL L aV = L := by rw [← HAE.out]; unfold doL; rw [if_neg (by simp), if_neg (by simp only; rw [HCK.out]; simpa using hc0), if_neg (by simp), if_neg hh, if_pos ⟨by rw [HM.out]; exact h60, hg0⟩]
                            have HA := Lib.hid hA
                            have HU := Lib.hid hU
                            have h60' : 60 ≤ t := by omega
                            clear hA hU hc0 hh hnone hg0 h60
                            go_wp2
                            go_meet
                            case rel => exact metT_code H5M.out H6V.out HN6.out HN5M.out HKT.out HBV.out (by omega) (by omega) HA.out HU.out
                          · have d6 : decide ((60 : Int) ≤ (t : Int)) = false := by simp; omega
                            have hA : doA L aV = ⟨0, 0, 0⟩ := by rw [← HAE.out]; unfold doA; rw [if_neg (by simp), if_neg (by simp), if_neg (by simp only; rw [HCK.out]; simpa using hc0), if_neg (by simp), if_neg (by simp), if_neg hh, if_neg (fun h => h60 (by rw [← HM.out]; exact h.1)), hg0]
                            have hU : doL L aV = L ++ [⟨⟨six, hi, lo, n0⟩, hop⟩] := by rw [← HAE.out]; unfold doL; rw [if_neg (by simp), if_neg (by simp only; rw [HCK.out]; simpa using hc0), if_neg (by simp), if_neg hh, if_neg (fun h => h60 (by rw [← HM.out]; exact h.1))]; unfold setR; rw [if_neg (by simp only; rw [hnone]; simp)]
                            have HA := Lib.hid hA
                            have HU := Lib.hid hU
                            have h60' : t < 60 := by omega
                            clear hA hU hc0 hh hnone hg0 h60
                            have h5r := H5V.out
                            unfold OwnRs at h5r
                            rw [HM.out] at h5r
                            have H5R := Lib.hid h5r
                            clear h5r
                            go_wp2_with (at_builtin; go_loud (refine wpList_append_oneN (us := [.bool six, .int .u64 hi, .int .u64 lo, .int .i64 n0, .int .i64 hop]) rfl _ _ 36 rfl w.heap.size _ 5 40 Try.underlying36 infoRouteP rfl (by decide) _ _ _ rfl rfl rfl H5R.out ?c1 rfl ?c4 ?c2 ?c3 ?_))
                            case c1 => omega
                            case c2 => unfold maxLen; omega
                            case c3 => omega
                            case c4 => intro u hu; simp at hu; rcases hu with rfl | rfl | rfl | rfl | rfl <;> rfl
                            intro v' w9 hown' hb9 hs9 hk9
                            have HO9 : Hid (OwnRs w9 w.heap.size v' (L ++ [⟨⟨six, hi, lo, n0⟩, hop⟩])) := by
                              show World.ownsRow _ _ _ _ _ _ _
                              rw [List.length_append, HM.out, List.flatMap_append]
                              simpa [RouteV.cells] using hown'
                            have HF9 := Lib.hid hk9
                            have HB9 := Lib.hid hb9
                            clear hown' hb9 hk9
                            go_wp2
                            go_meet
                            case rel => exact metT_app HO9.out H6V.out H5R.out HKT.out HBV.out HB9.out hs9 HF9.out (by omega) HA.out HU.out
                        · have hul : u < L.length := (List.getElem?_eq_some_iff.1 hux).1
                          have hin : hasR L ⟨six, hi, lo, n0⟩ = true := hasR_iff.2 ⟨x, List.mem_of_getElem? hux, hxp⟩
                          obtain ⟨g1, g2, g3⟩ := get_at HG.out.1.2 hux
                          rw [hxp] at g1 g3
                          have hxh := HG.out.1.1 x (List.mem_of_getElem? hux)
                          have hA : doA L aV = ⟨0, x.hop, 0⟩ := by rw [← HAE.out]; unfold doA; rw [if_neg (by simp), if_neg (by simp), if_neg (by simp only; rw [HCK.out]; simpa using hc0), if_neg (by simp), if_neg (by simp), if_neg hh, if_neg (fun h => by have h2 := h.2; simp only at h2; rw [g1] at h2; omega), g1]
                          have hU : doL L aV = L.set u ⟨x.p, aV.hop⟩ := by rw [← HAE.out]; unfold doL; rw [if_neg (by simp), if_neg (by simp only; rw [HCK.out]; simpa using hc0), if_neg (by simp), if_neg hh, if_neg (fun h => by have h2 := h.2; simp only at h2; rw [g1] at h2; omega)]; unfold setR; rw [if_pos (by simpa using hin)]; simp only; rw [g3 hop, hxp]
                          have HA := Lib.hid hA
                          have HU := Lib.hid hU
                          have HUX := Lib.hid hux
                          have HUL := Lib.hid hul
                          clear hA hU hc0 hh hin g1 g2 g3 hxh hux hul hxp
                          obtain ⟨g5, cc, cur, hv, _, hb5, _⟩ := H5V.out.form (by have := HUL.out; omega)
                          injection hv with hv1 hv2 hv3
                          subst hv1 hv3
                          obtain ⟨⟨y0, y1, y2, y3, y4⟩, yg, _⟩ := H5V.out.at_ HUX.out
                          have hg5 : g5 < wo.heap.size := HN5.out g5 (by rfl)
                          have yf := hb5.frozen (u * 5 + 4)
                          have i1 : (0 : Int) ≤ (u : Int) := by omega
                          have i2 : (u : Int) < (t : Int) := by omega
                          have dge : decide ((0 : Int) ≤ (u : Int)) = true := by simp
                          have dlt : decide ((u : Int) < 0) = false := by simp
                          have ne5 : ¬ g5 = wi.heap.size := by omega
                          have ne6 : ¬ wi.heap.size = g5 := by omega
                          clear hv2 hb5 y0 y1 y2 y3
                          have hah : aV.hop = hop := by rw [← HAE.out]
                          have HAH := Lib.hid hah
                          clear hah
                          obtain ⟨xh, hxh⟩ : ∃ xh, x.hop = xh := ⟨_, rfl⟩
                          rw [hxh] at y4
                          have HXH := Lib.hid hxh
                          clear hxh
                          go_wp2
                          go_meet
                          case rel => rw [← HXH.out, ← HAH.out]; exact metT_putM HM.out H5V.out H6V.out HN6.out hg5 HKT.out HBV.out (by omega) (by omega) HUX.out HA.out HU.out
                    · have d3 : (ck != 0) = true := by simpa using hc0
                      have hA : doA L aV = ⟨ck, 0, 0⟩ := by rw [← HAE.out]; unfold doA; rw [if_neg (by simp), if_neg (by simp), if_pos (by simp only; rw [HCK.out]; exact hc0)]; simp only; rw [HCK.out]
                      have hU : doL L aV = L := by rw [← HAE.out]; unfold doL; rw [if_neg (by simp), if_pos (by simp only; rw [HCK.out]; exact hc0)]
                      have HA := Lib.hid hA
                      have HU := Lib.hid hU
                      clear hA hU hc0
                      go_wp2
                      go_meet
                      case rel => exact metT_code H5M.out H6V.out HN6.out HN5M.out HKT.out HBV.out (by omega) (by omega) HA.out HU.out
                  · by_cases hc0 : ck = 0
                    · have d3 : (ck != 0) = false := by simpa using hc0
                      rcases HAT.out with ⟨rfl, hno⟩ | ⟨u, x, rfl, hut, hux, hxp⟩
                      · have hnone : hasR L ⟨six, hi, lo, n0⟩ = false := FoundAt.none (fun i x hi hx => hno i x (by rw [← HM.out]; exact hi) hx)
                        have hg0 := getR_none hnone
                        have hA : doA L aV = ⟨7, 0, 0⟩ := by rw [← HAE.out]; unfold doA; rw [if_neg (by simp), if_neg (by simp), if_neg (by simp only; rw [HCK.out]; simpa using hc0), if_pos rfl, if_pos hg0]
                        have hU : doL L aV = L := by rw [← HAE.out]; unfold doL; rw [if_neg (by simp), if_neg (by simp only; rw [HCK.out]; simpa using hc0), if_pos rfl]; exact del_none hnone
                        have HA := Lib.hid hA
                        have HU := Lib.hid hU
                        clear hA hU hc0 hnone hg0 hno
                        go_wp2
                        go_meet
                        case rel => exact metT_code H5M.out H6V.out HN6.out HN5M.out HKT.out HBV.out (by omega) (by omega) HA.out HU.out
                      · have hul : u < L.length := (List.getElem?_eq_some_iff.1 hux).1
                        obtain ⟨g1, g2, g3⟩ := get_at HG.out.1.2 hux
                        rw [hxp] at g1 g2
                        have hxh := HG.out.1.1 x (List.mem_of_getElem? hux)
                        have hA : doA L aV = ⟨0, x.hop, 0⟩ := by rw [← HAE.out]; unfold doA; rw [if_neg (by simp), if_neg (by simp), if_neg (by simp only; rw [HCK.out]; simpa using hc0), if_pos rfl, if_neg (by simp only; rw [g1]; omega), g1]
                        have hU : doL L aV = L.take u ++ L.drop (u + 1) := by rw [← HAE.out]; unfold doL; rw [if_neg (by simp), if_neg (by simp only; rw [HCK.out]; simpa using hc0), if_pos rfl]; exact g2
                        have HA := Lib.hid hA
                        have HU := Lib.hid hU
                        have HUX := Lib.hid hux
                        have HUL := Lib.hid hul
                        clear hA hU hc0 g1 g2 g3 hxh hux hul hxp
                        obtain ⟨g5, cc, cur, hv, _, hb5, _⟩ := H5V.out.form (by have := HUL.out; omega)
                        injection hv with hv1 hv2 hv3
                        subst hv1 hv3
                        obtain ⟨⟨y0, y1, y2, y3, y4⟩, yg, _⟩ := H5V.out.at_ HUX.out
                        have hg5 : g5 < wo.heap.size := HN5.out g5 (by rfl)
                        have yf := hb5.frozen (u * 5 + 4)
                        have i1 : (0 : Int) ≤ (u : Int) := by omega
                        have i2 : (u : Int) < (t : Int) := by omega
                        have dge : decide ((0 : Int) ≤ (u : Int)) = true := by simp
                        have dlt : decide ((u : Int) < 0) = false := by simp
                        have ne5 : ¬ g5 = wi.heap.size := by omega
                        have ne6 : ¬ wi.heap.size = g5 := by omega
                        clear hv2 hb5 y0 y1 y2 y3
                        obtain ⟨xh, hxh⟩ : ∃ xh, x.hop = xh := ⟨_, rfl⟩
                        rw [hxh] at y4 HA
                        obtain ⟨V4, hV4⟩ : ∃ V4 : World, V4 = V.setCell ⟨wi.heap.size, 1, none⟩ (.int .i64 xh) := ⟨_, rfl⟩
                        have hz4 : V4.heap.size = V.heap.size := by rw [hV4]; simp
                        have H54 : Hid (OwnRs V4 w.heap.size (.slice (some ⟨g5, 0, none⟩) L.length c5) L) := by
                          rw [hV4]
                          exact ownsRow_setCell_other H5V.out (fun he => by simp [Value.ownBlock] at he; omega) _
                        have H64 : Hid (OwnAs V4 w.heap.size v6 AS) := by
                          rw [hV4]
                          exact ownsRow_setCell_other H6V.out (fun he => by have : wi.heap.size < wo.heap.size := HN6.out _ he; omega) _
                        have HK4 : Hid (Blk V4 wi.heap.size 47 #[.int .i64 0, .int .i64 xh, .int .i64 0]) := by
                          rw [hV4]
                          exact HKT.out.set_ 1 _
                        have HB4 : Hid (Below w.heap.size w V4) := by
                          rw [hV4]
                          exact HBV.out.setCell (by show w.heap.size ≤ wi.heap.size; omega) _
                        have HV4 := Lib.hid hV4
                        obtain ⟨A5', c5', hv5, hir⟩ := Good.isRoutes H54.out HG.out.1
                        injection hv5 with hv1 _ hv3
                        subst hv1 hv3
                        rw [HM.out] at hir
                        have HRH := Lib.hid (fun (Y : World) (hY : Below V4.heap.size V4 Y) => (hir.below hY).2.2.2.front RouteV.cells_length HM.out (k := u) (by have := HUL.out; omega))
                        have hic := hir.2.1
                        have hul : u < t := by rw [← HM.out]; exact HUL.out
                        have hicm := hic.2
                        unfold maxLen at hicm
                        have wu : IntKind.i64.wrap ((u : Int) + 1) = (u : Int) + 1 := by rw [IntWalk.i64_in _ (by omega)]
                        have b1 : (u : Int) ≤ (c5 : Int) := by omega
                        have b2 : (u : Int) + 1 ≤ (c5 : Int) := by omega
                        have b3 : (0 : Int) ≤ (u : Int) + 1 := by omega
                        have b4 : (u : Int) + 1 ≤ (t : Int) := by omega
                        have b5 : ((u : Int) + 1).toNat = u + 1 := by omega
                        have b6 : (u : Int) ≤ (t : Int) := by omega
                        clear hV4 hxh
                        go_upto_region 18 with fail
                        rw [← HV4.out]
                        by_cases hcz : c5 = u + 1
                        · have het : t = u + 1 := by omega
                          have hed : L.drop (u + 1) = [] := List.drop_eq_nil_of_le (by rw [HM.out]; omega)
                          have HED := Lib.hid hed
                          have HET := Lib.hid het
                          clear hed het hir hul hic hicm
                          subst hcz
                          have b7 : (u : Int) ≤ (u : Int) + 1 := by omega
                          have b8 : (u : Int) + 1 ≤ (u : Int) + 1 := by omega
                          go_region_held3 (fun w' => (∀ b o, b < V4.heap.size → w'.cell? ⟨b, o, none⟩ = V4.cell? ⟨b, o, none⟩) ∧ V4.heap.size ≤ w'.heap.size ∧ Hid (Below V4.heap.size V4 w'))
                            ((first | assumption | exact keep0 _ | exact keep1 (by assumption) (by assumption) | exact keepD (by assumption) | exact keepB (by assumption) (by assumption) | exact keepA (by assumption) _ | exact ⟨fun _ _ _ => rfl, Nat.le_refl _, Below.refl _ _⟩))
                            (first
                              | (refine step_append_nilI (o := ⟨some 49, _, _, _, _, _⟩) ((L.take u).flatMap RouteV.cells) u 36 rfl rfl V4.heap.size 57 _ 5 40 Try.underlying36 infoRouteP rfl (by decide) ?_ ?_ ?_ ?_ ?_ ?_ ?_; (focus rfl); (focus exact ⟨_, _, rfl, HRH.out _ (keepBelow (by assumption))⟩); (focus exact rts_one _); (focus (unfold maxLen; omega)); (focus omega); (focus exact keepSize (by assumption)); intro v1 w2 hown2 hb2)
                              | (refine step_append_farI (o := ⟨some 54, _, _, _, _, _⟩) ([] : List Value) 0 36 u ((L.take u).flatMap RouteV.cells) rfl rfl V4.heap.size 57 _ 5 40 Try.underlying36 infoRouteP rfl (by decide) ?_ ?_ ?_ ?_ ?_ ?_ ?_; (focus (exact hown2)); (focus exact ⟨_, _, rfl, Reads.none_⟩); (focus (intro u' hu'; cases hu')); (focus (unfold maxLen; omega)); (focus omega); (focus exact keepSize (by assumption)); intro v3 w4 hown4 hb4 hg4))
                          all_goals
                            obtain ⟨fc4, z4, H4⟩ : (∀ b o, b < V4.heap.size → w4.cell? ⟨b, o, none⟩ = V4.cell? ⟨b, o, none⟩) ∧ V4.heap.size ≤ w4.heap.size ∧ Hid (Below V4.heap.size V4 w4) := by assumption
                            have HO4 : Hid (OwnRs w4 w.heap.size v3 (L.take u ++ L.drop (u + 1))) := by
                              show World.ownsRow _ _ _ _ _ _ _
                              have hl : (L.take u ++ L.drop (u + 1)).length = u + 0 := by rw [List.length_append, List.length_take, List.length_drop, Nat.min_eq_left (by have := HUL.out; omega), HM.out]; have := HET.out; omega
                              rw [hl, List.flatMap_append, HED.out, List.flatMap_nil]
                              exact own_mono hown4 (by have := HB4.out.size; omega)
                            clear hown2 hb2 hown4 hb4 hg4
                            go_wp2_with fail
                            go_meet
                            case rel => exact metT_cut HO4.out ((H64.out).below H4.out) HK4.out HB4.out H4.out (by omega) (by omega) HA.out HU.out
                        · have HRT : Hid (∀ Y, Below V4.heap.size V4 Y → Reads Y Y.heap.size 5 (some ⟨g5, (u + 1) * 5, none⟩) (t - (u + 1)) ((L.drop (u + 1)).flatMap RouteV.cells)) := by
                            intro Y hY
                            have hr := (hir.below hY).2.2.2.cut (k := u + 1) (by omega) hic.1
                            rw [if_neg hcz, rflat_drop L (by rw [HM.out]; omega)] at hr
                            simpa [Addr.add] using hr
                          clear hir hul hic hicm
                          go_region_held3 (fun w' => (∀ b o, b < V4.heap.size → w'.cell? ⟨b, o, none⟩ = V4.cell? ⟨b, o, none⟩) ∧ V4.heap.size ≤ w'.heap.size ∧ Hid (Below V4.heap.size V4 w'))
                            ((first | assumption | exact keep0 _ | exact keep1 (by assumption) (by assumption) | exact keepD (by assumption) | exact keepB (by assumption) (by assumption) | exact keepA (by assumption) _ | exact ⟨fun _ _ _ => rfl, Nat.le_refl _, Below.refl _ _⟩))
                            (first
                              | (refine step_append_nilI (o := ⟨some 49, _, _, _, _, _⟩) ((L.take u).flatMap RouteV.cells) u 36 rfl rfl V4.heap.size 57 _ 5 40 Try.underlying36 infoRouteP rfl (by decide) ?_ ?_ ?_ ?_ ?_ ?_ ?_; (focus rfl); (focus exact ⟨_, _, rfl, HRH.out _ (keepBelow (by assumption))⟩); (focus exact rts_one _); (focus (unfold maxLen; omega)); (focus omega); (focus exact keepSize (by assumption)); intro v1 w2 hown2 hb2)
                              | (refine step_append_farI (o := ⟨some 54, _, _, _, _, _⟩) ((L.drop (u + 1)).flatMap RouteV.cells) (t - (u + 1)) 36 u ((L.take u).flatMap RouteV.cells) rfl rfl V4.heap.size 57 _ 5 40 Try.underlying36 infoRouteP rfl (by decide) ?_ ?_ ?_ ?_ ?_ ?_ ?_; (focus (exact hown2)); (focus exact ⟨_, _, rfl, HRT.out _ (keepBelow (by assumption))⟩); (focus (exact rts_one _)); (focus (unfold maxLen; omega)); (focus omega); (focus exact keepSize (by assumption)); intro v3 w4 hown4 hb4 hg4))
                          all_goals
                            obtain ⟨fc4, z4, H4⟩ : (∀ b o, b < V4.heap.size → w4.cell? ⟨b, o, none⟩ = V4.cell? ⟨b, o, none⟩) ∧ V4.heap.size ≤ w4.heap.size ∧ Hid (Below V4.heap.size V4 w4) := by assumption
                            have HO4 : Hid (OwnRs w4 w.heap.size v3 (L.take u ++ L.drop (u + 1))) := by
                              show World.ownsRow _ _ _ _ _ _ _
                              have hl : (L.take u ++ L.drop (u + 1)).length = u + (t - (u + 1)) := by rw [List.length_append, List.length_take, List.length_drop, Nat.min_eq_left (by have := HUL.out; omega), HM.out]; try omega
                              rw [hl, List.flatMap_append]
                              exact own_mono hown4 (by have := HB4.out.size; omega)
                            clear hown2 hb2 hown4 hb4 hg4
                            go_wp2_with fail
                            go_meet
                            case rel => exact metT_cut HO4.out ((H64.out).below H4.out) HK4.out HB4.out H4.out (by omega) (by omega) HA.out HU.out
                    · have d3 : (ck != 0) = true := by simpa using hc0
                      have hA : doA L aV = ⟨ck, 0, 0⟩ := by rw [← HAE.out]; unfold doA; rw [if_neg (by simp), if_neg (by simp), if_pos (by simp only; rw [HCK.out]; exact hc0)]; simp only; rw [HCK.out]
                      have hU : doL L aV = L := by rw [← HAE.out]; unfold doL; rw [if_neg (by simp), if_pos (by simp only; rw [HCK.out]; exact hc0)]
                      have HA := Lib.hid hA
                      have HU := Lib.hid hU
                      clear hA hU hc0
                      go_wp2
                      go_meet
                      case rel => exact metT_code H5M.out H6V.out HN6.out HN5M.out HKT.out HBV.out (by omega) (by omega) HA.out HU.out
                  · cases hmay : mayB six2 hi2 lo2 with
                    | false =>
                      have hA : doA L aV = ⟨4, 0, 0⟩ := by rw [← HAE.out]; unfold doA; rw [if_neg (by simp), if_pos rfl, if_pos (by simpa using hmay)]
                      have hU : doL L aV = L := by rw [← HAE.out]; unfold doL; rw [if_pos (by simp)]
                      have HA := Lib.hid hA
                      have HU := Lib.hid hU
                      have CM0 := fun X => refMay_any six2 hi2 lo2 X o4.1
                      rw [hmay] at CM0
                      have CM := Lib.hid CM0
                      clear hA hU CM0 hmay
                      go_wp2_with (go_at_call 130; (with_reducible refine (CM.out _).mono ?_); rintro e V2 ⟨rfl, hb2⟩; obtain ⟨fc2, ff2⟩ := bcell hb2; have hz2 := hb2.size; have HB2 := Lib.hid hb2; clear hb2)
                      go_meet
                      case rel => exact metT_code (H5M.out.below HB2.out) (H6V.out.below HB2.out) HN6.out HN5M.out (HKT.out.below HB2.out hti2) (HBV.out.trans (HB2.out.mono (by omega))) (by omega) (by omega) HA.out HU.out
                    | true =>
                      have hA : doA L aV = ⟨0, (goesR L six2 hi2 lo2).1, (goesR L six2 hi2 lo2).2⟩ := by rw [← HAE.out]; unfold doA; rw [if_neg (by simp), if_pos rfl, if_neg (by simp [hmay])]
                      have hU : doL L aV = L := by rw [← HAE.out]; unfold doL; rw [if_pos (by simp)]
                      obtain ⟨A5', c5', hv5, hir⟩ := Good.isRoutes H5V.out HG.out.1
                      injection hv5 with hv1 _ hv3
                      subst hv1 hv3
                      rw [HM.out] at hir
                      have CG0 := fun (X : World) (hb : Below V.heap.size V X) => goes_any A5 t c5 L six2 hi2 lo2 X (hir.below hb) HG.out.1 ⟨o3, o4, hmay⟩ hm60
                      obtain ⟨ga, hga⟩ : ∃ ga, (goesR L six2 hi2 lo2).1 = ga := ⟨_, rfl⟩
                      obtain ⟨gb, hgb⟩ : ∃ gb, (goesR L six2 hi2 lo2).2 = gb := ⟨_, rfl⟩
                      rw [hga, hgb] at hA CG0
                      have HA := Lib.hid hA
                      have HU := Lib.hid hU
                      have CM0 := fun X => refMay_any six2 hi2 lo2 X o4.1
                      rw [hmay] at CM0
                      have CM := Lib.hid CM0
                      have CG := Lib.hid CG0
                      clear hA hU CM0 CG0 hmay hga hgb hir
                      go_wp2_with (go_at_call 130; (with_reducible refine (CM.out _).mono ?_); rintro e V2 ⟨rfl, hb2⟩; obtain ⟨fc2, ff2⟩ := bcell hb2; have hz2 := hb2.size; have HB2 := Lib.hid hb2; clear hb2)
                      refine (CG.out _ HB2.out).mono ?_
                      rintro e V3 ⟨rfl, hb3⟩
                      have HB3 := Lib.hid (below_step HB2.out hb3)
                      obtain ⟨fc3, ff3⟩ := bcell hb3
                      have hz3 := hb3.size
                      have hti3 : wi.heap.size < V2.heap.size := by omega
                      have hwo3 : wo.heap.size < V2.heap.size := by omega
                      clear hb3
                      go_wp2
                      go_meet
                      case rel => exact metT_look (H5M.out.below HB3.out) (H6V.out.below HB3.out) HN6.out HN5M.out (HKT.out.below HB3.out hti2) (HBV.out.trans (HB3.out.mono (by omega))) (by omega) (by omega) HA.out HU.out
                  · by_cases hc0 : ck = 0
                    · have d3 : (ck != 0) = false := by simpa using hc0
                      rcases HAT.out with ⟨rfl, hno⟩ | ⟨u, x, rfl, hut, hux, hxp⟩
                      · have hnone : hasR L ⟨six, hi, lo, n0⟩ = false := FoundAt.none (fun i x hi hx => hno i x (by rw [← HM.out]; exact hi) hx)
                        have hg0 := getR_none hnone
                        have hA : doA L aV = ⟨7, 0, 0⟩ := by rw [← HAE.out]; unfold doA; rw [if_neg (by simp), if_neg (by simp), if_neg (by simp only; rw [HCK.out]; simpa using hc0), if_neg (by simp), if_pos rfl, if_pos hg0]
                        have hU : doL L aV = L := by rw [← HAE.out]; unfold doL; rw [if_pos (by simp)]
                        have HA := Lib.hid hA
                        have HU := Lib.hid hU
                        clear hA hU hc0 hnone hg0 hno
                        go_wp2
                        go_meet
                        case rel => exact metT_code H5M.out H6V.out HN6.out HN5M.out HKT.out HBV.out (by omega) (by omega) HA.out HU.out
                      · have hul : u < L.length := (List.getElem?_eq_some_iff.1 hux).1
                        obtain ⟨g1, g2, g3⟩ := get_at HG.out.1.2 hux
                        rw [hxp] at g1 g2
                        have hxh := HG.out.1.1 x (List.mem_of_getElem? hux)
                        have hA : doA L aV = ⟨0, x.hop, n0⟩ := by rw [← HAE.out]; unfold doA; rw [if_neg (by simp), if_neg (by simp), if_neg (by simp only; rw [HCK.out]; simpa using hc0), if_neg (by simp), if_pos rfl, if_neg (by simp only; rw [g1]; omega), g1]
                        have hU : doL L aV = L := by rw [← HAE.out]; unfold doL; rw [if_pos (by simp)]
                        have HA := Lib.hid hA
                        have HU := Lib.hid hU
                        have HUX := Lib.hid hux
                        have HUL := Lib.hid hul
                        clear hA hU hc0 g1 g2 g3 hxh hux hul hxp
                        obtain ⟨g5, cc, cur, hv, _, hb5, _⟩ := H5V.out.form (by have := HUL.out; omega)
                        injection hv with hv1 hv2 hv3
                        subst hv1 hv3
                        obtain ⟨⟨y0, y1, y2, y3, y4⟩, yg, _⟩ := H5V.out.at_ HUX.out
                        have hg5 : g5 < wo.heap.size := HN5.out g5 (by rfl)
                        have yf := hb5.frozen (u * 5 + 4)
                        have i1 : (0 : Int) ≤ (u : Int) := by omega
                        have i2 : (u : Int) < (t : Int) := by omega
                        have dge : decide ((0 : Int) ≤ (u : Int)) = true := by simp
                        have dlt : decide ((u : Int) < 0) = false := by simp
                        have ne5 : ¬ g5 = wi.heap.size := by omega
                        have ne6 : ¬ wi.heap.size = g5 := by omega
                        clear hv2 hb5 y0 y1 y2 y3
                        go_wp2
                        go_meet
                        case rel => exact metT_getM HM.out H5V.out H6V.out HN6.out HN5.out HKT.out HBV.out (by omega) (by omega) HA.out HU.out
                    · have d3 : (ck != 0) = true := by simpa using hc0
                      have hA : doA L aV = ⟨ck, 0, 0⟩ := by rw [← HAE.out]; unfold doA; rw [if_neg (by simp), if_neg (by simp), if_pos (by simp only; rw [HCK.out]; exact hc0)]; simp only; rw [HCK.out]
                      have hU : doL L aV = L := by rw [← HAE.out]; unfold doL; rw [if_pos (by simp)]
                      have HA := Lib.hid hA
                      have HU := Lib.hid hU
                      clear hA hU hc0
                      go_wp2
                      go_meet
                      case rel => exact metT_code H5M.out H6V.out HN6.out HN5M.out HKT.out HBV.out (by omega) (by omega) HA.out HU.out
            case rest =>
              obtain ⟨h5x, h6x, hkx, hbx, htx, htx2⟩ := hcut
              obtain ⟨X, rfl⟩ : ∃ X : World, X = wc := ⟨_, rfl⟩
              obtain ⟨D, hD⟩ : ∃ D, doA L aV = D := ⟨_, rfl⟩
              rw [hD] at hkx
              have hplay : ansL (l.take (k + 1)) [] = AS ++ [D] := by rw [HTK.out, ansL_snoc, HAS.out, HL.out, hD]
              have hplayq : actL (l.take (k + 1)) [] = doL L aV := by rw [HTK.out, actL_snoc, HL.out]
              have x0 := hkx.cell 0
              have x1 := hkx.cell 1
              have x2 := hkx.cell 2
              simp at x0 x1 x2
              unfold OwnAs at h6x
              rw [HLK.out] at h6x
              have H5X := Lib.hid h5x
              have HOW := Lib.hid h6x
              have HBX2 := Lib.hid hbx
              have hsx := hbx.size
              have HPL := Lib.hid hplay
              have HPQ := Lib.hid hplayq
              clear h5x h6x hkx hbx hplay hplayq hD e0 e1 e2 e3 e4 e5 e6 e7 e8 u0 u1 u2 f0 f1 f2
              go_wp2_with (at_builtin; go_loud (refine wpList_append_oneN (us := [.int .i64 D.code, .int .i64 D.hop, .int .i64 D.len]) rfl _ _ 102 rfl w.heap.size _ 3 24 Try.underlying102 infoAns rfl (by decide) _ _ _ rfl rfl rfl HOW.out ?c1 rfl ?c4 ?c2 ?c3 ?_))
              case c1 => exact hsx
              case c2 => unfold maxLen; omega
              case c3 => omega
              case c4 => intro u hu; simp at hu; rcases hu with rfl | rfl | rfl <;> rfl
              intro v' w9 hown' hb9 hs9 hk9
              have KR : KeepT 57 X w9 := KeepT.of_own hk9 HOW.out (by decide)
              have H59 := Lib.hid (own_keepT H5X.out KR)
              have HO9 := Lib.hid hown'
              have HB9 := Lib.hid (HBX2.out.trans hb9)
              clear hown' hb9 hk9 KR
              go_wp2
              go_roundw
              case rel =>
                refine ⟨k + 1, _, _, by omega, by go_num, rfl, rfl, by rw [HPQ.out]; exact H59.out, ?_, HB9.out⟩
                unfold OwnAs
                have hl : (ansL (l.take (k + 1)) []).length = k + 1 := by rw [ansL_length, List.length_take, HZ.out]; omega
                rw [hl, HPL.out, List.flatMap_append]
                simpa [AnsV.cells] using HO9.out
              case measure => simp [intOf]; omega
      · obtain rfl : k = n := by omega
        have ht : l.take k = l := List.take_of_length_le (by rw [HZ.out]; omega)
        rw [ht] at h5 h6
        have hG : GoodL (actL l []) := goodL_play goodL_nil HOK.out
        obtain ⟨S0, hS0⟩ : ∃ S0 : List OkR, S0.map (fun x => x.1) = actL l [] := by
          refine ⟨(actL l []).attach.map (fun x => ⟨x.1, (hG.1.1 x.1 x.2).1⟩), ?_⟩
          rw [List.map_map]
          exact List.attach_map_subtype_val _
        have hflat : ∀ S : List OkR, S.flatMap encR = (S.map (fun x => x.1)).flatMap RouteV.cells := fun S => by rw [List.flatMap_map]; rfl
        have hlen0 : S0.length = (actL l []).length := by rw [← hS0, List.length_map]
        have h5s : wo.ownsRow w.heap.size 57 5 v5 (actL l []).length (S0.flatMap encR) := by rw [hflat, hS0]; exact h5
        have CS := Lib.hid (sortRoutes_any h5s hlen0 (by have := hG.2; omega))
        have H5S := Lib.hid h5s
        have H6 := Lib.hid h6
        have HB := Lib.hid hb
        have HG := Lib.hid hG
        have HS0 := Lib.hid hS0
        have HFL := Lib.hid hflat
        have HL0 := Lib.hid hlen0
        clear h5 h6 hb hG ht h5s hS0 hflat hlen0
        go_wp2_with (go_at_call 126; (with_reducible refine CS.out.mono ?_); rintro e W2 ⟨rfl, S, hperm, hpw, hown, hgr⟩)
        (try go_ret3)
        rw [← HP.out]
        refine ⟨fun h => absurd h h100, fun _ => ?_⟩
        have hsz2 := hgr.size
        have hb2 : Below w.heap.size w W2 := HB.out.grown hgr HB.out.size (fun g hg => own_base H5S.out _ hg)
        have hlS : S.length = (actL l []).length := by rw [hperm.length_eq, HL0.out]
        refine ⟨_, _, S.map (fun x => x.1), rfl, ?_, ?_, ?_, ?_, hb2⟩
        · refine own_keepT H6.out (KeepT.of_own (e := 57) (fun k hk hne => hgr.block k hk (fun e => hne e.symm)) H5S.out (by decide))
        · unfold OwnRs
          rw [List.length_map, hlS, ← HFL.out]
          exact hown
        · rw [← HS0.out]
          exact hperm.map _
        · have hnd : ((S.map (fun x => x.1)).map RouteV.p).Nodup := by
            have := (hperm.map (fun x => x.1)).map RouteV.p
            rw [HS0.out] at this
            exact this.nodup_iff.2 HG.out.1.2
          exact sorted_strict hpw hnd

end Go.Proofs.Ytnflaaoapmhjgaa

namespace Go.Proofs.Ytnflaaoapmhjgaa
open Go.ChangeShapes Go.WideShapes Go.ChangeAt Go.RowKit

instance : DecidableEq AnsV := fun a b => decidable_of_iff (a.code = b.code ∧ a.hop = b.hop ∧ a.len = b.len) ⟨fun h => by
  obtain ⟨c, h', l⟩ := a
  obtain ⟨c', h'', l'⟩ := b
  simp only at h
  obtain ⟨rfl, rfl, rfl⟩ := h
  rfl, fun h => by subst h; exact ⟨rfl, rfl, rfl⟩⟩
theorem AnsV.cells_length (a : AnsV) : a.cells.length = 3 := rfl
set_option maxRecDepth 100000 in
/-- '==' on answers. -/
theorem eqAns (r r' : AnsV) (w : World) : (Op.equalIn 10000 47 r.val r'.val).run Try.prog w = .ok (decide (r = r')) w := by
  obtain ⟨a, b, c⟩ := r
  obtain ⟨a', b', c'⟩ := r'
  have hS : Try.prog.underlying 47 = some (.struct (Try.prog.fieldsOf 47)) := by kernel_rfl
  have hp : Try.prog.stoodInHeld 47 = false := by kernel_rfl
  have e : (decide ((⟨a, b, c⟩ : AnsV) = ⟨a', b', c'⟩)) = (a == a' && (b == b' && c == c')) := by
    rw [Bool.eq_iff_iff]
    simp
  rw [e]
  unfold AnsV.val
  simp only
  rw [show (10000 : Nat) = 9999 + 1 from rfl, run_equalIn_agg w 9999 47 _ _ hS hp]
  clear hS hp e
  have a1 := Try.isAgg24
  have z1 := Try.sizeOf24
  have a2 := Try.isAgg3
  have z2 := Try.sizeOf3
  simp only [Program.fieldsOf, Try.underlying47]
  go_simp
  by_cases h1 : a = a' <;> by_cases h2 : b = b' <;> by_cases h3 : c = c' <;> simp [h1, h2, h3]

set_option maxRecDepth 100000 in
set_option maxHeartbeats 800000 in
theorem sameAnswers_any (A A' : Option Addr) (n c n' c' : Nat) (l l' : List AnsV) (w : World) (hz : l.length = n) (hz' : l'.length = n') (hm : n ≤ maxLen) (hm' : n' ≤ maxLen)
    (hr : Reads w w.heap.size 3 A n (l.flatMap AnsV.cells)) (hr' : Reads w w.heap.size 3 A' n' (l'.flatMap AnsV.cells)) :
    Calls Try.prog 57 #[.slice A n c, .slice A' n' c'] w fun e w' => e = .returned (.bool (decide (l = l'))) ∧ Below w.heap.size w w' := by
  unfold maxLen at hm hm'
  by_cases hnn : n = n'
  · subst hnn
    have HZ := Lib.hid hz
    have HZ' := Lib.hid hz'
    have HR := Lib.hid hr
    have HR' := Lib.hid hr'
    obtain ⟨d, hd⟩ : ∃ d, d = decide (l = l') := ⟨_, rfl⟩
    rw [← hd]
    have HD := Lib.hid hd
    clear hz hz' hr hr' hm' hd
    go_enter Try.func57, Try.ntmps57
    go_wp2
    go_loopw [5, 4] (fun i _ wr => ∃ k : Nat, k ≤ n ∧ i = .int .i64 k ∧ l.take k = l'.take k ∧ Below w.heap.size w wr) (fun i _ _ => n - (intOf i).toNat)
    case atStart => exact ⟨0, by omega, rfl, rfl, Below.refl _ _⟩
    case round =>
      obtain ⟨k, hk, rfl, hto, hb⟩ := hrel
      have HT := Lib.hid hto
      clear hto
      by_cases hlt : k < n
      · obtain ⟨ad, ⟨cd, hp, ln⟩, rfl, hlk, htk, hmem, hbk, hc0, hcj⟩ := HR.out.atS AnsV.cells_length HZ.out hlt
        have q0 := (hb.cell (p := ad.add (k * 3)) (by rw [block_of_add]; exact hbk)).trans (hc0 _ rfl)
        have q1 := (hb.cell (p := ⟨(ad.add (k * 3)).block, (ad.add (k * 3)).off + 1, none⟩) (by rw [block_of_add]; exact hbk)).trans (hcj 1 _ rfl)
        have q2 := (hb.cell (p := ⟨(ad.add (k * 3)).block, (ad.add (k * 3)).off + 2, none⟩) (by rw [block_of_add]; exact hbk)).trans (hcj 2 _ rfl)
        have HL := Lib.hid hlk
        have HTK := Lib.hid htk
        clear hlk htk hmem hc0 hcj
        obtain ⟨ad', ⟨cd', hp', ln'⟩, rfl, hlk, htk, hmem, hbk', hc0, hcj⟩ := HR'.out.atS AnsV.cells_length HZ'.out hlt
        have x0 := (hb.cell (p := ad'.add (k * 3)) (by rw [block_of_add]; exact hbk')).trans (hc0 _ rfl)
        have x1 := (hb.cell (p := ⟨(ad'.add (k * 3)).block, (ad'.add (k * 3)).off + 1, none⟩) (by rw [block_of_add]; exact hbk')).trans (hcj 1 _ rfl)
        have x2 := (hb.cell (p := ⟨(ad'.add (k * 3)).block, (ad'.add (k * 3)).off + 2, none⟩) (by rw [block_of_add]; exact hbk')).trans (hcj 2 _ rfl)
        have HL' := Lib.hid hlk
        have HTK' := Lib.hid htk
        have HEQ := fun w => eqAns ⟨cd, hp, ln⟩ ⟨cd', hp', ln'⟩ w
        have HBO := Lib.hid hb
        clear hlk htk hmem hc0 hcj hb
        by_cases he : (⟨cd, hp, ln⟩ : AnsV) = ⟨cd', hp', ln'⟩
        · have HN : Hid (l.take (k + 1) = l'.take (k + 1)) := by show _ = _; rw [HTK.out, HTK'.out, HT.out, he]
          rw [decide_eq_true he] at HEQ
          unfold AnsV.val at HEQ
          simp only at HEQ
          clear he
          go_wp2
          go_quiet (fail)
          go_wp2
          go_roundw
          case rel => exact ⟨k + 1, by omega, by go_num, HN.out, below_drewN HBO.out _⟩
          case measure => simp [intOf]; omega
        · have HN : Hid (d = false) := by
            show _ = _
            rw [HD.out, decide_eq_false_iff_not]
            intro h
            subst h
            rw [HL.out] at HL'
            have := HL'.out
            injection this with this
            exact he this
          rw [decide_eq_false he] at HEQ
          unfold AnsV.val at HEQ
          simp only at HEQ
          clear he
          go_wp2
          go_quiet (fail)
          go_wp2
          go_ret
          exact ⟨by rw [HN.out]; rfl, below_drewN HBO.out _⟩
      · obtain rfl : k = n := by omega
        have HN : Hid (d = true) := by
          show _ = _
          rw [HD.out, decide_eq_true_iff]
          have := HT.out
          rwa [List.take_of_length_le (by rw [HZ.out]; omega), List.take_of_length_le (by rw [HZ'.out]; omega)] at this
        go_wp2
        go_ret
        exact ⟨by rw [HN.out]; rfl, hb⟩
  · have hd : decide (l = l') = false := by rw [decide_eq_false_iff_not]; intro h; subst h; omega
    rw [hd]
    have hne : ¬ (n : Int) = n' := by omega
    clear hz hz' hr hr' hd
    go_enter Try.func57, Try.ntmps57
    go_wp2
    go_ret
    exact ⟨rfl, Below.refl _ _⟩

end Go.Proofs.Ytnflaaoapmhjgaa
