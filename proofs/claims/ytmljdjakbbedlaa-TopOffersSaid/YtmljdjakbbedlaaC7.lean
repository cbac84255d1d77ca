/-
  
  
  
  
  
  
  
  
-/
import Derived.Test.YtmljdjakbbedlaaC6
import Derived.Sort.WalkA6
import Derived.Deep.DeepCutAuto
import Derived.Deep.CutBlock
import Derived.Test.YtmljdjakbbedlaaC2
import Derived.Test.YtmljdjakbbedlaaC4
import Derived.Sort.AssemblyPlain
import Derived.Shelf.SlSortFuncK.BreakPatternsK
import Derived.Shelf.SlSortFuncK.ComposeK
import Derived.Shelf.GgSortFunc.Tiny
import Derived.Shelf.GgSortFunc.SmallK
import Derived.Test.YtmljdjakbbedlaaC5
import Derived.Test.YtmljdjakbbedlaaC8
namespace Go.Proofs.Ytmljdjakbbedlaa
open Go.ChangeShapes Go.WideShapes Go.ChangeAt Go.RowKit
open Go.Sort (swp size_swp PermIn SortedIn SWO putRowK HoldsK scanSorted shiftDown shiftUp partialIns fixDown fixUp)

variable {α : Type} [Inhabited α] {enc : α → List Value} {k blk off : Nat} {lt : α → α → Bool} {g : Nat} {lb : Array Value} {sf : Nat} {sb : Array Value} {n : Nat} {w : World} {d : Array α}

set_option maxHeartbeats 4000000 in
set_option maxRecDepth 100000 in
theorem partialInsertionSort_g (S : Srt Try.prog enc k blk off lt g lb sf sb n w d) (a b : Nat) (hab : a < b) (hb : b ≤ n) :
    Calls Try.prog 204 #[.agg #[.func (.func g) #[] lb, .func (.func sf) #[] sb], .int .i64 a, .int .i64 b] w fun e w' =>
      ∃ d' fl, Go.Sort.partialInsertionSort lt d a b = (d', fl) ∧ e = .returned (.bool fl) ∧ RowIn enc k blk off w d' w' := by
  obtain ⟨post, hpost⟩ : ∃ post : Ending → World → Prop, (fun e w' => ∃ d' fl, Go.Sort.partialInsertionSort lt d a b = (d', fl) ∧ e = .returned (.bool fl) ∧ RowIn enc k blk off w d' w') = post := ⟨_, rfl⟩
  rw [hpost]
  have HPO := Lib.hid hpost
  clear hpost
  have S1 := S.box (.cells #[.func (.func g) #[] lb, .func (.func sf) #[] sb] 283)
  have eg := S.eg
  have hblk := S.lt'
  have hn := S.small
  have hsd := S.sz
  have PF : Hid (Go.Sort.partialInsertionSort lt d a b = partialIns lt a b (5 - 0) (a + 1) d) := rfl
  go_enter Try.func204, Try.ntmps204
  go_wp2
  go_loopw [7, 8] (fun v7 v8 wr => ∃ (i s : Nat) (dk : Array α), v7 = .int .i64 i ∧ v8 = .int .i64 s ∧ s ≤ 5 ∧ a < i ∧ i ≤ b ∧ dk.size = n ∧ RowIn enc k blk off (w.alloc (.cells #[.func (.func g) #[] lb, .func (.func sf) #[] sb] 283)) dk wr ∧ Hid (partialIns lt a b (5 - s) i dk = partialIns lt a b (5 - 0) (a + 1) d)) (fun _ v8 _ => 5 - (intOf v8).toNat)
  case atStart => exact ⟨a + 1, 0, d, by go_num, rfl, by omega, by omega, by omega, hsd, S1.start, rfl⟩
  case round =>
    obtain ⟨i, s, dk, rfl, rfl, hs5, hai, hib, hds, hR, HE⟩ := hrel
    by_cases hs : s < 5
    · have hsz : (s : Int) < 5 := by omega
      go_upto_block 2 with fail
      go_cut [7] from 17 to 30 (fun v wc => ∃ q : Nat, v = .int .i64 q ∧ Hid (q = scanSorted lt dk b i) ∧ (i ≤ q ∧ q ≤ b) ∧ RowIn enc k blk off (w.alloc (.cells #[.func (.func g) #[] lb, .func (.func sf) #[] sb] 283)) dk wc)
      case first =>
        go_wp2_with fail
        go_loopw [7] (fun v wr => ∃ q : Nat, v = .int .i64 q ∧ (i ≤ q ∧ q ≤ b) ∧ RowIn enc k blk off (w.alloc (.cells #[.func (.func g) #[] lb, .func (.func sf) #[] sb] 283)) dk wr ∧ Hid (scanSorted lt dk b q = scanSorted lt dk b i)) (fun v _ => b - (intOf v).toNat)
        case atStart => exact ⟨i, rfl, by omega, hR, rfl⟩
        case round =>
          obtain ⟨q, rfl, hbd, hR1, HEq⟩ := hrel
          obtain ⟨c0, c1⟩ := hR1.boxed hblk
          by_cases hle : q < b
          · have hlez : (q : Int) < (b : Int) := by omega
            have hl := S1.lessAt hR1 hds q (q - 1) (q : Int) ((q : Int) - 1) rfl (by omega) (by omega) (by omega)
            cases hv : lt dk[q]! dk[q - 1]! with
            | false =>
              rw [hv] at hl
              go_wp2_with fail
              go_at_fn g
              refine hl.mono ?_
              rintro e w2 ⟨rfl, hb2⟩
              have hR2 := hR1.step hb2
              clear hb2
              go_wp2
              go_roundw
              case rel => exact ⟨q + 1, by go_num, by omega, hR2, by show _ = _; rw [← HEq.out]; exact (scanSorted_go lt dk b q hle hv).symm⟩
              case measure => simp [intOf] <;> omega
            | true =>
              rw [hv] at hl
              go_wp2_with fail
              go_at_fn g
              refine hl.mono ?_
              rintro e w2 ⟨rfl, hb2⟩
              have hR2 := hR1.step hb2
              clear hb2
              go_wp2
              go_meet
              case rel => exact ⟨q, rfl, by show _ = _; rw [← HEq.out]; exact (scanSorted_stop lt dk b q (Or.inr hv)).symm, hbd, hR2⟩
          · have hlez : ¬ ((q : Int) < (b : Int)) := by omega
            go_wp2
            go_meet
            case rel => exact ⟨q, rfl, by show _ = _; rw [← HEq.out]; exact (scanSorted_stop lt dk b q (Or.inl hle)).symm, hbd, hR1⟩
      case rest =>
        obtain ⟨q, rfl, Hq, hbd, hRq⟩ := hcut
        clear hR
        obtain ⟨c0, c1⟩ := hRq.boxed hblk
        by_cases hqb : q = b
        · have hqz : ((q : Int) == (b : Int)) = true := by simp; omega
          have hqn : (q == b) = true := by simp; omega
          have HQ := Lib.hid hqb
          clear hqb
          go_wp2
          rw [← HPO.out]
          exact ⟨dk, true, by rw [PF.out, ← HE.out]; exact pi_true lt a b s i dk hs (by rw [← Hq.out]; exact HQ.out), rfl, hRq.box hblk⟩
        · have hqz : ((q : Int) == (b : Int)) = false := by simp; omega
          have hqn : (q == b) = false := by simp; omega
          by_cases h50 : b - a < 50
          · have h50z : (b : Int) - (a : Int) < 50 := by omega
            go_wp2
            rw [← HPO.out]
            exact ⟨dk, false, by rw [PF.out, ← HE.out]; exact pi_short lt a b s i dk hs (by rw [← Hq.out]; exact hqb) h50, rfl, hRq.box hblk⟩
          · have h50z : ¬ ((b : Int) - (a : Int) < 50) := by omega
            obtain ⟨w5, hrun5, hRD1⟩ := S1.swapAt hRq hds q (q - 1) (q : Int) ((q : Int) - 1) rfl (by omega) (by omega) (by omega)
            have hsD1 : (swp dk q (q - 1)).size = n := by rw [size_swp]; exact hds
            obtain ⟨D1, hD1⟩ : ∃ D1, D1 = swp dk q (q - 1) := ⟨_, rfl⟩
            rw [← hD1] at hRD1 hsD1
            have HD1 := Lib.hid hD1
            clear hD1
            go_upto_if 47 with fail
            go_cut [9] from 44 to 66 (fun _ wc => ∃ D' : Array α, D'.size = n ∧ Hid (D' = fixDown lt a q D1) ∧ RowIn enc k blk off (w.alloc (.cells #[.func (.func g) #[] lb, .func (.func sf) #[] sb] 283)) D' wc)
            case first =>
              by_cases h2 : q - a ≥ 2
              · have h2z : (2 : Int) ≤ (q : Int) - (a : Int) := by omega
                go_wp2_with fail
                go_loopw [9] (fun v wr => ∃ (j : Nat) (dj : Array α), v = .int .i64 j ∧ (j ≤ q - 1) ∧ dj.size = n ∧ RowIn enc k blk off (w.alloc (.cells #[.func (.func g) #[] lb, .func (.func sf) #[] sb] 283)) dj wr ∧ Hid (shiftDown lt j dj = shiftDown lt (q - 1) D1)) (fun v _ => (intOf v).toNat)
                case atStart => exact ⟨q - 1, D1, by go_num, by omega, hsD1, hRD1, rfl⟩
                case round =>
                  obtain ⟨j, dj, rfl, hbd2, hsj, hR1, HEj⟩ := hrel
                  obtain ⟨c0, c1⟩ := hR1.boxed hblk
                  clear hRD1
                  by_cases hle : 1 ≤ j
                  · have hlez : (1 : Int) ≤ (j : Int) := by omega
                    have hl := S1.lessAt hR1 hsj j (j - 1) (j : Int) ((j : Int) - 1) rfl (by omega) (by omega) (by omega)
                    cases hv : lt dj[j]! dj[j - 1]! with
                    | true =>
                      rw [hv] at hl
                      go_wp2_with fail
                      go_at_fn g
                      refine hl.mono ?_
                      rintro e w2 ⟨rfl, hb2⟩
                      have hR2 := hR1.step hb2
                      clear hb2
                      obtain ⟨c02, c12⟩ := hR2.boxed hblk
                      obtain ⟨w4, hrun, hR4⟩ := S1.swapAt hR2 hsj j (j - 1) (j : Int) ((j : Int) - 1) rfl (by omega) (by omega) (by omega)
                      go_wp2
                      go_roundw
                      case rel => exact ⟨j - 1, swp dj j (j - 1), by go_num, by omega, by rw [size_swp]; exact hsj, hR4, by show _ = _; rw [← HEj.out]; exact (shiftDown_go lt j dj hle hv).symm⟩
                      case measure => simp [intOf] <;> omega
                    | false =>
                      rw [hv] at hl
                      go_wp2_with fail
                      go_at_fn g
                      refine hl.mono ?_
                      rintro e w2 ⟨rfl, hb2⟩
                      have hR2 := hR1.step hb2
                      clear hb2
                      go_wp2
                      go_meet
                      case rel => exact ⟨dj, hsj, (by show _ = _; unfold fixDown; rw [if_pos h2, ← HEj.out]; exact (shiftDown_stop lt j dj (Or.inr hv)).symm), hR2⟩
                  · have hlez : ¬ ((1 : Int) ≤ (j : Int)) := by omega
                    go_wp2
                    go_meet
                    case rel => exact ⟨dj, hsj, (by show _ = _; unfold fixDown; rw [if_pos h2, ← HEj.out]; exact (shiftDown_stop lt j dj (Or.inl (by omega))).symm), hR1⟩
              · have h2z : ¬ ((2 : Int) ≤ (q : Int) - (a : Int)) := by omega
                go_wp2
                go_meet
                case rel => exact ⟨D1, hsD1, (by show _ = _; unfold fixDown; rw [if_neg h2]), hRD1⟩
            case rest =>
              obtain ⟨D2, hsD2, HD2, hRD2⟩ := hcut
              clear hRD1

              by_cases h2 : b - q ≥ 2
              · have h2z : (2 : Int) ≤ (b : Int) - (q : Int) := by omega
                go_wp2_with fail
                go_loopw [10] (fun v wr => ∃ (j : Nat) (dj : Array α), v = .int .i64 j ∧ (q + 1 ≤ j ∧ j ≤ b) ∧ dj.size = n ∧ RowIn enc k blk off (w.alloc (.cells #[.func (.func g) #[] lb, .func (.func sf) #[] sb] 283)) dj wr ∧ Hid (shiftUp lt b j dj = shiftUp lt b (q + 1) D2)) (fun v _ => b - (intOf v).toNat)
                case atStart => exact ⟨q + 1, D2, by go_num, by omega, hsD2, hRD2, rfl⟩
                case round =>
                  obtain ⟨j, dj, rfl, hbd2, hsj, hR1, HEj⟩ := hrel
                  obtain ⟨c0, c1⟩ := hR1.boxed hblk
                  clear hRD2
                  by_cases hle : j < b
                  · have hlez : (j : Int) < (b : Int) := by omega
                    have hl := S1.lessAt hR1 hsj j (j - 1) (j : Int) ((j : Int) - 1) rfl (by omega) (by omega) (by omega)
                    cases hv : lt dj[j]! dj[j - 1]! with
                    | true =>
                      rw [hv] at hl
                      go_wp2_with fail
                      go_at_fn g
                      refine hl.mono ?_
                      rintro e w2 ⟨rfl, hb2⟩
                      have hR2 := hR1.step hb2
                      clear hb2
                      obtain ⟨c02, c12⟩ := hR2.boxed hblk
                      obtain ⟨w4, hrun, hR4⟩ := S1.swapAt hR2 hsj j (j - 1) (j : Int) ((j : Int) - 1) rfl (by omega) (by omega) (by omega)
                      go_wp2
                      go_roundw
                      case rel => exact ⟨j + 1, swp dj j (j - 1), by go_num, by omega, by rw [size_swp]; exact hsj, hR4, by show _ = _; rw [← HEj.out]; exact (shiftUp_go lt b j dj hle hv).symm⟩
                      case measure => simp [intOf] <;> omega
                    | false =>
                      rw [hv] at hl
                      go_wp2_with fail
                      go_at_fn g
                      refine hl.mono ?_
                      rintro e w2 ⟨rfl, hb2⟩
                      have hR2 := hR1.step hb2
                      clear hb2
                      have HD3 : Hid (dj = fixUp lt b q D2) := (by show _ = _; unfold fixUp; rw [if_pos h2, ← HEj.out]; exact (shiftUp_stop lt b j dj (Or.inr hv)).symm)
                      go_wp2
                      go_roundw
                      case rel => exact ⟨q, s + 1, dj, rfl, by go_num, by omega, by omega, by omega, hsj, hR2, by show _ = _; rw [← HE.out, pi_go lt a b s i q dk hs Hq.out.symm hqb h50, HD3.out, HD2.out, HD1.out]⟩
                      case measure => simp [intOf] <;> omega
                  · have hlez : ¬ ((j : Int) < (b : Int)) := by omega
                    have HD3 : Hid (dj = fixUp lt b q D2) := (by show _ = _; unfold fixUp; rw [if_pos h2, ← HEj.out]; exact (shiftUp_stop lt b j dj (Or.inl hle)).symm)
                    go_wp2
                    go_roundw
                    case rel => exact ⟨q, s + 1, dj, rfl, by go_num, by omega, by omega, by omega, hsj, hR1, by show _ = _; rw [← HE.out, pi_go lt a b s i q dk hs Hq.out.symm hqb h50, HD3.out, HD2.out, HD1.out]⟩
                    case measure => simp [intOf] <;> omega
              · have h2z : ¬ ((2 : Int) ≤ (b : Int) - (q : Int)) := by omega
                have HD3 : Hid (D2 = fixUp lt b q D2) := (by show _ = _; unfold fixUp; rw [if_neg h2])
                go_wp2
                go_roundw
                case rel => exact ⟨q, s + 1, D2, rfl, by go_num, by omega, by omega, by omega, hsD2, hRD2, by show _ = _; rw [← HE.out, pi_go lt a b s i q dk hs Hq.out.symm hqb h50, HD3.out, HD2.out, HD1.out]⟩
                case measure => simp [intOf] <;> omega

    · obtain rfl : s = 5 := by omega
      go_wp2
      rw [← HPO.out]
      exact ⟨dk, false, by rw [PF.out, ← HE.out]; rfl, rfl, hR.box hblk⟩

end Go.Proofs.Ytmljdjakbbedlaa

namespace Go.Proofs.Ytmljdjakbbedlaa
open Go.ChangeShapes Go.WideShapes Go.ChangeAt Go.RowKit
open Go.Sort (swp size_swp PermIn SortedIn SWO putRowK HoldsK)

variable {α : Type} [Inhabited α] {enc : α → List Value} {k blk off : Nat} {lt : α → α → Bool} {g : Nat} {lb : Array Value} {sf : Nat} {sb : Array Value} {n : Nat} {w w' : World} {d d' : Array α}

/-- From the library's own family of worlds. -/
theorem RowIn.of_sortWorld (h : HoldsK enc k w blk off d) (hlt : blk < w.heap.size) (hs : d'.size = d.size) (hw : ∃ m os, w' = Go.Proofs.sortWorldK enc k w blk off m d' os) : RowIn enc k blk off w d' w' := by
  obtain ⟨m, os, rfl⟩ := hw
  refine ⟨⟨rfl, rfl, rfl, ?_, fun b hb => ?_⟩, Go.Proofs.holdsK_sortWorldK enc k w blk off m d d' os hlt h hs, hlt⟩
  · rw [size_putK]
    unfold Go.Proofs.sortWorldK
    rw [Go.Sort.size_grow, size_putK]
    show w.heap.size ≤ w.heap.size + _
    omega
  · unfold Go.Proofs.sortWorldK
    rw [Go.Sort.heap_grow_old _ _ (by rw [size_putK]; exact hb)]
    rfl

theorem breakPatterns_g (S : Srt Try.prog enc k blk off lt g lb sf sb n w d) (a b : Nat) (hab : a ≤ b) (hb : b ≤ n) :
    Calls Try.prog 201 #[.agg #[.func (.func g) #[] lb, .func (.func sf) #[] sb], .int .i64 a, .int .i64 b] w fun e w' => e = .returned (.tuple #[]) ∧ RowIn enc k blk off w (Go.Sort.breakPatterns d a b) w' := by
  have hp := (Go.Sort.breakPatterns_holds d a b hab (by rw [S.sz]; exact hb)).1
  have h := Go.Proofs.Any.breakPatterns_func_cells_w (P := Try.prog) (ρ := Try.laysGg14_ren) { Try.laysGg14 with } enc k S.hk (.func g) #[] lb sf sb blk off a b d w (by rw [S.sz]; exact S.swap) S.holds S.lt' hab (by rw [S.sz]; exact hb) (by rw [S.sz]; exact S.small)
  exact h.mono fun e w' ⟨he, hw⟩ => ⟨he, RowIn.of_sortWorld S.holds S.lt' hp hw⟩
theorem reverseRange_g (S : Srt Try.prog enc k blk off lt g lb sf sb n w d) (a b : Nat) (hab : a ≤ b) (hb : b ≤ n) :
    Calls Try.prog 203 #[.agg #[.func (.func g) #[] lb, .func (.func sf) #[] sb], .int .i64 a, .int .i64 b] w fun e w' => e = .returned (.tuple #[]) ∧ RowIn enc k blk off w (Go.Sort.reverseRange d a b) w' := by
  have hp := (Go.Sort.reverseRange_holds d a b hab (by rw [S.sz]; exact hb)).1
  have h := Go.Proofs.Any.reverseRange_func_cells_w (P := Try.prog) (ρ := Try.laysGg14_ren) { Try.laysGg14 with } enc k S.hk (.func g) #[] lb sf sb blk off a b d w (by rw [S.sz]; exact S.swap) S.holds S.lt' hab (by rw [S.sz]; exact hb) (by rw [S.sz]; exact S.small)
  exact h.mono fun e w' ⟨he, hw⟩ => ⟨he, RowIn.of_sortWorld S.holds S.lt' hp hw⟩

/-- What sorts a part sorts the whole. -/
def Goes (lt : α → α → Bool) (a b : Nat) (d : Array α) (x y : Nat) (dk : Array α) : Prop := ∀ R, PermIn x y dk R → SortedIn lt x y R → PermIn a b d R ∧ SortedIn lt a b R
theorem Goes.perm {a b x y : Nat} {dk : Array α} (h : Goes lt a b d x y dk) (hp : PermIn x y dk d') : Goes lt a b d x y d' := fun R hR hs => h R (Go.Sort.permIn_trans _ _ _ x y hp hR) hs

def Sorts (enc : α → List Value) (k blk off : Nat) (lt : α → α → Bool) (a b : Nat) (w : World) (d : Array α) (e : Ending) (w' : World) : Prop :=
  e = .returned (.tuple #[]) ∧ ∃ d', PermIn a b d d' ∧ SortedIn lt a b d' ∧ RowIn enc k blk off w d' w'

set_option maxHeartbeats 8000000 in
set_option maxRecDepth 1000000 in
theorem pdqsort_g (hO : SWO lt) : ∀ (N a b limit : Nat) (d : Array α) (w : World), b - a < N → Srt Try.prog enc k blk off lt g lb sf sb n w d → a ≤ b → b ≤ n → limit < 4611686018427387904 → Go.Sort.Below lt a b d →
    Calls Try.prog 175 #[.agg #[.func (.func g) #[] lb, .func (.func sf) #[] sb], .int .i64 a, .int .i64 b, .int .i64 limit] w (Sorts enc k blk off lt a b w d) := by
  intro N
  induction N with
  | zero => intro _ _ _ _ _ h; exact absurd h (Nat.not_lt_zero _)
  | succ N ih =>
    intro a b limit d w hN S hab hb hlimit hBel0
    have IH := Lib.hid ih
    clear ih
    have S1 := S.box (.cells #[.func (.func g) #[] lb, .func (.func sf) #[] sb] 283)
    have eg := S.eg
    have hblk := S.lt'
    have hn := S.small
    have hsd := S.sz
    obtain ⟨post, hpost⟩ : ∃ post : Ending → World → Prop, Sorts enc k blk off lt a b w d = post := ⟨_, rfl⟩
    rw [hpost]
    have HPO := Lib.hid hpost
    clear hpost
    go_enter Try.func175, Try.ntmps175
    go_wp2
    go_loopw [1, 2, 3, 8, 9] (fun s1 s2 s3 s8 s9 wr => ∃ (a' b' lim : Nat) (wb wp : Bool) (dk : Array α), s1 = .int .i64 a' ∧ s2 = .int .i64 b' ∧ s3 = .int .i64 lim ∧ s8 = .bool wb ∧ s9 = .bool wp ∧
      a ≤ a' ∧ a' ≤ b' ∧ b' ≤ b ∧ lim ≤ limit ∧ dk.size = n ∧ Go.Sort.Below lt a' b' dk ∧ RowIn enc k blk off (w.alloc (.cells #[.func (.func g) #[] lb, .func (.func sf) #[] sb] 283)) dk wr ∧ Goes lt a b d a' b' dk) (fun s1 s2 _ _ _ _ => (intOf s2).toNat - (intOf s1).toNat)
    case atStart => exact ⟨a, b, limit, true, true, d, rfl, rfl, rfl, rfl, rfl, Nat.le_refl _, hab, Nat.le_refl _, Nat.le_refl _, hsd, hBel0, S1.start, fun R hR hs => ⟨hR, hs⟩⟩
    case round =>
      obtain ⟨a', b', lim, wb, wp, dk, rfl, rfl, rfl, rfl, rfl, haa, hab', hbb, hlim, hds, hBel, hR, hG⟩ := hrel
      have HG := Lib.hid hG
      have HBel := Lib.hid hBel
      clear hG hBel hBel0
      obtain ⟨c0, c1⟩ := hR.boxed hblk
      by_cases h12 : b' - a' ≤ 12
      · have h12z : (b' : Int) - (a' : Int) ≤ 12 := by omega
        have C := Lib.hid (insertionSort_g (S1.to hR hds) a' b' hab' (by omega))
        go_wp2_with ((with_reducible refine C.out.mono ?_); rintro e w1 ⟨rfl, hR1⟩)
        (try simp only [Exit.inBlock, Exit.then])
        refine bodyPost_ret (results_none rfl _ _ _) rfl ?_
        rw [← HPO.out]
        have hp := Go.Sort.insertionSort_holds hO dk a' b' hab' (by omega)
        obtain ⟨g1, g2⟩ := HG.out _ hp.1 hp.2
        exact ⟨rfl, _, g1, g2, (hR.on hR1 hp.1.1).box hblk⟩
      · have h12z : ¬ ((b' : Int) - (a' : Int) ≤ 12) := by omega
        by_cases hl0 : lim = 0
        · subst hl0
          have C := Lib.hid (heapSort_g (S1.to hR hds) a' b' (by omega) (by omega))
          go_wp2_with ((with_reducible refine C.out.mono ?_); rintro e w1 ⟨rfl, hR1⟩)
          (try simp only [Exit.inBlock, Exit.then])
          refine bodyPost_ret (results_none rfl _ _ _) rfl ?_
          rw [← HPO.out]
          have hp := Go.Sort.heapSort_holds hO dk a' b' hab' (by omega)
          obtain ⟨g1, g2⟩ := HG.out _ hp.1 hp.2
          exact ⟨rfl, _, g1, g2, (hR.on hR1 hp.1.1).box hblk⟩
        · have hl0z : ¬ ((lim : Int) = 0) := by omega
          have hl0y : ((lim : Int) == 0) = false := by simp; omega
          go_upto_if 35 with fail
          go_cut [3] from 19 (fun s3 wc => ∃ (lim' : Nat) (dk' : Array α), s3 = .int .i64 lim' ∧ lim' ≤ lim ∧ dk'.size = n ∧ Hid (PermIn a' b' dk dk') ∧ RowIn enc k blk off (w.alloc (.cells #[.func (.func g) #[] lb, .func (.func sf) #[] sb] 283)) dk' wc)
          case first =>
            cases wb
            · have C := Lib.hid (breakPatterns_g (S1.to hR hds) a' b' hab' (by omega))
              have hp := Go.Sort.breakPatterns_holds dk a' b' hab' (by omega)
              have hps := hp.1
              have HP := Lib.hid hp
              clear hp
              go_wp2_with ((with_reducible refine C.out.mono ?_); rintro e w1 ⟨rfl, hR1⟩)
              go_meet
              case rel => exact ⟨lim - 1, _, by go_num, by omega, by omega, HP.out, hR.on hR1 hps⟩
            · go_wp2_with fail
              go_meet
              case rel => exact ⟨lim, dk, rfl, Nat.le_refl _, hds, Go.Sort.permIn_refl _ _ _, hR⟩
          case rest =>
            obtain ⟨lim1, d1, rfl, hlim1, hs1, HP1, hR1⟩ := hcut
            clear c0 c1 hR
            obtain ⟨c0, c1⟩ := hR1.boxed hblk
            have C := Lib.hid (choosePivot_g (S1.to hR1 hs1) a' b' (by omega) (by omega))
            go_upto_if 50 with ((with_reducible refine C.out.mono ?_); rintro e w2 ⟨p, hc, rfl, hp1, hp2, hh, hb2⟩)
            have hR2 := hR1.step hb2
            clear hb2 c0 c1 hR1 C
            obtain ⟨c0, c1⟩ := hR2.boxed hblk
            go_cut [11, 12] from 19 (fun s11 s12 wc => ∃ (p' hc' : Nat) (dk' : Array α), s11 = .int .i64 p' ∧ s12 = .int .i64 hc' ∧ a' ≤ p' ∧ p' < b' ∧ hc' ≤ 2 ∧ dk'.size = n ∧ Hid (PermIn a' b' dk dk') ∧ RowIn enc k blk off (w.alloc (.cells #[.func (.func g) #[] lb, .func (.func sf) #[] sb] 283)) dk' wc)
            case first =>
              by_cases hh2 : hc = 2
              · subst hh2
                have C := Lib.hid (reverseRange_g (S1.to hR2 hs1) a' b' hab' (by omega))
                have hp := Go.Sort.reverseRange_holds d1 a' b' hab' (by omega)
                have hps := hp.1
                have HP := Lib.hid hp
                clear hp
                go_wp2_with ((with_reducible refine C.out.mono ?_); rintro e w3 ⟨rfl, hR3⟩)
                go_meet
                case rel => exact ⟨b' - 1 - (p - a'), 1, _, by congr 1; omega, rfl, by omega, by omega, by omega, by omega, Go.Sort.permIn_trans _ _ _ a' b' HP1.out HP.out, hR2.on hR3 hps⟩
              · have hh2z : ¬ ((hc : Int) = 2) := by omega
                have hh2y : ((hc : Int) == 2) = false := by simp; omega
                go_wp2_with fail
                go_meet
                case rel => exact ⟨p, hc, d1, rfl, rfl, hp1, hp2, hh, hs1, HP1.out, hR2⟩
            case rest =>
              obtain ⟨pv, hc3, d2, rfl, rfl, hpv1, hpv2, hh3, hs2, HP2, hR3⟩ := hcut
              clear c0 c1 hR2 HP1 hp1 hp2 hh
              obtain ⟨c0, c1⟩ := hR3.boxed hblk
              go_upto_region 16 with fail
              go_cut [68] from 19 (fun s68 wx => (∃ x : Bool, s68 = .bool x) ∧ wx = wc)
              case first =>
                by_cases h1 : hc3 = 1
                · subst h1
                  cases wb <;> cases wp <;>
                    (go_wp2_with fail
                     go_meet
                     exact ⟨⟨_, rfl⟩, rfl⟩)
                · have h1y : ((hc3 : Int) == 1) = false := by simp; omega
                  cases wb <;> cases wp <;>
                    (go_wp2_with fail
                     go_meet
                     exact ⟨⟨_, rfl⟩, rfl⟩)
              case rest =>
                obtain ⟨⟨x68, rfl⟩, rfl⟩ := hcut
                go_upto_if 68 with fail
                go_cut [] from 19 (fun wx => ∃ dk' : Array α, dk'.size = n ∧ Hid (PermIn a' b' dk dk') ∧ RowIn enc k blk off (w.alloc (.cells #[.func (.func g) #[] lb, .func (.func sf) #[] sb] 283)) dk' wx)
                case first =>
                  cases x68
                  · go_wp2_with fail
                    go_meet
                    case rel => exact ⟨d2, hs2, HP2.out, hR3⟩
                  · have C := Lib.hid (partialInsertionSort_g (S1.to hR3 hs2) a' b' (by omega) (by omega))
                    have hB2 := HBel.out.perm (by omega) HP2.out
                    have hq := Go.Sort.partialInsertionSort_holds hO d2 a' b' (by omega) (by omega) hB2
                    have HQ := Lib.hid hq
                    clear hq hB2
                    go_upto_if 72 with ((with_reducible refine C.out.mono ?_); rintro e w4 ⟨d4, fl, hx, rfl, hR4⟩)
                    have hq := HQ.out
                    rw [hx] at hq
                    obtain ⟨q1, q2⟩ := hq
                    simp only [] at q1 q2
                    have hs4 : d4.size = n := by rw [q1.1]; exact hs2
                    have HQ1 := Lib.hid q1
                    have HQ2 := Lib.hid q2
                    clear q1 q2 hx HQ
                    cases fl
                    · go_wp2_with fail
                      go_meet
                      case rel => exact ⟨d4, hs4, Go.Sort.permIn_trans _ _ _ a' b' HP2.out HQ1.out, hR3.on hR4 (by omega)⟩
                    · go_wp2_with fail
                      (try simp only [Exit.inBlock, Exit.then])
                      refine bodyPost_ret (results_none rfl _ _ _) rfl ?_
                      rw [← HPO.out]
                      obtain ⟨g1, g2⟩ := HG.out d4 (Go.Sort.permIn_trans _ _ _ a' b' HP2.out HQ1.out) (HQ2.out (by first | rfl | trivial))
                      exact ⟨rfl, _, g1, g2, (hR3.on hR4 (by omega)).box hblk⟩
                case rest =>
                  obtain ⟨d3, hs3, HP3, hR5⟩ := hcut
                  clear c0 c1 hR3 HP2
                  obtain ⟨c0, c1⟩ := hR5.boxed hblk
                  have HB3 : Hid (Go.Sort.Below lt a' b' d3) := HBel.out.perm (by omega) HP3.out
                  go_upto_region 18 with fail
                  go_cut [83] from 19 (fun s83 wx => s83 = .bool (decide (a' > 0) && !lt d3[a' - 1]! d3[pv]!) ∧ RowIn enc k blk off (w.alloc (.cells #[.func (.func g) #[] lb, .func (.func sf) #[] sb] 283)) d3 wx)
                  case first =>
                    rcases Nat.eq_zero_or_pos a' with ha0 | ha0
                    · have ha0z : decide ((a' : Int) > 0) = false := decide_eq_false (by omega)
                      go_wp2_with fail
                      go_meet
                      case rel => exact ⟨by simp [ha0], hR5⟩
                    · have ha0z : (a' : Int) > 0 := by omega
                      have hl := S1.lessAt hR5 hs3 (a' - 1) pv ((a' : Int) - 1) (pv : Int) (by omega) rfl (by omega) (by omega)
                      cases hlv : lt d3[a' - 1]! d3[pv]!
                      all_goals
                        rw [hlv] at hl
                        go_wp2_with fail
                        go_at_fn g
                        refine hl.mono ?_
                        rintro e w6 ⟨rfl, hb6⟩
                        have hR6 := hR5.step hb6
                        clear hb6
                        go_wp2_with fail
                        go_meet
                        exact ⟨by simp [ha0, hlv], hR6⟩
                  case rest =>
                    obtain ⟨rfl, hR6⟩ := hcut
                    clear c0 c1 hR5
                    obtain ⟨c0, c1⟩ := hR6.boxed hblk
                    cases h87 : (decide (a' > 0) && !lt d3[a' - 1]! d3[pv]!)
                    · have C := Lib.hid (partition_g (S1.to hR6 hs3) a' b' pv hpv1 hpv2 (by omega))
                      go_upto_if 109 with ((with_reducible refine C.out.mono ?_); rintro e w7 ⟨mid, ap, d4, hx, rfl, hR7⟩; obtain ⟨r1, r2, r3, r4, r5, r6, r7⟩ := Go.Sort.round_part hO (Go.Sort.partition_holds lt) hpv1 hpv2 (show b' ≤ d3.size by omega) HB3.out hx; have R3 := Lib.hid r3; have R4 := Lib.hid r4; have R5 := Lib.hid r5; have R6 := Lib.hid r6; have R7 := Lib.hid r7; clear hx r3 r4 r5 r6 r7)
                      have hs4 : d4.size = n := by rw [R3.out]; exact hs3
                      have hR8 := hR6.on hR7 R3.out
                      clear hR7 c0 c1 hR6
                      obtain ⟨c0, c1⟩ := hR8.boxed hblk
                      by_cases h4 : mid - a' < b' - mid
                      · have h4z : (mid : Int) - (a' : Int) < (b' : Int) - (mid : Int) := by omega
                        have CI := Lib.hid (IH.out a' mid lim1 d4 _ (by omega) (S1.to hR8 hs4) (by omega) (by omega) (by omega) R4.out)
                        go_wp2_with ((with_reducible refine CI.out.mono ?_); rintro e w8 ⟨rfl, d5, p5, s5, hR9⟩)
                        go_roundw
                        case measure => simp [intOf] <;> omega
                        case rel =>
                          obtain ⟨x1, x2⟩ := R6.out d5 p5 s5
                          exact ⟨mid + 1, b', lim1, _, ap, d5, by go_num, rfl, rfl, rfl, rfl, by omega, by omega, hbb, by omega, by rw [p5.1]; exact hs4, x1, hR8.on hR9 p5.1, fun R hR hs => (HG.out.perm HP3.out) R (x2 R hR hs).1 (x2 R hR hs).2⟩
                      · have h4z : ¬ ((mid : Int) - (a' : Int) < (b' : Int) - (mid : Int)) := by omega
                        have CI := IH.out (mid + 1) b' lim1 d4 _ (by omega) (S1.to hR8 hs4) (by omega) (by omega) (by omega) R5.out
                        rw [show ((mid + 1 : Nat) : Int) = (mid : Int) + 1 by omega] at CI
                        have CI := Lib.hid CI
                        go_wp2_with ((with_reducible refine CI.out.mono ?_); rintro e w8 ⟨rfl, d5, p5, s5, hR9⟩)
                        go_roundw
                        case measure => simp [intOf] <;> omega
                        case rel =>
                          obtain ⟨x1, x2⟩ := R7.out d5 p5 s5
                          exact ⟨a', mid, lim1, _, ap, d5, rfl, rfl, rfl, rfl, rfl, haa, by omega, by omega, by omega, by rw [p5.1]; exact hs4, x1, hR8.on hR9 p5.1, fun R hR hs => (HG.out.perm HP3.out) R (x2 R hR hs).1 (x2 R hR hs).2⟩
                    · have h87' := h87
                      simp only [Bool.and_eq_true, decide_eq_true_eq, Bool.not_eq_true'] at h87'
                      have C := Lib.hid (partitionEqual_g (S1.to hR6 hs3) a' b' pv hpv1 hpv2 (by omega))
                      go_wp2_with ((with_reducible refine C.out.mono ?_); rintro e w7 ⟨mid, d4, hx, rfl, hR7⟩)
                      obtain ⟨r1, r2, r3, r4, r5⟩ := Go.Sort.round_eq hO (Go.Sort.partitionEqual_holds lt) h87'.1 hpv1 hpv2 (show b' ≤ d3.size by omega) HB3.out h87'.2 hx
                      go_roundw
                      case measure => simp [intOf] <;> omega
                      case rel => exact ⟨mid, b', lim1, wb, wp, d4, rfl, rfl, rfl, rfl, rfl, by omega, r2, hbb, by omega, by rw [r3]; exact hs3, r4, hR6.on hR7 r3, fun R hR hs => (HG.out.perm HP3.out) R (r5 R hR hs).1 (r5 R hR hs).2⟩

end Go.Proofs.Ytmljdjakbbedlaa

namespace Go.Proofs.Ytmljdjakbbedlaa
open Go.ChangeShapes Go.WideShapes Go.ChangeAt Go.RowKit
open Go.Sort (swp size_swp PermIn SortedIn SWO putRowK HoldsK)

noncomputable def tyR : TypeInfo := (Try.prog.info? 26).get (by kernel_rfl)
noncomputable def tyE : TypeInfo := (Try.prog.info? 48).get (by kernel_rfl)
theorem swapK (n : Nat) (h2 : 2 ≤ n) : Lib.swapperK n tyE 25 = 9 := by
  have a : tyE.hasPointers = false := by kernel_rfl
  have b : tyE.bytes = 40 := by kernel_rfl
  have c : (n == 0) = false := by simp; omega
  have d : (n == 1) = false := by simp; omega
  simp [Lib.swapperK, a, b, c, d]

set_option maxRecDepth 100000 in
theorem sortSlice_g (W : World) (blk n c : Nat) (g : Nat) (lb : Array Value) (d : Array OkR) (h2 : 2 ≤ n) (hn : n < 4611686018427387904)
    (eg : ∀ args w, (callFunc g args).run Try.prog w = .ok (.enter g args) w) (hH : HoldsK encR 5 W blk 0 d) (hblk : blk < W.heap.size) (hs : d.size = n)
    (hless : LessG Try.prog g lb encR 5 ltR blk 0 W n) :
    Calls Try.prog 139 #[.iface 26 (.slice (some ⟨blk, 0, none⟩) n c), .func (.func g) #[] lb] W fun e w' => e = .returned (.tuple #[]) ∧ ∃ d', PermIn 0 n d d' ∧ SortedIn ltR 0 n d' ∧ RowIn encR 5 blk 0 W d' w' := by
  refine Go.Proofs.Any.sort_Slice_of_pdq Try.laysGg6 26 48 tyR tyE (by kernel_rfl) (by kernel_rfl) (by kernel_rfl) (by kernel_rfl) 25 (fun _ => by kernel_rfl) (some ⟨blk, 0, none⟩) n c hn 198 (by rw [swapK n h2]; kernel_rfl) (.func g) #[] lb W _ ?_
  unfold Go.Proofs.sliceBound
  rw [swapK n h2]
  have hB : Below W.heap.size W (Go.Proofs.sliceWorld Try.prog Try.laysGg6_ren 26 (some ⟨blk, 0, none⟩) n c W) := by
    unfold Go.Proofs.sliceWorld
    exact ((Below.refl _ _).alloc (Nat.le_refl _) _).alloc (by simp) _
  have S0 : Srt Try.prog encR 5 blk 0 ltR g lb 198 #[.slice (some ⟨blk, 0, none⟩) n c, typeHandle Try.prog 48] n W d :=
    ⟨encR_length, eg, hless, Go.Proofs.swapSwapsK_of_literal false 198 (fun args W => run_callFunc_extern Try.func198 (by kernel_rfl) (by kernel_rfl) (by kernel_rfl) (e := Extern.ReflectliteSwapper.swap false) (by kernel_rfl) args W) 48 tyE (by kernel_rfl) encR 5 encR_length (by kernel_rfl) (fun w => by kernel_rfl) (by intro x v hv; simp [encR, RouteV.cells] at hv; rcases hv with rfl | rfl | rfl | rfl | rfl <;> rfl) blk 0 n c, hH, hblk, hs, hn⟩
  have S1 := S0.to (S0.start.step hB) hs
  have hbl : Lib.bitLen n < 4611686018427387904 := Nat.lt_of_le_of_lt (Lib.bitLen_le n 62 (by omega) (by omega)) (by omega)
  refine (pdqsort_g swo_ltR (n + 1) 0 n (Lib.bitLen n) d _ (by omega) S1 (Nat.zero_le _) (Nat.le_refl _) hbl (Or.inl rfl)).mono ?_
  rintro e w' ⟨rfl, d', hp, hso, hr⟩
  exact ⟨rfl, d', hp, hso, (S0.start.step hB).on hr (hp.1)⟩

/-- What is told of a row that was sorted. -/
def SortedRow (w : World) (base : Nat) (v : Value) (n : Nat) (l : List OkR) (e : Ending) (w' : World) : Prop :=
  e = .returned (.tuple #[]) ∧ ∃ l' : List OkR, l'.Perm l ∧ l'.Pairwise (fun x y => ltR y x = false) ∧ w'.ownsRow base 48 5 v n (l'.flatMap encR) ∧ w.grownBy w' v.ownBlock

theorem RowIn.grown {α : Type} [Inhabited α] {enc : α → List Value} {k blk off : Nat} {w W : World} {d : Array α} (h : RowIn enc k blk off w d W) : w.grownBy W (some blk) :=
  ⟨h.below.os, h.below.tape, h.below.output, h.size, fun b hb hn => h.block hb (fun e => hn (by rw [e]))⟩
theorem perm_list {α : Type} [Inhabited α] {l : List α} {d' : Array α} (h : PermIn 0 l.length l.toArray d') : d'.toList.Perm l := by
  have h3 := h.2.2
  have e1 : (d'.extract 0 l.length).toList = d'.toList := by
    have : d'.size = l.length := by rw [h.1]; simp
    rw [← this]; simp
  have e2 : (l.toArray.extract 0 l.length).toList = l := by simp
  rw [e1, e2] at h3
  exact h3
theorem sorted_list {α : Type} [Inhabited α] {lt : α → α → Bool} {d : Array α} {n : Nat} (hs : d.size = n) (h : SortedIn lt 0 n d) : d.toList.Pairwise (fun x y => lt y x = false) := by
  rw [List.pairwise_iff_getElem]
  intro i j hi hj hij
  have := h i j (Nat.zero_le _) hij (by simpa [hs] using hj)
  rw [getElem!_pos d j (by simpa using hj), getElem!_pos d i (by simpa using hi)] at this
  exact this

set_option maxRecDepth 100000 in
set_option maxHeartbeats 1000000 in
theorem sortRoutes_any {w : World} {base n : Nat} {v : Value} {l : List OkR} (h : w.ownsRow base 48 5 v n (l.flatMap encR)) (hl : l.length = n) (hn : n < 4611686018427387904) :
    Calls Try.prog 92 #[v] w (SortedRow w base v n l) := by
  obtain ⟨A, c, rfl, hcap, _⟩ := own_reads h
  have hB : Below w.heap.size w (w.alloc (.cells #[.slice A n c] 26)) := (Below.refl _ _).alloc (Nat.le_refl _) _
  obtain ⟨post, hpost⟩ : ∃ post : Ending → World → Prop, SortedRow w base (.slice A n c) n l = post := ⟨_, rfl⟩
  rw [hpost]
  have HPO := Lib.hid hpost
  clear hpost
  have H := Lib.hid h
  by_cases h2 : 2 ≤ n
  · obtain ⟨g, rfl⟩ : ∃ g, A = some ⟨g, 0, none⟩ := by
      rcases h.2 with ⟨hv, h0⟩ | ⟨g, cap, cur, hv, _⟩
      · omega
      · injection hv with h0 _ _
        exact ⟨g, h0⟩
    obtain ⟨hH, hg, hbg, _, _⟩ := own_holdsK encR_length h hl
    have hcell : (w.alloc (.cells #[.slice (some ⟨g, 0, none⟩) n c] 26)).cell? ⟨w.heap.size, 0, none⟩ = some (.slice (some ⟨g, 0, none⟩) n c) := by
      have hb := Blk.new w 26 #[.slice (some ⟨g, 0, none⟩) n c]
      exact hb.cell 0
    have hless : LessG Try.prog 140 #[.pointer (some ⟨w.heap.size, 0, none⟩)] encR 5 ltR g 0 (w.alloc (.cells #[.slice (some ⟨g, 0, none⟩) n c] 26)) n := by
      intro W dk hR hs i j hi hj
      exact sortLess_any W g n c w.heap.size dk hR.holds hR.lt' (Nat.lt_of_lt_of_le (by simp) hR.size) hs hn hcap i j hi hj (by rw [hR.cell (by simp) (by omega)]; exact hcell)
    have CS := Lib.hid (sortSlice_g _ g n c 140 #[.pointer (some ⟨w.heap.size, 0, none⟩)] l.toArray h2 hn (enters_of Try.func140 (by kernel_rfl) rfl) (holds_below hH hB hg) (by simp; omega) (by simpa using hl) hless)
    clear hless hcell h
    go_enter Try.func92, Try.ntmps92
    go_wp2_with (go_at_call 139; (with_reducible refine CS.out.mono ?_); rintro e w2 ⟨rfl, d', hp, hso, hr⟩)
    (try go_end0)
    rw [← HPO.out]
    have hr2 := hr.box hg
    have hs' : d'.size = n := by rw [hp.1]; simpa using hl
    exact ⟨rfl, d'.toList, perm_list (by rw [hl]; exact hp), sorted_list hs' hso, hr2.owns encR_length H.out hs', hr2.grown⟩
  · have hk : ∃ f, Try.prog.funcs.findIdx? (·.name == "internal/reflectlite" ++ ".Swapper$" ++ toString (Lib.swapperK n tyE 25)) = some f := by
      rcases (by omega : n = 0 ∨ n = 1) with rfl | rfl
      · exact ⟨190, by kernel_rfl⟩
      · exact ⟨191, by kernel_rfl⟩
    obtain ⟨f, hf⟩ := hk
    have CS : Hid (∀ X : World, Calls Try.prog 139 #[.iface 26 (.slice A n c), .func (.func 140) #[] #[.pointer (some ⟨w.heap.size, 0, none⟩)]] X fun e w' => e = .returned (.tuple #[]) ∧ ∃ os, w' = Go.Sort.grow X os) := (fun (X : World) => Go.Proofs.Any.sort_Slice_tiny Try.laysGg6 26 48 tyR tyE (by kernel_rfl) (by kernel_rfl) (by kernel_rfl) (by kernel_rfl) 25 (fun _ => by kernel_rfl) A n c (by omega) f hf (.func 140) #[] #[.pointer (some ⟨w.heap.size, 0, none⟩)] X)
    clear h hf
    go_enter Try.func92, Try.ntmps92
    go_wp2_with (go_at_call 139; (with_reducible refine (CS.out _).mono ?_); rintro e w2 ⟨rfl, os, rfl⟩)
    (try go_end0)
    rw [← HPO.out]
    have hb : Below w.heap.size w (Go.Sort.grow (w.alloc (.cells #[.slice A n c] 26)) os) := by
      refine hB.trans ⟨rfl, rfl, rfl, by rw [Go.Sort.size_grow]; omega, fun b hb => Go.Sort.heap_grow_old _ _ (by simp; omega)⟩
    have hpw : l.Pairwise (fun x y => ltR y x = false) := by
      match l, hl with
      | [], _ => exact List.Pairwise.nil
      | [x], _ => exact List.pairwise_singleton _ _
      | _ :: _ :: _, hl => simp at hl; omega
    exact ⟨rfl, l, List.Perm.refl _, hpw, own_below H.out hb, ⟨hb.os, hb.tape, hb.output, hb.size, fun b hb' _ => hb.block b hb'⟩⟩

end Go.Proofs.Ytmljdjakbbedlaa

namespace Go.Proofs.Ytmljdjakbbedlaa
open Go.ChangeShapes Go.WideShapes Go.ChangeAt Go.RowKit

theorem preIn_has (r : RouteV) (six' : Bool) (hi' lo' : Int) (w : World) (hp : r.p.Ok) (ha : AV.Ok ⟨six', hi', lo'⟩) :
    Calls Try.prog 117 #[.agg #[.bool r.p.six, .int .u64 r.p.hi, .int .u64 r.p.lo, .int .i64 r.p.n], .agg #[.bool six', .int .u64 hi', .int .u64 lo']] w fun e w' => e = .returned (.bool (hasB r six' hi' lo')) ∧ Below w.heap.size w w' := by
  obtain ⟨⟨six, hi, lo, n⟩, hop⟩ := r
  obtain ⟨m, rfl⟩ : ∃ m : Nat, n = m := ⟨n.toNat, by have := (ok_n hp).1; simp only at this; omega⟩
  exact preIn_any six hi lo m six' hi' lo' w hp ha.rhi ha.rlo ha.may

set_option maxRecDepth 100000 in
set_option maxHeartbeats 3200000 in
theorem goes_any (A : Option Addr) (n c : Nat) (l : List RouteV) (six : Bool) (hi lo : Int) (w : World) (h : IsRoutes w A n c l) (hv : Valid l) (ha : AV.Ok ⟨six, hi, lo⟩) (hn60 : n ≤ 60) :
    Calls Try.prog 64 #[.slice A n c, .agg #[.bool six, .int .u64 hi, .int .u64 lo]] w fun e w' => e = .returned (.agg #[.int .i64 0, .int .i64 (goesR l six hi lo).1, .int .i64 (goesR l six hi lo).2]) ∧ Below w.heap.size w w' := by
  have HR := Lib.hid h.2.2.2
  have HZ := Lib.hid h.1
  have HV := Lib.hid hv
  have HPI := Lib.hid (fun (r : RouteV) (w : World) (hr : r ∈ l) => preIn_has r six hi lo w (hv.1 r hr).1 ha)
  obtain ⟨res, hres⟩ : ∃ res, goesR l six hi lo = res := ⟨_, rfl⟩
  rw [hres]
  have HRES := Lib.hid hres
  clear h hv ha hres
  go_enter Try.func64, Try.ntmps64
  go_wp2_with fail
  obtain ⟨X, hX⟩ : ∃ X, (((w.alloc (.cells #[.bool six, .int .u64 hi, .int .u64 lo] 35)).alloc (.cells #[.int .i64 0, .int .i64 0, .int .i64 0] 38)).alloc (.cells #[.int .i64 0, .int .i64 0, .int .i64 (-1)] 38)) = X := ⟨_, rfl⟩
  have kA : Blk X w.heap.size 35 #[.bool six, .int .u64 hi, .int .u64 lo] := by rw [← hX]; exact ((Blk.new _ _ _).alloc _).alloc _
  have kR : Blk X (w.heap.size + 1) 38 #[.int .i64 0, .int .i64 0, .int .i64 0] := by
    rw [← hX]
    have := (Blk.new (w.alloc (.cells #[.bool six, .int .u64 hi, .int .u64 lo] 35)) 38 #[.int .i64 0, .int .i64 0, .int .i64 0])
    simp only [World.size_alloc] at this
    exact this.alloc _
  have kO : Blk X (w.heap.size + 1 + 1) 38 (NoteCs (0, -1)) := by
    rw [← hX]
    have := (Blk.new ((w.alloc (.cells #[.bool six, .int .u64 hi, .int .u64 lo] 35)).alloc (.cells #[.int .i64 0, .int .i64 0, .int .i64 0] 38)) 38 #[.int .i64 0, .int .i64 0, .int .i64 (-1)])
    simp only [World.size_alloc] at this
    exact this
  have hXs : X.heap.size = w.heap.size + 3 := by rw [← hX]; simp
  have hXb : Below w.heap.size w X := by rw [← hX]; exact ((((Below.refl _ _).alloc (Nat.le_refl _) _).alloc (by simp) _).alloc (by simp; omega) _)
  rw [hX]
  have HA := Lib.hid kA
  have HRR := Lib.hid kR
  have HOO := Lib.hid kO
  have HXB := Lib.hid hXb
  have HXS := Lib.hid hXs
  clear kA kR kO hXb hX hXs
  go_loopw [11, 7] (fun i _ wr => ∃ k : Nat, k ≤ n ∧ i = .int .i64 k ∧ Blk wr (w.heap.size + 1 + 1) 38 (NoteCs (bestTo (l.take k) six hi lo)) ∧ Kept [w.heap.size + 1 + 1] X wr) (fun i _ _ => n - (intOf i).toNat)
  case atStart => exact ⟨0, by omega, rfl, HOO.out, Kept.of_below (Below.refl _ _)⟩
  case round =>
    obtain ⟨k, hk, rfl, hbst, hkp⟩ := hrel
    have hxs := HXS.out
    have hsz := hkp.size
    have HB : Hid (Below w.heap.size w wr) := HXB.out.trans (hkp.below (by simp; omega) (by omega))
    have hb := HB.out
    have kA2 : Blk wr w.heap.size 35 _ := HA.out.keep1 hkp (by simp; omega)
    have kR2 : Blk wr (w.heap.size + 1) 38 _ := HRR.out.keep1 hkp (by simp)
    obtain ⟨bst, hbs⟩ : ∃ b, bestTo (l.take k) six hi lo = b := ⟨_, rfl⟩
    rw [hbs] at hbst
    have HBS := Lib.hid hbs
    have HBST := Lib.hid hbst
    have HKP := Lib.hid hkp
    have a0 := kA2.cell 0
    have a1 := kA2.cell 1
    have a2 := kA2.cell 2
    have b0 := hbst.cell 0
    have b1 := hbst.cell 1
    have b2 := hbst.cell 2
    have fb0 := hbst.frozen 0
    have fb1 := hbst.frozen 1
    have fb2 := hbst.frozen 2
    have r0 := kR2.cell 0
    have r1 := kR2.cell 1
    have r2 := kR2.cell 2
    have f0 := kR2.frozen 0
    have f1 := kR2.frozen 1
    have f2 := kR2.frozen 2
    simp [NoteCs] at a0 a1 a2 b0 b1 b2 r0 r1 r2
    have la : w.heap.size < wr.heap.size := by omega
    have lr : w.heap.size + 1 < wr.heap.size := by omega
    have lb : w.heap.size + 1 + 1 < wr.heap.size := by omega
    clear kA2 kR2 hbst hkp hbs hxs hsz
    by_cases hlt : k < n
    · obtain ⟨ad, ⟨⟨rsix, rhi, rlo, pn⟩, hop⟩, rfl, hlk, htk, hmem, hbk, hc0, hcj⟩ := HR.out.atS RouteV.cells_length HZ.out hlt
      have q0 := (hb.cell (p := ad.add (k * 5)) (by rw [block_of_add]; exact hbk)).trans (hc0 _ rfl)
      have q1 := (hb.cell (p := ⟨(ad.add (k * 5)).block, (ad.add (k * 5)).off + 1, none⟩) (by rw [block_of_add]; exact hbk)).trans (hcj 1 _ rfl)
      have q2 := (hb.cell (p := ⟨(ad.add (k * 5)).block, (ad.add (k * 5)).off + 2, none⟩) (by rw [block_of_add]; exact hbk)).trans (hcj 2 _ rfl)
      have q3 := (hb.cell (p := ⟨(ad.add (k * 5)).block, (ad.add (k * 5)).off + 3, none⟩) (by rw [block_of_add]; exact hbk)).trans (hcj 3 _ rfl)
      have q4 := (hb.cell (p := ⟨(ad.add (k * 5)).block, (ad.add (k * 5)).off + 4, none⟩) (by rw [block_of_add]; exact hbk)).trans (hcj 4 _ rfl)
      have CPI := Lib.hid (fun w => HPI.out _ w hmem)
      have HST : Hid (bestTo (l.take (k + 1)) six hi lo = bestStep six hi lo bst ⟨⟨rsix, rhi, rlo, pn⟩, hop⟩) := by show _ = _; rw [htk, bestTo_snoc, HBS.out]
      simp only at CPI
      obtain ⟨hv, hhv⟩ : ∃ hv, hasB ⟨⟨rsix, rhi, rlo, pn⟩, hop⟩ six hi lo = hv := ⟨_, rfl⟩
      unfold bestStep at HST
      rw [hhv] at CPI HST
      clear hlk htk hmem hbk hc0 hcj hb hhv
      by_cases hcase : hv = true ∧ bst.2 < pn
      · obtain ⟨rfl, hgt⟩ := hcase
        have HST2 : Hid (bestTo (l.take (k + 1)) six hi lo = (hop, pn)) := by show _ = _; rw [HST.out, if_pos ⟨rfl, hgt⟩]
        clear HST
        go_wp2_with fail
        refine (CPI.out _).mono ?_
        rintro e w2 ⟨rfl, hb2⟩
        obtain ⟨fc, ff⟩ := bcell hb2
        have hs2 := hb2.size
        simp at hs2
        have HB2 : Hid (Below wr.heap.size wr w2) := balloc1 hb2
        have l2 : wr.heap.size < w2.heap.size := by omega
        clear hb2
        go_wp2
        go_roundw
        case rel => exact ⟨k + 1, by omega, by go_num, by rw [HST2.out]; simpa [NoteCs] using ((((HBST.out.below HB2.out lb).set_ 0 (.int .i64 0)).set_ 1 (.int .i64 hop)).set_ 2 (.int .i64 pn)), ((((HKP.out.then_below HB2.out).setCell (.inl (by simp)) _).setCell (.inl (by simp)) _).setCell (.inl (by simp)) _)⟩
        case measure => simp [intOf]; omega
      · have HST2 : Hid (bestTo (l.take (k + 1)) six hi lo = bst) := by show _ = _; rw [HST.out, if_neg hcase]
        clear HST
        have hd : hv = false ∨ (hv = true ∧ pn ≤ bst.2) := by
          cases hv
          · exact .inl rfl
          · right
            refine ⟨rfl, ?_⟩
            rcases Int.lt_or_le bst.2 pn with hx | hx
            · exact absurd ⟨rfl, hx⟩ hcase
            · exact hx
        clear hcase
        rcases hd with rfl | ⟨rfl, hle⟩
        all_goals
          go_wp2_with fail
          refine (CPI.out _).mono ?_
          rintro e w2 ⟨rfl, hb2⟩
          obtain ⟨fc, ff⟩ := bcell hb2
          have hs2 := hb2.size
          simp at hs2
          have HB2 : Hid (Below wr.heap.size wr w2) := balloc1 hb2
          have l2 : wr.heap.size < w2.heap.size := by omega
          clear hb2
          go_wp2
          go_roundw
          case rel => exact ⟨k + 1, by omega, by go_num, by rw [HST2.out]; exact HBST.out.below HB2.out lb, HKP.out.then_below HB2.out⟩
          case measure => simp [intOf]; omega
    · obtain rfl : k = n := by omega
      have HB5 : Hid (res = if bst.2 < 0 then (bst.1, 0) else bst) := by
        show _ = _
        rw [← HRES.out]
        unfold goesR
        have := HBS.out
        rw [List.take_of_length_le (by rw [HZ.out]; omega)] at this
        rw [this]
      clear hb
      by_cases hneg : bst.2 < 0
      · have HB6 : Hid (res = (bst.1, 0)) := by show _ = _; rw [HB5.out, if_pos hneg]
        clear HB5
        go_wp2
        refine bodyPost_ret (v := .agg #[.int .i64 0, .int .i64 bst.1, .int .i64 0]) ?_ rfl ⟨by rw [HB6.out], ?_⟩
        · simp [results, Try.results64, go_sem, r0, r1, r2]
        · (repeat' first | with_reducible exact HB.out | with_reducible refine Below.drew ?_ | with_reducible refine below_drewN ?_ _ | with_reducible refine Below.setCell ?_ ?_ _ | (simp; done) | (simp; omega) | omega)
      · have HB6 : Hid (res = bst) := by show _ = _; rw [HB5.out, if_neg hneg]
        clear HB5
        go_wp2
        refine bodyPost_ret (v := .agg #[.int .i64 0, .int .i64 bst.1, .int .i64 bst.2]) ?_ rfl ⟨by rw [HB6.out], ?_⟩
        · simp [results, Try.results64, go_sem, r0, r1, r2]
        · (repeat' first | with_reducible exact HB.out | with_reducible refine Below.drew ?_ | with_reducible refine below_drewN ?_ _ | with_reducible refine Below.setCell ?_ ?_ _ | (simp; done) | (simp; omega) | omega)

end Go.Proofs.Ytmljdjakbbedlaa

namespace Go.Proofs.Ytmljdjakbbedlaa
open Go.ChangeShapes Go.WideShapes Go.ChangeAt Go.RowKit

theorem step_append_far {P : Program} {ops : Array Oper} {o : Oper} {a : Act} {w : World} {K : Act → World → Prop} {Q : Exit → Act → World → Prop} {E : Prop} (hgd : o.guard = none) (s x : Operand) (t : TypeId)
    (ho : o.op = .call { callee := .builtin .append, args := #[s, x], argTypes := #[t, t] })
    (base : Nat) (e : TypeId) (z : Value) (size bytes : Nat) (ht : P.underlying t = some (.slice e)) (hi : (P.info? e).map (fun i => (i.zero, i.size, i.bytes)) = some (some z, size, bytes))
    (hzs : z.cells.size = size) (hsz : 0 < size)
    (v : Value) (n : Nat) (xs : List Value) (hs : a.eval s = v) (hown : w.ownsRow base e size v n xs)
    (B : Nat) (A : Option Addr) (m c : Nat) (news : List Value) (hx : a.eval x = .slice A m c) (hr : Reads w B size A m news) (h1 : ∀ u ∈ news, u.oneCell' = true)
    (h63 : n + m ≤ maxLen) (hbytes : (n + m) * bytes ≤ 140737488355328) (hbase : base ≤ w.heap.size)
    (h : ∀ v' w', w'.ownsRow base e size v' (n + m) (xs ++ news) → Below base w w' → w.grownBy w' v.ownBlock → K (a.put o.dst v') w') :
    if Region.wanted o (yielded ops a.tmps) = true then Oper.wp P o a w K Q else E := by
  obtain ⟨i0, hi, hz0, hz1, hz2⟩ := info_parts hi
  refine step_append_any w hgd s x t ho base e i0 z size bytes ht hi hz0 hz1 hz2 hzs hsz v n xs hs hown B A m c news hx hr h1 h63 hbytes hbase fun v' w' h2 h3 _ => h v' w' h2 ((Below.refl _ _).grown h3 hbase ?_) h3
  intro k hk
  rcases hown.2 with ⟨rfl, _⟩ | ⟨g, cap, cur, rfl, hgb, _⟩
  · simp [Value.ownBlock] at hk
  · simp only [Value.ownBlock, Option.some.injEq] at hk
    omega
theorem step_append_farI {P : Program} {ops : Array Oper} {o : Oper} {a : Act} {w : World} {K : Act → World → Prop} {Q : Exit → Act → World → Prop} {E : Prop} {s x : Operand} (us : List Value) (m : Nat) (t : TypeId) (n : Nat) (xs : List Value) (hgd : o.guard = none)
    (ho : o.op = .call { callee := .builtin .append, args := #[s, x], argTypes := #[t, t] })
    (base : Nat) (e : TypeId) (z : Value) (size bytes : Nat) (ht : P.underlying t = some (.slice e)) (hi : (P.info? e).map (fun i => (i.zero, i.size, i.bytes)) = some (some z, size, bytes))
    (hzs : z.cells.size = size) (hsz : 0 < size)
    (hown : w.ownsRow base e size (a.eval s) n xs) (hx : ∃ A c, a.eval x = .slice A m c ∧ Reads w w.heap.size size A m us) (h1 : ∀ u ∈ us, u.oneCell' = true)
    (h63 : n + m ≤ maxLen) (hbytes : (n + m) * bytes ≤ 140737488355328) (hbase : base ≤ w.heap.size)
    (h : ∀ v' w', w'.ownsRow base e size v' (n + m) (xs ++ us) → Below base w w' → w.grownBy w' (a.eval s).ownBlock → K (a.put o.dst v') w') :
    if Region.wanted o (yielded ops a.tmps) = true then Oper.wp P o a w K Q else E := by
  obtain ⟨A, c, hx, hr⟩ := hx
  exact step_append_far hgd s x t ho base e z size bytes ht hi hzs hsz _ n xs rfl hown _ A m c us hx hr h1 h63 hbytes hbase h
theorem reads_new {w : World} {us : List Value} {e : TypeId} {fr : Nat × Nat} {size : Nat} (hl : us.length = size) :
    Reads (w.alloc (.cells us.toArray e fr)) (w.alloc (.cells us.toArray e fr)).heap.size size (some ⟨w.heap.size, 0, none⟩) 1 us := by
  refine ⟨by simp [hl], fun _ => ⟨_, rfl, by simp, fun j u hj => ?_⟩⟩
  have e1 : (⟨w.heap.size, 0, none⟩ : Addr).add j = ⟨w.heap.size, j, none⟩ := by unfold Addr.add; split <;> simp_all
  rw [e1]
  have : (w.alloc (.cells us.toArray e fr)).heap[w.heap.size]? = some (.cells us.toArray e fr) := heap_alloc_new w _
  unfold World.cell?
  simp only [this]
  simpa using hj

theorem reads_new_old {w w' : World} {us : List Value} {e : TypeId} {fr : Nat × Nat} {size : Nat} (hl : us.length = size) (hb : Below (w.alloc (.cells us.toArray e fr)).heap.size (w.alloc (.cells us.toArray e fr)) w') :
    Reads w' w'.heap.size size (some ⟨w.heap.size, 0, none⟩) 1 us := ((reads_new (w := w) (e := e) (fr := fr) hl).below hb).more hb.size
theorem reads_new_oldD {w w' : World} {us : List Value} {e : TypeId} {fr : Nat × Nat} {size : Nat} (hl : us.length = size) (hb : Below (w.alloc (.cells us.toArray e fr)).drew.heap.size (w.alloc (.cells us.toArray e fr)).drew w') :
    Reads w' w'.heap.size size (some ⟨w.heap.size, 0, none⟩) 1 us := reads_new_old hl (below_step ((Below.refl _ _).drew) hb)
theorem step_append_nilI {P : Program} {ops : Array Oper} {o : Oper} {a : Act} {w : World} {K : Act → World → Prop} {Q : Exit → Act → World → Prop} {E : Prop} {s x : Operand} (us : List Value) (m : Nat) (t : TypeId) (hgd : o.guard = none)
    (ho : o.op = .call { callee := .builtin .append, args := #[s, x], argTypes := #[t, t] })
    (base : Nat) (e : TypeId) (z : Value) (size bytes : Nat) (ht : P.underlying t = some (.slice e)) (hi : (P.info? e).map (fun i => (i.zero, i.size, i.bytes)) = some (some z, size, bytes))
    (hzs : z.cells.size = size) (hsz : 0 < size)
    (hs : a.eval s = .slice none 0 0) (hx : ∃ A c, a.eval x = .slice A m c ∧ Reads w w.heap.size size A m us) (h1 : ∀ u ∈ us, u.oneCell' = true)
    (h63 : m ≤ maxLen) (hbytes : m * bytes ≤ 140737488355328) (hbase : base ≤ w.heap.size)
    (h : ∀ v' w', w'.ownsRow base e size v' m us → Below w.heap.size w w' → K (a.put o.dst v') w') :
    if Region.wanted o (yielded ops a.tmps) = true then Oper.wp P o a w K Q else E := by
  obtain ⟨A, c, hx, hr⟩ := hx
  exact step_append_nil hgd s x t ho base e z size bytes ht hi hzs hsz hs _ A m c us hx hr h1 h63 hbytes hbase h

end Go.Proofs.Ytmljdjakbbedlaa

namespace Go.Proofs.Ytmljdjakbbedlaa
open Go.ChangeShapes Go.WideShapes Go.ChangeAt Go.RowKit

theorem Reads.front {w : World} {B size : Nat} {A : Option Addr} {n k : Nat} {α : Type} {f : α → List Value} {l : List α} (hf : ∀ x, (f x).length = size) (h : Reads w B size A n (l.flatMap f)) (hz : l.length = n) (hk : k ≤ n) : Reads w B size A k ((l.take k).flatMap f) := by
  have hlen : ∀ l : List α, (l.flatMap f).length = l.length * size := by
    intro l
    induction l with
    | nil => simp
    | cons x l ih => rw [List.flatMap_cons, List.length_append, hf, ih, List.length_cons, Nat.add_mul]; omega
  refine ⟨by rw [hlen, List.length_take, hz, Nat.min_eq_left hk], fun h0 => ?_⟩
  obtain ⟨ad, rfl, hb, hc⟩ := h.2 (by omega)
  refine ⟨ad, rfl, hb, fun j u hu => hc j u ?_⟩
  have e : l.flatMap f = (l.take k).flatMap f ++ (l.drop k).flatMap f := by rw [← List.flatMap_append, List.take_append_drop]
  rw [e]
  rw [List.getElem?_append_left]
  · exact hu
  · exact (List.getElem?_eq_some_iff.1 hu).1

end Go.Proofs.Ytmljdjakbbedlaa

namespace Go.Proofs.Ytmljdjakbbedlaa
set_option linter.unusedVariables false

/-- Puts and cuts one after the other; the first fault ends them. -/
def appl : List ActV → List RouteV → Int × List RouteV
  | [], L => (0, L)
  | a :: l, L => if ¬ (a.kind = 1 ∨ a.kind = 2) then (3, []) else if ¬ (doA L a).code = 0 then ((doA L a).code, []) else appl l (doL L a)
theorem appl_kind {a : ActV} {l : List ActV} {L : List RouteV} (h : ¬ (a.kind = 1 ∨ a.kind = 2)) : appl (a :: l) L = (3, []) := by unfold appl; rw [if_pos h]
theorem appl_code {a : ActV} {l : List ActV} {L : List RouteV} (h : a.kind = 1 ∨ a.kind = 2) (hc : ¬ (doA L a).code = 0) : appl (a :: l) L = ((doA L a).code, []) := by unfold appl; rw [if_neg (not_not_intro h), if_pos hc]
theorem appl_ok {a : ActV} {l : List ActV} {L : List RouteV} (h : a.kind = 1 ∨ a.kind = 2) (hc : (doA L a).code = 0) : appl (a :: l) L = appl l (doL L a) := by
  conv => lhs; unfold appl
  rw [if_neg (not_not_intro h), if_neg (not_not_intro hc)]
theorem appl_good : ∀ {l : List ActV} {L : List RouteV}, GoodL L → (∀ a ∈ l, a.Ok) → GoodL (appl l L).2 := by
  intro l
  induction l with
  | nil => intro L h _; exact h
  | cons a l ih =>
    intro L h hl
    by_cases h1 : a.kind = 1 ∨ a.kind = 2
    · by_cases h2 : (doA L a).code = 0
      · rw [appl_ok h1 h2]; exact ih (goodL_do h (hl a (by simp))) (fun x hx => hl x (by simp [hx]))
      · rw [appl_code h1 h2]; exact goodL_nil
    · rw [appl_kind h1]; exact goodL_nil
theorem drop_at {α : Type} {l : List α} {k : Nat} {x : α} (h : l[k]? = some x) : l.drop k = x :: l.drop (k + 1) := by
  obtain ⟨hk, h⟩ := List.getElem?_eq_some_iff.1 h
  rw [List.drop_eq_getElem_cons hk, h]
/-- What Apply says: code and routes (unsorted). -/
def applyR (l : List RouteV) (acts : List ActV) (f : Int) : Int × List RouteV := if ¬ f = 0 then (f, []) else if 120 < acts.length then (1, []) else appl acts l

/-- The sorted list with the same routes. -/
def SortedOf (l S : List RouteV) : Prop := S.Perm l ∧ S.Pairwise fun x y => ltP x.p y.p
theorem sortedOf_unique {l S S' : List RouteV} (hv : Valid l) (h : SortedOf l S) (h' : SortedOf l S') : S = S' :=
  sorted_unique h.2 h'.2 (fun r hr => (hv.1 r (h.1.mem_iff.1 hr)).1) fun _ => h.1.mem_iff.trans h'.1.mem_iff.symm
/-- The routes of an answer in order; none where there is a fault. -/
def SortedIf (bad : Bool) (l S : List RouteV) : Prop := if bad then S = [] else SortedOf l S
theorem sortedIf_unique {bad : Bool} {l S S' : List RouteV} (hv : bad = false → Valid l) (h : SortedIf bad l S) (h' : SortedIf bad l S') : S = S' := by
  unfold SortedIf at h h'
  cases bad with
  | true => exact h.trans h'.symm
  | false => exact sortedOf_unique (hv rfl) h h'
theorem sortedIf_len {bad : Bool} {l S : List RouteV} {N : Nat} (hl : bad = false → l.length ≤ N) (h : SortedIf bad l S) : S.length ≤ N := by
  unfold SortedIf at h
  cases bad with
  | true => rw [h]; exact Nat.zero_le _
  | false => rw [h.1.length_eq]; exact hl rfl

end Go.Proofs.Ytmljdjakbbedlaa

namespace Go.Proofs.Ytmljdjakbbedlaa
open Go.ChangeShapes Go.WideShapes Go.ChangeAt Go.RowKit

theorem infoRouteP : (Try.prog.info? 48).map (fun i => (i.zero, i.size, i.bytes)) = some (some (.agg #[.bool false, .int .u64 0, .int .u64 0, .int .i64 0, .int .i64 0]), 5, 40) := by kernel_rfl
def OwnRs (w : World) (base : Nat) (v : Value) (L : List RouteV) : Prop := w.ownsRow base 48 5 v L.length (L.flatMap RouteV.cells)
theorem routes_flat_len (q : List RouteV) : (q.flatMap RouteV.cells).length = q.length * 5 := by
  induction q with
  | nil => rfl
  | cons x q ih => simp [List.flatMap_cons, ih, RouteV.cells]; omega
theorem rts_one (l : List RouteV) : ∀ u ∈ l.flatMap RouteV.cells, u.oneCell' = true := by
  intro u hu
  obtain ⟨a, _, ha⟩ := List.mem_flatMap.1 hu
  simp [RouteV.cells] at ha
  rcases ha with rfl | rfl | rfl | rfl | rfl <;> rfl
theorem rflat_drop (q : List RouteV) {z : Nat} (hz : z ≤ q.length) : (q.flatMap RouteV.cells).drop (z * 5) = (q.drop z).flatMap RouteV.cells := by
  have e : q.flatMap RouteV.cells = (q.take z).flatMap RouteV.cells ++ (q.drop z).flatMap RouteV.cells := by rw [← List.flatMap_append, List.take_append_drop]
  have hl : ((q.take z).flatMap RouteV.cells).length = z * 5 := by rw [routes_flat_len, List.length_take, Nat.min_eq_left hz]
  rw [e, ← hl, List.drop_left]
theorem rset_flat {q : List RouteV} {u : Nat} {a : RouteV} (hu : u < q.length) : (q.set u a).flatMap RouteV.cells = ((q.take u).flatMap RouteV.cells ++ a.cells) ++ (q.drop (u + 1)).flatMap RouteV.cells := by
  rw [List.set_eq_take_append_cons_drop, if_pos hu, List.flatMap_append, List.flatMap_cons, List.append_assoc]
/-- A row of routes of the call's own that is not empty: its place, its cells. -/
theorem OwnRs.form {w : World} {base : Nat} {v : Value} {L : List RouteV} (h : OwnRs w base v L) (h0 : 0 < L.length) :
    ∃ g c cur, v = .slice (some ⟨g, 0, none⟩) L.length c ∧ base ≤ g ∧ Blk w g 48 cur ∧ L.length ≤ c ∧ c ≤ maxLen ∧ cur.size = c * 5 ∧ cur.toList.take (L.length * 5) = L.flatMap RouteV.cells := by
  rcases h.2 with ⟨_, hz⟩ | ⟨g, cap, cur, hv, hg, hh, hn, hc, hs, ht⟩
  · omega
  · exact ⟨g, cap, cur, hv, hg, hh, hn, hc, hs, ht⟩
theorem OwnRs.at_ {w : World} {base : Nat} {L : List RouteV} {g c : Nat} (h : OwnRs w base (.slice (some ⟨g, 0, none⟩) L.length c) L) {t : Nat} {x : RouteV} (hx : L[t]? = some x) :
    (w.cell? ⟨g, t * 5, none⟩ = some (.bool x.p.six) ∧ w.cell? ⟨g, t * 5 + 1, none⟩ = some (.int .u64 x.p.hi) ∧ w.cell? ⟨g, t * 5 + 2, none⟩ = some (.int .u64 x.p.lo) ∧ w.cell? ⟨g, t * 5 + 3, none⟩ = some (.int .i64 x.p.n) ∧ w.cell? ⟨g, t * 5 + 4, none⟩ = some (.int .i64 x.hop)) ∧ g < w.heap.size ∧ base ≤ g := by
  have ht := (List.getElem?_eq_some_iff.1 hx).1
  obtain ⟨g', c', cur, hv, hg, hb, hn, hc, hs, hcur⟩ := h.form (by omega)
  injection hv with h0 _ _
  injection h0 with h0
  injection h0 with h0
  subst h0
  have hc5 : ∀ j u, x.cells[j]? = some u → w.cell? ⟨g, t * 5 + j, none⟩ = some u := by
    intro j u hj
    rw [hb.cell]
    have hfl := flat_at (f := RouteV.cells) RouteV.cells_length L t x j u hx hj
    have hjl : j < 5 := (List.getElem?_eq_some_iff.1 hj).1
    rw [← hcur, List.getElem?_take, if_pos (by omega)] at hfl
    rw [← Array.getElem?_toList]
    exact hfl
  exact ⟨⟨hc5 0 _ rfl, hc5 1 _ rfl, hc5 2 _ rfl, hc5 3 _ rfl, hc5 4 _ rfl⟩, hb.lt, hg⟩
theorem OwnRs.free {w : World} {base : Nat} {L : List RouteV} {g c : Nat} (h : OwnRs w base (.slice (some ⟨g, 0, none⟩) L.length c) L) (h0 : 0 < L.length) (o : Nat) : w.frozen? ⟨g, o, none⟩ = false := by
  obtain ⟨g', c', cur, hv, hg, hb, _⟩ := h.form h0
  injection hv with h1 _ _
  injection h1 with h1
  injection h1 with h1
  subst h1
  exact hb.frozen o
theorem flat_set_hop {L : List RouteV} {u : Nat} {x : RouteV} (hx : L[u]? = some x) (hop : Int) : (L.flatMap RouteV.cells).set (u * 5 + 4) (.int .i64 hop) = (L.set u ⟨x.p, hop⟩).flatMap RouteV.cells := by
  have hu := (List.getElem?_eq_some_iff.1 hx).1
  have e : L.flatMap RouteV.cells = (L.take u).flatMap RouteV.cells ++ (x.cells ++ (L.drop (u + 1)).flatMap RouteV.cells) := by
    have : L = L.take u ++ x :: L.drop (u + 1) := by
      have h1 := List.take_append_drop u L
      have h2 : L.drop u = x :: L.drop (u + 1) := by
        rw [List.drop_eq_getElem_cons hu]
        congr 1
        have := (List.getElem?_eq_some_iff.1 hx).2
        exact this
      rw [← h2, h1]
    conv => lhs; rw [this]
    rw [List.flatMap_append, List.flatMap_cons]
  have hl : ((L.take u).flatMap RouteV.cells).length = u * 5 := by rw [routes_flat_len, List.length_take, Nat.min_eq_left (by omega)]
  rw [rset_flat hu, e, List.set_append_right _ _ (by omega), hl, show u * 5 + 4 - u * 5 = 4 by omega]
  rw [List.append_assoc]
  rfl
/-- The hop of a row's route is written. -/
theorem OwnRs.set_ {w : World} {base : Nat} {L : List RouteV} {g c : Nat} (h : OwnRs w base (.slice (some ⟨g, 0, none⟩) L.length c) L) {u : Nat} {x : RouteV} (hx : L[u]? = some x) (hop : Int) :
    OwnRs (w.setCell ⟨g, u * 5 + 4, none⟩ (.int .i64 hop)) base (.slice (some ⟨g, 0, none⟩) L.length c) (L.set u ⟨x.p, hop⟩) := by
  have hu := (List.getElem?_eq_some_iff.1 hx).1
  obtain ⟨g', c', cur, hv, hg, hb, hn, hc, hs, hcur⟩ := h.form (by omega)
  injection hv with h0 _ h2
  injection h0 with h0
  injection h0 with h0
  subst h0 h2
  unfold OwnRs
  rw [List.length_set]
  refine ⟨by rw [routes_flat_len, List.length_set], .inr ⟨g, c, cur.setIfInBounds (u * 5 + 4) (.int .i64 hop), rfl, hg, hb.set_ _ _, hn, hc, by simpa using hs, ?_⟩⟩
  rw [Array.toList_setIfInBounds, List.take_set, hcur, flat_set_hop hx]
theorem OwnRs.below {w w' : World} {base : Nat} {v : Value} {L : List RouteV} (h : OwnRs w base v L) (hb : Below w.heap.size w w') : OwnRs w' base v L := own_below h hb
theorem own_blk_lt {w : World} {base size n : Nat} {e : TypeId} {v : Value} {xs : List Value} (h : w.ownsRow base e size v n xs) : ∀ b, v.ownBlock = some b → b < w.heap.size := by
  intro b hb
  rcases h.2 with ⟨rfl, _⟩ | ⟨g, cap, cur, rfl, _, hh, _⟩
  · simp [Value.ownBlock] at hb
  · simp [Value.ownBlock] at hb
    subst hb
    exact (Array.getElem?_eq_some_iff.1 hh).1
theorem Good.isRoutes {w : World} {base : Nat} {v : Value} {L : List RouteV} (h : OwnRs w base v L) (hv : Valid L) : ∃ A c, v = .slice A L.length c ∧ IsRoutes w A L.length c L := by
  obtain ⟨A, c, rfl, hc, hr⟩ := own_reads h
  refine ⟨A, c, rfl, rfl, hc, fun r hr' => ?_, hr⟩
  obtain ⟨h1, h2, h3⟩ := hv.1 r hr'
  have := h1.len
  have := wideI_le r.p.six
  exact ⟨h1.rhi, h1.rlo, by omega, by omega⟩

theorem own_base {w : World} {base size n : Nat} {e : TypeId} {v : Value} {xs : List Value} (h : w.ownsRow base e size v n xs) : ∀ b, v.ownBlock = some b → base ≤ b := by
  intro b hb
  rcases h.2 with ⟨rfl, _⟩ | ⟨g, cap, cur, rfl, hg, hh, _⟩
  · simp [Value.ownBlock] at hb
  · simp [Value.ownBlock] at hb
    subst hb
    exact hg
theorem sorted_strict {S : List OkR} (h : S.Pairwise (fun x y => ltR y x = false)) (hn : ((S.map (fun x => x.1)).map RouteV.p).Nodup) : (S.map (fun x => x.1)).Pairwise (fun x y => ltP x.p y.p) := by
  induction S with
  | nil => exact List.Pairwise.nil
  | cons x S ih =>
    rw [List.pairwise_cons] at h
    simp only [List.map_cons, List.nodup_cons] at hn
    rw [List.map_cons, List.pairwise_cons]
    refine ⟨fun y hy => ?_, ih h.2 hn.2⟩
    obtain ⟨z, hz, rfl⟩ := List.mem_map.1 hy
    have h1 := h.1 z hz
    rw [Bool.eq_false_iff, ne_eq, ltR_iff] at h1
    refine Classical.byContradiction fun hx => ?_
    have e := ltP_total x.2 z.2 hx h1
    exact hn.1 (List.mem_map.2 ⟨z.1, List.mem_map.2 ⟨z, hz, rfl⟩, e.symm⟩)


/-- The reference's sort at a row of routes of the call's own. -/
theorem sortRs_any {w : World} {base : Nat} {v : Value} {L : List RouteV} (h5 : OwnRs w base v L) (hG : GoodL L) :
    Calls Try.prog 92 #[v] w fun e w' => e = .returned (.tuple #[]) ∧ ∃ S, SortedOf L S ∧ OwnRs w' base v S ∧ w.grownBy w' v.ownBlock := by
  obtain ⟨S0, hS0⟩ : ∃ S0 : List OkR, S0.map (fun x => x.1) = L := by
    refine ⟨L.attach.map (fun x => ⟨x.1, (hG.1.1 x.1 x.2).1⟩), ?_⟩
    rw [List.map_map]
    exact List.attach_map_subtype_val _
  have hflat : ∀ S : List OkR, S.flatMap encR = (S.map (fun x => x.1)).flatMap RouteV.cells := fun S => by rw [List.flatMap_map]; rfl
  have hlen0 : S0.length = L.length := by rw [← hS0, List.length_map]
  have h5s : w.ownsRow base 48 5 v L.length (S0.flatMap encR) := by rw [hflat, hS0]; exact h5
  refine (sortRoutes_any h5s hlen0 (by have := hG.2; omega)).mono ?_
  rintro e W2 ⟨rfl, S, hperm, hpw, hown, hgr⟩
  have hlS : S.length = L.length := by rw [hperm.length_eq, hlen0]
  have hp : (S.map (fun x => x.1)).Perm L := by rw [← hS0]; exact hperm.map _
  refine ⟨rfl, S.map (fun x => x.1), ⟨hp, sorted_strict hpw ((hp.map RouteV.p).nodup_iff.2 hG.1.2)⟩, ?_, hgr⟩
  unfold OwnRs
  rw [List.length_map, hlS, ← hflat]
  exact hown
/-- append(nil, routes...). -/
theorem OwnRs.nil (w : World) (base : Nat) : OwnRs w base (.slice none 0 0) [] := World.ownsRow_nil _ _ _ _

end Go.Proofs.Ytmljdjakbbedlaa
