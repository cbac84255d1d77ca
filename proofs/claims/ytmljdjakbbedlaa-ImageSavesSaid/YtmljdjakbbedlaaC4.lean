/-
  
  
  
  Proved here: contracts of library functions, laid by the shelf at this dump. No conditions but those of each theorem.
  
  
  
  
  
  
  
  
-/
import Derived.Test.YtmljdjakbbedlaaC2
import Derived.Sort.WalkB2
import Derived.Sort.WalkB3
import Derived.Sort.WalkC
import Derived.Sort.WalkC4
import Derived.Deep.DeepCutAuto
import Derived.Deep.CutBlock
import Derived.Sort.WalkA6
import Derived.Shelf.Small.Bits
import Derived.Shelf.Small.Wraps
import Derived.Shelf.Slices.Turned
import Derived.Shelf.GgSortFunc.Tiny
import Derived.Test.YtmljdjakbbedlaaProg
import Derived.Test.YtmljdjakbbedlaaC3
import Derived.Sort.AssemblyPlain
import Derived.Shelf.SlSortFuncK.BreakPatternsK
import Derived.Shelf.SlSortFuncK.ComposeK
import Derived.Shelf.GgSortFunc.SmallK
import Derived.Test.YtmljdjakbbedlaaC1
import Derived.Deep.RegionWith
namespace Go.Proofs.Ytmljdjakbbedlaa
open Go.ChangeShapes Go.WideShapes Go.ChangeAt Go.RowKit
open Go.Sort (swp size_swp PermIn SortedIn SWO putRowK HoldsK siftDown sd_end sd_right_stop sd_right_go sd_left_stop sd_left_go heapBuild heapPop size_siftDown)

variable {α : Type} [Inhabited α] {enc : α → List Value} {k blk off : Nat} {lt : α → α → Bool} {g : Nat} {lb : Array Value} {sf : Nat} {sb : Array Value} {n : Nat} {w : World} {d : Array α}

set_option maxHeartbeats 2000000 in
set_option maxRecDepth 100000 in
theorem siftDown_g (S : Srt Try.prog enc k blk off lt g lb sf sb n w d) (lo hi first : Nat) (x y z : Int) (hx : x = lo) (hy : y = hi) (hz : z = first) (hlo : lo ≤ hi) (hb : first + hi ≤ n) :
    Calls Try.prog 220 #[.agg #[.func (.func g) #[] lb, .func (.func sf) #[] sb], .int .i64 x, .int .i64 y, .int .i64 z] w fun e w' =>
      e = .returned (.tuple #[]) ∧ RowIn enc k blk off w (siftDown lt hi first lo d) w' := by
  subst hx hy hz
  have S1 := S.box (.cells #[.func (.func g) #[] lb, .func (.func sf) #[] sb] 283)
  have eg := S.eg
  have hblk := S.lt'
  have hn := S.small
  have hsd := S.sz
  go_enter Try.func220, Try.ntmps220
  go_wp2
  go_loopw [8] (fun v wr => ∃ (root : Nat) (dk : Array α), v = .int .i64 root ∧ root ≤ hi ∧ dk.size = n ∧ RowIn enc k blk off (w.alloc (.cells #[.func (.func g) #[] lb, .func (.func sf) #[] sb] 283)) dk wr ∧
      Hid (siftDown lt hi first root dk = siftDown lt hi first lo d)) (fun v _ => hi - (intOf v).toNat)
  case atStart => exact ⟨lo, d, rfl, hlo, hsd, S1.start, rfl⟩
  case round =>
    obtain ⟨root, dk, rfl, hr, hds, hR, HE⟩ := hrel
    obtain ⟨c0, c1⟩ := hR.boxed hblk
    by_cases h0 : hi ≤ 2 * root + 1
    · have h0z : (hi : Int) ≤ 2 * (root : Int) + 1 := by omega
      go_wp2
      go_end0
      refine ⟨rfl, ?_⟩
      rw [← HE.out, sd_end lt dk h0]
      exact hR.box hblk
    · have h0z : ¬ ((hi : Int) ≤ 2 * (root : Int) + 1) := by omega
      by_cases h1 : 2 * root + 2 < hi
      · have h1z : 2 * (root : Int) + 1 + 1 < (hi : Int) := by omega
        have hl := S1.lessAt hR hds (first + (2 * root + 1)) (first + (2 * root + 2)) ((first : Int) + (2 * (root : Int) + 1)) ((first : Int) + (2 * (root : Int) + 1) + 1) (by omega) (by omega) (by omega) (by omega)
        cases hv : lt dk[first + (2 * root + 1)]! dk[first + (2 * root + 2)]! with
        | true =>
          rw [hv] at hl
          go_wp2_with fail
          go_at_fn g
          refine hl.mono ?_
          rintro e w2 ⟨rfl, hb2⟩
          have hR2 := hR.step hb2
          obtain ⟨c0_w2, c1_w2⟩ := hR2.boxed hblk
          clear hb2
          have hl3 := S1.lessAt hR2 hds (first + root) (first + (2 * root + 2)) ((first : Int) + (root : Int)) ((first : Int) + (2 * (root : Int) + 1 + 1)) (by omega) (by omega) (by omega) (by omega)
          cases hv3 : lt dk[first + root]! dk[first + (2 * root + 2)]! with
          | false =>
            rw [hv3] at hl3
            go_wp2_with fail
            go_at_fn g
            refine hl3.mono ?_
            rintro e w3 ⟨rfl, hb2⟩
            have hR3 := hR2.step hb2
            obtain ⟨c0_w3, c1_w3⟩ := hR3.boxed hblk
            clear hb2
            go_wp2
            (try simp only [Exit.inBlock, Exit.then])
            refine bodyPost_ret (results_none rfl _ _ _) rfl ?_
            refine ⟨rfl, ?_⟩
            rw [← HE.out, sd_right_stop lt dk h1 hv hv3]
            exact hR3.box hblk
          | true =>
            rw [hv3] at hl3
            go_wp2_with fail
            go_at_fn g
            refine hl3.mono ?_
            rintro e w3 ⟨rfl, hb3⟩
            have hR3 := hR2.step hb3
            obtain ⟨c03, c13⟩ := hR3.boxed hblk
            obtain ⟨w4, hrun, hR4⟩ := S1.swapAt hR3 hds (first + root) (first + (2 * root + 2)) ((first : Int) + (root : Int)) ((first : Int) + (2 * (root : Int) + 1 + 1)) (by omega) (by omega) (by omega) (by omega)
            clear hb3
            go_wp2
            go_roundw
            case rel => exact ⟨2 * root + 2, swp dk (first + root) (first + (2 * root + 2)), by go_num, by omega, by rw [size_swp]; exact hds, hR4, by show _ = _; rw [← HE.out, sd_right_go lt dk h1 hv hv3]⟩
            case measure => simp [intOf]; omega
        | false =>
          rw [hv] at hl
          go_wp2_with fail
          go_at_fn g
          refine hl.mono ?_
          rintro e w2 ⟨rfl, hb2⟩
          have hR2 := hR.step hb2
          obtain ⟨c0_w2, c1_w2⟩ := hR2.boxed hblk
          clear hb2
          have hl3 := S1.lessAt hR2 hds (first + root) (first + (2 * root + 1)) ((first : Int) + (root : Int)) ((first : Int) + (2 * (root : Int) + 1)) (by omega) (by omega) (by omega) (by omega)
          cases hv3 : lt dk[first + root]! dk[first + (2 * root + 1)]! with
          | false =>
            rw [hv3] at hl3
            go_wp2_with fail
            go_at_fn g
            refine hl3.mono ?_
            rintro e w3 ⟨rfl, hb2⟩
            have hR3 := hR2.step hb2
            obtain ⟨c0_w3, c1_w3⟩ := hR3.boxed hblk
            clear hb2
            go_wp2
            (try simp only [Exit.inBlock, Exit.then])
            refine bodyPost_ret (results_none rfl _ _ _) rfl ?_
            refine ⟨rfl, ?_⟩
            rw [← HE.out, sd_left_stop lt dk (by omega) (fun _ => hv) hv3]
            exact hR3.box hblk
          | true =>
            rw [hv3] at hl3
            go_wp2_with fail
            go_at_fn g
            refine hl3.mono ?_
            rintro e w3 ⟨rfl, hb3⟩
            have hR3 := hR2.step hb3
            obtain ⟨c03, c13⟩ := hR3.boxed hblk
            obtain ⟨w4, hrun, hR4⟩ := S1.swapAt hR3 hds (first + root) (first + (2 * root + 1)) ((first : Int) + (root : Int)) ((first : Int) + (2 * (root : Int) + 1)) (by omega) (by omega) (by omega) (by omega)
            clear hb3
            go_wp2
            go_roundw
            case rel => exact ⟨2 * root + 1, swp dk (first + root) (first + (2 * root + 1)), by go_num, by omega, by rw [size_swp]; exact hds, hR4, by show _ = _; rw [← HE.out, sd_left_go lt dk (by omega) (fun _ => hv) hv3]⟩
            case measure => simp [intOf]; omega
      · have h1z : ¬ (2 * (root : Int) + 1 + 1 < (hi : Int)) := by omega
        have hl3 := S1.lessAt hR hds (first + root) (first + (2 * root + 1)) ((first : Int) + (root : Int)) ((first : Int) + (2 * (root : Int) + 1)) (by omega) (by omega) (by omega) (by omega)
        cases hv3 : lt dk[first + root]! dk[first + (2 * root + 1)]! with
        | false =>
          rw [hv3] at hl3
          go_wp2_with fail
          go_at_fn g
          refine hl3.mono ?_
          rintro e w3 ⟨rfl, hb2⟩
          have hR3 := hR.step hb2
          obtain ⟨c0_w3, c1_w3⟩ := hR3.boxed hblk
          clear hb2
          go_wp2
          (try simp only [Exit.inBlock, Exit.then])
          refine bodyPost_ret (results_none rfl _ _ _) rfl ?_
          refine ⟨rfl, ?_⟩
          rw [← HE.out, sd_left_stop lt dk (by omega) (fun h => absurd h h1) hv3]
          exact hR3.box hblk
        | true =>
          rw [hv3] at hl3
          go_wp2_with fail
          go_at_fn g
          refine hl3.mono ?_
          rintro e w3 ⟨rfl, hb3⟩
          have hR3 := hR.step hb3
          obtain ⟨c03, c13⟩ := hR3.boxed hblk
          obtain ⟨w4, hrun, hR4⟩ := S1.swapAt hR3 hds (first + root) (first + (2 * root + 1)) ((first : Int) + (root : Int)) ((first : Int) + (2 * (root : Int) + 1)) (by omega) (by omega) (by omega) (by omega)
          clear hb3
          go_wp2
          go_roundw
          case rel => exact ⟨2 * root + 1, swp dk (first + root) (first + (2 * root + 1)), by go_num, by omega, by rw [size_swp]; exact hds, hR4, by show _ = _; rw [← HE.out, sd_left_go lt dk (by omega) (fun h => absurd h h1) hv3]⟩
          case measure => simp [intOf]; omega

set_option maxHeartbeats 2000000 in
set_option maxRecDepth 100000 in
theorem heapSort_g (S : Srt Try.prog enc k blk off lt g lb sf sb n w d) (a b : Nat) (hab : a < b) (hb : b ≤ n) :
    Calls Try.prog 200 #[.agg #[.func (.func g) #[] lb, .func (.func sf) #[] sb], .int .i64 a, .int .i64 b] w fun e w' =>
      e = .returned (.tuple #[]) ∧ RowIn enc k blk off w (Go.Sort.heapSort lt d a b) w' := by
  have S1 := S.box (.cells #[.func (.func g) #[] lb, .func (.func sf) #[] sb] 283)
  have hblk := S.lt'
  have hn := S.small
  have hsd := S.sz
  have b1 : (0 : Int) ≤ (b : Int) - (a : Int) - 1 := by omega
  go_enter Try.func200, Try.ntmps200
  go_wp2
  go_loopw [9] (fun v wr => ∃ (kk : Nat) (i : Int) (dk : Array α), v = .int .i64 i ∧ Hid (i = (kk : Int) - 1) ∧ kk ≤ (b - a - 1) / 2 + 1 ∧ dk.size = n ∧ RowIn enc k blk off (w.alloc (.cells #[.func (.func g) #[] lb, .func (.func sf) #[] sb] 283)) dk wr ∧
      Hid (heapBuild lt (b - a) a kk dk = heapBuild lt (b - a) a ((b - a - 1) / 2 + 1) d)) (fun v _ => (intOf v + 1).toNat)
  case atStart => exact ⟨(b - a - 1) / 2 + 1, _, d, rfl, by show _ = _; omega, Nat.le_refl _, hsd, S1.start, rfl⟩
  case round =>
    obtain ⟨kk, i, dk, rfl, HI, hkk, hds, hR, HE⟩ := hrel
    obtain ⟨c0, c1⟩ := hR.boxed hblk
    cases kk with
    | succ m =>
      obtain rfl : i = (m : Int) := by have := HI.out; omega
      clear HI
      have CS := Lib.hid (siftDown_g (S1.to hR hds) m (b - a) a ((m : Int)) ((b : Int) - (a : Int)) (a : Int) rfl (by omega) rfl (by omega) (by omega))
      go_wp2_with (refine CS.out.mono ?_; rintro e w2 ⟨rfl, hR2⟩)
      go_roundw
      case rel => exact ⟨m, _, siftDown lt (b - a) a m dk, rfl, rfl, by omega, by rw [size_siftDown lt (b - a) a _ m dk (Nat.le_refl _)]; exact hds, hR.on hR2 (size_siftDown lt (b - a) a _ m dk (Nat.le_refl _)), HE.out⟩
      case measure => simp [intOf] <;> omega
    | zero =>
      obtain rfl : i = -1 := by have := HI.out; omega
      clear HI
      go_wp2
      have HE2 : Hid (dk = heapBuild lt (b - a) a ((b - a - 1) / 2 + 1) d) := HE.out
      obtain ⟨D, hD⟩ : ∃ D, D = dk := ⟨_, rfl⟩
      have HD := Lib.hid hD
      go_loopw [10] (fun v wr => ∃ (kk : Nat) (i : Int) (dk2 : Array α), v = .int .i64 i ∧ Hid (i = (kk : Int) - 1) ∧ kk ≤ b - a ∧ dk2.size = n ∧ RowIn enc k blk off (w.alloc (.cells #[.func (.func g) #[] lb, .func (.func sf) #[] sb] 283)) dk2 wr ∧
          Hid (heapPop lt a kk dk2 = heapPop lt a (b - a) dk)) (fun v _ => (intOf v + 1).toNat)
      case atStart => exact ⟨b - a, _, dk, rfl, by show _ = _; omega, Nat.le_refl _, hds, hR, rfl⟩
      case round =>
        clear c0 c1 hR
        obtain ⟨kk, i, dk2, rfl, HI, hkk2, hds2, hR, HE3⟩ := hrel
        obtain ⟨c0, c1⟩ := hR.boxed hblk
        cases kk with
        | succ m =>
          obtain rfl : i = (m : Int) := by have := HI.out; omega
          clear HI
          obtain ⟨w4, hrun, hR4⟩ := S1.swapAt hR hds2 a (a + m) (a : Int) ((a : Int) + (m : Int)) rfl (by omega) (by omega) (by omega)
          obtain ⟨c04, c14⟩ := hR4.boxed hblk
          have hs4 : (swp dk2 a (a + m)).size = n := by rw [size_swp]; exact hds2
          have CS := Lib.hid (siftDown_g (S1.to hR4 hs4) 0 m a (0 : Int) ((m : Int)) (a : Int) rfl rfl rfl (by omega) (by omega))
          go_wp2_with (refine CS.out.mono ?_; rintro e w2 ⟨rfl, hR2⟩)
          go_roundw
          case rel => exact ⟨m, _, siftDown lt m a 0 (swp dk2 a (a + m)), rfl, rfl, by omega, by rw [size_siftDown lt m a _ 0 _ (Nat.le_refl _)]; exact hs4, hR4.on hR2 (size_siftDown lt m a _ 0 _ (Nat.le_refl _)), HE3.out⟩
          case measure => simp [intOf] <;> omega
        | zero =>
          obtain rfl : i = -1 := by have := HI.out; omega
          clear HI
          go_wp2
          go_end0
          refine ⟨rfl, ?_⟩
          unfold Go.Sort.heapSort
          rw [← HE2.out, ← HE3.out]
          exact hR.box hblk

end Go.Proofs.Ytmljdjakbbedlaa

namespace Go.Proofs.Ytmljdjakbbedlaa
open Go.ChangeShapes Go.WideShapes Go.ChangeAt Go.RowKit
open Go.Sort (swp size_swp PermIn SortedIn SWO putRowK HoldsK scanUp scanDown partLoop partEqLoop)

variable {α : Type} [Inhabited α] {enc : α → List Value} {k blk off : Nat} {lt : α → α → Bool} {g : Nat} {lb : Array Value} {sf : Nat} {sb : Array Value} {n : Nat} {w : World} {d : Array α}

set_option maxHeartbeats 4000000 in
set_option maxRecDepth 100000 in
theorem partition_g (S : Srt Try.prog enc k blk off lt g lb sf sb n w d) (a b pivot : Nat) (hap : a ≤ pivot) (hpb : pivot < b) (hb : b ≤ n) :
    Calls Try.prog 206 #[.agg #[.func (.func g) #[] lb, .func (.func sf) #[] sb], .int .i64 a, .int .i64 b, .int .i64 pivot] w fun e w' =>
      ∃ mid ap d', Go.Sort.partition lt d a b pivot = (mid, ap, d') ∧ e = .returned (.tuple #[.int .i64 (mid : Nat), .bool ap]) ∧ RowIn enc k blk off w d' w' := by
  obtain ⟨post, hpost⟩ : ∃ post : Ending → World → Prop, (fun e w' => ∃ mid ap d', Go.Sort.partition lt d a b pivot = (mid, ap, d') ∧ e = .returned (.tuple #[.int .i64 (mid : Nat), .bool ap]) ∧ RowIn enc k blk off w d' w') = post := ⟨_, rfl⟩
  rw [hpost]
  have HPO := Lib.hid hpost
  clear hpost
  have S1 := S.box (.cells #[.func (.func g) #[] lb, .func (.func sf) #[] sb] 283)
  have eg := S.eg
  have hblk := S.lt'
  have hn := S.small
  have hsd := S.sz
  obtain ⟨wA, hrunA, hRA⟩ := S1.swapAt S1.start hsd a pivot (a : Int) (pivot : Int) rfl rfl (by omega) (by omega)
  have hdA : (swp d a pivot).size = n := by rw [size_swp]; exact hsd
  obtain ⟨D, hD⟩ : ∃ D, D = swp d a pivot := ⟨_, rfl⟩
  rw [← hD] at hRA hdA
  have HD := Lib.hid hD
  clear hD
  go_enter Try.func206, Try.ntmps206
  go_upto_block 0 with fail
  go_cut [10] from 21 (fun s wc => ∃ q : Nat, s = .int .i64 q ∧ Hid (q = scanUp (fun x => lt x D[a]!) D ((b - 1)) ((a + 1))) ∧ ((a + 1) ≤ q ∧ q ≤ ((b - 1)) + 1) ∧ RowIn enc k blk off (w.alloc (.cells #[.func (.func g) #[] lb, .func (.func sf) #[] sb] 283)) D wc)
  case first =>
    go_wp2_with fail
    go_loopw [10] (fun v wr => ∃ q : Nat, v = .int .i64 q ∧ ((a + 1) ≤ q ∧ q ≤ ((b - 1)) + 1) ∧ RowIn enc k blk off (w.alloc (.cells #[.func (.func g) #[] lb, .func (.func sf) #[] sb] 283)) D wr ∧ Hid (scanUp (fun x => lt x D[a]!) D ((b - 1)) (q) = scanUp (fun x => lt x D[a]!) D ((b - 1)) ((a + 1)))) (fun v _ => ((b - 1)) + 1 - (intOf v).toNat)
    case atStart => exact ⟨(a + 1), by first | rfl | go_num, by omega, hRA, rfl⟩
    case round =>
      obtain ⟨q, rfl, ⟨h1, h2⟩, hR1, HE⟩ := hrel
      obtain ⟨c0, c1⟩ := hR1.boxed hblk
      by_cases hle : q ≤ (b - 1)
      · have hlez : (q : Int) ≤ (b : Int) - 1 := by omega
        have hl := S1.lessAt hR1 hdA (q) (a) ((q : Nat) : Int) ((a : Nat) : Int) rfl rfl (by omega) (by omega)
        cases hv : lt D[q]! D[a]! with
        | true =>
          rw [hv] at hl
          go_wp2_with fail
          go_at_fn g
          refine hl.mono ?_
          rintro e w2 ⟨rfl, hb2⟩
          have hR2 := hR1.step hb2
          clear hb2
          go_wp2
          go_roundw
          case rel => exact ⟨q + 1, by go_num, by omega, hR2, by show _ = _; rw [← HE.out]; exact (scanUp_go (fun x => lt x D[a]!) D ((b - 1)) q hle (by simp [hv])).symm⟩
          case measure => simp [intOf] <;> omega
        | false =>
          rw [hv] at hl
          go_wp2_with fail
          go_at_fn g
          refine hl.mono ?_
          rintro e w2 ⟨rfl, hb2⟩
          have hR2 := hR1.step hb2
          clear hb2
          go_wp2
          go_meet
          case rel => exact ⟨q, rfl, by show _ = _; rw [← HE.out]; exact (scanUp_end (fun x => lt x D[a]!) D ((b - 1)) q (Or.inr (by simp [hv]))).symm, by omega, hR2⟩
      · have hlez : ¬ ((q : Int) ≤ (b : Int) - 1) := by omega
        go_wp2
        go_meet
        case rel => exact ⟨q, rfl, by show _ = _; rw [← HE.out]; exact (scanUp_end (fun x => lt x D[a]!) D ((b - 1)) q (Or.inl hle)).symm, by omega, hR1⟩
  case rest =>
    obtain ⟨i1, rfl, Hi1, ⟨i11, i12⟩, hRi1⟩ := hcut

    go_upto_block 2 with fail
    go_cut [11] from 33 (fun s wc => ∃ q : Nat, s = .int .i64 q ∧ Hid (q = scanDown (fun x => !lt x D[a]!) D (i1) ((b - 1))) ∧ (q ≤ (b - 1) ∧ i1 ≤ q + 1) ∧ RowIn enc k blk off (w.alloc (.cells #[.func (.func g) #[] lb, .func (.func sf) #[] sb] 283)) D wc)
    case first =>
      go_wp2_with fail
      go_loopw [11] (fun v wr => ∃ q : Nat, v = .int .i64 q ∧ (q ≤ (b - 1) ∧ i1 ≤ q + 1) ∧ RowIn enc k blk off (w.alloc (.cells #[.func (.func g) #[] lb, .func (.func sf) #[] sb] 283)) D wr ∧ Hid (scanDown (fun x => !lt x D[a]!) D (i1) (q) = scanDown (fun x => !lt x D[a]!) D (i1) ((b - 1)))) (fun v _ => (intOf v).toNat)
      case atStart => exact ⟨(b - 1), by first | rfl | go_num, by omega, hRi1, rfl⟩
      case round =>
        obtain ⟨q, rfl, ⟨h1, h2⟩, hR1, HE⟩ := hrel
        obtain ⟨c0, c1⟩ := hR1.boxed hblk
        by_cases hle : i1 ≤ q
        · have hlez : (i1 : Int) ≤ (q : Int) := by omega
          have hl := S1.lessAt hR1 hdA (q) (a) ((q : Nat) : Int) ((a : Nat) : Int) rfl rfl (by omega) (by omega)
          cases hv : lt D[q]! D[a]! with
          | false =>
            rw [hv] at hl
            go_wp2_with fail
            go_at_fn g
            refine hl.mono ?_
            rintro e w2 ⟨rfl, hb2⟩
            have hR2 := hR1.step hb2
            clear hb2
            go_wp2
            go_roundw
            case rel => exact ⟨q - 1, by go_num, by omega, hR2, by show _ = _; rw [← HE.out]; exact (scanDown_go (fun x => !lt x D[a]!) D (i1) q hle (by omega) (by simp [hv])).symm⟩
            case measure => simp [intOf] <;> omega
          | true =>
            rw [hv] at hl
            go_wp2_with fail
            go_at_fn g
            refine hl.mono ?_
            rintro e w2 ⟨rfl, hb2⟩
            have hR2 := hR1.step hb2
            clear hb2
            go_wp2
            go_meet
            case rel => exact ⟨q, rfl, by show _ = _; rw [← HE.out]; exact (scanDown_end (fun x => !lt x D[a]!) D (i1) q (Or.inr (by simp [hv]))).symm, by omega, hR2⟩
        · have hlez : ¬ ((i1 : Int) ≤ (q : Int)) := by omega
          go_wp2
          go_meet
          case rel => exact ⟨q, rfl, by show _ = _; rw [← HE.out]; exact (scanDown_end (fun x => !lt x D[a]!) D (i1) q (Or.inl hle)).symm, by omega, hR1⟩
    case rest =>
      obtain ⟨j1, rfl, Hj1, ⟨j11, j12⟩, hRj1⟩ := hcut

      obtain ⟨c0, c1⟩ := hRj1.boxed hblk
      by_cases hgt0 : j1 < i1
      · have hgtz : (j1 : Int) < (i1 : Int) := by omega
        obtain ⟨w5, hrun5, hR5⟩ := S1.swapAt hRj1 hdA j1 a (j1 : Int) (a : Int) rfl rfl (by omega) (by omega)
        go_wp2
        rw [← HPO.out]
        exact ⟨j1, true, swp D j1 a, part_first_break lt d a b pivot rfl rfl HD.out Hi1.out Hj1.out hgt0, rfl, hR5.box hblk⟩
      · have hgtz : ¬ ((j1 : Int) < (i1 : Int)) := by omega
        have hlt0 := part_scans_lt lt a (a + 1) (b - 1) D (by omega) Hi1.out Hj1.out (by omega)
        have PF := Lib.hid (part_first_go lt d a b pivot rfl rfl HD.out Hi1.out Hj1.out (by omega))
        obtain ⟨w5, hrun5, hR5⟩ := S1.swapAt hRj1 hdA i1 j1 (i1 : Int) (j1 : Int) rfl rfl (by omega) (by omega)
        have hd5 : (swp D i1 j1).size = n := by rw [size_swp]; exact hdA
        go_wp2
        clear c0 c1 hrun5
        go_loopw [10, 11] (fun s t wr => ∃ (i j : Nat) (dk : Array α), s = .int .i64 i ∧ t = .int .i64 j ∧ a < i ∧ i ≤ j + 1 ∧ j < b ∧ dk.size = n ∧ RowIn enc k blk off (w.alloc (.cells #[.func (.func g) #[] lb, .func (.func sf) #[] sb] 283)) dk wr ∧ Hid (partLoop lt a i j dk = partLoop lt a (i1 + 1) (j1 - 1) (swp D i1 j1))) (fun s t _ => (intOf t).toNat + 1 - (intOf s).toNat)
        case atStart => exact ⟨i1 + 1, j1 - 1, swp D i1 j1, by go_num, by go_num, by omega, by omega, by omega, hd5, hR5, rfl⟩
        case round =>
          obtain ⟨i, j, dk, rfl, rfl, hai, hij, hjb, hds, hR, HE⟩ := hrel
          clear hR5 hRj1 hRi1 hRA
          go_upto_block 6 with fail
          go_cut [10] from 64 to 75 (fun s wc => ∃ q : Nat, s = .int .i64 q ∧ Hid (q = scanUp (fun x => lt x dk[a]!) dk (j) (i)) ∧ (i ≤ q ∧ q ≤ (j) + 1) ∧ RowIn enc k blk off (w.alloc (.cells #[.func (.func g) #[] lb, .func (.func sf) #[] sb] 283)) dk wc)
          case first =>
            go_wp2_with fail
            go_loopw [10] (fun v wr => ∃ q : Nat, v = .int .i64 q ∧ (i ≤ q ∧ q ≤ (j) + 1) ∧ RowIn enc k blk off (w.alloc (.cells #[.func (.func g) #[] lb, .func (.func sf) #[] sb] 283)) dk wr ∧ Hid (scanUp (fun x => lt x dk[a]!) dk (j) (q) = scanUp (fun x => lt x dk[a]!) dk (j) (i))) (fun v _ => (j) + 1 - (intOf v).toNat)
            case atStart => exact ⟨i, by first | rfl | go_num, by omega, hR, rfl⟩
            case round =>
              obtain ⟨q, rfl, ⟨h1, h2⟩, hR1, HE⟩ := hrel
              obtain ⟨c0, c1⟩ := hR1.boxed hblk
              by_cases hle : q ≤ j
              · have hlez : (q : Int) ≤ (j : Int) := by omega
                have hl := S1.lessAt hR1 hds (q) (a) ((q : Nat) : Int) ((a : Nat) : Int) rfl rfl (by omega) (by omega)
                cases hv : lt dk[q]! dk[a]! with
                | true =>
                  rw [hv] at hl
                  go_wp2_with fail
                  go_at_fn g
                  refine hl.mono ?_
                  rintro e w2 ⟨rfl, hb2⟩
                  have hR2 := hR1.step hb2
                  clear hb2
                  go_wp2
                  go_roundw
                  case rel => exact ⟨q + 1, by go_num, by omega, hR2, by show _ = _; rw [← HE.out]; exact (scanUp_go (fun x => lt x dk[a]!) dk (j) q hle (by simp [hv])).symm⟩
                  case measure => simp [intOf] <;> omega
                | false =>
                  rw [hv] at hl
                  go_wp2_with fail
                  go_at_fn g
                  refine hl.mono ?_
                  rintro e w2 ⟨rfl, hb2⟩
                  have hR2 := hR1.step hb2
                  clear hb2
                  go_wp2
                  go_meet
                  case rel => exact ⟨q, rfl, by show _ = _; rw [← HE.out]; exact (scanUp_end (fun x => lt x dk[a]!) dk (j) q (Or.inr (by simp [hv]))).symm, by omega, hR2⟩
              · have hlez : ¬ ((q : Int) ≤ (j : Int)) := by omega
                go_wp2
                go_meet
                case rel => exact ⟨q, rfl, by show _ = _; rw [← HE.out]; exact (scanUp_end (fun x => lt x dk[a]!) dk (j) q (Or.inl hle)).symm, by omega, hR1⟩
          case rest =>
            obtain ⟨i2, rfl, Hi2, ⟨i21, i22⟩, hRi2⟩ := hcut
            go_upto_block 8 with fail
            go_cut [11] from 76 to 88 (fun s wc => ∃ q : Nat, s = .int .i64 q ∧ Hid (q = scanDown (fun x => !lt x dk[a]!) dk (i2) (j)) ∧ (q ≤ j ∧ i2 ≤ q + 1) ∧ RowIn enc k blk off (w.alloc (.cells #[.func (.func g) #[] lb, .func (.func sf) #[] sb] 283)) dk wc)
            case first =>
              go_wp2_with fail
              go_loopw [11] (fun v wr => ∃ q : Nat, v = .int .i64 q ∧ (q ≤ j ∧ i2 ≤ q + 1) ∧ RowIn enc k blk off (w.alloc (.cells #[.func (.func g) #[] lb, .func (.func sf) #[] sb] 283)) dk wr ∧ Hid (scanDown (fun x => !lt x dk[a]!) dk (i2) (q) = scanDown (fun x => !lt x dk[a]!) dk (i2) (j))) (fun v _ => (intOf v).toNat)
              case atStart => exact ⟨j, by first | rfl | go_num, by omega, hRi2, rfl⟩
              case round =>
                obtain ⟨q, rfl, ⟨h1, h2⟩, hR1, HE⟩ := hrel
                obtain ⟨c0, c1⟩ := hR1.boxed hblk
                by_cases hle : i2 ≤ q
                · have hlez : (i2 : Int) ≤ (q : Int) := by omega
                  have hl := S1.lessAt hR1 hds (q) (a) ((q : Nat) : Int) ((a : Nat) : Int) rfl rfl (by omega) (by omega)
                  cases hv : lt dk[q]! dk[a]! with
                  | false =>
                    rw [hv] at hl
                    go_wp2_with fail
                    go_at_fn g
                    refine hl.mono ?_
                    rintro e w2 ⟨rfl, hb2⟩
                    have hR2 := hR1.step hb2
                    clear hb2
                    go_wp2
                    go_roundw
                    case rel => exact ⟨q - 1, by go_num, by omega, hR2, by show _ = _; rw [← HE.out]; exact (scanDown_go (fun x => !lt x dk[a]!) dk (i2) q hle (by omega) (by simp [hv])).symm⟩
                    case measure => simp [intOf] <;> omega
                  | true =>
                    rw [hv] at hl
                    go_wp2_with fail
                    go_at_fn g
                    refine hl.mono ?_
                    rintro e w2 ⟨rfl, hb2⟩
                    have hR2 := hR1.step hb2
                    clear hb2
                    go_wp2
                    go_meet
                    case rel => exact ⟨q, rfl, by show _ = _; rw [← HE.out]; exact (scanDown_end (fun x => !lt x dk[a]!) dk (i2) q (Or.inr (by simp [hv]))).symm, by omega, hR2⟩
                · have hlez : ¬ ((i2 : Int) ≤ (q : Int)) := by omega
                  go_wp2
                  go_meet
                  case rel => exact ⟨q, rfl, by show _ = _; rw [← HE.out]; exact (scanDown_end (fun x => !lt x dk[a]!) dk (i2) q (Or.inl hle)).symm, by omega, hR1⟩
            case rest =>
              obtain ⟨j2, rfl, Hj2, ⟨j21, j22⟩, hRj2⟩ := hcut
              obtain ⟨c0, c1⟩ := hRj2.boxed hblk
              by_cases hgt : j2 < i2
              · have hgtz : (j2 : Int) < (i2 : Int) := by omega
                obtain ⟨w6, hrun6, hR6⟩ := S1.swapAt hRj2 hds j2 a (j2 : Int) (a : Int) rfl rfl (by omega) (by omega)
                go_wp2
                rw [← HPO.out]
                have e := part_break lt a i j dk Hi2.out Hj2.out hgt
                refine ⟨j2, false, swp dk j2 a, ?_, rfl, hR6.box hblk⟩
                rw [PF.out, ← HE.out, e]
              · have hgtz : ¬ ((j2 : Int) < (i2 : Int)) := by omega
                have hlt3 := part_scans_lt lt a i j dk (by omega) Hi2.out Hj2.out (by omega)
                obtain ⟨w6, hrun6, hR6⟩ := S1.swapAt hRj2 hds i2 j2 (i2 : Int) (j2 : Int) rfl rfl (by omega) (by omega)
                go_wp2
                go_roundw
                case rel => exact ⟨i2 + 1, j2 - 1, swp dk i2 j2, by go_num, by go_num, by omega, by omega, by omega, by rw [size_swp]; exact hds, hR6, by show _ = _; rw [← HE.out]; exact (part_go lt a i j dk Hi2.out Hj2.out (by omega)).symm⟩
                case measure => simp [intOf] <;> omega


set_option maxHeartbeats 4000000 in
set_option maxRecDepth 100000 in
theorem partitionEqual_g (S : Srt Try.prog enc k blk off lt g lb sf sb n w d) (a b pivot : Nat) (hap : a ≤ pivot) (hpb : pivot < b) (hb : b ≤ n) :
    Calls Try.prog 205 #[.agg #[.func (.func g) #[] lb, .func (.func sf) #[] sb], .int .i64 a, .int .i64 b, .int .i64 pivot] w fun e w' =>
      ∃ mid d', Go.Sort.partitionEqual lt d a b pivot = (mid, d') ∧ e = .returned (.int .i64 (mid : Nat)) ∧ RowIn enc k blk off w d' w' := by
  obtain ⟨post, hpost⟩ : ∃ post : Ending → World → Prop, (fun e w' => ∃ mid d', Go.Sort.partitionEqual lt d a b pivot = (mid, d') ∧ e = .returned (.int .i64 (mid : Nat)) ∧ RowIn enc k blk off w d' w') = post := ⟨_, rfl⟩
  rw [hpost]
  have HPO := Lib.hid hpost
  clear hpost
  have S1 := S.box (.cells #[.func (.func g) #[] lb, .func (.func sf) #[] sb] 283)
  have eg := S.eg
  have hblk := S.lt'
  have hn := S.small
  have hsd := S.sz
  obtain ⟨wA, hrunA, hRA⟩ := S1.swapAt S1.start hsd a pivot (a : Int) (pivot : Int) rfl rfl (by omega) (by omega)
  have hdA : (swp d a pivot).size = n := by rw [size_swp]; exact hsd
  have PF : Hid (Go.Sort.partitionEqual lt d a b pivot = partEqLoop lt a (a + 1) (b - 1) (swp d a pivot)) := rfl
  obtain ⟨D, hD⟩ : ∃ D, D = swp d a pivot := ⟨_, rfl⟩
  rw [← hD] at hRA hdA PF
  have HD := Lib.hid hD
  clear hD
  go_enter Try.func205, Try.ntmps205
  go_wp2
  clear hrunA
  go_loopw [9, 10] (fun s t wr => ∃ (i j : Nat) (dk : Array α), s = .int .i64 i ∧ t = .int .i64 j ∧ a < i ∧ i ≤ j + 1 ∧ j < b ∧ dk.size = n ∧ RowIn enc k blk off (w.alloc (.cells #[.func (.func g) #[] lb, .func (.func sf) #[] sb] 283)) dk wr ∧ Hid (partEqLoop lt a i j dk = partEqLoop lt a (a + 1) (b - 1) D)) (fun s t _ => (intOf t).toNat + 1 - (intOf s).toNat)
  case atStart => exact ⟨a + 1, b - 1, D, by go_num, by go_num, by omega, by omega, by omega, hdA, hRA, rfl⟩
  case round =>
    obtain ⟨i, j, dk, rfl, rfl, hai, hij, hjb, hds, hR, HE⟩ := hrel
    clear hRA
    go_upto_block 2 with fail
    go_cut [9] from 20 to 32 (fun s wc => ∃ q : Nat, s = .int .i64 q ∧ Hid (q = scanUp (fun x => !lt dk[a]! x) dk (j) (i)) ∧ (i ≤ q ∧ q ≤ (j) + 1) ∧ RowIn enc k blk off (w.alloc (.cells #[.func (.func g) #[] lb, .func (.func sf) #[] sb] 283)) dk wc)
    case first =>
      go_wp2_with fail
      go_loopw [9] (fun v wr => ∃ q : Nat, v = .int .i64 q ∧ (i ≤ q ∧ q ≤ (j) + 1) ∧ RowIn enc k blk off (w.alloc (.cells #[.func (.func g) #[] lb, .func (.func sf) #[] sb] 283)) dk wr ∧ Hid (scanUp (fun x => !lt dk[a]! x) dk (j) (q) = scanUp (fun x => !lt dk[a]! x) dk (j) (i))) (fun v _ => (j) + 1 - (intOf v).toNat)
      case atStart => exact ⟨i, by first | rfl | go_num, by omega, hR, rfl⟩
      case round =>
        obtain ⟨q, rfl, ⟨h1, h2⟩, hR1, HE⟩ := hrel
        obtain ⟨c0, c1⟩ := hR1.boxed hblk
        by_cases hle : q ≤ j
        · have hlez : (q : Int) ≤ (j : Int) := by omega
          have hl := S1.lessAt hR1 hds (a) (q) ((a : Nat) : Int) ((q : Nat) : Int) rfl rfl (by omega) (by omega)
          cases hv : lt dk[a]! dk[q]! with
          | false =>
            rw [hv] at hl
            go_wp2_with fail
            go_at_fn g
            refine hl.mono ?_
            rintro e w2 ⟨rfl, hb2⟩
            have hR2 := hR1.step hb2
            clear hb2
            go_wp2
            go_roundw
            case rel => exact ⟨q + 1, by go_num, by omega, hR2, by show _ = _; rw [← HE.out]; exact (scanUp_go (fun x => !lt dk[a]! x) dk (j) q hle (by simp [hv])).symm⟩
            case measure => simp [intOf] <;> omega
          | true =>
            rw [hv] at hl
            go_wp2_with fail
            go_at_fn g
            refine hl.mono ?_
            rintro e w2 ⟨rfl, hb2⟩
            have hR2 := hR1.step hb2
            clear hb2
            go_wp2
            go_meet
            case rel => exact ⟨q, rfl, by show _ = _; rw [← HE.out]; exact (scanUp_end (fun x => !lt dk[a]! x) dk (j) q (Or.inr (by simp [hv]))).symm, by omega, hR2⟩
        · have hlez : ¬ ((q : Int) ≤ (j : Int)) := by omega
          go_wp2
          go_meet
          case rel => exact ⟨q, rfl, by show _ = _; rw [← HE.out]; exact (scanUp_end (fun x => !lt dk[a]! x) dk (j) q (Or.inl hle)).symm, by omega, hR1⟩
    case rest =>
      obtain ⟨i2, rfl, Hi2, ⟨i21, i22⟩, hRi2⟩ := hcut
      go_upto_block 4 with fail
      go_cut [10] from 33 to 44 (fun s wc => ∃ q : Nat, s = .int .i64 q ∧ Hid (q = scanDown (fun x => lt dk[a]! x) dk (i2) (j)) ∧ (q ≤ j ∧ i2 ≤ q + 1) ∧ RowIn enc k blk off (w.alloc (.cells #[.func (.func g) #[] lb, .func (.func sf) #[] sb] 283)) dk wc)
      case first =>
        go_wp2_with fail
        go_loopw [10] (fun v wr => ∃ q : Nat, v = .int .i64 q ∧ (q ≤ j ∧ i2 ≤ q + 1) ∧ RowIn enc k blk off (w.alloc (.cells #[.func (.func g) #[] lb, .func (.func sf) #[] sb] 283)) dk wr ∧ Hid (scanDown (fun x => lt dk[a]! x) dk (i2) (q) = scanDown (fun x => lt dk[a]! x) dk (i2) (j))) (fun v _ => (intOf v).toNat)
        case atStart => exact ⟨j, by first | rfl | go_num, by omega, hRi2, rfl⟩
        case round =>
          obtain ⟨q, rfl, ⟨h1, h2⟩, hR1, HE⟩ := hrel
          obtain ⟨c0, c1⟩ := hR1.boxed hblk
          by_cases hle : i2 ≤ q
          · have hlez : (i2 : Int) ≤ (q : Int) := by omega
            have hl := S1.lessAt hR1 hds (a) (q) ((a : Nat) : Int) ((q : Nat) : Int) rfl rfl (by omega) (by omega)
            cases hv : lt dk[a]! dk[q]! with
            | true =>
              rw [hv] at hl
              go_wp2_with fail
              go_at_fn g
              refine hl.mono ?_
              rintro e w2 ⟨rfl, hb2⟩
              have hR2 := hR1.step hb2
              clear hb2
              go_wp2
              go_roundw
              case rel => exact ⟨q - 1, by go_num, by omega, hR2, by show _ = _; rw [← HE.out]; exact (scanDown_go (fun x => lt dk[a]! x) dk (i2) q hle (by omega) (by simp [hv])).symm⟩
              case measure => simp [intOf] <;> omega
            | false =>
              rw [hv] at hl
              go_wp2_with fail
              go_at_fn g
              refine hl.mono ?_
              rintro e w2 ⟨rfl, hb2⟩
              have hR2 := hR1.step hb2
              clear hb2
              go_wp2
              go_meet
              case rel => exact ⟨q, rfl, by show _ = _; rw [← HE.out]; exact (scanDown_end (fun x => lt dk[a]! x) dk (i2) q (Or.inr (by simp [hv]))).symm, by omega, hR2⟩
          · have hlez : ¬ ((i2 : Int) ≤ (q : Int)) := by omega
            go_wp2
            go_meet
            case rel => exact ⟨q, rfl, by show _ = _; rw [← HE.out]; exact (scanDown_end (fun x => lt dk[a]! x) dk (i2) q (Or.inl hle)).symm, by omega, hR1⟩
      case rest =>
        obtain ⟨j2, rfl, Hj2, ⟨j21, j22⟩, hRj2⟩ := hcut
        obtain ⟨c0, c1⟩ := hRj2.boxed hblk
        by_cases hgt : j2 < i2
        · have hgtz : (j2 : Int) < (i2 : Int) := by omega
          go_wp2
          rw [← HPO.out]
          have e := partEq_break lt a i j dk Hi2.out Hj2.out hgt
          refine ⟨i2, dk, ?_, rfl, hRj2.box hblk⟩
          rw [PF.out, ← HE.out, e]
        · have hgtz : ¬ ((j2 : Int) < (i2 : Int)) := by omega
          have hlt3 := scans_lt lt a i j dk (by omega) Hi2.out Hj2.out (by omega)
          obtain ⟨w6, hrun6, hR6⟩ := S1.swapAt hRj2 hds i2 j2 (i2 : Int) (j2 : Int) rfl rfl (by omega) (by omega)
          go_wp2
          go_roundw
          case rel => exact ⟨i2 + 1, j2 - 1, swp dk i2 j2, by go_num, by go_num, by omega, by omega, by omega, by rw [size_swp]; exact hds, hR6, by show _ = _; rw [← HE.out]; exact (partEq_go lt a i j dk Hi2.out Hj2.out (by omega)).symm⟩
          case measure => simp [intOf] <;> omega


end Go.Proofs.Ytmljdjakbbedlaa

namespace Go.Proofs.Ytmljdjakbbedlaa
open Go.ChangeShapes Go.WideShapes Go.ChangeAt Go.RowKit
open Go.Sort (swp size_swp PermIn SortedIn SWO putRowK HoldsK scanSorted shiftDown shiftUp partialIns fixDown fixUp)

variable {α : Type} [Inhabited α] {enc : α → List Value} {k blk off : Nat} {lt : α → α → Bool} {g : Nat} {lb : Array Value} {sf : Nat} {sb : Array Value} {n : Nat} {w : World} {d : Array α}

set_option maxHeartbeats 4000000 in
set_option maxRecDepth 100000 in
theorem partialInsertionSort_g (S : Srt Try.prog enc k blk off lt g lb sf sb n w d) (a b : Nat) (hab : a < b) (hb : b ≤ n) :
    Calls Try.prog 204 #[.agg #[.func (.func g) #[] lb, .func (.func sf) #[] sb], .int .i64 a, .int .i64 b] w fun e w' =>
      ∃ d' fl, Go.Sort.partialInsertionSort lt d a b = (d', fl) ∧ e = .returned (.bool fl) ∧ RowIn enc k blk off w d' w' := by
  obtain ⟨post, hpost⟩ : ∃ post : Ending → World → Prop, (fun e w' => ∃ d' fl, Go.Sort.partialInsertionSort lt d a b = (d', fl) ∧ e = .returned (.bool fl) ∧ RowIn enc k blk off w d' w') = post := ⟨_, rfl⟩
  rw [hpost]
  have HPO := Lib.hid hpost
  clear hpost
  have S1 := S.box (.cells #[.func (.func g) #[] lb, .func (.func sf) #[] sb] 283)
  have eg := S.eg
  have hblk := S.lt'
  have hn := S.small
  have hsd := S.sz
  have PF : Hid (Go.Sort.partialInsertionSort lt d a b = partialIns lt a b (5 - 0) (a + 1) d) := rfl
  go_enter Try.func204, Try.ntmps204
  go_wp2
  go_loopw [7, 8] (fun v7 v8 wr => ∃ (i s : Nat) (dk : Array α), v7 = .int .i64 i ∧ v8 = .int .i64 s ∧ s ≤ 5 ∧ a < i ∧ i ≤ b ∧ dk.size = n ∧ RowIn enc k blk off (w.alloc (.cells #[.func (.func g) #[] lb, .func (.func sf) #[] sb] 283)) dk wr ∧ Hid (partialIns lt a b (5 - s) i dk = partialIns lt a b (5 - 0) (a + 1) d)) (fun _ v8 _ => 5 - (intOf v8).toNat)
  case atStart => exact ⟨a + 1, 0, d, by go_num, rfl, by omega, by omega, by omega, hsd, S1.start, rfl⟩
  case round =>
    obtain ⟨i, s, dk, rfl, rfl, hs5, hai, hib, hds, hR, HE⟩ := hrel
    by_cases hs : s < 5
    · have hsz : (s : Int) < 5 := by omega
      go_upto_block 2 with fail
      go_cut [7] from 17 to 30 (fun v wc => ∃ q : Nat, v = .int .i64 q ∧ Hid (q = scanSorted lt dk b i) ∧ (i ≤ q ∧ q ≤ b) ∧ RowIn enc k blk off (w.alloc (.cells #[.func (.func g) #[] lb, .func (.func sf) #[] sb] 283)) dk wc)
      case first =>
        go_wp2_with fail
        go_loopw [7] (fun v wr => ∃ q : Nat, v = .int .i64 q ∧ (i ≤ q ∧ q ≤ b) ∧ RowIn enc k blk off (w.alloc (.cells #[.func (.func g) #[] lb, .func (.func sf) #[] sb] 283)) dk wr ∧ Hid (scanSorted lt dk b q = scanSorted lt dk b i)) (fun v _ => b - (intOf v).toNat)
        case atStart => exact ⟨i, rfl, by omega, hR, rfl⟩
        case round =>
          obtain ⟨q, rfl, hbd, hR1, HEq⟩ := hrel
          obtain ⟨c0, c1⟩ := hR1.boxed hblk
          by_cases hle : q < b
          · have hlez : (q : Int) < (b : Int) := by omega
            have hl := S1.lessAt hR1 hds q (q - 1) (q : Int) ((q : Int) - 1) rfl (by omega) (by omega) (by omega)
            cases hv : lt dk[q]! dk[q - 1]! with
            | false =>
              rw [hv] at hl
              go_wp2_with fail
              go_at_fn g
              refine hl.mono ?_
              rintro e w2 ⟨rfl, hb2⟩
              have hR2 := hR1.step hb2
              clear hb2
              go_wp2
              go_roundw
              case rel => exact ⟨q + 1, by go_num, by omega, hR2, by show _ = _; rw [← HEq.out]; exact (scanSorted_go lt dk b q hle hv).symm⟩
              case measure => simp [intOf] <;> omega
            | true =>
              rw [hv] at hl
              go_wp2_with fail
              go_at_fn g
              refine hl.mono ?_
              rintro e w2 ⟨rfl, hb2⟩
              have hR2 := hR1.step hb2
              clear hb2
              go_wp2
              go_meet
              case rel => exact ⟨q, rfl, by show _ = _; rw [← HEq.out]; exact (scanSorted_stop lt dk b q (Or.inr hv)).symm, hbd, hR2⟩
          · have hlez : ¬ ((q : Int) < (b : Int)) := by omega
            go_wp2
            go_meet
            case rel => exact ⟨q, rfl, by show _ = _; rw [← HEq.out]; exact (scanSorted_stop lt dk b q (Or.inl hle)).symm, hbd, hR1⟩
      case rest =>
        obtain ⟨q, rfl, Hq, hbd, hRq⟩ := hcut
        clear hR
        obtain ⟨c0, c1⟩ := hRq.boxed hblk
        by_cases hqb : q = b
        · have hqz : ((q : Int) == (b : Int)) = true := by simp; omega
          have hqn : (q == b) = true := by simp; omega
          have HQ := Lib.hid hqb
          clear hqb
          go_wp2
          rw [← HPO.out]
          exact ⟨dk, true, by rw [PF.out, ← HE.out]; exact pi_true lt a b s i dk hs (by rw [← Hq.out]; exact HQ.out), rfl, hRq.box hblk⟩
        · have hqz : ((q : Int) == (b : Int)) = false := by simp; omega
          have hqn : (q == b) = false := by simp; omega
          by_cases h50 : b - a < 50
          · have h50z : (b : Int) - (a : Int) < 50 := by omega
            go_wp2
            rw [← HPO.out]
            exact ⟨dk, false, by rw [PF.out, ← HE.out]; exact pi_short lt a b s i dk hs (by rw [← Hq.out]; exact hqb) h50, rfl, hRq.box hblk⟩
          · have h50z : ¬ ((b : Int) - (a : Int) < 50) := by omega
            obtain ⟨w5, hrun5, hRD1⟩ := S1.swapAt hRq hds q (q - 1) (q : Int) ((q : Int) - 1) rfl (by omega) (by omega) (by omega)
            have hsD1 : (swp dk q (q - 1)).size = n := by rw [size_swp]; exact hds
            obtain ⟨D1, hD1⟩ : ∃ D1, D1 = swp dk q (q - 1) := ⟨_, rfl⟩
            rw [← hD1] at hRD1 hsD1
            have HD1 := Lib.hid hD1
            clear hD1
            go_upto_if 47 with fail
            go_cut [9] from 44 to 66 (fun _ wc => ∃ D' : Array α, D'.size = n ∧ Hid (D' = fixDown lt a q D1) ∧ RowIn enc k blk off (w.alloc (.cells #[.func (.func g) #[] lb, .func (.func sf) #[] sb] 283)) D' wc)
            case first =>
              by_cases h2 : q - a ≥ 2
              · have h2z : (2 : Int) ≤ (q : Int) - (a : Int) := by omega
                go_wp2_with fail
                go_loopw [9] (fun v wr => ∃ (j : Nat) (dj : Array α), v = .int .i64 j ∧ (j ≤ q - 1) ∧ dj.size = n ∧ RowIn enc k blk off (w.alloc (.cells #[.func (.func g) #[] lb, .func (.func sf) #[] sb] 283)) dj wr ∧ Hid (shiftDown lt j dj = shiftDown lt (q - 1) D1)) (fun v _ => (intOf v).toNat)
                case atStart => exact ⟨q - 1, D1, by go_num, by omega, hsD1, hRD1, rfl⟩
                case round =>
                  obtain ⟨j, dj, rfl, hbd2, hsj, hR1, HEj⟩ := hrel
                  obtain ⟨c0, c1⟩ := hR1.boxed hblk
                  clear hRD1
                  by_cases hle : 1 ≤ j
                  · have hlez : (1 : Int) ≤ (j : Int) := by omega
                    have hl := S1.lessAt hR1 hsj j (j - 1) (j : Int) ((j : Int) - 1) rfl (by omega) (by omega) (by omega)
                    cases hv : lt dj[j]! dj[j - 1]! with
                    | true =>
                      rw [hv] at hl
                      go_wp2_with fail
                      go_at_fn g
                      refine hl.mono ?_
                      rintro e w2 ⟨rfl, hb2⟩
                      have hR2 := hR1.step hb2
                      clear hb2
                      obtain ⟨c02, c12⟩ := hR2.boxed hblk
                      obtain ⟨w4, hrun, hR4⟩ := S1.swapAt hR2 hsj j (j - 1) (j : Int) ((j : Int) - 1) rfl (by omega) (by omega) (by omega)
                      go_wp2
                      go_roundw
                      case rel => exact ⟨j - 1, swp dj j (j - 1), by go_num, by omega, by rw [size_swp]; exact hsj, hR4, by show _ = _; rw [← HEj.out]; exact (shiftDown_go lt j dj hle hv).symm⟩
                      case measure => simp [intOf] <;> omega
                    | false =>
                      rw [hv] at hl
                      go_wp2_with fail
                      go_at_fn g
                      refine hl.mono ?_
                      rintro e w2 ⟨rfl, hb2⟩
                      have hR2 := hR1.step hb2
                      clear hb2
                      go_wp2
                      go_meet
                      case rel => exact ⟨dj, hsj, (by show _ = _; unfold fixDown; rw [if_pos h2, ← HEj.out]; exact (shiftDown_stop lt j dj (Or.inr hv)).symm), hR2⟩
                  · have hlez : ¬ ((1 : Int) ≤ (j : Int)) := by omega
                    go_wp2
                    go_meet
                    case rel => exact ⟨dj, hsj, (by show _ = _; unfold fixDown; rw [if_pos h2, ← HEj.out]; exact (shiftDown_stop lt j dj (Or.inl (by omega))).symm), hR1⟩
              · have h2z : ¬ ((2 : Int) ≤ (q : Int) - (a : Int)) := by omega
                go_wp2
                go_meet
                case rel => exact ⟨D1, hsD1, (by show _ = _; unfold fixDown; rw [if_neg h2]), hRD1⟩
            case rest =>
              obtain ⟨D2, hsD2, HD2, hRD2⟩ := hcut
              clear hRD1

              by_cases h2 : b - q ≥ 2
              · have h2z : (2 : Int) ≤ (b : Int) - (q : Int) := by omega
                go_wp2_with fail
                go_loopw [10] (fun v wr => ∃ (j : Nat) (dj : Array α), v = .int .i64 j ∧ (q + 1 ≤ j ∧ j ≤ b) ∧ dj.size = n ∧ RowIn enc k blk off (w.alloc (.cells #[.func (.func g) #[] lb, .func (.func sf) #[] sb] 283)) dj wr ∧ Hid (shiftUp lt b j dj = shiftUp lt b (q + 1) D2)) (fun v _ => b - (intOf v).toNat)
                case atStart => exact ⟨q + 1, D2, by go_num, by omega, hsD2, hRD2, rfl⟩
                case round =>
                  obtain ⟨j, dj, rfl, hbd2, hsj, hR1, HEj⟩ := hrel
                  obtain ⟨c0, c1⟩ := hR1.boxed hblk
                  clear hRD2
                  by_cases hle : j < b
                  · have hlez : (j : Int) < (b : Int) := by omega
                    have hl := S1.lessAt hR1 hsj j (j - 1) (j : Int) ((j : Int) - 1) rfl (by omega) (by omega) (by omega)
                    cases hv : lt dj[j]! dj[j - 1]! with
                    | true =>
                      rw [hv] at hl
                      go_wp2_with fail
                      go_at_fn g
                      refine hl.mono ?_
                      rintro e w2 ⟨rfl, hb2⟩
                      have hR2 := hR1.step hb2
                      clear hb2
                      obtain ⟨c02, c12⟩ := hR2.boxed hblk
                      obtain ⟨w4, hrun, hR4⟩ := S1.swapAt hR2 hsj j (j - 1) (j : Int) ((j : Int) - 1) rfl (by omega) (by omega) (by omega)
                      go_wp2
                      go_roundw
                      case rel => exact ⟨j + 1, swp dj j (j - 1), by go_num, by omega, by rw [size_swp]; exact hsj, hR4, by show _ = _; rw [← HEj.out]; exact (shiftUp_go lt b j dj hle hv).symm⟩
                      case measure => simp [intOf] <;> omega
                    | false =>
                      rw [hv] at hl
                      go_wp2_with fail
                      go_at_fn g
                      refine hl.mono ?_
                      rintro e w2 ⟨rfl, hb2⟩
                      have hR2 := hR1.step hb2
                      clear hb2
                      have HD3 : Hid (dj = fixUp lt b q D2) := (by show _ = _; unfold fixUp; rw [if_pos h2, ← HEj.out]; exact (shiftUp_stop lt b j dj (Or.inr hv)).symm)
                      go_wp2
                      go_roundw
                      case rel => exact ⟨q, s + 1, dj, rfl, by go_num, by omega, by omega, by omega, hsj, hR2, by show _ = _; rw [← HE.out, pi_go lt a b s i q dk hs Hq.out.symm hqb h50, HD3.out, HD2.out, HD1.out]⟩
                      case measure => simp [intOf] <;> omega
                  · have hlez : ¬ ((j : Int) < (b : Int)) := by omega
                    have HD3 : Hid (dj = fixUp lt b q D2) := (by show _ = _; unfold fixUp; rw [if_pos h2, ← HEj.out]; exact (shiftUp_stop lt b j dj (Or.inl hle)).symm)
                    go_wp2
                    go_roundw
                    case rel => exact ⟨q, s + 1, dj, rfl, by go_num, by omega, by omega, by omega, hsj, hR1, by show _ = _; rw [← HE.out, pi_go lt a b s i q dk hs Hq.out.symm hqb h50, HD3.out, HD2.out, HD1.out]⟩
                    case measure => simp [intOf] <;> omega
              · have h2z : ¬ ((2 : Int) ≤ (b : Int) - (q : Int)) := by omega
                have HD3 : Hid (D2 = fixUp lt b q D2) := (by show _ = _; unfold fixUp; rw [if_neg h2])
                go_wp2
                go_roundw
                case rel => exact ⟨q, s + 1, D2, rfl, by go_num, by omega, by omega, by omega, hsD2, hRD2, by show _ = _; rw [← HE.out, pi_go lt a b s i q dk hs Hq.out.symm hqb h50, HD3.out, HD2.out, HD1.out]⟩
                case measure => simp [intOf] <;> omega

    · obtain rfl : s = 5 := by omega
      go_wp2
      rw [← HPO.out]
      exact ⟨dk, false, by rw [PF.out, ← HE.out]; rfl, rfl, hR.box hblk⟩

end Go.Proofs.Ytmljdjakbbedlaa

namespace Go.Proofs
open Go.Shelf
def Try.lays128_ren : Go.Shelf.Ren := ⟨fun | 128 => 158 | n => n, fun | 51 => 173 | 3 => 3 | 4 => 4 | 46 => 174 | 5 => 5 | 9 => 9 | n => n, fun | n => n⟩
theorem Try.lays128 : Go.Proofs.Lays.n128 Try.prog Try.lays128_ren := {
  mixed := by kernel_rfl
  f128 := Try.func158.trans (congrArg some (by kernel_rfl))
  t3 := Try.underlying3
  a3 := Try.isAgg3
  z3 := Try.sizeOf3
  v3 := Try.zeroValue3
  t4 := Try.underlying4
  a4 := Try.isAgg4
  z4 := Try.sizeOf4
  v4 := Try.zeroValue4
  t5 := Try.underlying5
  a5 := Try.isAgg5
  z5 := Try.sizeOf5
  v5 := Try.zeroValue5
  t9 := Try.underlying9
  a9 := Try.isAgg9
  z9 := Try.sizeOf9
  v9 := Try.zeroValue9
  t46 := Try.underlying174
  a46 := Try.isAgg174
  z46 := Try.sizeOf174
  v46 := Try.zeroValue174
  t51 := Try.underlying173
  a51 := Try.isAgg173
  z51 := Try.sizeOf173
  v51 := Try.zeroValue173 }
theorem Try.bits_Len32 (x : Int) (w : World) (h0 : 0 ≤ x) (h1 : x ≤ 4294967295) :
    Calls Try.prog 158 #[.int .u32 x] w fun e w' => e = .returned (.int .i64 (Lib.bitLen x.toNat)) ∧ w' = w := Any.bits_Len32 Try.lays128 x w h0 h1
def Try.lays125_ren : Go.Shelf.Ren := ⟨fun | 125 => 121 | 128 => 158 | 129 => 159 | n => n, fun | 46 => 174 | 3 => 3 | 51 => 173 | 53 => 33 | 4 => 4 | 5 => 5 | 9 => 9 | n => n, fun | n => n⟩
theorem Try.lays125 : Go.Proofs.Lays.n125 Try.prog Try.lays125_ren := {
  mixed := by kernel_rfl
  f125 := Try.func121.trans (congrArg some (by kernel_rfl))
  f128 := Try.func158.trans (congrArg some (by kernel_rfl))
  f129 := Try.func159.trans (congrArg some (by kernel_rfl))
  t3 := Try.underlying3
  a3 := Try.isAgg3
  z3 := Try.sizeOf3
  v3 := Try.zeroValue3
  t4 := Try.underlying4
  a4 := Try.isAgg4
  z4 := Try.sizeOf4
  v4 := Try.zeroValue4
  t5 := Try.underlying5
  a5 := Try.isAgg5
  z5 := Try.sizeOf5
  v5 := Try.zeroValue5
  t9 := Try.underlying9
  a9 := Try.isAgg9
  z9 := Try.sizeOf9
  v9 := Try.zeroValue9
  t46 := Try.underlying174
  a46 := Try.isAgg174
  z46 := Try.sizeOf174
  v46 := Try.zeroValue174
  t51 := Try.underlying173
  a51 := Try.isAgg173
  z51 := Try.sizeOf173
  v51 := Try.zeroValue173
  t53 := Try.underlying33
  a53 := Try.isAgg33
  z53 := Try.sizeOf33
  v53 := Try.zeroValue33 }
theorem Try.bits_Len (x : Int) (w : World) (h0 : 0 ≤ x) (h1 : x ≤ 18446744073709551615) :
    Calls Try.prog 121 #[.int .u64 x] w fun e w' => e = .returned (.int .i64 (Lib.bitLen x.toNat)) ∧ w' = w := Any.bits_Len Try.lays125 x w h0 h1
def Try.lays133_ren : Go.Shelf.Ren := ⟨fun | 133 => 207 | 128 => 158 | n => n, fun | 51 => 173 | 3 => 3 | 4 => 4 | 46 => 174 | 5 => 5 | 9 => 9 | n => n, fun | n => n⟩
theorem Try.lays133 : Go.Proofs.Lays.n133 Try.prog Try.lays133_ren := {
  mixed := by kernel_rfl
  f128 := Try.func158.trans (congrArg some (by kernel_rfl))
  f133 := Try.func207.trans (congrArg some (by kernel_rfl))
  t3 := Try.underlying3
  a3 := Try.isAgg3
  z3 := Try.sizeOf3
  v3 := Try.zeroValue3
  t4 := Try.underlying4
  a4 := Try.isAgg4
  z4 := Try.sizeOf4
  v4 := Try.zeroValue4
  t5 := Try.underlying5
  a5 := Try.isAgg5
  z5 := Try.sizeOf5
  v5 := Try.zeroValue5
  t9 := Try.underlying9
  a9 := Try.isAgg9
  z9 := Try.sizeOf9
  v9 := Try.zeroValue9
  t46 := Try.underlying174
  a46 := Try.isAgg174
  z46 := Try.sizeOf174
  v46 := Try.zeroValue174
  t51 := Try.underlying173
  a51 := Try.isAgg173
  z51 := Try.sizeOf173
  v51 := Try.zeroValue173 }
theorem Try.bits_LeadingZeros32 (x : Int) (w : World) (h0 : 0 ≤ x) (h1 : x ≤ 4294967295) :
    Calls Try.prog 207 #[.int .u32 x] w fun e w' => e = .returned (.int .i64 (32 - (Lib.bitLen x.toNat : Int))) ∧ w' = w := Any.bits_LeadingZeros32 Try.lays133 x w h0 h1
def Try.lays134_ren : Go.Shelf.Ren := ⟨fun | 134 => 208 | 129 => 159 | n => n, fun | 53 => 33 | 3 => 3 | 4 => 4 | 46 => 174 | 5 => 5 | 9 => 9 | n => n, fun | n => n⟩
theorem Try.lays134 : Go.Proofs.Lays.n134 Try.prog Try.lays134_ren := {
  mixed := by kernel_rfl
  f129 := Try.func159.trans (congrArg some (by kernel_rfl))
  f134 := Try.func208.trans (congrArg some (by kernel_rfl))
  t3 := Try.underlying3
  a3 := Try.isAgg3
  z3 := Try.sizeOf3
  v3 := Try.zeroValue3
  t4 := Try.underlying4
  a4 := Try.isAgg4
  z4 := Try.sizeOf4
  v4 := Try.zeroValue4
  t5 := Try.underlying5
  a5 := Try.isAgg5
  z5 := Try.sizeOf5
  v5 := Try.zeroValue5
  t9 := Try.underlying9
  a9 := Try.isAgg9
  z9 := Try.sizeOf9
  v9 := Try.zeroValue9
  t46 := Try.underlying174
  a46 := Try.isAgg174
  z46 := Try.sizeOf174
  v46 := Try.zeroValue174
  t53 := Try.underlying33
  a53 := Try.isAgg33
  z53 := Try.sizeOf33
  v53 := Try.zeroValue33 }
theorem Try.bits_LeadingZeros64 (x : Int) (w : World) (h0 : 0 ≤ x) (h1 : x ≤ 18446744073709551615) :
    Calls Try.prog 208 #[.int .u64 x] w fun e w' => e = .returned (.int .i64 (64 - (Lib.bitLen x.toNat : Int))) ∧ w' = w := Any.bits_LeadingZeros64 Try.lays134 x w h0 h1
def Try.lays129_ren : Go.Shelf.Ren := ⟨fun | 129 => 159 | n => n, fun | 53 => 33 | 3 => 3 | 4 => 4 | 46 => 174 | 5 => 5 | 9 => 9 | n => n, fun | n => n⟩
theorem Try.lays129 : Go.Proofs.Lays.n129 Try.prog Try.lays129_ren := {
  mixed := by kernel_rfl
  f129 := Try.func159.trans (congrArg some (by kernel_rfl))
  t3 := Try.underlying3
  a3 := Try.isAgg3
  z3 := Try.sizeOf3
  v3 := Try.zeroValue3
  t4 := Try.underlying4
  a4 := Try.isAgg4
  z4 := Try.sizeOf4
  v4 := Try.zeroValue4
  t5 := Try.underlying5
  a5 := Try.isAgg5
  z5 := Try.sizeOf5
  v5 := Try.zeroValue5
  t9 := Try.underlying9
  a9 := Try.isAgg9
  z9 := Try.sizeOf9
  v9 := Try.zeroValue9
  t46 := Try.underlying174
  a46 := Try.isAgg174
  z46 := Try.sizeOf174
  v46 := Try.zeroValue174
  t53 := Try.underlying33
  a53 := Try.isAgg33
  z53 := Try.sizeOf33
  v53 := Try.zeroValue33 }
theorem Try.bits_Len64 (x : Int) (w : World) (h0 : 0 ≤ x) (h1 : x ≤ 18446744073709551615) :
    Calls Try.prog 159 #[.int .u64 x] w fun e w' => e = .returned (.int .i64 (Lib.bitLen x.toNat)) ∧ w' = w := Any.bits_Len64 Try.lays129 x w h0 h1
def Try.lays122_ren : Go.Shelf.Ren := ⟨fun | 122 => 69 | 215 => 122 | n => n, fun | 3 => 3 | 4 => 4 | n => n, fun | n => n⟩
theorem Try.lays122 : Go.Proofs.Lays.n122 Try.prog Try.lays122_ren := {
  mixed := by kernel_rfl
  f122 := Try.func69.trans (congrArg some (by kernel_rfl))
  f215 := Try.func122.trans (congrArg some (by kernel_rfl))
  t3 := Try.underlying3
  a3 := Try.isAgg3
  z3 := Try.sizeOf3
  v3 := Try.zeroValue3
  t4 := Try.underlying4
  a4 := Try.isAgg4
  z4 := Try.sizeOf4
  v4 := Try.zeroValue4 }
theorem Try.cmp_Compare_int (x y : Int) (w : World) :
    Calls Try.prog 69 #[.int .i64 x, .int .i64 y] w fun e w' => e = .returned (.int .i64 (Lib.compareInt x y)) ∧ w' = w := Any.cmp_Compare_int Try.lays122 x y w
def Try.lays108_ren : Go.Shelf.Ren := ⟨fun | 108 => 149 | n => n, fun | 28 => 23 | 3 => 3 | 0 => 0 | 4 => 4 | n => n, fun | n => n⟩
theorem Try.lays108 : Go.Proofs.Lays.n108 Try.prog Try.lays108_ren := {
  mixed := by kernel_rfl
  f108 := Try.func149.trans (congrArg some (by kernel_rfl))
  t0 := Try.underlying0
  a0 := Try.isAgg0
  z0 := Try.sizeOf0
  v0 := Try.zeroValue0
  t3 := Try.underlying3
  a3 := Try.isAgg3
  z3 := Try.sizeOf3
  v3 := Try.zeroValue3
  t4 := Try.underlying4
  a4 := Try.isAgg4
  z4 := Try.sizeOf4
  v4 := Try.zeroValue4
  t28 := Try.underlying23
  a28 := Try.isAgg23
  z28 := Try.sizeOf23
  v28 := Try.zeroValue23 }
def Try.lays107_ren : Go.Shelf.Ren := ⟨fun | 107 => 119 | 108 => 149 | n => n, fun | 28 => 23 | 3 => 3 | 4 => 4 | 0 => 0 | n => n, fun | n => n⟩
theorem Try.lays107 : Go.Proofs.Lays.n107 Try.prog Try.lays107_ren := {
  mixed := by kernel_rfl
  f107 := Try.func119.trans (congrArg some (by kernel_rfl))
  f108 := Try.func149.trans (congrArg some (by kernel_rfl))
  t0 := Try.underlying0
  a0 := Try.isAgg0
  z0 := Try.sizeOf0
  v0 := Try.zeroValue0
  t3 := Try.underlying3
  a3 := Try.isAgg3
  z3 := Try.sizeOf3
  v3 := Try.zeroValue3
  t4 := Try.underlying4
  a4 := Try.isAgg4
  z4 := Try.sizeOf4
  v4 := Try.zeroValue4
  t28 := Try.underlying23
  a28 := Try.isAgg23
  z28 := Try.sizeOf23
  v28 := Try.zeroValue23 }
open Go.Lib in
theorem Try.slices_Contains_int (b off n c : Nat) (zs : List Int) (x : Int) (w : World) (hz : n ≤ zs.length) (hbig : n ≤ 9223372036854775807) (hc : ∀ j, j < zs.length → w.cell? ⟨b, off + j, none⟩ = some (.int .i64 (zs.getD j 0))) :
    Calls Try.prog 119 #[.slice (some ⟨b, off, none⟩) n c, .int .i64 x] w fun e w' => e = .returned (.bool ((zs.take n).contains x)) ∧ w' = w := Any.slices_Contains_int Try.lays107 b off n c zs x w hz hbig hc
open Go.Lib in
theorem Try.slices_Contains_int_empty (a : Option Addr) (c : Nat) (x : Int) (w : World) :
    Calls Try.prog 119 #[.slice a 0 c, .int .i64 x] w fun e w' => e = .returned (.bool false) ∧ w' = w := Any.slices_Contains_int_empty Try.lays107 a c x w
def Try.laysGg14_ren : Go.Shelf.Ren := ⟨fun | 14 => 175 | 26 => 199 | 27 => 200 | 28 => 201 | 29 => 202 | 30 => 203 | 31 => 204 | 32 => 205 | 33 => 206 | 34 => 220 | 35 => 221 | 36 => 222 | 37 => 223 | 38 => 224 | 13 => 121 | 39 => 232 | 24 => 158 | 25 => 159 | n => n, fun | 44 => 283 | 3 => 3 | 0 => 0 | 4 => 4 | 54 => 304 | 53 => 303 | 26 => 219 | 58 => 261 | 37 => 279 | 60 => 319 | 41 => 174 | 51 => 33 | 64 => 294 | 66 => 327 | 67 => 311 | 49 => 173 | 5 => 5 | 9 => 9 | n => n, fun | n => n⟩
theorem Try.laysGg14 : Go.Proofs.LaysGg.n14 Try.prog Try.laysGg14_ren := {
  mixed := by kernel_rfl
  f13 := Try.func121.trans (congrArg some (by kernel_rfl))
  f14 := Try.func175.trans (congrArg some (by kernel_rfl))
  f24 := Try.func158.trans (congrArg some (by kernel_rfl))
  f25 := Try.func159.trans (congrArg some (by kernel_rfl))
  f26 := Try.func199.trans (congrArg some (by kernel_rfl))
  f27 := Try.func200.trans (congrArg some (by kernel_rfl))
  f28 := Try.func201.trans (congrArg some (by kernel_rfl))
  f29 := Try.func202.trans (congrArg some (by kernel_rfl))
  f30 := Try.func203.trans (congrArg some (by kernel_rfl))
  f31 := Try.func204.trans (congrArg some (by kernel_rfl))
  f32 := Try.func205.trans (congrArg some (by kernel_rfl))
  f33 := Try.func206.trans (congrArg some (by kernel_rfl))
  f34 := Try.func220.trans (congrArg some (by kernel_rfl))
  f35 := Try.func221.trans (congrArg some (by kernel_rfl))
  f36 := Try.func222.trans (congrArg some (by kernel_rfl))
  f37 := Try.func223.trans (congrArg some (by kernel_rfl))
  f38 := Try.func224.trans (congrArg some (by kernel_rfl))
  f39 := Try.func232.trans (congrArg some (by kernel_rfl))
  t0 := Try.underlying0
  a0 := Try.isAgg0
  z0 := Try.sizeOf0
  v0 := Try.zeroValue0
  i0 := by kernel_rfl
  t3 := Try.underlying3
  a3 := Try.isAgg3
  z3 := Try.sizeOf3
  v3 := Try.zeroValue3
  i3 := by kernel_rfl
  t4 := Try.underlying4
  a4 := Try.isAgg4
  z4 := Try.sizeOf4
  v4 := Try.zeroValue4
  i4 := by kernel_rfl
  t5 := Try.underlying5
  a5 := Try.isAgg5
  z5 := Try.sizeOf5
  v5 := Try.zeroValue5
  i5 := by kernel_rfl
  t9 := Try.underlying9
  a9 := Try.isAgg9
  z9 := Try.sizeOf9
  v9 := Try.zeroValue9
  i9 := by kernel_rfl
  t26 := Try.underlying219
  a26 := Try.isAgg219
  z26 := Try.sizeOf219
  v26 := Try.zeroValue219
  i26 := by kernel_rfl
  t37 := Try.underlying279
  a37 := Try.isAgg279
  z37 := Try.sizeOf279
  v37 := Try.zeroValue279
  i37 := by kernel_rfl
  t41 := Try.underlying174
  a41 := Try.isAgg174
  z41 := Try.sizeOf174
  v41 := Try.zeroValue174
  i41 := by kernel_rfl
  t44 := Try.underlying283
  a44 := Try.isAgg283
  z44 := Try.sizeOf283
  v44 := Try.zeroValue283
  i44 := by kernel_rfl
  t49 := Try.underlying173
  a49 := Try.isAgg173
  z49 := Try.sizeOf173
  v49 := Try.zeroValue173
  i49 := by kernel_rfl
  t51 := Try.underlying33
  a51 := Try.isAgg33
  z51 := Try.sizeOf33
  v51 := Try.zeroValue33
  i51 := by kernel_rfl
  t53 := Try.underlying303
  a53 := Try.isAgg303
  z53 := Try.sizeOf303
  v53 := Try.zeroValue303
  i53 := by kernel_rfl
  t54 := Try.underlying304
  a54 := Try.isAgg304
  z54 := Try.sizeOf304
  v54 := Try.zeroValue304
  i54 := by kernel_rfl
  t58 := Try.underlying261
  a58 := Try.isAgg261
  z58 := Try.sizeOf261
  v58 := Try.zeroValue261
  i58 := by kernel_rfl
  t60 := Try.underlying319
  a60 := Try.isAgg319
  z60 := Try.sizeOf319
  v60 := Try.zeroValue319
  i60 := by kernel_rfl
  t64 := Try.underlying294
  a64 := Try.isAgg294
  z64 := Try.sizeOf294
  v64 := Try.zeroValue294
  i64 := by kernel_rfl
  t66 := Try.underlying327
  a66 := Try.isAgg327
  z66 := Try.sizeOf327
  v66 := Try.zeroValue327
  i66 := by kernel_rfl
  t67 := Try.underlying311
  a67 := Try.isAgg311
  z67 := Try.sizeOf311
  v67 := Try.zeroValue311
  i67 := by kernel_rfl }
def Try.laysGg6_ren : Go.Shelf.Ren := ⟨fun | 6 => 139 | 10 => 172 | 11 => 173 | 12 => 174 | 13 => 121 | 14 => 175 | 24 => 158 | 25 => 159 | 26 => 199 | 27 => 200 | 28 => 201 | 29 => 202 | 30 => 203 | 31 => 204 | 32 => 205 | 33 => 206 | 34 => 220 | 35 => 221 | 36 => 222 | 37 => 223 | 38 => 224 | 39 => 232 | n => n, fun | 20 => 20 | 26 => 219 | 35 => 277 | 0 => 0 | 37 => 279 | 3 => 3 | 41 => 174 | 44 => 283 | 49 => 173 | 51 => 33 | 4 => 4 | 54 => 304 | 53 => 303 | 58 => 261 | 5 => 5 | 9 => 9 | 60 => 319 | 64 => 294 | 66 => 327 | 67 => 311 | 17 => 17 | 32 => 274 | 33 => 275 | 82 => 345 | 12 => 12 | 75 => 338 | 76 => 339 | 77 => 340 | 78 => 341 | 79 => 342 | 80 => 343 | n => n, fun | n => n⟩
theorem Try.laysGg6 : Go.Proofs.LaysGg.n6 Try.prog Try.laysGg6_ren := {
  mixed := by kernel_rfl
  f6 := Try.func139.trans (congrArg some (by kernel_rfl))
  f10 := Try.func172.trans (congrArg some (by kernel_rfl))
  f11 := Try.func173.trans (congrArg some (by kernel_rfl))
  f12 := Try.func174.trans (congrArg some (by kernel_rfl))
  f13 := Try.func121.trans (congrArg some (by kernel_rfl))
  f14 := Try.func175.trans (congrArg some (by kernel_rfl))
  f24 := Try.func158.trans (congrArg some (by kernel_rfl))
  f25 := Try.func159.trans (congrArg some (by kernel_rfl))
  f26 := Try.func199.trans (congrArg some (by kernel_rfl))
  f27 := Try.func200.trans (congrArg some (by kernel_rfl))
  f28 := Try.func201.trans (congrArg some (by kernel_rfl))
  f29 := Try.func202.trans (congrArg some (by kernel_rfl))
  f30 := Try.func203.trans (congrArg some (by kernel_rfl))
  f31 := Try.func204.trans (congrArg some (by kernel_rfl))
  f32 := Try.func205.trans (congrArg some (by kernel_rfl))
  f33 := Try.func206.trans (congrArg some (by kernel_rfl))
  f34 := Try.func220.trans (congrArg some (by kernel_rfl))
  f35 := Try.func221.trans (congrArg some (by kernel_rfl))
  f36 := Try.func222.trans (congrArg some (by kernel_rfl))
  f37 := Try.func223.trans (congrArg some (by kernel_rfl))
  f38 := Try.func224.trans (congrArg some (by kernel_rfl))
  f39 := Try.func232.trans (congrArg some (by kernel_rfl))
  t0 := Try.underlying0
  a0 := Try.isAgg0
  z0 := Try.sizeOf0
  v0 := Try.zeroValue0
  i0 := by kernel_rfl
  t3 := Try.underlying3
  a3 := Try.isAgg3
  z3 := Try.sizeOf3
  v3 := Try.zeroValue3
  i3 := by kernel_rfl
  t4 := Try.underlying4
  a4 := Try.isAgg4
  z4 := Try.sizeOf4
  v4 := Try.zeroValue4
  i4 := by kernel_rfl
  t5 := Try.underlying5
  a5 := Try.isAgg5
  z5 := Try.sizeOf5
  v5 := Try.zeroValue5
  i5 := by kernel_rfl
  t9 := Try.underlying9
  a9 := Try.isAgg9
  z9 := Try.sizeOf9
  v9 := Try.zeroValue9
  i9 := by kernel_rfl
  t12 := Try.underlying12
  a12 := Try.isAgg12
  z12 := Try.sizeOf12
  v12 := Try.zeroValue12
  i12 := by kernel_rfl
  t17 := Try.underlying17
  a17 := Try.isAgg17
  z17 := Try.sizeOf17
  v17 := Try.zeroValue17
  i17 := by kernel_rfl
  t20 := Try.underlying20
  a20 := Try.isAgg20
  z20 := Try.sizeOf20
  v20 := Try.zeroValue20
  i20 := by kernel_rfl
  t26 := Try.underlying219
  a26 := Try.isAgg219
  z26 := Try.sizeOf219
  v26 := Try.zeroValue219
  i26 := by kernel_rfl
  t32 := Try.underlying274
  a32 := Try.isAgg274
  z32 := Try.sizeOf274
  v32 := Try.zeroValue274
  i32 := by kernel_rfl
  t33 := Try.underlying275
  a33 := Try.isAgg275
  z33 := Try.sizeOf275
  v33 := Try.zeroValue275
  i33 := by kernel_rfl
  t35 := Try.underlying277
  a35 := Try.isAgg277
  z35 := Try.sizeOf277
  v35 := Try.zeroValue277
  i35 := by kernel_rfl
  t37 := Try.underlying279
  a37 := Try.isAgg279
  z37 := Try.sizeOf279
  v37 := Try.zeroValue279
  i37 := by kernel_rfl
  t41 := Try.underlying174
  a41 := Try.isAgg174
  z41 := Try.sizeOf174
  v41 := Try.zeroValue174
  i41 := by kernel_rfl
  t44 := Try.underlying283
  a44 := Try.isAgg283
  z44 := Try.sizeOf283
  v44 := Try.zeroValue283
  i44 := by kernel_rfl
  t49 := Try.underlying173
  a49 := Try.isAgg173
  z49 := Try.sizeOf173
  v49 := Try.zeroValue173
  i49 := by kernel_rfl
  t51 := Try.underlying33
  a51 := Try.isAgg33
  z51 := Try.sizeOf33
  v51 := Try.zeroValue33
  i51 := by kernel_rfl
  t53 := Try.underlying303
  a53 := Try.isAgg303
  z53 := Try.sizeOf303
  v53 := Try.zeroValue303
  i53 := by kernel_rfl
  t54 := Try.underlying304
  a54 := Try.isAgg304
  z54 := Try.sizeOf304
  v54 := Try.zeroValue304
  i54 := by kernel_rfl
  t58 := Try.underlying261
  a58 := Try.isAgg261
  z58 := Try.sizeOf261
  v58 := Try.zeroValue261
  i58 := by kernel_rfl
  t60 := Try.underlying319
  a60 := Try.isAgg319
  z60 := Try.sizeOf319
  v60 := Try.zeroValue319
  i60 := by kernel_rfl
  t64 := Try.underlying294
  a64 := Try.isAgg294
  z64 := Try.sizeOf294
  v64 := Try.zeroValue294
  i64 := by kernel_rfl
  t66 := Try.underlying327
  a66 := Try.isAgg327
  z66 := Try.sizeOf327
  v66 := Try.zeroValue327
  i66 := by kernel_rfl
  t67 := Try.underlying311
  a67 := Try.isAgg311
  z67 := Try.sizeOf311
  v67 := Try.zeroValue311
  i67 := by kernel_rfl
  t75 := Try.underlying338
  a75 := Try.isAgg338
  z75 := Try.sizeOf338
  v75 := Try.zeroValue338
  i75 := by kernel_rfl
  t76 := Try.underlying339
  a76 := Try.isAgg339
  z76 := Try.sizeOf339
  v76 := Try.zeroValue339
  i76 := by kernel_rfl
  t77 := Try.underlying340
  a77 := Try.isAgg340
  z77 := Try.sizeOf340
  v77 := Try.zeroValue340
  i77 := by kernel_rfl
  t78 := Try.underlying341
  a78 := Try.isAgg341
  z78 := Try.sizeOf341
  v78 := Try.zeroValue341
  i78 := by kernel_rfl
  t79 := Try.underlying342
  a79 := Try.isAgg342
  z79 := Try.sizeOf342
  v79 := Try.zeroValue342
  i79 := by kernel_rfl
  t80 := Try.underlying343
  a80 := Try.isAgg343
  z80 := Try.sizeOf343
  v80 := Try.zeroValue343
  i80 := by kernel_rfl
  t82 := Try.underlying345
  a82 := Try.isAgg345
  z82 := Try.sizeOf345
  v82 := Try.zeroValue345
  i82 := by kernel_rfl }
end Go.Proofs

namespace Go.Proofs.Ytmljdjakbbedlaa
open Go.ChangeShapes Go.WideShapes Go.ChangeAt Go.RowKit
open Go.Sort (swp size_swp PermIn SortedIn SWO putRowK HoldsK)

variable {α : Type} [Inhabited α] {enc : α → List Value} {k blk off : Nat} {lt : α → α → Bool} {g : Nat} {lb : Array Value} {sf : Nat} {sb : Array Value} {n : Nat} {w w' : World} {d d' : Array α}

/-- From the library's own family of worlds. -/
theorem RowIn.of_sortWorld (h : HoldsK enc k w blk off d) (hlt : blk < w.heap.size) (hs : d'.size = d.size) (hw : ∃ m os, w' = Go.Proofs.sortWorldK enc k w blk off m d' os) : RowIn enc k blk off w d' w' := by
  obtain ⟨m, os, rfl⟩ := hw
  refine ⟨⟨rfl, rfl, rfl, ?_, fun b hb => ?_⟩, Go.Proofs.holdsK_sortWorldK enc k w blk off m d d' os hlt h hs, hlt⟩
  · rw [size_putK]
    unfold Go.Proofs.sortWorldK
    rw [Go.Sort.size_grow, size_putK]
    show w.heap.size ≤ w.heap.size + _
    omega
  · unfold Go.Proofs.sortWorldK
    rw [Go.Sort.heap_grow_old _ _ (by rw [size_putK]; exact hb)]
    rfl

theorem breakPatterns_g (S : Srt Try.prog enc k blk off lt g lb sf sb n w d) (a b : Nat) (hab : a ≤ b) (hb : b ≤ n) :
    Calls Try.prog 201 #[.agg #[.func (.func g) #[] lb, .func (.func sf) #[] sb], .int .i64 a, .int .i64 b] w fun e w' => e = .returned (.tuple #[]) ∧ RowIn enc k blk off w (Go.Sort.breakPatterns d a b) w' := by
  have hp := (Go.Sort.breakPatterns_holds d a b hab (by rw [S.sz]; exact hb)).1
  have h := Go.Proofs.Any.breakPatterns_func_cells_w (P := Try.prog) (ρ := Try.laysGg14_ren) { Try.laysGg14 with } enc k S.hk (.func g) #[] lb sf sb blk off a b d w (by rw [S.sz]; exact S.swap) S.holds S.lt' hab (by rw [S.sz]; exact hb) (by rw [S.sz]; exact S.small)
  exact h.mono fun e w' ⟨he, hw⟩ => ⟨he, RowIn.of_sortWorld S.holds S.lt' hp hw⟩
theorem reverseRange_g (S : Srt Try.prog enc k blk off lt g lb sf sb n w d) (a b : Nat) (hab : a ≤ b) (hb : b ≤ n) :
    Calls Try.prog 203 #[.agg #[.func (.func g) #[] lb, .func (.func sf) #[] sb], .int .i64 a, .int .i64 b] w fun e w' => e = .returned (.tuple #[]) ∧ RowIn enc k blk off w (Go.Sort.reverseRange d a b) w' := by
  have hp := (Go.Sort.reverseRange_holds d a b hab (by rw [S.sz]; exact hb)).1
  have h := Go.Proofs.Any.reverseRange_func_cells_w (P := Try.prog) (ρ := Try.laysGg14_ren) { Try.laysGg14 with } enc k S.hk (.func g) #[] lb sf sb blk off a b d w (by rw [S.sz]; exact S.swap) S.holds S.lt' hab (by rw [S.sz]; exact hb) (by rw [S.sz]; exact S.small)
  exact h.mono fun e w' ⟨he, hw⟩ => ⟨he, RowIn.of_sortWorld S.holds S.lt' hp hw⟩

/-- What sorts a part sorts the whole. -/
def Goes (lt : α → α → Bool) (a b : Nat) (d : Array α) (x y : Nat) (dk : Array α) : Prop := ∀ R, PermIn x y dk R → SortedIn lt x y R → PermIn a b d R ∧ SortedIn lt a b R
theorem Goes.perm {a b x y : Nat} {dk : Array α} (h : Goes lt a b d x y dk) (hp : PermIn x y dk d') : Goes lt a b d x y d' := fun R hR hs => h R (Go.Sort.permIn_trans _ _ _ x y hp hR) hs

def Sorts (enc : α → List Value) (k blk off : Nat) (lt : α → α → Bool) (a b : Nat) (w : World) (d : Array α) (e : Ending) (w' : World) : Prop :=
  e = .returned (.tuple #[]) ∧ ∃ d', PermIn a b d d' ∧ SortedIn lt a b d' ∧ RowIn enc k blk off w d' w'

set_option maxHeartbeats 8000000 in
set_option maxRecDepth 1000000 in
theorem pdqsort_g (hO : SWO lt) : ∀ (N a b limit : Nat) (d : Array α) (w : World), b - a < N → Srt Try.prog enc k blk off lt g lb sf sb n w d → a ≤ b → b ≤ n → limit < 4611686018427387904 → Go.Sort.Below lt a b d →
    Calls Try.prog 175 #[.agg #[.func (.func g) #[] lb, .func (.func sf) #[] sb], .int .i64 a, .int .i64 b, .int .i64 limit] w (Sorts enc k blk off lt a b w d) := by
  intro N
  induction N with
  | zero => intro _ _ _ _ _ h; exact absurd h (Nat.not_lt_zero _)
  | succ N ih =>
    intro a b limit d w hN S hab hb hlimit hBel0
    have IH := Lib.hid ih
    clear ih
    have S1 := S.box (.cells #[.func (.func g) #[] lb, .func (.func sf) #[] sb] 283)
    have eg := S.eg
    have hblk := S.lt'
    have hn := S.small
    have hsd := S.sz
    obtain ⟨post, hpost⟩ : ∃ post : Ending → World → Prop, Sorts enc k blk off lt a b w d = post := ⟨_, rfl⟩
    rw [hpost]
    have HPO := Lib.hid hpost
    clear hpost
    go_enter Try.func175, Try.ntmps175
    go_wp2
    go_loopw [1, 2, 3, 8, 9] (fun s1 s2 s3 s8 s9 wr => ∃ (a' b' lim : Nat) (wb wp : Bool) (dk : Array α), s1 = .int .i64 a' ∧ s2 = .int .i64 b' ∧ s3 = .int .i64 lim ∧ s8 = .bool wb ∧ s9 = .bool wp ∧
      a ≤ a' ∧ a' ≤ b' ∧ b' ≤ b ∧ lim ≤ limit ∧ dk.size = n ∧ Go.Sort.Below lt a' b' dk ∧ RowIn enc k blk off (w.alloc (.cells #[.func (.func g) #[] lb, .func (.func sf) #[] sb] 283)) dk wr ∧ Goes lt a b d a' b' dk) (fun s1 s2 _ _ _ _ => (intOf s2).toNat - (intOf s1).toNat)
    case atStart => exact ⟨a, b, limit, true, true, d, rfl, rfl, rfl, rfl, rfl, Nat.le_refl _, hab, Nat.le_refl _, Nat.le_refl _, hsd, hBel0, S1.start, fun R hR hs => ⟨hR, hs⟩⟩
    case round =>
      obtain ⟨a', b', lim, wb, wp, dk, rfl, rfl, rfl, rfl, rfl, haa, hab', hbb, hlim, hds, hBel, hR, hG⟩ := hrel
      have HG := Lib.hid hG
      have HBel := Lib.hid hBel
      clear hG hBel hBel0
      obtain ⟨c0, c1⟩ := hR.boxed hblk
      by_cases h12 : b' - a' ≤ 12
      · have h12z : (b' : Int) - (a' : Int) ≤ 12 := by omega
        have C := Lib.hid (insertionSort_g (S1.to hR hds) a' b' hab' (by omega))
        go_wp2_with ((with_reducible refine C.out.mono ?_); rintro e w1 ⟨rfl, hR1⟩)
        (try simp only [Exit.inBlock, Exit.then])
        refine bodyPost_ret (results_none rfl _ _ _) rfl ?_
        rw [← HPO.out]
        have hp := Go.Sort.insertionSort_holds hO dk a' b' hab' (by omega)
        obtain ⟨g1, g2⟩ := HG.out _ hp.1 hp.2
        exact ⟨rfl, _, g1, g2, (hR.on hR1 hp.1.1).box hblk⟩
      · have h12z : ¬ ((b' : Int) - (a' : Int) ≤ 12) := by omega
        by_cases hl0 : lim = 0
        · subst hl0
          have C := Lib.hid (heapSort_g (S1.to hR hds) a' b' (by omega) (by omega))
          go_wp2_with ((with_reducible refine C.out.mono ?_); rintro e w1 ⟨rfl, hR1⟩)
          (try simp only [Exit.inBlock, Exit.then])
          refine bodyPost_ret (results_none rfl _ _ _) rfl ?_
          rw [← HPO.out]
          have hp := Go.Sort.heapSort_holds hO dk a' b' hab' (by omega)
          obtain ⟨g1, g2⟩ := HG.out _ hp.1 hp.2
          exact ⟨rfl, _, g1, g2, (hR.on hR1 hp.1.1).box hblk⟩
        · have hl0z : ¬ ((lim : Int) = 0) := by omega
          have hl0y : ((lim : Int) == 0) = false := by simp; omega
          go_upto_if 35 with fail
          go_cut [3] from 19 (fun s3 wc => ∃ (lim' : Nat) (dk' : Array α), s3 = .int .i64 lim' ∧ lim' ≤ lim ∧ dk'.size = n ∧ Hid (PermIn a' b' dk dk') ∧ RowIn enc k blk off (w.alloc (.cells #[.func (.func g) #[] lb, .func (.func sf) #[] sb] 283)) dk' wc)
          case first =>
            cases wb
            · have C := Lib.hid (breakPatterns_g (S1.to hR hds) a' b' hab' (by omega))
              have hp := Go.Sort.breakPatterns_holds dk a' b' hab' (by omega)
              have hps := hp.1
              have HP := Lib.hid hp
              clear hp
              go_wp2_with ((with_reducible refine C.out.mono ?_); rintro e w1 ⟨rfl, hR1⟩)
              go_meet
              case rel => exact ⟨lim - 1, _, by go_num, by omega, by omega, HP.out, hR.on hR1 hps⟩
            · go_wp2_with fail
              go_meet
              case rel => exact ⟨lim, dk, rfl, Nat.le_refl _, hds, Go.Sort.permIn_refl _ _ _, hR⟩
          case rest =>
            obtain ⟨lim1, d1, rfl, hlim1, hs1, HP1, hR1⟩ := hcut
            clear c0 c1 hR
            obtain ⟨c0, c1⟩ := hR1.boxed hblk
            have C := Lib.hid (choosePivot_g (S1.to hR1 hs1) a' b' (by omega) (by omega))
            go_upto_if 50 with ((with_reducible refine C.out.mono ?_); rintro e w2 ⟨p, hc, rfl, hp1, hp2, hh, hb2⟩)
            have hR2 := hR1.step hb2
            clear hb2 c0 c1 hR1 C
            obtain ⟨c0, c1⟩ := hR2.boxed hblk
            go_cut [11, 12] from 19 (fun s11 s12 wc => ∃ (p' hc' : Nat) (dk' : Array α), s11 = .int .i64 p' ∧ s12 = .int .i64 hc' ∧ a' ≤ p' ∧ p' < b' ∧ hc' ≤ 2 ∧ dk'.size = n ∧ Hid (PermIn a' b' dk dk') ∧ RowIn enc k blk off (w.alloc (.cells #[.func (.func g) #[] lb, .func (.func sf) #[] sb] 283)) dk' wc)
            case first =>
              by_cases hh2 : hc = 2
              · subst hh2
                have C := Lib.hid (reverseRange_g (S1.to hR2 hs1) a' b' hab' (by omega))
                have hp := Go.Sort.reverseRange_holds d1 a' b' hab' (by omega)
                have hps := hp.1
                have HP := Lib.hid hp
                clear hp
                go_wp2_with ((with_reducible refine C.out.mono ?_); rintro e w3 ⟨rfl, hR3⟩)
                go_meet
                case rel => exact ⟨b' - 1 - (p - a'), 1, _, by congr 1; omega, rfl, by omega, by omega, by omega, by omega, Go.Sort.permIn_trans _ _ _ a' b' HP1.out HP.out, hR2.on hR3 hps⟩
              · have hh2z : ¬ ((hc : Int) = 2) := by omega
                have hh2y : ((hc : Int) == 2) = false := by simp; omega
                go_wp2_with fail
                go_meet
                case rel => exact ⟨p, hc, d1, rfl, rfl, hp1, hp2, hh, hs1, HP1.out, hR2⟩
            case rest =>
              obtain ⟨pv, hc3, d2, rfl, rfl, hpv1, hpv2, hh3, hs2, HP2, hR3⟩ := hcut
              clear c0 c1 hR2 HP1 hp1 hp2 hh
              obtain ⟨c0, c1⟩ := hR3.boxed hblk
              go_upto_region 16 with fail
              go_cut [68] from 19 (fun s68 wx => (∃ x : Bool, s68 = .bool x) ∧ wx = wc)
              case first =>
                by_cases h1 : hc3 = 1
                · subst h1
                  cases wb <;> cases wp <;>
                    (go_wp2_with fail
                     go_meet
                     exact ⟨⟨_, rfl⟩, rfl⟩)
                · have h1y : ((hc3 : Int) == 1) = false := by simp; omega
                  cases wb <;> cases wp <;>
                    (go_wp2_with fail
                     go_meet
                     exact ⟨⟨_, rfl⟩, rfl⟩)
              case rest =>
                obtain ⟨⟨x68, rfl⟩, rfl⟩ := hcut
                go_upto_if 68 with fail
                go_cut [] from 19 (fun wx => ∃ dk' : Array α, dk'.size = n ∧ Hid (PermIn a' b' dk dk') ∧ RowIn enc k blk off (w.alloc (.cells #[.func (.func g) #[] lb, .func (.func sf) #[] sb] 283)) dk' wx)
                case first =>
                  cases x68
                  · go_wp2_with fail
                    go_meet
                    case rel => exact ⟨d2, hs2, HP2.out, hR3⟩
                  · have C := Lib.hid (partialInsertionSort_g (S1.to hR3 hs2) a' b' (by omega) (by omega))
                    have hB2 := HBel.out.perm (by omega) HP2.out
                    have hq := Go.Sort.partialInsertionSort_holds hO d2 a' b' (by omega) (by omega) hB2
                    have HQ := Lib.hid hq
                    clear hq hB2
                    go_upto_if 72 with ((with_reducible refine C.out.mono ?_); rintro e w4 ⟨d4, fl, hx, rfl, hR4⟩)
                    have hq := HQ.out
                    rw [hx] at hq
                    obtain ⟨q1, q2⟩ := hq
                    simp only [] at q1 q2
                    have hs4 : d4.size = n := by rw [q1.1]; exact hs2
                    have HQ1 := Lib.hid q1
                    have HQ2 := Lib.hid q2
                    clear q1 q2 hx HQ
                    cases fl
                    · go_wp2_with fail
                      go_meet
                      case rel => exact ⟨d4, hs4, Go.Sort.permIn_trans _ _ _ a' b' HP2.out HQ1.out, hR3.on hR4 (by omega)⟩
                    · go_wp2_with fail
                      (try simp only [Exit.inBlock, Exit.then])
                      refine bodyPost_ret (results_none rfl _ _ _) rfl ?_
                      rw [← HPO.out]
                      obtain ⟨g1, g2⟩ := HG.out d4 (Go.Sort.permIn_trans _ _ _ a' b' HP2.out HQ1.out) (HQ2.out (by first | rfl | trivial))
                      exact ⟨rfl, _, g1, g2, (hR3.on hR4 (by omega)).box hblk⟩
                case rest =>
                  obtain ⟨d3, hs3, HP3, hR5⟩ := hcut
                  clear c0 c1 hR3 HP2
                  obtain ⟨c0, c1⟩ := hR5.boxed hblk
                  have HB3 : Hid (Go.Sort.Below lt a' b' d3) := HBel.out.perm (by omega) HP3.out
                  go_upto_region 18 with fail
                  go_cut [83] from 19 (fun s83 wx => s83 = .bool (decide (a' > 0) && !lt d3[a' - 1]! d3[pv]!) ∧ RowIn enc k blk off (w.alloc (.cells #[.func (.func g) #[] lb, .func (.func sf) #[] sb] 283)) d3 wx)
                  case first =>
                    rcases Nat.eq_zero_or_pos a' with ha0 | ha0
                    · have ha0z : decide ((a' : Int) > 0) = false := decide_eq_false (by omega)
                      go_wp2_with fail
                      go_meet
                      case rel => exact ⟨by simp [ha0], hR5⟩
                    · have ha0z : (a' : Int) > 0 := by omega
                      have hl := S1.lessAt hR5 hs3 (a' - 1) pv ((a' : Int) - 1) (pv : Int) (by omega) rfl (by omega) (by omega)
                      cases hlv : lt d3[a' - 1]! d3[pv]!
                      all_goals
                        rw [hlv] at hl
                        go_wp2_with fail
                        go_at_fn g
                        refine hl.mono ?_
                        rintro e w6 ⟨rfl, hb6⟩
                        have hR6 := hR5.step hb6
                        clear hb6
                        go_wp2_with fail
                        go_meet
                        exact ⟨by simp [ha0, hlv], hR6⟩
                  case rest =>
                    obtain ⟨rfl, hR6⟩ := hcut
                    clear c0 c1 hR5
                    obtain ⟨c0, c1⟩ := hR6.boxed hblk
                    cases h87 : (decide (a' > 0) && !lt d3[a' - 1]! d3[pv]!)
                    · have C := Lib.hid (partition_g (S1.to hR6 hs3) a' b' pv hpv1 hpv2 (by omega))
                      go_upto_if 109 with ((with_reducible refine C.out.mono ?_); rintro e w7 ⟨mid, ap, d4, hx, rfl, hR7⟩; obtain ⟨r1, r2, r3, r4, r5, r6, r7⟩ := Go.Sort.round_part hO (Go.Sort.partition_holds lt) hpv1 hpv2 (show b' ≤ d3.size by omega) HB3.out hx; have R3 := Lib.hid r3; have R4 := Lib.hid r4; have R5 := Lib.hid r5; have R6 := Lib.hid r6; have R7 := Lib.hid r7; clear hx r3 r4 r5 r6 r7)
                      have hs4 : d4.size = n := by rw [R3.out]; exact hs3
                      have hR8 := hR6.on hR7 R3.out
                      clear hR7 c0 c1 hR6
                      obtain ⟨c0, c1⟩ := hR8.boxed hblk
                      by_cases h4 : mid - a' < b' - mid
                      · have h4z : (mid : Int) - (a' : Int) < (b' : Int) - (mid : Int) := by omega
                        have CI := Lib.hid (IH.out a' mid lim1 d4 _ (by omega) (S1.to hR8 hs4) (by omega) (by omega) (by omega) R4.out)
                        go_wp2_with ((with_reducible refine CI.out.mono ?_); rintro e w8 ⟨rfl, d5, p5, s5, hR9⟩)
                        go_roundw
                        case measure => simp [intOf] <;> omega
                        case rel =>
                          obtain ⟨x1, x2⟩ := R6.out d5 p5 s5
                          exact ⟨mid + 1, b', lim1, _, ap, d5, by go_num, rfl, rfl, rfl, rfl, by omega, by omega, hbb, by omega, by rw [p5.1]; exact hs4, x1, hR8.on hR9 p5.1, fun R hR hs => (HG.out.perm HP3.out) R (x2 R hR hs).1 (x2 R hR hs).2⟩
                      · have h4z : ¬ ((mid : Int) - (a' : Int) < (b' : Int) - (mid : Int)) := by omega
                        have CI := IH.out (mid + 1) b' lim1 d4 _ (by omega) (S1.to hR8 hs4) (by omega) (by omega) (by omega) R5.out
                        rw [show ((mid + 1 : Nat) : Int) = (mid : Int) + 1 by omega] at CI
                        have CI := Lib.hid CI
                        go_wp2_with ((with_reducible refine CI.out.mono ?_); rintro e w8 ⟨rfl, d5, p5, s5, hR9⟩)
                        go_roundw
                        case measure => simp [intOf] <;> omega
                        case rel =>
                          obtain ⟨x1, x2⟩ := R7.out d5 p5 s5
                          exact ⟨a', mid, lim1, _, ap, d5, rfl, rfl, rfl, rfl, rfl, haa, by omega, by omega, by omega, by rw [p5.1]; exact hs4, x1, hR8.on hR9 p5.1, fun R hR hs => (HG.out.perm HP3.out) R (x2 R hR hs).1 (x2 R hR hs).2⟩
                    · have h87' := h87
                      simp only [Bool.and_eq_true, decide_eq_true_eq, Bool.not_eq_true'] at h87'
                      have C := Lib.hid (partitionEqual_g (S1.to hR6 hs3) a' b' pv hpv1 hpv2 (by omega))
                      go_wp2_with ((with_reducible refine C.out.mono ?_); rintro e w7 ⟨mid, d4, hx, rfl, hR7⟩)
                      obtain ⟨r1, r2, r3, r4, r5⟩ := Go.Sort.round_eq hO (Go.Sort.partitionEqual_holds lt) h87'.1 hpv1 hpv2 (show b' ≤ d3.size by omega) HB3.out h87'.2 hx
                      go_roundw
                      case measure => simp [intOf] <;> omega
                      case rel => exact ⟨mid, b', lim1, wb, wp, d4, rfl, rfl, rfl, rfl, rfl, by omega, r2, hbb, by omega, by rw [r3]; exact hs3, r4, hR6.on hR7 r3, fun R hR hs => (HG.out.perm HP3.out) R (r5 R hR hs).1 (r5 R hR hs).2⟩

end Go.Proofs.Ytmljdjakbbedlaa

namespace Go.Proofs.Ytmljdjakbbedlaa
open Go.ChangeShapes Go.WideShapes Go.ChangeAt Go.RowKit
open Go.Sort (swp size_swp PermIn SortedIn SWO putRowK HoldsK)

noncomputable def tyR : TypeInfo := (Try.prog.info? 26).get (by kernel_rfl)
noncomputable def tyE : TypeInfo := (Try.prog.info? 48).get (by kernel_rfl)
theorem swapK (n : Nat) (h2 : 2 ≤ n) : Lib.swapperK n tyE 25 = 9 := by
  have a : tyE.hasPointers = false := by kernel_rfl
  have b : tyE.bytes = 40 := by kernel_rfl
  have c : (n == 0) = false := by simp; omega
  have d : (n == 1) = false := by simp; omega
  simp [Lib.swapperK, a, b, c, d]

set_option maxRecDepth 100000 in
theorem sortSlice_g (W : World) (blk n c : Nat) (g : Nat) (lb : Array Value) (d : Array OkR) (h2 : 2 ≤ n) (hn : n < 4611686018427387904)
    (eg : ∀ args w, (callFunc g args).run Try.prog w = .ok (.enter g args) w) (hH : HoldsK encR 5 W blk 0 d) (hblk : blk < W.heap.size) (hs : d.size = n)
    (hless : LessG Try.prog g lb encR 5 ltR blk 0 W n) :
    Calls Try.prog 139 #[.iface 26 (.slice (some ⟨blk, 0, none⟩) n c), .func (.func g) #[] lb] W fun e w' => e = .returned (.tuple #[]) ∧ ∃ d', PermIn 0 n d d' ∧ SortedIn ltR 0 n d' ∧ RowIn encR 5 blk 0 W d' w' := by
  refine Go.Proofs.Any.sort_Slice_of_pdq Try.laysGg6 26 48 tyR tyE (by kernel_rfl) (by kernel_rfl) (by kernel_rfl) (by kernel_rfl) 25 (fun _ => by kernel_rfl) (some ⟨blk, 0, none⟩) n c hn 198 (by rw [swapK n h2]; kernel_rfl) (.func g) #[] lb W _ ?_
  unfold Go.Proofs.sliceBound
  rw [swapK n h2]
  have hB : Below W.heap.size W (Go.Proofs.sliceWorld Try.prog Try.laysGg6_ren 26 (some ⟨blk, 0, none⟩) n c W) := by
    unfold Go.Proofs.sliceWorld
    exact ((Below.refl _ _).alloc (Nat.le_refl _) _).alloc (by simp) _
  have S0 : Srt Try.prog encR 5 blk 0 ltR g lb 198 #[.slice (some ⟨blk, 0, none⟩) n c, typeHandle Try.prog 48] n W d :=
    ⟨encR_length, eg, hless, Go.Proofs.swapSwapsK_of_literal false 198 (fun args W => run_callFunc_extern Try.func198 (by kernel_rfl) (by kernel_rfl) (by kernel_rfl) (e := Extern.ReflectliteSwapper.swap false) (by kernel_rfl) args W) 48 tyE (by kernel_rfl) encR 5 encR_length (by kernel_rfl) (fun w => by kernel_rfl) (by intro x v hv; simp [encR, RouteV.cells] at hv; rcases hv with rfl | rfl | rfl | rfl | rfl <;> rfl) blk 0 n c, hH, hblk, hs, hn⟩
  have S1 := S0.to (S0.start.step hB) hs
  have hbl : Lib.bitLen n < 4611686018427387904 := Nat.lt_of_le_of_lt (Lib.bitLen_le n 62 (by omega) (by omega)) (by omega)
  refine (pdqsort_g swo_ltR (n + 1) 0 n (Lib.bitLen n) d _ (by omega) S1 (Nat.zero_le _) (Nat.le_refl _) hbl (Or.inl rfl)).mono ?_
  rintro e w' ⟨rfl, d', hp, hso, hr⟩
  exact ⟨rfl, d', hp, hso, (S0.start.step hB).on hr (hp.1)⟩

/-- What is told of a row that was sorted. -/
def SortedRow (w : World) (base : Nat) (v : Value) (n : Nat) (l : List OkR) (e : Ending) (w' : World) : Prop :=
  e = .returned (.tuple #[]) ∧ ∃ l' : List OkR, l'.Perm l ∧ l'.Pairwise (fun x y => ltR y x = false) ∧ w'.ownsRow base 48 5 v n (l'.flatMap encR) ∧ w.grownBy w' v.ownBlock

theorem RowIn.grown {α : Type} [Inhabited α] {enc : α → List Value} {k blk off : Nat} {w W : World} {d : Array α} (h : RowIn enc k blk off w d W) : w.grownBy W (some blk) :=
  ⟨h.below.os, h.below.tape, h.below.output, h.size, fun b hb hn => h.block hb (fun e => hn (by rw [e]))⟩
theorem perm_list {α : Type} [Inhabited α] {l : List α} {d' : Array α} (h : PermIn 0 l.length l.toArray d') : d'.toList.Perm l := by
  have h3 := h.2.2
  have e1 : (d'.extract 0 l.length).toList = d'.toList := by
    have : d'.size = l.length := by rw [h.1]; simp
    rw [← this]; simp
  have e2 : (l.toArray.extract 0 l.length).toList = l := by simp
  rw [e1, e2] at h3
  exact h3
theorem sorted_list {α : Type} [Inhabited α] {lt : α → α → Bool} {d : Array α} {n : Nat} (hs : d.size = n) (h : SortedIn lt 0 n d) : d.toList.Pairwise (fun x y => lt y x = false) := by
  rw [List.pairwise_iff_getElem]
  intro i j hi hj hij
  have := h i j (Nat.zero_le _) hij (by simpa [hs] using hj)
  rw [getElem!_pos d j (by simpa using hj), getElem!_pos d i (by simpa using hi)] at this
  exact this

set_option maxRecDepth 100000 in
set_option maxHeartbeats 1000000 in
theorem sortRoutes_any {w : World} {base n : Nat} {v : Value} {l : List OkR} (h : w.ownsRow base 48 5 v n (l.flatMap encR)) (hl : l.length = n) (hn : n < 4611686018427387904) :
    Calls Try.prog 92 #[v] w (SortedRow w base v n l) := by
  obtain ⟨A, c, rfl, hcap, _⟩ := own_reads h
  have hB : Below w.heap.size w (w.alloc (.cells #[.slice A n c] 26)) := (Below.refl _ _).alloc (Nat.le_refl _) _
  obtain ⟨post, hpost⟩ : ∃ post : Ending → World → Prop, SortedRow w base (.slice A n c) n l = post := ⟨_, rfl⟩
  rw [hpost]
  have HPO := Lib.hid hpost
  clear hpost
  have H := Lib.hid h
  by_cases h2 : 2 ≤ n
  · obtain ⟨g, rfl⟩ : ∃ g, A = some ⟨g, 0, none⟩ := by
      rcases h.2 with ⟨hv, h0⟩ | ⟨g, cap, cur, hv, _⟩
      · omega
      · injection hv with h0 _ _
        exact ⟨g, h0⟩
    obtain ⟨hH, hg, hbg, _, _⟩ := own_holdsK encR_length h hl
    have hcell : (w.alloc (.cells #[.slice (some ⟨g, 0, none⟩) n c] 26)).cell? ⟨w.heap.size, 0, none⟩ = some (.slice (some ⟨g, 0, none⟩) n c) := by
      have hb := Blk.new w 26 #[.slice (some ⟨g, 0, none⟩) n c]
      exact hb.cell 0
    have hless : LessG Try.prog 140 #[.pointer (some ⟨w.heap.size, 0, none⟩)] encR 5 ltR g 0 (w.alloc (.cells #[.slice (some ⟨g, 0, none⟩) n c] 26)) n := by
      intro W dk hR hs i j hi hj
      exact sortLess_any W g n c w.heap.size dk hR.holds hR.lt' (Nat.lt_of_lt_of_le (by simp) hR.size) hs hn hcap i j hi hj (by rw [hR.cell (by simp) (by omega)]; exact hcell)
    have CS := Lib.hid (sortSlice_g _ g n c 140 #[.pointer (some ⟨w.heap.size, 0, none⟩)] l.toArray h2 hn (enters_of Try.func140 (by kernel_rfl) rfl) (holds_below hH hB hg) (by simp; omega) (by simpa using hl) hless)
    clear hless hcell h
    go_enter Try.func92, Try.ntmps92
    go_wp2_with (go_at_call 139; (with_reducible refine CS.out.mono ?_); rintro e w2 ⟨rfl, d', hp, hso, hr⟩)
    (try go_end0)
    rw [← HPO.out]
    have hr2 := hr.box hg
    have hs' : d'.size = n := by rw [hp.1]; simpa using hl
    exact ⟨rfl, d'.toList, perm_list (by rw [hl]; exact hp), sorted_list hs' hso, hr2.owns encR_length H.out hs', hr2.grown⟩
  · have hk : ∃ f, Try.prog.funcs.findIdx? (·.name == "internal/reflectlite" ++ ".Swapper$" ++ toString (Lib.swapperK n tyE 25)) = some f := by
      rcases (by omega : n = 0 ∨ n = 1) with rfl | rfl
      · exact ⟨190, by kernel_rfl⟩
      · exact ⟨191, by kernel_rfl⟩
    obtain ⟨f, hf⟩ := hk
    have CS : Hid (∀ X : World, Calls Try.prog 139 #[.iface 26 (.slice A n c), .func (.func 140) #[] #[.pointer (some ⟨w.heap.size, 0, none⟩)]] X fun e w' => e = .returned (.tuple #[]) ∧ ∃ os, w' = Go.Sort.grow X os) := (fun (X : World) => Go.Proofs.Any.sort_Slice_tiny Try.laysGg6 26 48 tyR tyE (by kernel_rfl) (by kernel_rfl) (by kernel_rfl) (by kernel_rfl) 25 (fun _ => by kernel_rfl) A n c (by omega) f hf (.func 140) #[] #[.pointer (some ⟨w.heap.size, 0, none⟩)] X)
    clear h hf
    go_enter Try.func92, Try.ntmps92
    go_wp2_with (go_at_call 139; (with_reducible refine (CS.out _).mono ?_); rintro e w2 ⟨rfl, os, rfl⟩)
    (try go_end0)
    rw [← HPO.out]
    have hb : Below w.heap.size w (Go.Sort.grow (w.alloc (.cells #[.slice A n c] 26)) os) := by
      refine hB.trans ⟨rfl, rfl, rfl, by rw [Go.Sort.size_grow]; omega, fun b hb => Go.Sort.heap_grow_old _ _ (by simp; omega)⟩
    have hpw : l.Pairwise (fun x y => ltR y x = false) := by
      match l, hl with
      | [], _ => exact List.Pairwise.nil
      | [x], _ => exact List.pairwise_singleton _ _
      | _ :: _ :: _, hl => simp at hl; omega
    exact ⟨rfl, l, List.Perm.refl _, hpw, own_below H.out hb, ⟨hb.os, hb.tape, hb.output, hb.size, fun b hb' _ => hb.block b hb'⟩⟩

end Go.Proofs.Ytmljdjakbbedlaa

namespace Go.Proofs.Ytmljdjakbbedlaa
open Go.ChangeShapes Go.WideShapes Go.ChangeAt Go.RowKit

/-- What two boxes of four cells read as later on. -/
structure Box44 (w : World) (a b c d e f g h : Value) (w' : World) : Prop where
  below : Below w.heap.size w w'
  size : w.heap.size + 1 < w'.heap.size
  c0 : w'.cell? ⟨w.heap.size, 0, none⟩ = some a
  c1 : w'.cell? ⟨w.heap.size, 1, none⟩ = some b
  c2 : w'.cell? ⟨w.heap.size, 2, none⟩ = some c
  c3 : w'.cell? ⟨w.heap.size, 3, none⟩ = some d
  d0 : w'.cell? ⟨w.heap.size + 1, 0, none⟩ = some e
  d1 : w'.cell? ⟨w.heap.size + 1, 1, none⟩ = some f
  d2 : w'.cell? ⟨w.heap.size + 1, 2, none⟩ = some g
  d3 : w'.cell? ⟨w.heap.size + 1, 3, none⟩ = some h

theorem box44_start (w : World) (a b c d e f g h : Value) (t : TypeId) : Box44 w a b c d e f g h ((w.alloc (.cells #[a, b, c, d] t)).alloc (.cells #[e, f, g, h] t)) := by
  have hb : Below w.heap.size w ((w.alloc (.cells #[a, b, c, d] t)).alloc (.cells #[e, f, g, h] t)) := ((Below.refl _ _).alloc (Nat.le_refl _) _).alloc (by simp) _
  have e0 : ∀ j u, (#[a, b, c, d] : Array Value)[j]? = some u → ((w.alloc (.cells #[a, b, c, d] t)).alloc (.cells #[e, f, g, h] t)).cell? ⟨w.heap.size, j, none⟩ = some u := by
    intro j u hj
    rw [World.cell?_alloc_past _ _ _ (by simp), World.cell?_alloc_at _ _ _ _ rfl]
    exact hj
  have e1 : ∀ j u, (#[e, f, g, h] : Array Value)[j]? = some u → ((w.alloc (.cells #[a, b, c, d] t)).alloc (.cells #[e, f, g, h] t)).cell? ⟨w.heap.size + 1, j, none⟩ = some u := by
    intro j u hj
    rw [World.cell?_alloc_at _ _ _ _ (by simp)]
    exact hj
  exact ⟨hb, by simp, e0 0 a rfl, e0 1 b rfl, e0 2 c rfl, e0 3 d rfl, e1 0 e rfl, e1 1 f rfl, e1 2 g rfl, e1 3 h rfl⟩

theorem Box44.step {w w1 w2 : World} {a b c d e f g h : Value} (x : Box44 w a b c d e f g h w1) (hb : Below w1.heap.size w1 w2) : Box44 w a b c d e f g h w2 :=
  ⟨below_step x.below hb, size_step x.size hb, cell_step hb x.c0, cell_step hb x.c1, cell_step hb x.c2, cell_step hb x.c3, cell_step hb x.d0, cell_step hb x.d1, cell_step hb x.d2, cell_step hb x.d3⟩

def bothE (six : Bool) (hi lo n : Int) (six' : Bool) (hi' lo' n' : Int) : Int :=
  if ¬ chk six hi lo n = 0 then chk six hi lo n else if ¬ chk six' hi' lo' n' = 0 then chk six' hi' lo' n' else if ¬ six = six' then 6 else 0

set_option maxHeartbeats 1600000 in
theorem both_any (six : Bool) (hi lo n : Int) (six' : Bool) (hi' lo' n' : Int) (w : World) (h1 : 0 ≤ hi ∧ hi < 18446744073709551616) (h2 : 0 ≤ lo ∧ lo < 18446744073709551616) (h3 : 0 ≤ hi' ∧ hi' < 18446744073709551616) (h4 : 0 ≤ lo' ∧ lo' < 18446744073709551616) :
    Calls Try.prog 176 #[.agg #[.bool six, .int .u64 hi, .int .u64 lo, .int .i64 n], .agg #[.bool six', .int .u64 hi', .int .u64 lo', .int .i64 n']] w fun e w' => e = .returned (.int .i64 (bothE six hi lo n six' hi' lo' n')) ∧ Below w.heap.size w w' := by
  have c1 := fun w => check_any six hi lo n w h1 h2
  have c2 := fun w => check_any six' hi' lo' n' w h3 h4
  by_cases hz : chk six hi lo n = 0
  · by_cases hz2 : chk six' hi' lo' n' = 0
    · rw [hz] at c1
      rw [hz2] at c2
      by_cases hs : six = six'
      · have hE : bothE six hi lo n six' hi' lo' n' = 0 := by unfold bothE; rw [if_neg (fun h => h hz), if_neg (fun h => h hz2), if_neg (fun h => h hs)]
        rw [hE]
        subst hs
        have C1 := Lib.hid c1
        have C2 := Lib.hid c2
        clear c1 c2 hz hz2 hE
        go_enter Try.func176, Try.ntmps176
        go_wp2_with fail
        refine (C1.out _).mono ?_
        rintro e w1 ⟨rfl, hb⟩
        obtain ⟨b0, b1, c0, c1, c2, c3, d0, d1, d2, d3⟩ := Box44.step (box44_start w _ _ _ _ _ _ _ _ _) hb
        clear hb
        go_wp2_with fail
        refine (C2.out _).mono ?_
        rintro e w2 ⟨rfl, hb⟩
        have bx := Box44.step ⟨b0, b1, c0, c1, c2, c3, d0, d1, d2, d3⟩ hb
        clear b0 b1 c0 c1 c2 c3 d0 d1 d2 d3 hb
        obtain ⟨b0, b1, c0, c1, c2, c3, d0, d1, d2, d3⟩ := bx
        go_wp2
        go_ret
        exact ⟨rfl, b0⟩
      · have hE : bothE six hi lo n six' hi' lo' n' = 6 := by unfold bothE; rw [if_neg (fun h => h hz), if_neg (fun h => h hz2), if_pos hs]
        rw [hE]
        obtain rfl := ne_bool hs
        clear hz hz2 hE hs
        cases six
        · replace c2 : ∀ w, Calls Try.prog 53 #[.agg #[.bool true, .int .u64 hi', .int .u64 lo', .int .i64 n']] w fun e w' => e = .returned (.int .i64 0) ∧ Below w.heap.size w w' := c2
          have C1 := Lib.hid c1
          have C2 := Lib.hid c2
          clear c1 c2
          go_enter Try.func176, Try.ntmps176
          go_wp2_with fail
          refine (C1.out _).mono ?_
          rintro e w1 ⟨rfl, hb⟩
          obtain ⟨b0, b1, c0, c1, c2, c3, d0, d1, d2, d3⟩ := Box44.step (box44_start w _ _ _ _ _ _ _ _ _) hb
          clear hb
          go_wp2_with fail
          refine (C2.out _).mono ?_
          rintro e w2 ⟨rfl, hb⟩
          have bx := Box44.step ⟨b0, b1, c0, c1, c2, c3, d0, d1, d2, d3⟩ hb
          clear b0 b1 c0 c1 c2 c3 d0 d1 d2 d3 hb
          obtain ⟨b0, b1, c0, c1, c2, c3, d0, d1, d2, d3⟩ := bx
          go_wp2
          go_ret
          exact ⟨rfl, b0⟩
        · replace c2 : ∀ w, Calls Try.prog 53 #[.agg #[.bool false, .int .u64 hi', .int .u64 lo', .int .i64 n']] w fun e w' => e = .returned (.int .i64 0) ∧ Below w.heap.size w w' := c2
          have C1 := Lib.hid c1
          have C2 := Lib.hid c2
          clear c1 c2
          go_enter Try.func176, Try.ntmps176
          go_wp2_with fail
          refine (C1.out _).mono ?_
          rintro e w1 ⟨rfl, hb⟩
          obtain ⟨b0, b1, c0, c1, c2, c3, d0, d1, d2, d3⟩ := Box44.step (box44_start w _ _ _ _ _ _ _ _ _) hb
          clear hb
          go_wp2_with fail
          refine (C2.out _).mono ?_
          rintro e w2 ⟨rfl, hb⟩
          have bx := Box44.step ⟨b0, b1, c0, c1, c2, c3, d0, d1, d2, d3⟩ hb
          clear b0 b1 c0 c1 c2 c3 d0 d1 d2 d3 hb
          obtain ⟨b0, b1, c0, c1, c2, c3, d0, d1, d2, d3⟩ := bx
          go_wp2
          go_ret
          exact ⟨rfl, b0⟩
    · have hE : bothE six hi lo n six' hi' lo' n' = chk six' hi' lo' n' := by unfold bothE; rw [if_neg (fun h => h hz), if_pos hz2]
      rw [hE]
      rw [hz] at c1
      generalize chk six' hi' lo' n' = k at *
      have C1 := Lib.hid c1
      have C2 := Lib.hid c2
      have hb1 : (k == 0) = false := by simpa using hz2
      have hb2 : (k != 0) = true := by simpa using hz2
      clear c1 c2 hz hE
      go_enter Try.func176, Try.ntmps176
      go_wp2_with fail
      refine (C1.out _).mono ?_
      rintro e w1 ⟨rfl, hb⟩
      obtain ⟨b0, b1, c0, c1, c2, c3, d0, d1, d2, d3⟩ := Box44.step (box44_start w _ _ _ _ _ _ _ _ _) hb
      clear hb
      go_wp2_with fail
      refine (C2.out _).mono ?_
      rintro e w2 ⟨rfl, hb⟩
      have bx := Box44.step ⟨b0, b1, c0, c1, c2, c3, d0, d1, d2, d3⟩ hb
      clear b0 b1 c0 c1 c2 c3 d0 d1 d2 d3 hb
      obtain ⟨b0, b1, c0, c1, c2, c3, d0, d1, d2, d3⟩ := bx
      go_wp2
      go_ret
      exact ⟨rfl, b0⟩
  · have hE : bothE six hi lo n six' hi' lo' n' = chk six hi lo n := by unfold bothE; rw [if_pos hz]
    rw [hE]
    generalize chk six hi lo n = k at *
    have C1 := Lib.hid c1
    have hb1 : (k == 0) = false := by simpa using hz
    have hb2 : (k != 0) = true := by simpa using hz
    clear c1 c2 hE
    go_enter Try.func176, Try.ntmps176
    go_wp2_with fail
    refine (C1.out _).mono ?_
    rintro e w1 ⟨rfl, hb⟩
    obtain ⟨b0, b1, c0, c1, c2, c3, d0, d1, d2, d3⟩ := Box44.step (box44_start w _ _ _ _ _ _ _ _ _) hb
    clear hb
    go_wp2
    go_ret
    exact ⟨rfl, b0⟩

end Go.Proofs.Ytmljdjakbbedlaa

namespace Go.Proofs.Ytmljdjakbbedlaa
open Go.ChangeShapes Go.WideShapes Go.ChangeAt Go.RowKit

theorem half_bound (l : List Int) (k : Nat) (h : Bits l) (hk : k < 64) : 0 ≤ numL (l.take k) ∧ numL (l.take k) ≤ 9223372036854775807 := by
  have h1 := numL_range (l.take k) (h.take k)
  have h2 : (2 : Int) ^ (l.take k).length ≤ 9223372036854775808 := by
    have : (2 : Nat) ^ (l.take k).length ≤ 2 ^ 63 := Nat.pow_le_pow_right (by omega) (by rw [List.length_take]; omega)
    have e : ((2 ^ (l.take k).length : Nat) : Int) = 2 ^ (l.take k).length := by simp
    rw [← e]
    have : (2 ^ 63 : Nat) = 9223372036854775808 := by decide
    omega
  omega

set_option maxRecDepth 100000 in
set_option maxHeartbeats 1600000 in
theorem addrOf_four (l : List Int) (g cap : Nat) (w : World) (hb : Bits l) (hl : l.length = 32) (hown : ∀ (i : Nat) (b : Int), l[i]? = some b → w.cell? ⟨g, i, none⟩ = some (.int .i64 b)) (hg : g < w.heap.size) :
    Calls Try.prog 98 #[.slice (some ⟨g, 0, none⟩) 32 cap] w fun e w' => e = .returned (.agg #[.bool false, .int .u64 (hiOf false l), .int .u64 (loOf false l)]) ∧ Below w.heap.size w w' := by
  have HB := Lib.hid hb
  have HL := Lib.hid hl
  have HO := Lib.hid hown
  have HE := Lib.hid (show hiOf false l = 0 ∧ loOf false l = numL l from ⟨rfl, rfl⟩)
  obtain ⟨a, ha⟩ : ∃ a, a = hiOf false l := ⟨_, rfl⟩
  obtain ⟨b, hbb⟩ : ∃ b, b = loOf false l := ⟨_, rfl⟩
  rw [← ha, ← hbb]
  rw [← ha, ← hbb] at HE
  clear hb hl hown ha hbb
  go_enter Try.func98, Try.ntmps98
  go_wp2
  go_loopw [12, 4, 5] (fun i _ _ wr => ∃ k : Nat, k ≤ 32 ∧ i = .int .i64 k ∧ wr = (w.alloc (.cells #[.bool false, .int .u64 0, .int .u64 0] 35)).alloc (.cells #[.bool false, .int .u64 0, .int .u64 (numL (l.take k))] 35)) (fun i _ _ _ => 32 - (intOf i).toNat)
  case atStart => exact ⟨0, by omega, rfl, rfl⟩
  case round =>
    obtain ⟨k, hk, rfl, rfl⟩ := hrel
    by_cases hlt : k < 32
    · obtain ⟨x, hx⟩ : ∃ x, l[k]? = some x := ⟨_, List.getElem?_eq_getElem (by rw [HL.out]; exact hlt)⟩
      have hx1 := HB.out x (List.mem_of_getElem? hx)
      have q := HO.out k x hx
      have q2 : ((w.alloc (.cells #[.bool false, .int .u64 0, .int .u64 0] 35)).alloc (.cells #[.bool false, .int .u64 0, .int .u64 (numL (l.take k))] 35)).cell? ⟨g, k, none⟩ = some (.int .i64 x) := by
        rw [World.cell?_alloc_past _ _ _ (by simp; omega), World.cell?_alloc_past _ _ _ (by simpa using hg)]
        exact q
      have hs := half_bound l k HB.out (by omega)
      have e : Hid (numL (l.take (k + 1)) = 2 * numL (l.take k) + x) := by
        show _ = _
        rw [List.take_add_one, hx]
        exact numL_snoc _ _
      clear hx q
      go_wp2
      go_roundw
      case rel => exact ⟨k + 1, by omega, by go_num, by rw [e.out]⟩
      case measure => simp [intOf]; omega
    · obtain rfl : k = 32 := by omega
      have e0 : Hid (l.take 32 = l) := by
        show _ = _
        rw [← HL.out]
        exact List.take_length
      go_wp2
      exact bodyPost_ret (v := .agg #[.bool false, .int .u64 a, .int .u64 b]) (by simp [results, Try.results98, go_sem, HE.out.1, HE.out.2, e0.out]) rfl
        ⟨rfl, ((Below.refl _ _).alloc (Nat.le_refl _) _).alloc (by simp) _⟩

def hiTo (l : List Int) (k : Nat) : Int := numL ((l.take k).take 64)
def loTo (l : List Int) (k : Nat) : Int := numL ((l.take k).drop 64)
theorem hiTo_lt {l : List Int} {k : Nat} {x : Int} (hx : l[k]? = some x) (hk : k < 64) : hiTo l (k + 1) = 2 * hiTo l k + x := by
  unfold hiTo
  rw [List.take_take, List.take_take, show min 64 (k + 1) = k + 1 from by omega, show min 64 k = k from by omega, List.take_add_one, hx]
  exact numL_snoc _ _
theorem hiTo_ge {l : List Int} {k : Nat} (hk : 64 ≤ k) : hiTo l (k + 1) = hiTo l k := by
  unfold hiTo
  rw [List.take_take, List.take_take, show min 64 (k + 1) = 64 from by omega, show min 64 k = 64 from by omega]
theorem loTo_lt {l : List Int} {k : Nat} (hk : k < 64) : loTo l (k + 1) = loTo l k := by
  unfold loTo
  rw [List.drop_eq_nil_of_le (by rw [List.length_take]; omega), List.drop_eq_nil_of_le (by rw [List.length_take]; omega)]
theorem loTo_ge {l : List Int} {k : Nat} {x : Int} (hx : l[k]? = some x) (hk : 64 ≤ k) : loTo l (k + 1) = 2 * loTo l k + x := by
  unfold loTo
  have hl := (List.getElem?_eq_some_iff.1 hx).1
  rw [List.take_add_one, hx, List.drop_append_of_le_length (by rw [List.length_take]; omega)]
  exact numL_snoc _ _
theorem hiTo_bound (l : List Int) (k : Nat) (h : Bits l) (hk : k < 64) : 0 ≤ hiTo l k ∧ hiTo l k ≤ 9223372036854775807 := by
  have := half_bound l k h hk
  unfold hiTo
  rwa [List.take_take, show min 64 k = k from by omega]
theorem loTo_bound (l : List Int) (k : Nat) (h : Bits l) (hk : k < 128) : 0 ≤ loTo l k ∧ loTo l k ≤ 9223372036854775807 := by
  have h1 := numL_range ((l.take k).drop 64) ((h.take k).drop 64)
  have h2 : (2 : Int) ^ ((l.take k).drop 64).length ≤ 9223372036854775808 := by
    have : (2 : Nat) ^ ((l.take k).drop 64).length ≤ 2 ^ 63 := Nat.pow_le_pow_right (by omega) (by rw [List.length_drop, List.length_take]; omega)
    have e : ((2 ^ ((l.take k).drop 64).length : Nat) : Int) = 2 ^ ((l.take k).drop 64).length := by simp
    rw [← e]
    have : (2 ^ 63 : Nat) = 9223372036854775808 := by decide
    omega
  unfold loTo
  omega

set_option maxRecDepth 100000 in
set_option maxHeartbeats 1600000 in
theorem addrOf_six (l : List Int) (g cap : Nat) (w : World) (hb : Bits l) (hl : l.length = 128) (hown : ∀ (i : Nat) (b : Int), l[i]? = some b → w.cell? ⟨g, i, none⟩ = some (.int .i64 b)) (hg : g < w.heap.size) :
    Calls Try.prog 98 #[.slice (some ⟨g, 0, none⟩) 128 cap] w fun e w' => e = .returned (.agg #[.bool true, .int .u64 (hiOf true l), .int .u64 (loOf true l)]) ∧ Below w.heap.size w w' := by
  have HB := Lib.hid hb
  have HL := Lib.hid hl
  have HO := Lib.hid hown
  have HE := Lib.hid (show hiOf true l = hiTo l 128 ∧ loOf true l = loTo l 128 from by
    unfold hiOf loOf hiTo loTo
    rw [← hl, List.take_length]
    exact ⟨rfl, rfl⟩)
  obtain ⟨a, ha⟩ : ∃ a, a = hiOf true l := ⟨_, rfl⟩
  obtain ⟨b, hbb⟩ : ∃ b, b = loOf true l := ⟨_, rfl⟩
  rw [← ha, ← hbb]
  rw [← ha, ← hbb] at HE
  clear hb hl hown ha hbb
  go_enter Try.func98, Try.ntmps98
  go_wp2
  go_loopw [12, 4, 5] (fun i _ _ wr => ∃ k : Nat, k ≤ 128 ∧ i = .int .i64 k ∧ wr = (w.alloc (.cells #[.bool false, .int .u64 0, .int .u64 0] 35)).alloc (.cells #[.bool true, .int .u64 (hiTo l k), .int .u64 (loTo l k)] 35)) (fun i _ _ _ => 128 - (intOf i).toNat)
  case atStart => exact ⟨0, by omega, rfl, rfl⟩
  case round =>
    obtain ⟨k, hk, rfl, rfl⟩ := hrel
    by_cases hlt : k < 128
    · obtain ⟨x, hx⟩ : ∃ x, l[k]? = some x := ⟨_, List.getElem?_eq_getElem (by rw [HL.out]; exact hlt)⟩
      have hx1 := HB.out x (List.mem_of_getElem? hx)
      have q := HO.out k x hx
      have q2 : ((w.alloc (.cells #[.bool false, .int .u64 0, .int .u64 0] 35)).alloc (.cells #[.bool true, .int .u64 (hiTo l k), .int .u64 (loTo l k)] 35)).cell? ⟨g, k, none⟩ = some (.int .i64 x) := by
        rw [World.cell?_alloc_past _ _ _ (by simp; omega), World.cell?_alloc_past _ _ _ (by simpa using hg)]
        exact q
      by_cases h64 : k < 64
      · have hs := hiTo_bound l k HB.out h64
        have e1 := Lib.hid (hiTo_lt hx h64)
        have e2 := Lib.hid (loTo_lt (l := l) h64)
        clear hx q
        go_wp2
        go_roundw
        case rel => exact ⟨k + 1, by omega, by go_num, by rw [e1.out, e2.out]⟩
        case measure => simp [intOf]; omega
      · have hs := loTo_bound l k HB.out hlt
        have e1 := Lib.hid (hiTo_ge (l := l) (k := k) (by omega))
        have e2 := Lib.hid (loTo_ge hx (by omega))
        clear hx q
        go_wp2
        go_roundw
        case rel => exact ⟨k + 1, by omega, by go_num, by rw [e1.out, e2.out]⟩
        case measure => simp [intOf]; omega
    · obtain rfl : k = 128 := by omega
      go_wp2
      exact bodyPost_ret (v := .agg #[.bool true, .int .u64 a, .int .u64 b]) (by simp [results, Try.results98, go_sem, HE.out.1, HE.out.2]) rfl
        ⟨rfl, ((Below.refl _ _).alloc (Nat.le_refl _) _).alloc (by simp) _⟩

/-- addrOf of a row of bits of the call's own, as long as an address of a family. -/
theorem addrOf_any (six : Bool) (l : List Int) (n : Nat) (g cap : Nat) (w : World) (hb : Bits l) (hl : l.length = n) (hn : wideI six = n) (hown : ∀ (i : Nat) (b : Int), l[i]? = some b → w.cell? ⟨g, i, none⟩ = some (.int .i64 b)) (hg : g < w.heap.size) :
    Calls Try.prog 98 #[.slice (some ⟨g, 0, none⟩) n cap] w fun e w' => e = .returned (.agg #[.bool six, .int .u64 (hiOf six l), .int .u64 (loOf six l)]) ∧ Below w.heap.size w w' := by
  cases six
  · have : (32 : Int) = n := hn
    obtain rfl : n = 32 := by omega
    exact addrOf_four l g cap w hb hl hown hg
  · have : (128 : Int) = n := hn
    obtain rfl : n = 128 := by omega
    exact addrOf_six l g cap w hb hl hown hg

end Go.Proofs.Ytmljdjakbbedlaa

namespace Go.Proofs.Ytmljdjakbbedlaa
open Go.ChangeShapes Go.WideShapes Go.ChangeAt Go.RowKit

theorem or_fill (x m : Int) (hx : 0 ≤ x ∧ x < 18446744073709551616) (hm : 0 ≤ m ∧ m < 18446744073709551616) : bits .or .u64 x (bits .xor .u64 IntKind.u64.max m) = (fillN x m : Int) := by
  have e : (2 ^ 64 : Nat) = 18446744073709551616 := by decide
  have hmax : IntKind.u64.max = 18446744073709551615 := rfl
  have hlt : 18446744073709551615 ^^^ m.toNat < 2 ^ 64 := Nat.xor_lt_two_pow (by omega) (by omega)
  rw [hmax, u64_xor _ _ (by omega) (by omega) hm.1 hm.2, show (18446744073709551615 : Int).toNat = 18446744073709551615 from by decide, u64_or x _ hx.1 hx.2 (by omega) (by omega)]
  rfl

theorem and_fill (x m : Int) (hx : 0 ≤ x ∧ x < 18446744073709551616) (hm : 0 ≤ m ∧ m < 18446744073709551616) : bits .and .u64 (bits .or .u64 x (bits .xor .u64 IntKind.u64.max m)) 4294967295 = ((fillN x m % 2 ^ 32 : Nat) : Int) := by
  have e : (2 ^ 64 : Nat) = 18446744073709551616 := by decide
  have hlt := fillN_lt x m hx hm
  rw [or_fill x m hx hm, u64_and _ _ (by omega) (by omega) (by omega) (by omega), show (4294967295 : Int).toNat = 2 ^ 32 - 1 from by decide, Nat.and_two_pow_sub_one_eq_mod]
  simp

end Go.Proofs.Ytmljdjakbbedlaa

namespace Go.Proofs.Ytmljdjakbbedlaa
open Go.ChangeShapes Go.WideShapes Go.ChangeAt Go.RowKit

structure Span1 (w : World) (a b c d : Value) (w' : World) : Prop where
  below : Below w.heap.size w w'
  size : w.heap.size + 1 + 1 < w'.heap.size
  c0 : w'.cell? ⟨w.heap.size, 0, none⟩ = some a
  c1 : w'.cell? ⟨w.heap.size, 1, none⟩ = some b
  c2 : w'.cell? ⟨w.heap.size, 2, none⟩ = some c
  c3 : w'.cell? ⟨w.heap.size, 3, none⟩ = some d
  zA0 : w'.cell? ⟨w.heap.size + 1, 0, none⟩ = some (.bool false)
  zA1 : w'.cell? ⟨w.heap.size + 1, 1, none⟩ = some (.int .u64 0)
  zA2 : w'.cell? ⟨w.heap.size + 1, 2, none⟩ = some (.int .u64 0)
  zB0 : w'.cell? ⟨w.heap.size + 1 + 1, 0, none⟩ = some (.bool false)
  zB1 : w'.cell? ⟨w.heap.size + 1 + 1, 1, none⟩ = some (.int .u64 0)
  zB2 : w'.cell? ⟨w.heap.size + 1 + 1, 2, none⟩ = some (.int .u64 0)
  gA0 : w'.frozen? ⟨w.heap.size + 1, 0, none⟩ = false
  gA1 : w'.frozen? ⟨w.heap.size + 1, 1, none⟩ = false
  gA2 : w'.frozen? ⟨w.heap.size + 1, 2, none⟩ = false
  gB0 : w'.frozen? ⟨w.heap.size + 1 + 1, 0, none⟩ = false
  gB1 : w'.frozen? ⟨w.heap.size + 1 + 1, 1, none⟩ = false
  gB2 : w'.frozen? ⟨w.heap.size + 1 + 1, 2, none⟩ = false

theorem span1_start (w : World) (a b c d : Value) (t t' : TypeId) : Span1 w a b c d (((w.alloc (.cells #[a, b, c, d] t)).alloc (.cells #[.bool false, .int .u64 0, .int .u64 0] t')).alloc (.cells #[.bool false, .int .u64 0, .int .u64 0] t')) := by
  have hb : Below w.heap.size w (((w.alloc (.cells #[a, b, c, d] t)).alloc (.cells #[.bool false, .int .u64 0, .int .u64 0] t')).alloc (.cells #[.bool false, .int .u64 0, .int .u64 0] t')) := (((Below.refl _ _).alloc (Nat.le_refl _) _).alloc (by simp) _).alloc (by simp; omega) _
  have e0 : ∀ j u, (#[a, b, c, d] : Array Value)[j]? = some u → (((w.alloc (.cells #[a, b, c, d] t)).alloc (.cells #[.bool false, .int .u64 0, .int .u64 0] t')).alloc (.cells #[.bool false, .int .u64 0, .int .u64 0] t')).cell? ⟨w.heap.size, j, none⟩ = some u := by
    intro j u hj
    rw [World.cell?_alloc_past _ _ _ (by simp; omega), World.cell?_alloc_past _ _ _ (by simp), World.cell?_alloc_at _ _ _ _ rfl]
    exact hj
  have e1 : ∀ j u, (#[.bool false, .int .u64 0, .int .u64 0] : Array Value)[j]? = some u → (((w.alloc (.cells #[a, b, c, d] t)).alloc (.cells #[.bool false, .int .u64 0, .int .u64 0] t')).alloc (.cells #[.bool false, .int .u64 0, .int .u64 0] t')).cell? ⟨w.heap.size + 1, j, none⟩ = some u := by
    intro j u hj
    rw [World.cell?_alloc_past _ _ _ (by simp), World.cell?_alloc_at _ _ _ _ (by simp)]
    exact hj
  have e2 : ∀ j u, (#[.bool false, .int .u64 0, .int .u64 0] : Array Value)[j]? = some u → (((w.alloc (.cells #[a, b, c, d] t)).alloc (.cells #[.bool false, .int .u64 0, .int .u64 0] t')).alloc (.cells #[.bool false, .int .u64 0, .int .u64 0] t')).cell? ⟨w.heap.size + 1 + 1, j, none⟩ = some u := by
    intro j u hj
    rw [World.cell?_alloc_at _ _ _ _ (by simp)]
    exact hj
  have h1 : (((w.alloc (.cells #[a, b, c, d] t)).alloc (.cells #[.bool false, .int .u64 0, .int .u64 0] t')).alloc (.cells #[.bool false, .int .u64 0, .int .u64 0] t')).heap[w.heap.size + 1]? = some (.cells #[.bool false, .int .u64 0, .int .u64 0] t') := by
    rw [Below.heap_alloc _ _ _ (by simp)]
    have := heap_alloc_new (w.alloc (.cells #[a, b, c, d] t)) (.cells #[.bool false, .int .u64 0, .int .u64 0] t')
    simpa using this
  have h2 : (((w.alloc (.cells #[a, b, c, d] t)).alloc (.cells #[.bool false, .int .u64 0, .int .u64 0] t')).alloc (.cells #[.bool false, .int .u64 0, .int .u64 0] t')).heap[w.heap.size + 1 + 1]? = some (.cells #[.bool false, .int .u64 0, .int .u64 0] t') := by
    have := heap_alloc_new ((w.alloc (.cells #[a, b, c, d] t)).alloc (.cells #[.bool false, .int .u64 0, .int .u64 0] t')) (.cells #[.bool false, .int .u64 0, .int .u64 0] t')
    simpa using this
  have f1 : ∀ j, (((w.alloc (.cells #[a, b, c, d] t)).alloc (.cells #[.bool false, .int .u64 0, .int .u64 0] t')).alloc (.cells #[.bool false, .int .u64 0, .int .u64 0] t')).frozen? ⟨w.heap.size + 1, j, none⟩ = false := by
    intro j
    unfold World.frozen?
    simp only [h1]
    simp
  have f2 : ∀ j, (((w.alloc (.cells #[a, b, c, d] t)).alloc (.cells #[.bool false, .int .u64 0, .int .u64 0] t')).alloc (.cells #[.bool false, .int .u64 0, .int .u64 0] t')).frozen? ⟨w.heap.size + 1 + 1, j, none⟩ = false := by
    intro j
    unfold World.frozen?
    simp only [h2]
    simp
  exact ⟨hb, by simp, e0 0 a rfl, e0 1 b rfl, e0 2 c rfl, e0 3 d rfl, e1 0 _ rfl, e1 1 _ rfl, e1 2 _ rfl, e2 0 _ rfl, e2 1 _ rfl, e2 2 _ rfl, f1 0, f1 1, f1 2, f2 0, f2 1, f2 2⟩

theorem Span1.drew {w w1 : World} {a b c d : Value} (h : Span1 w a b c d w1) : Span1 w a b c d w1.drew := ⟨h.below.drew, h.size, h.c0, h.c1, h.c2, h.c3, h.zA0, h.zA1, h.zA2, h.zB0, h.zB1, h.zB2, h.gA0, h.gA1, h.gA2, h.gB0, h.gB1, h.gB2⟩

theorem Span1.step {w w1 w2 : World} {a b c d : Value} (h : Span1 w a b c d w1) (hb : Below w1.heap.size w1 w2) : Span1 w a b c d w2 := by
  have hs := h.size
  have f : ∀ b j, b ≤ w.heap.size + 1 + 1 → w1.frozen? ⟨b, j, none⟩ = false → w2.frozen? ⟨b, j, none⟩ = false := fun b j hb' hf => (hb.frozen (p := ⟨b, j, none⟩) (by show b < _; omega)).trans hf
  exact ⟨below_step h.below hb, size_step h.size hb, cell_step hb h.c0, cell_step hb h.c1, cell_step hb h.c2, cell_step hb h.c3, cell_step hb h.zA0, cell_step hb h.zA1, cell_step hb h.zA2, cell_step hb h.zB0, cell_step hb h.zB1, cell_step hb h.zB2,
    f _ 0 (by omega) h.gA0, f _ 1 (by omega) h.gA1, f _ 2 (by omega) h.gA2, f _ 0 (by omega) h.gB0, f _ 1 (by omega) h.gB1, f _ 2 (by omega) h.gB2⟩


theorem box33 {w w2 : World} {a b c d e f : Value} {t t' : TypeId} (hb : Below ((w.alloc (.cells #[a, b, c] t)).alloc (.cells #[d, e, f] t')).heap.size ((w.alloc (.cells #[a, b, c] t)).alloc (.cells #[d, e, f] t')) w2) :
    Below w.heap.size w w2 ∧ (w2.cell? ⟨w.heap.size, 0, none⟩ = some a ∧ w2.cell? ⟨w.heap.size, 1, none⟩ = some b ∧ w2.cell? ⟨w.heap.size, 2, none⟩ = some c) ∧
      (w2.cell? ⟨w.heap.size + 1, 0, none⟩ = some d ∧ w2.cell? ⟨w.heap.size + 1, 1, none⟩ = some e ∧ w2.cell? ⟨w.heap.size + 1, 2, none⟩ = some f) ∧ w.heap.size + 1 < w2.heap.size := by
  have e0 : ∀ j u, (#[a, b, c] : Array Value)[j]? = some u → ((w.alloc (.cells #[a, b, c] t)).alloc (.cells #[d, e, f] t')).cell? ⟨w.heap.size, j, none⟩ = some u := by
    intro j u hj
    rw [World.cell?_alloc_past _ _ _ (by simp), World.cell?_alloc_at _ _ _ _ rfl]
    exact hj
  have e1 : ∀ j u, (#[d, e, f] : Array Value)[j]? = some u → ((w.alloc (.cells #[a, b, c] t)).alloc (.cells #[d, e, f] t')).cell? ⟨w.heap.size + 1, j, none⟩ = some u := by
    intro j u hj
    rw [World.cell?_alloc_at _ _ _ _ (by simp)]
    exact hj
  have hs := hb.size
  simp at hs
  exact ⟨below_step (((Below.refl _ _).alloc (Nat.le_refl _) _).alloc (by simp) _) hb, ⟨cell_step hb (e0 0 a rfl), cell_step hb (e0 1 b rfl), cell_step hb (e0 2 c rfl)⟩, ⟨cell_step hb (e1 0 d rfl), cell_step hb (e1 1 e rfl), cell_step hb (e1 2 f rfl)⟩, by omega⟩

end Go.Proofs.Ytmljdjakbbedlaa

namespace Go.Proofs.Ytmljdjakbbedlaa
open Go.ChangeShapes Go.WideShapes Go.ChangeAt Go.RowKit

theorem Span1.stepB {w w1 w2 : World} {a b c d : Value} {B : Nat} (h : Span1 w a b c d w1) (hb : Below B w1 w2) (hB : w.heap.size + 1 + 1 < B) : Span1 w a b c d w2 := by
  have f : ∀ b j, b ≤ w.heap.size + 1 + 1 → w1.frozen? ⟨b, j, none⟩ = false → w2.frozen? ⟨b, j, none⟩ = false := fun b j hb' hf => (hb.frozen (p := ⟨b, j, none⟩) (by show b < _; omega)).trans hf
  have g : ∀ b j v, b ≤ w.heap.size + 1 + 1 → w1.cell? ⟨b, j, none⟩ = some v → w2.cell? ⟨b, j, none⟩ = some v := fun b j v hb' hf => (hb.cell (p := ⟨b, j, none⟩) (by show b < _; omega)).trans hf
  have hs := hb.size
  have h1 := h.size
  exact ⟨h.below.trans (hb.mono (by omega)), by omega, g _ _ _ (by omega) h.c0, g _ _ _ (by omega) h.c1, g _ _ _ (by omega) h.c2, g _ _ _ (by omega) h.c3, g _ _ _ (by omega) h.zA0, g _ _ _ (by omega) h.zA1, g _ _ _ (by omega) h.zA2, g _ _ _ (by omega) h.zB0, g _ _ _ (by omega) h.zB1, g _ _ _ (by omega) h.zB2,
    f _ 0 (by omega) h.gA0, f _ 1 (by omega) h.gA1, f _ 2 (by omega) h.gA2, f _ 0 (by omega) h.gB0, f _ 1 (by omega) h.gB1, f _ 2 (by omega) h.gB2⟩

theorem own_lt {w : World} {base g n cap : Nat} {e : TypeId} {size : Nat} {xs : List Value} (h : w.ownsRow base e size (.slice (some ⟨g, 0, none⟩) n cap) n xs) (hpos : 0 < n) : g < w.heap.size := by
  obtain ⟨g', c', e1, _, e2⟩ := h.form hpos
  simp at e1
  obtain ⟨rfl, _⟩ := e1
  exact e2

def lastTo (six : Bool) (hi lo : Int) (m n k : Nat) : List Int := (List.range m).map fun (j : Nat) => if j < n then bitI six hi lo j else if j < n + k then 1 else bitI six hi lo j
theorem lastTo_zero {six : Bool} {hi lo : Int} {m n : Nat} (hm : wideI six = m) : lastTo six hi lo m n 0 = bitsL six hi lo := by
  unfold lastTo bitsL
  rw [hm]
  apply List.map_congr_left
  intro j _
  split
  · rfl
  · rw [if_neg (by omega)]
theorem lastTo_end {six : Bool} {hi lo : Int} {m n k : Nat} (hm : wideI six = m) (hk : n + k = m) : lastTo six hi lo m n k = lastL six hi lo n := by
  unfold lastTo lastL
  rw [hm]
  apply List.map_congr_left
  intro j hj
  have : j < m := by simpa using hj
  by_cases h : j < n
  · rw [if_pos h, if_pos (by omega)]
  · rw [if_neg h, if_pos (show j < n + k by omega), if_neg (by omega)]
theorem lastTo_set {six : Bool} {hi lo : Int} {m n k : Nat} (hk : n + k < m) : (lastTo six hi lo m n k).set (n + k) 1 = lastTo six hi lo m n (k + 1) := by
  apply List.ext_getElem?
  intro j
  unfold lastTo
  rw [List.getElem?_set]
  by_cases h : n + k = j
  · subst h
    rw [if_pos rfl, if_pos (by simpa using hk), List.getElem?_map, List.getElem?_range hk]
    simp only [Option.map_some, Option.some.injEq]
    rw [if_neg (by omega), if_pos (by omega)]
  · rw [if_neg h, List.getElem?_map, List.getElem?_map]
    rcases Nat.lt_or_ge j m with hj | hj
    · rw [List.getElem?_range hj]
      simp only [Option.map_some, Option.some.injEq]
      by_cases h1 : j < n
      · rw [if_pos h1, if_pos h1]
      · rw [if_neg h1, if_neg h1]
        by_cases h2 : j < n + k
        · rw [if_pos h2, if_pos (by omega)]
        · rw [if_neg h2, if_neg (by omega)]
    · rw [List.getElem?_eq_none (by simpa using hj)]
      rfl

end Go.Proofs.Ytmljdjakbbedlaa

namespace Go.Proofs.Ytmljdjakbbedlaa
open Go.ChangeShapes Go.WideShapes Go.ChangeAt Go.RowKit

set_option maxHeartbeats 1600000 in
theorem over_any (six : Bool) (hi lo n : Int) (six' : Bool) (hi' lo' n' : Int) (w : World) (h3 : 0 ≤ hi' ∧ hi' < 18446744073709551616) (h4 : 0 ≤ lo' ∧ lo' < 18446744073709551616) (h5 : six' = false → lo' < 4294967296) (h6 : -500 ≤ n) (h7 : n ≤ 500) :
    Calls Try.prog 46 #[.agg #[.bool six, .int .u64 hi, .int .u64 lo, .int .i64 n], .agg #[.bool six', .int .u64 hi', .int .u64 lo', .int .i64 n']] w fun e w' => e = .returned (.bool (overB six hi lo n six' hi' lo' n')) ∧ Below w.heap.size w w' := by
  have HQ := Lib.hid h5
  clear h5
  by_cases hn : n ≤ n'
  · have hE : overB six hi lo n six' hi' lo' n' = inB six hi lo n six' hi' lo' := by unfold overB; simp [hn]
    rw [hE]
    clear hE
    go_enter Try.func46, Try.ntmps46
    go_wp2_with fail
    refine (in_any six hi lo n six' hi' lo' _ h3 h4 HQ.out h6 h7).mono ?_
    rintro e w1 ⟨rfl, hb⟩
    obtain ⟨b0, b1, c0, c1, c2, c3, d0, d1, d2, d3⟩ := Box44.step (box44_start w _ _ _ _ _ _ _ _ _) hb
    clear hb
    go_wp2
    go_ret
    exact ⟨rfl, b0⟩
  · have hE : overB six hi lo n six' hi' lo' n' = false := by unfold overB; simp [hn]
    rw [hE]
    clear hE
    go_enter Try.func46, Try.ntmps46
    go_wp2
    go_ret
    exact ⟨rfl, ((Below.refl _ _).alloc (Nat.le_refl _) _).alloc (by simp) _⟩

def covB (six : Bool) (hi lo n : Int) (six' : Bool) (hi' lo' n' : Int) : Bool :=
  if ¬ bothE six hi lo n six' hi' lo' n' = 0 then false else overB six hi lo n six' hi' lo' n'

theorem both_zero {six : Bool} {hi lo n : Int} {six' : Bool} {hi' lo' n' : Int} (h1 : 0 ≤ hi ∧ hi < 18446744073709551616) (h2 : 0 ≤ lo ∧ lo < 18446744073709551616) (h3 : 0 ≤ hi' ∧ hi' < 18446744073709551616) (h4 : 0 ≤ lo' ∧ lo' < 18446744073709551616)
    (h : bothE six hi lo n six' hi' lo' n' = 0) : Pfx six hi lo n ∧ Pfx six' hi' lo' n' ∧ six = six' ∧ chk six' hi' lo' n' = 0 := by
  unfold bothE at h
  by_cases hz : chk six hi lo n = 0
  · rw [if_neg (fun x => x hz)] at h
    by_cases hz2 : chk six' hi' lo' n' = 0
    · rw [if_neg (fun x => x hz2)] at h
      by_cases hs : six = six'
      · exact ⟨chk_zero h1 h2 hz, chk_zero h3 h4 hz2, hs, hz2⟩
      · rw [if_pos hs] at h; omega
    · rw [if_pos hz2] at h; omega
  · rw [if_pos hz] at h; omega

end Go.Proofs.Ytmljdjakbbedlaa
