
/-
  Proved here: the contracts of addr.Wide, addr.At, addr.Bit and of the reference's bitsOf and AddrBit, over every address.
-/
import Derived.Test.YtonelibgaceflaaMay
import Derived.Test.YtonelibgaceflaaMem
import Derived.Test.YtonelibgaceflaaBits
namespace Go.Proofs.Ytonelibgaceflaa
open Go.ChangeShapes Go.WideShapes Go.ChangeAt Go.RowKit

theorem wide_any (six : Bool) (w : World) : Calls Try.prog 150 #[.bool six] w fun e w' => e = .returned (.int .i64 (wideI six)) ∧ w = w' := by
  cases six <;>
  · go_enter Try.func150, Try.ntmps150
    go_wp2
    go_ret
    exact ⟨rfl, rfl⟩

set_option maxHeartbeats 800000 in
theorem at_any (six : Bool) (hi lo i : Int) (w : World) (h1 : 0 ≤ hi ∧ hi < 18446744073709551616) (h2 : 0 ≤ lo ∧ lo < 18446744073709551616) (h3 : 0 ≤ i) (h4 : i < wideI six) :
    Calls Try.prog 165 #[.agg #[.bool six, .int .u64 hi, .int .u64 lo], .int .i64 i] w fun e w' => e = .returned (.int .i64 (bitI six hi lo i)) ∧ Below w.heap.size w w' := by
  cases six
  · have h5 : i < 32 := h4
    clear h4
    go_enter Try.func165, Try.ntmps165
    go_wp2
    go_ret
    exact ⟨ret_int (by rw [bit_wrap _ _ h2.1 h2.2]; simp [bitI]), (Below.refl _ _).alloc (Nat.le_refl _) _⟩
  · have h5 : i < 128 := h4
    clear h4
    by_cases h6 : i < 64
    · go_enter Try.func165, Try.ntmps165
      go_wp2
      go_ret
      exact ⟨ret_int (by rw [bit_wrap _ _ h1.1 h1.2]; simp [bitI, h6]), (Below.refl _ _).alloc (Nat.le_refl _) _⟩
    · go_enter Try.func165, Try.ntmps165
      go_wp2
      go_ret
      exact ⟨ret_int (by rw [bit_wrap _ _ h2.1 h2.2]; unfold bitI; rw [if_pos rfl, if_neg (by omega)]), (Below.refl _ _).alloc (Nat.le_refl _) _⟩

theorem infoInt : (Try.prog.info? 3).map (fun i => (i.zero, i.size, i.bytes)) = some (some (.int .i64 0), 1, 8) := by kernel_rfl

def bitsTo (f : Nat → Int) (k : Nat) : List Value := (List.range k).map fun j => Value.int .i64 (f j)
theorem bitsTo_succ (f : Nat → Int) (k : Nat) : bitsTo f (k + 1) = bitsTo f k ++ [Value.int .i64 (f k)] := by simp [bitsTo, List.range_succ]

theorem bits_four_eq (hi lo : Int) : (bitsL false hi lo).map (Value.int .i64) = bitsTo (fun j => lo / 2 ^ (31 - j) % 2) 32 := by
  unfold bitsL bitsTo
  rw [List.map_map]
  apply List.map_congr_left
  intro j hj
  have : j < 32 := by simpa [wideI] using hj
  show Value.int .i64 (bitI false hi lo j) = _
  unfold bitI
  rw [if_neg (by simp), show (31 - (j : Int)).toNat = 31 - j from by omega]

theorem bits_six_eq (hi lo : Int) : (bitsL true hi lo).map (Value.int .i64) = bitsTo (fun j => hi / 2 ^ (63 - j) % 2) 64 ++ bitsTo (fun j => lo / 2 ^ (63 - j) % 2) 64 := by
  have e : ∀ f : Nat → Int, bitsTo f 128 = bitsTo f 64 ++ bitsTo (fun j => f (64 + j)) 64 := by
    intro f
    unfold bitsTo
    rw [show (128 : Nat) = 64 + 64 from rfl, List.range_add, List.map_append, List.map_map]
    rfl
  have h1 : (bitsL true hi lo).map (Value.int .i64) = bitsTo (fun j => bitI true hi lo j) 128 := by
    unfold bitsL bitsTo
    rw [List.map_map]
    rfl
  rw [h1, e]
  refine congr (congrArg _ ?_) ?_
  · unfold bitsTo
    apply List.map_congr_left
    intro j hj
    have : j < 64 := by simpa using hj
    show Value.int .i64 (bitI true hi lo j) = _
    unfold bitI
    rw [if_pos rfl, if_pos (by omega), show (63 - (j : Int)).toNat = 63 - j from by omega]
  · unfold bitsTo
    apply List.map_congr_left
    intro j hj
    have : j < 64 := by simpa using hj
    show Value.int .i64 (bitI true hi lo ((64 + j : Nat) : Int)) = _
    unfold bitI
    rw [if_pos rfl, if_neg (by omega), show (127 - ((64 + j : Nat) : Int)).toNat = 63 - j from by omega]

def OwnBits (six : Bool) (hi lo : Int) (w : World) (e : Ending) (w' : World) : Prop :=
  ∃ v, e = .returned v ∧ w'.ownsRow (w.heap.size + 1) 3 1 v (wideI six).toNat ((bitsL six hi lo).map (Value.int .i64)) ∧ Below w.heap.size w w' ∧ w.heap.size < w'.heap.size

set_option maxHeartbeats 1000000 in
theorem bitsOf_four (hi lo : Int) (w : World) (h2 : 0 ≤ lo ∧ lo < 18446744073709551616) :
    Calls Try.prog 159 #[.agg #[.bool false, .int .u64 hi, .int .u64 lo]] w (OwnBits false hi lo w) := by
  go_enter Try.func159, Try.ntmps159
  go_wp2
  go_loopw [3, 6] (fun v i wr => ∃ k : Nat, k ≤ 32 ∧ i = .int .i64 (31 - k) ∧ wr.ownsRow (w.heap.size + 1) 3 1 v k (bitsTo (fun j => lo / 2 ^ (31 - j) % 2) k) ∧ Below (w.heap.size + 1) (w.alloc (.cells #[.bool false, .int .u64 hi, .int .u64 lo] 24)) wr)
    (fun _ i _ => (intOf i + 1).toNat)
  case atStart => exact ⟨0, by omega, rfl, World.ownsRow_nil _ _ _ _, Below.refl _ _⟩
  case round =>
    obtain ⟨k, hk, rfl, hown, hb⟩ := hrel
    have hc : wr.cell? ⟨w.heap.size, 2, none⟩ = some (.int .u64 lo) := box_cell (cs := [.bool false, .int .u64 hi, .int .u64 lo]) hb 2
    have hs := hb.size
    simp at hs
    by_cases hlt : k < 32
    · have hk1 : (0 : Int) ≤ 31 - (k : Int) := by omega
      go_wp2_with (at_builtin; go_loud (refine wpList_append_one rfl _ _ 44 rfl (w.heap.size + 1) (.int .i64 0) 1 8 Try.underlying44 infoInt rfl (by decide) _ _ _ rfl hown ?c1 rfl ?c2 rfl ?c3 ?c4 ?_))
      case c1 => omega
      case c2 => intro u hu; simp at hu; subst hu; rfl
      case c3 => unfold maxLen; omega
      case c4 => omega
      intro v' w' hown' hb' _
      have R : w'.ownsRow (w.heap.size + 1) 3 1 v' (k + 1) (bitsTo (fun j => lo / 2 ^ (31 - j) % 2) (k + 1)) := by
        rw [bitsTo_succ, ← bit_wrap _ _ h2.1 h2.2]
        exact hown'
      have B := hb.trans hb'
      clear hown' hb' hown hb hc
      go_wp2
      go_roundw
      case rel => exact ⟨k + 1, by omega, by go_num, R, B⟩
      case measure => simp [intOf]; omega
    · obtain rfl : k = 32 := by omega
      go_wp2
      go_ret
      exact ⟨_, rfl, by rw [bits_four_eq]; exact hown, below_box hb, by omega⟩

set_option maxHeartbeats 1000000 in
theorem bitsOf_six (hi lo : Int) (w : World) (h1 : 0 ≤ hi ∧ hi < 18446744073709551616) (h2 : 0 ≤ lo ∧ lo < 18446744073709551616) :
    Calls Try.prog 159 #[.agg #[.bool true, .int .u64 hi, .int .u64 lo]] w (OwnBits true hi lo w) := by
  go_enter Try.func159, Try.ntmps159
  go_wp2
  go_loopw [3, 4] (fun v i wr => ∃ k : Nat, k ≤ 64 ∧ i = .int .i64 (63 - k) ∧ wr.ownsRow (w.heap.size + 1) 3 1 v k (bitsTo (fun j => hi / 2 ^ (63 - j) % 2) k) ∧ Below (w.heap.size + 1) (w.alloc (.cells #[.bool true, .int .u64 hi, .int .u64 lo] 24)) wr)
    (fun _ i _ => (intOf i + 1).toNat)
  case atStart => exact ⟨0, by omega, rfl, World.ownsRow_nil _ _ _ _, Below.refl _ _⟩
  case round =>
    obtain ⟨k, hk, rfl, hown, hb⟩ := hrel
    have hc : wr.cell? ⟨w.heap.size, 1, none⟩ = some (.int .u64 hi) := box_cell (cs := [.bool true, .int .u64 hi, .int .u64 lo]) hb 1
    have hs := hb.size
    simp at hs
    by_cases hlt : k < 64
    · have hk1 : (0 : Int) ≤ 63 - (k : Int) := by omega
      go_wp2_with (at_builtin; go_loud (refine wpList_append_one rfl _ _ 44 rfl (w.heap.size + 1) (.int .i64 0) 1 8 Try.underlying44 infoInt rfl (by decide) _ _ _ rfl hown ?c1 rfl ?c2 rfl ?c3 ?c4 ?_))
      case c1 => omega
      case c2 => intro u hu; simp at hu; subst hu; rfl
      case c3 => unfold maxLen; omega
      case c4 => omega
      intro v' w' hown' hb' _
      have R : w'.ownsRow (w.heap.size + 1) 3 1 v' (k + 1) (bitsTo (fun j => hi / 2 ^ (63 - j) % 2) (k + 1)) := by
        rw [bitsTo_succ, ← bit_wrap _ _ h1.1 h1.2]
        exact hown'
      have B := hb.trans hb'
      clear hown' hb' hown hb hc
      go_wp2
      go_roundw
      case rel => exact ⟨k + 1, by omega, by go_num, R, B⟩
      case measure => simp [intOf]; omega
    · obtain rfl : k = 64 := by omega
      clear hc hs
      go_wp2
      obtain ⟨wo, rfl⟩ : ∃ wo : World, wo = wr := ⟨_, rfl⟩
      go_loopw [3, 5] (fun v i wr => ∃ k : Nat, k ≤ 64 ∧ i = .int .i64 (63 - k) ∧ wr.ownsRow (w.heap.size + 1) 3 1 v (64 + k) (bitsTo (fun j => hi / 2 ^ (63 - j) % 2) 64 ++ bitsTo (fun j => lo / 2 ^ (63 - j) % 2) k) ∧ Below (w.heap.size + 1) (w.alloc (.cells #[.bool true, .int .u64 hi, .int .u64 lo] 24)) wr)
        (fun _ i _ => (intOf i + 1).toNat)
      case atStart => exact ⟨0, by omega, rfl, by simpa [bitsTo] using hown, hb⟩
      case round =>
        obtain ⟨k, hk, rfl, hown, hb⟩ := hrel
        have hc : wr.cell? ⟨w.heap.size, 2, none⟩ = some (.int .u64 lo) := box_cell (cs := [.bool true, .int .u64 hi, .int .u64 lo]) hb 2
        have hs := hb.size
        simp at hs
        by_cases hlt : k < 64
        · have hk1 : (0 : Int) ≤ 63 - (k : Int) := by omega
          go_wp2_with (at_builtin; go_loud (refine wpList_append_one rfl _ _ 44 rfl (w.heap.size + 1) (.int .i64 0) 1 8 Try.underlying44 infoInt rfl (by decide) _ _ _ rfl hown ?c1 rfl ?c2 rfl ?c3 ?c4 ?_))
          case c1 => omega
          case c2 => intro u hu; simp at hu; subst hu; rfl
          case c3 => unfold maxLen; omega
          case c4 => omega
          intro v' w' hown' hb' _
          have R : w'.ownsRow (w.heap.size + 1) 3 1 v' (64 + (k + 1)) (bitsTo (fun j => hi / 2 ^ (63 - j) % 2) 64 ++ bitsTo (fun j => lo / 2 ^ (63 - j) % 2) (k + 1)) := by
            rw [bitsTo_succ _ k, ← bit_wrap _ _ h2.1 h2.2]
            exact hown'
          have B := hb.trans hb'
          clear hown' hb' hown hb hc
          go_wp2
          go_roundw
          case rel => first | exact ⟨k + 1, by omega, by go_num, R, B⟩ | ((repeat apply Exists.intro); exact ⟨⟨k + 1, by omega, by go_num, R, B⟩, rfl⟩)
          case measure => simp [intOf]; omega
        · obtain rfl : k = 64 := by omega
          go_wp2
          go_ret
          exact ⟨_, rfl, by rw [bits_six_eq]; exact hown, below_box hb, by omega⟩

theorem bitsOf_any (six : Bool) (hi lo : Int) (w : World) (h1 : 0 ≤ hi ∧ hi < 18446744073709551616) (h2 : 0 ≤ lo ∧ lo < 18446744073709551616) :
    Calls Try.prog 159 #[.agg #[.bool six, .int .u64 hi, .int .u64 lo]] w (OwnBits six hi lo w) := by
  cases six
  · exact bitsOf_four hi lo w h2
  · exact bitsOf_six hi lo w h1 h2
end Go.Proofs.Ytonelibgaceflaa
