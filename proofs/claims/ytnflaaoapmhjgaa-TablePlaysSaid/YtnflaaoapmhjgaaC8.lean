/-
  
-/
import Derived.Test.YtnflaaoapmhjgaaC7
namespace Go.Proofs.Ytnflaaoapmhjgaa
open Go.ChangeShapes Go.WideShapes Go.ChangeAt Go.RowKit

def outA (n : Nat) (l : List ActV) : List AnsV := if 100 < n then [] else ansL l []
def outC (n : Nat) : Int := if 100 < n then 1 else 0
theorem playedT_uni {w w' : World} {n : Nat} {l : List ActV} {e : Ending} (h : PlayedT w n l e w') : ∃ p v, e = .returned (.tuple #[p, v, .int .i64 (outC n)]) ∧ OwnAs w' w.heap.size v (outA n l) ∧ Below w.heap.size w w' := by
  unfold outA outC
  by_cases hn : 100 < n
  · rw [if_pos hn, if_pos hn]
    obtain ⟨h1, h2⟩ := h.1 hn
    exact ⟨_, _, h1, World.ownsRow_nil _ _ _ _, h2⟩
  · rw [if_neg hn, if_neg hn]
    obtain ⟨tb, v, h1, _, h3, h4⟩ := h.2 hn
    exact ⟨_, v, h1, h3, h4⟩
theorem playedR_uni {w w' : World} {n : Nat} {l : List ActV} {e : Ending} (h : PlayedR w n l e w') : ∃ v u, e = .returned (.tuple #[v, u, .int .i64 (outC n)]) ∧ OwnAs w' w.heap.size v (outA n l) ∧ Below w.heap.size w w' := by
  unfold outA outC
  by_cases hn : 100 < n
  · rw [if_pos hn, if_pos hn]
    obtain ⟨h1, h2⟩ := h.1 hn
    exact ⟨_, _, h1, World.ownsRow_nil _ _ _ _, h2⟩
  · rw [if_neg hn, if_neg hn]
    obtain ⟨v6, v5, S, h1, h2, _, _, _, h4⟩ := h.2 hn
    exact ⟨v6, v5, h1, h2, h4⟩
def PlayedP (w : World) (n : Nat) (l : List ActV) (e : Ending) (w' : World) : Prop := ∃ v, e = .returned (.tuple #[v, .int .i64 (outC n)]) ∧ OwnAs w' w.heap.size v (outA n l) ∧ Below w.heap.size w w'
theorem tablePlay_any {w : World} {A : Option Addr} {n c : Nat} {l : List ActV} (h : IsActs w A n l) (hc : n ≤ c ∧ c ≤ maxLen) :
    Calls Try.prog 55 #[.slice A n c] w (PlayedP w n l) := by
  have C := Lib.hid (tabPlay_any h hc)
  obtain ⟨post, hpost⟩ : ∃ post, PlayedP w n l = post := ⟨_, rfl⟩
  have HP := Lib.hid hpost
  rw [hpost]
  clear hpost h hc
  go_enter Try.func55, Try.ntmps55
  go_wp2_with fail
  refine C.out.mono ?_
  intro e w1 hp
  obtain ⟨p, v, rfl, h1, h2⟩ := playedT_uni hp
  have H1 := Lib.hid h1
  have H2 := Lib.hid h2
  clear hp h1 h2
  go_wp2
  (try go_ret2)
  rw [← HP.out]
  exact ⟨v, rfl, H1.out, H2.out⟩

set_option maxRecDepth 100000 in
theorem open_acts {H : Type} {enc : TypeId × Value → H} {W : World} {base : Nat} {sp : Nat → Bool} {held : Bool} {a0 : Option Addr} {len0 cap0 : Nat} {d : DataW H} {p : List MemPlace}
    (h : DataW.Trod enc Try.prog W base sp held 27 (.slice a0 len0 cap0) d p) : ∃ l : List ActV, IsActs W a0 len0 l ∧ len0 ≤ cap0 ∧ cap0 ≤ maxLen := by
  have hk : flat Try.prog 9 117 = some [some .i64, none, some .u64, some .u64, some .i64, some .i64, none, some .u64, some .u64] := by kernel_rfl
  obtain ⟨css, hcl, hfit, hr, hl, hm⟩ := open_flats Try.underlying27 hk (by kernel_rfl) (by simp) h
  obtain ⟨l, rfl, hz⟩ := choose_list (f := ActV.cells) (Q := ActV.Ok) css (fun cs hc => by
    have hf := hfit cs hc
    clear hr hcl hfit
    obtain ⟨kd, _, rfl, _, hf2⟩ := hf.int_inv
    obtain ⟨six, _, rfl, hf3⟩ := hf2.bool_inv
    obtain ⟨hi, _, rfl, wy, hf4⟩ := hf3.int_inv
    obtain ⟨lo, _, rfl, wz, hf5⟩ := hf4.int_inv
    obtain ⟨m, _, rfl, _, hf6⟩ := hf5.int_inv
    obtain ⟨hop, _, rfl, _, hf7⟩ := hf6.int_inv
    obtain ⟨six2, _, rfl, hf8⟩ := hf7.bool_inv
    obtain ⟨hi2, _, rfl, wy2, hf9⟩ := hf8.int_inv
    obtain ⟨lo2, _, rfl, wz2, hf10⟩ := hf9.int_inv
    obtain rfl := hf10.nil_inv
    exact ⟨⟨kd, ⟨six, hi, lo, m⟩, hop, ⟨six2, hi2, lo2⟩⟩, ⟨range_u64 wy, range_u64 wz, range_u64 wy2, range_u64 wz2⟩, rfl⟩)
  exact ⟨l, ⟨by simpa using hcl, by rw [List.flatMap_def]; exact hr, hz⟩, hl, hm⟩

set_option maxRecDepth 100000 in
set_option maxHeartbeats 800000 in
theorem tablePlays_core {W : World} {a0 : Option Addr} {n c : Nat} {l : List ActV} (hr : IsActs W a0 n l) (hc : n ≤ c ∧ c ≤ maxLen) :
    Calls Try.prog 15 #[.slice a0 n c] W fun e W' => e = .returned (.bool true) ∧ Below W.heap.size W W' := by
  have C1 := Lib.hid (tablePlay_any hr hc)
  have C2 := Lib.hid (fun (w : World) (hb : Below W.heap.size W w) => refTab_any (hr.below hb) hc)
  have hlen : (outA n l).length ≤ 100 := by
    unfold outA
    by_cases h : 100 < n
    · rw [if_pos h]; exact Nat.zero_le _
    · rw [if_neg h, ansL_length, hr.len]; omega
  clear hr hc
  go_enter Try.func15, Try.ntmps15
  go_wp2_with fail
  refine C1.out.mono ?_
  rintro e w1 ⟨v1, rfl, hd1, hb1⟩
  have HD1 := Lib.hid hd1
  have HB1 := Lib.hid hb1
  clear hd1 hb1
  go_wp2_with fail
  refine (C2.out _ HB1.out).mono ?_
  intro e w2 hp2
  obtain ⟨v2, u2, rfl, hd2, hb2⟩ := playedR_uni hp2
  obtain ⟨A2, c2, rfl, hc2, hr2⟩ := own_reads hd2
  obtain ⟨A1, c1, rfl, hc1, hr1⟩ := own_reads (own_below HD1.out hb2)
  have CS := Lib.hid (sameAnswers_any A1 A2 (outA n l).length c1 (outA n l).length c2 (outA n l) (outA n l) w2 rfl rfl (by omega) (by omega) hr1 hr2)
  rw [decide_eq_true rfl] at CS
  have HB2 := Lib.hid (below_step HB1.out hb2)
  generalize (outA n l).length = m at *
  generalize outC n = oc at *
  clear hp2 hd2 hb2 hr1 hr2 C1 C2 HD1
  go_wp2_with fail
  refine CS.out.mono ?_
  rintro e w3 ⟨rfl, hb3⟩
  have HB3 := Lib.hid (below_step HB2.out hb3)
  clear hb3
  go_wp2
  go_ret
  exact ⟨ret_bool (by simp), HB3.out⟩

set_option maxRecDepth 100000 in
set_option maxHeartbeats 800000 in
theorem tablePlays_walk {H : Type} {enc : TypeId × Value → H} (W : World) (vs : Array Value) (ds : List (DataW H)) (ps : List MemPlace) (h : ArgsOk Try.prog [27] H enc W vs.toList ds ps) :
    Calls Try.prog 15 vs W fun e W' => e = .returned (.bool true) ∧ Below W.heap.size W W' := by
  obtain ⟨hA, ⟨base, hval⟩, _, _⟩ := h
  obtain ⟨v0, d0, e0, _, h0⟩ := trodAll_one hA
  obtain ⟨a0, n, c, rfl⟩ := okWide_slice Try.underlying27 (hval 0 _ v0 rfl (by rw [e0]; rfl))
  obtain ⟨l, hr, hc⟩ := open_acts h0
  obtain rfl : vs = #[.slice a0 n c] := by cases vs; simp_all
  exact tablePlays_core hr hc

end Go.Proofs.Ytnflaaoapmhjgaa
