/-
  
  
-/
import Derived.Test.YtnflaaoapmhjgaaC6
import Derived.Test.YtnflaaoapmhjgaaC3
import Derived.Laws.StructEq
import Derived.Test.YtnflaaoapmhjgaaC8
namespace Go.Proofs.Ytnflaaoapmhjgaa
open Go.ChangeShapes Go.WideShapes Go.ChangeAt Go.RowKit

instance : DecidableEq AnsV := fun a b => decidable_of_iff (a.code = b.code ∧ a.hop = b.hop ∧ a.len = b.len) ⟨fun h => by
  obtain ⟨c, h', l⟩ := a
  obtain ⟨c', h'', l'⟩ := b
  simp only at h
  obtain ⟨rfl, rfl, rfl⟩ := h
  rfl, fun h => by subst h; exact ⟨rfl, rfl, rfl⟩⟩
theorem AnsV.cells_length (a : AnsV) : a.cells.length = 3 := rfl
set_option maxRecDepth 100000 in
/-- '==' on answers. -/
theorem eqAns (r r' : AnsV) (w : World) : (Op.equalIn 10000 47 r.val r'.val).run Try.prog w = .ok (decide (r = r')) w := by
  obtain ⟨a, b, c⟩ := r
  obtain ⟨a', b', c'⟩ := r'
  have hS : Try.prog.underlying 47 = some (.struct (Try.prog.fieldsOf 47)) := by kernel_rfl
  have hp : Try.prog.stoodInHeld 47 = false := by kernel_rfl
  have e : (decide ((⟨a, b, c⟩ : AnsV) = ⟨a', b', c'⟩)) = (a == a' && (b == b' && c == c')) := by
    rw [Bool.eq_iff_iff]
    simp
  rw [e]
  unfold AnsV.val
  simp only
  rw [show (10000 : Nat) = 9999 + 1 from rfl, run_equalIn_agg w 9999 47 _ _ hS hp]
  clear hS hp e
  have a1 := Try.isAgg24
  have z1 := Try.sizeOf24
  have a2 := Try.isAgg3
  have z2 := Try.sizeOf3
  simp only [Program.fieldsOf, Try.underlying47]
  go_simp
  by_cases h1 : a = a' <;> by_cases h2 : b = b' <;> by_cases h3 : c = c' <;> simp [h1, h2, h3]

set_option maxRecDepth 100000 in
set_option maxHeartbeats 800000 in
theorem sameAnswers_any (A A' : Option Addr) (n c n' c' : Nat) (l l' : List AnsV) (w : World) (hz : l.length = n) (hz' : l'.length = n') (hm : n ≤ maxLen) (hm' : n' ≤ maxLen)
    (hr : Reads w w.heap.size 3 A n (l.flatMap AnsV.cells)) (hr' : Reads w w.heap.size 3 A' n' (l'.flatMap AnsV.cells)) :
    Calls Try.prog 57 #[.slice A n c, .slice A' n' c'] w fun e w' => e = .returned (.bool (decide (l = l'))) ∧ Below w.heap.size w w' := by
  unfold maxLen at hm hm'
  by_cases hnn : n = n'
  · subst hnn
    have HZ := Lib.hid hz
    have HZ' := Lib.hid hz'
    have HR := Lib.hid hr
    have HR' := Lib.hid hr'
    obtain ⟨d, hd⟩ : ∃ d, d = decide (l = l') := ⟨_, rfl⟩
    rw [← hd]
    have HD := Lib.hid hd
    clear hz hz' hr hr' hm' hd
    go_enter Try.func57, Try.ntmps57
    go_wp2
    go_loopw [5, 4] (fun i _ wr => ∃ k : Nat, k ≤ n ∧ i = .int .i64 k ∧ l.take k = l'.take k ∧ Below w.heap.size w wr) (fun i _ _ => n - (intOf i).toNat)
    case atStart => exact ⟨0, by omega, rfl, rfl, Below.refl _ _⟩
    case round =>
      obtain ⟨k, hk, rfl, hto, hb⟩ := hrel
      have HT := Lib.hid hto
      clear hto
      by_cases hlt : k < n
      · obtain ⟨ad, ⟨cd, hp, ln⟩, rfl, hlk, htk, hmem, hbk, hc0, hcj⟩ := HR.out.atS AnsV.cells_length HZ.out hlt
        have q0 := (hb.cell (p := ad.add (k * 3)) (by rw [block_of_add]; exact hbk)).trans (hc0 _ rfl)
        have q1 := (hb.cell (p := ⟨(ad.add (k * 3)).block, (ad.add (k * 3)).off + 1, none⟩) (by rw [block_of_add]; exact hbk)).trans (hcj 1 _ rfl)
        have q2 := (hb.cell (p := ⟨(ad.add (k * 3)).block, (ad.add (k * 3)).off + 2, none⟩) (by rw [block_of_add]; exact hbk)).trans (hcj 2 _ rfl)
        have HL := Lib.hid hlk
        have HTK := Lib.hid htk
        clear hlk htk hmem hc0 hcj
        obtain ⟨ad', ⟨cd', hp', ln'⟩, rfl, hlk, htk, hmem, hbk', hc0, hcj⟩ := HR'.out.atS AnsV.cells_length HZ'.out hlt
        have x0 := (hb.cell (p := ad'.add (k * 3)) (by rw [block_of_add]; exact hbk')).trans (hc0 _ rfl)
        have x1 := (hb.cell (p := ⟨(ad'.add (k * 3)).block, (ad'.add (k * 3)).off + 1, none⟩) (by rw [block_of_add]; exact hbk')).trans (hcj 1 _ rfl)
        have x2 := (hb.cell (p := ⟨(ad'.add (k * 3)).block, (ad'.add (k * 3)).off + 2, none⟩) (by rw [block_of_add]; exact hbk')).trans (hcj 2 _ rfl)
        have HL' := Lib.hid hlk
        have HTK' := Lib.hid htk
        have HEQ := fun w => eqAns ⟨cd, hp, ln⟩ ⟨cd', hp', ln'⟩ w
        have HBO := Lib.hid hb
        clear hlk htk hmem hc0 hcj hb
        by_cases he : (⟨cd, hp, ln⟩ : AnsV) = ⟨cd', hp', ln'⟩
        · have HN : Hid (l.take (k + 1) = l'.take (k + 1)) := by show _ = _; rw [HTK.out, HTK'.out, HT.out, he]
          rw [decide_eq_true he] at HEQ
          unfold AnsV.val at HEQ
          simp only at HEQ
          clear he
          go_wp2
          go_quiet (fail)
          go_wp2
          go_roundw
          case rel => exact ⟨k + 1, by omega, by go_num, HN.out, below_drewN HBO.out _⟩
          case measure => simp [intOf]; omega
        · have HN : Hid (d = false) := by
            show _ = _
            rw [HD.out, decide_eq_false_iff_not]
            intro h
            subst h
            rw [HL.out] at HL'
            have := HL'.out
            injection this with this
            exact he this
          rw [decide_eq_false he] at HEQ
          unfold AnsV.val at HEQ
          simp only at HEQ
          clear he
          go_wp2
          go_quiet (fail)
          go_wp2
          go_ret
          exact ⟨by rw [HN.out]; rfl, below_drewN HBO.out _⟩
      · obtain rfl : k = n := by omega
        have HN : Hid (d = true) := by
          show _ = _
          rw [HD.out, decide_eq_true_iff]
          have := HT.out
          rwa [List.take_of_length_le (by rw [HZ.out]; omega), List.take_of_length_le (by rw [HZ'.out]; omega)] at this
        go_wp2
        go_ret
        exact ⟨by rw [HN.out]; rfl, hb⟩
  · have hd : decide (l = l') = false := by rw [decide_eq_false_iff_not]; intro h; subst h; omega
    rw [hd]
    have hne : ¬ (n : Int) = n' := by omega
    clear hz hz' hr hr' hd
    go_enter Try.func57, Try.ntmps57
    go_wp2
    go_ret
    exact ⟨rfl, Below.refl _ _⟩

end Go.Proofs.Ytnflaaoapmhjgaa

namespace Go.Proofs.Ytnflaaoapmhjgaa
open Go.ChangeShapes Go.WideShapes Go.ChangeAt Go.RowKit

def outA (n : Nat) (l : List ActV) : List AnsV := if 100 < n then [] else ansL l []
def outC (n : Nat) : Int := if 100 < n then 1 else 0
theorem playedT_uni {w w' : World} {n : Nat} {l : List ActV} {e : Ending} (h : PlayedT w n l e w') : ∃ p v, e = .returned (.tuple #[p, v, .int .i64 (outC n)]) ∧ OwnAs w' w.heap.size v (outA n l) ∧ Below w.heap.size w w' := by
  unfold outA outC
  by_cases hn : 100 < n
  · rw [if_pos hn, if_pos hn]
    obtain ⟨h1, h2⟩ := h.1 hn
    exact ⟨_, _, h1, World.ownsRow_nil _ _ _ _, h2⟩
  · rw [if_neg hn, if_neg hn]
    obtain ⟨tb, v, h1, _, h3, h4⟩ := h.2 hn
    exact ⟨_, v, h1, h3, h4⟩
theorem playedR_uni {w w' : World} {n : Nat} {l : List ActV} {e : Ending} (h : PlayedR w n l e w') : ∃ v u, e = .returned (.tuple #[v, u, .int .i64 (outC n)]) ∧ OwnAs w' w.heap.size v (outA n l) ∧ Below w.heap.size w w' := by
  unfold outA outC
  by_cases hn : 100 < n
  · rw [if_pos hn, if_pos hn]
    obtain ⟨h1, h2⟩ := h.1 hn
    exact ⟨_, _, h1, World.ownsRow_nil _ _ _ _, h2⟩
  · rw [if_neg hn, if_neg hn]
    obtain ⟨v6, v5, S, h1, h2, _, _, _, h4⟩ := h.2 hn
    exact ⟨v6, v5, h1, h2, h4⟩
def PlayedP (w : World) (n : Nat) (l : List ActV) (e : Ending) (w' : World) : Prop := ∃ v, e = .returned (.tuple #[v, .int .i64 (outC n)]) ∧ OwnAs w' w.heap.size v (outA n l) ∧ Below w.heap.size w w'
theorem tablePlay_any {w : World} {A : Option Addr} {n c : Nat} {l : List ActV} (h : IsActs w A n l) (hc : n ≤ c ∧ c ≤ maxLen) :
    Calls Try.prog 55 #[.slice A n c] w (PlayedP w n l) := by
  have C := Lib.hid (tabPlay_any h hc)
  obtain ⟨post, hpost⟩ : ∃ post, PlayedP w n l = post := ⟨_, rfl⟩
  have HP := Lib.hid hpost
  rw [hpost]
  clear hpost h hc
  go_enter Try.func55, Try.ntmps55
  go_wp2_with fail
  refine C.out.mono ?_
  intro e w1 hp
  obtain ⟨p, v, rfl, h1, h2⟩ := playedT_uni hp
  have H1 := Lib.hid h1
  have H2 := Lib.hid h2
  clear hp h1 h2
  go_wp2
  (try go_ret2)
  rw [← HP.out]
  exact ⟨v, rfl, H1.out, H2.out⟩

set_option maxRecDepth 100000 in
theorem open_acts {H : Type} {enc : TypeId × Value → H} {W : World} {base : Nat} {sp : Nat → Bool} {held : Bool} {a0 : Option Addr} {len0 cap0 : Nat} {d : DataW H} {p : List MemPlace}
    (h : DataW.Trod enc Try.prog W base sp held 27 (.slice a0 len0 cap0) d p) : ∃ l : List ActV, IsActs W a0 len0 l ∧ len0 ≤ cap0 ∧ cap0 ≤ maxLen := by
  have hk : flat Try.prog 9 117 = some [some .i64, none, some .u64, some .u64, some .i64, some .i64, none, some .u64, some .u64] := by kernel_rfl
  obtain ⟨css, hcl, hfit, hr, hl, hm⟩ := open_flats Try.underlying27 hk (by kernel_rfl) (by simp) h
  obtain ⟨l, rfl, hz⟩ := choose_list (f := ActV.cells) (Q := ActV.Ok) css (fun cs hc => by
    have hf := hfit cs hc
    clear hr hcl hfit
    obtain ⟨kd, _, rfl, _, hf2⟩ := hf.int_inv
    obtain ⟨six, _, rfl, hf3⟩ := hf2.bool_inv
    obtain ⟨hi, _, rfl, wy, hf4⟩ := hf3.int_inv
    obtain ⟨lo, _, rfl, wz, hf5⟩ := hf4.int_inv
    obtain ⟨m, _, rfl, _, hf6⟩ := hf5.int_inv
    obtain ⟨hop, _, rfl, _, hf7⟩ := hf6.int_inv
    obtain ⟨six2, _, rfl, hf8⟩ := hf7.bool_inv
    obtain ⟨hi2, _, rfl, wy2, hf9⟩ := hf8.int_inv
    obtain ⟨lo2, _, rfl, wz2, hf10⟩ := hf9.int_inv
    obtain rfl := hf10.nil_inv
    exact ⟨⟨kd, ⟨six, hi, lo, m⟩, hop, ⟨six2, hi2, lo2⟩⟩, ⟨range_u64 wy, range_u64 wz, range_u64 wy2, range_u64 wz2⟩, rfl⟩)
  exact ⟨l, ⟨by simpa using hcl, by rw [List.flatMap_def]; exact hr, hz⟩, hl, hm⟩

set_option maxRecDepth 100000 in
set_option maxHeartbeats 800000 in
theorem tablePlays_core {W : World} {a0 : Option Addr} {n c : Nat} {l : List ActV} (hr : IsActs W a0 n l) (hc : n ≤ c ∧ c ≤ maxLen) :
    Calls Try.prog 15 #[.slice a0 n c] W fun e W' => e = .returned (.bool true) ∧ Below W.heap.size W W' := by
  have C1 := Lib.hid (tablePlay_any hr hc)
  have C2 := Lib.hid (fun (w : World) (hb : Below W.heap.size W w) => refTab_any (hr.below hb) hc)
  have hlen : (outA n l).length ≤ 100 := by
    unfold outA
    by_cases h : 100 < n
    · rw [if_pos h]; exact Nat.zero_le _
    · rw [if_neg h, ansL_length, hr.len]; omega
  clear hr hc
  go_enter Try.func15, Try.ntmps15
  go_wp2_with fail
  refine C1.out.mono ?_
  rintro e w1 ⟨v1, rfl, hd1, hb1⟩
  have HD1 := Lib.hid hd1
  have HB1 := Lib.hid hb1
  clear hd1 hb1
  go_wp2_with fail
  refine (C2.out _ HB1.out).mono ?_
  intro e w2 hp2
  obtain ⟨v2, u2, rfl, hd2, hb2⟩ := playedR_uni hp2
  obtain ⟨A2, c2, rfl, hc2, hr2⟩ := own_reads hd2
  obtain ⟨A1, c1, rfl, hc1, hr1⟩ := own_reads (own_below HD1.out hb2)
  have CS := Lib.hid (sameAnswers_any A1 A2 (outA n l).length c1 (outA n l).length c2 (outA n l) (outA n l) w2 rfl rfl (by omega) (by omega) hr1 hr2)
  rw [decide_eq_true rfl] at CS
  have HB2 := Lib.hid (below_step HB1.out hb2)
  generalize (outA n l).length = m at *
  generalize outC n = oc at *
  clear hp2 hd2 hb2 hr1 hr2 C1 C2 HD1
  go_wp2_with fail
  refine CS.out.mono ?_
  rintro e w3 ⟨rfl, hb3⟩
  have HB3 := Lib.hid (below_step HB2.out hb3)
  clear hb3
  go_wp2
  go_ret
  exact ⟨ret_bool (by simp), HB3.out⟩

set_option maxRecDepth 100000 in
set_option maxHeartbeats 800000 in
theorem tablePlays_walk {H : Type} {enc : TypeId × Value → H} (W : World) (vs : Array Value) (ds : List (DataW H)) (ps : List MemPlace) (h : ArgsOk Try.prog [27] H enc W vs.toList ds ps) :
    Calls Try.prog 15 vs W fun e W' => e = .returned (.bool true) ∧ Below W.heap.size W W' := by
  obtain ⟨hA, ⟨base, hval⟩, _, _⟩ := h
  obtain ⟨v0, d0, e0, _, h0⟩ := trodAll_one hA
  obtain ⟨a0, n, c, rfl⟩ := okWide_slice Try.underlying27 (hval 0 _ v0 rfl (by rw [e0]; rfl))
  obtain ⟨l, hr, hc⟩ := open_acts h0
  obtain rfl : vs = #[.slice a0 n c] := by cases vs; simp_all
  exact tablePlays_core hr hc

end Go.Proofs.Ytnflaaoapmhjgaa
