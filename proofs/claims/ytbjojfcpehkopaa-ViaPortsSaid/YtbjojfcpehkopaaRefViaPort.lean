/-
  Proved here: the contract of the reference's viaPort; the walk of the law ViaPorts.
-/
import Derived.Test.YtbjojfcpehkopaaViaPort
import Derived.Test.YtbjojfcpehkopaaViaF
import Derived.Deep.RegionHeld3
namespace Go.Proofs.Ytbjojfcpehkopaa
open Go.ChangeShapes Go.WideShapes Go.ChangeAt Go.RowKit

theorem viaGet_at {l : List ViaV} {k : Nat} {v : ViaV} {h : Int} (hn : NoneYet (fun v => v.hop == h) l k) (hk : l[k]? = some v) (hv : (v.hop == h) = true) : viaGet l h = some v := by
  unfold viaGet
  have hlt := (List.getElem?_eq_some_iff.1 hk).1
  have e : l = l.take k ++ v :: l.drop (k + 1) := by
    have h2 : l.drop k = v :: l.drop (k + 1) := by
      rw [List.drop_eq_getElem_cons hlt]
      rw [List.getElem?_eq_getElem hlt] at hk
      injection hk with hk
      rw [hk]
    rw [← h2, List.take_append_drop]
  rw [e, List.find?_append]
  have : (l.take k).find? (fun v => v.hop == h) = none := by
    rw [List.find?_eq_none]
    intro x hx
    have := hn x hx
    simp only at this
    simp [this]
  rw [this]
  simp [hv]
theorem viaGet_end {l : List ViaV} {k : Nat} {h : Int} (hn : NoneYet (fun v => v.hop == h) l k) (hl : l.length = k) : viaGet l h = none := by
  unfold viaGet
  rw [List.find?_eq_none]
  intro x hx
  have := hn x (by rw [List.take_of_length_le (by omega)]; exact hx)
  simp only at this
  simp [this]
theorem contains_of_noneYet {l : List Int} {k : Nat} {h : Int} (hn : NoneYet (fun b => b == h) l k) (hl : l.length = k) : l.contains h = false := by
  rw [List.contains_eq_any_beq, List.any_eq_false]
  intro x hx
  have := hn x (by rw [List.take_of_length_le (by omega)]; exact hx)
  simp only at this
  simp only [beq_eq_false_iff_ne, ne_eq] at this
  simpa using fun hh => this hh.symm
theorem contains_of_mem {l : List Int} {h : Int} (hm : h ∈ l) : l.contains h = true := by simpa using hm

/-- What is known of the row of hops that were come to. -/
def IsSeen (w : World) (A : Option Addr) (n : Nat) (l : List Int) : Prop := l.length = n ∧ Reads w w.heap.size 1 A n (l.map (Value.int .i64))

theorem reads_new (w : World) (u : Value) (t : TypeId) : Reads (w.alloc (.cells #[u] t)) (w.alloc (.cells #[u] t)).heap.size 1 (some ⟨w.heap.size, 0, none⟩) 1 [u] :=
  reads_one (by rw [World.cell?_alloc_at _ _ _ _ rfl]; rfl) (by simp)
theorem reads_new_below {w w2 : World} {u : Value} {t : TypeId} (hb : Below (w.alloc (.cells #[u] t)).heap.size (w.alloc (.cells #[u] t)) w2) : Reads w2 w2.heap.size 1 (some ⟨w.heap.size, 0, none⟩) 1 [u] :=
  ((reads_new w u t).below hb).more hb.size

theorem reads_new_belowD {w w2 : World} {u : Value} {t : TypeId} (hb : Below (w.alloc (.cells #[u] t)).drew.heap.size (w.alloc (.cells #[u] t)).drew w2) : Reads w2 w2.heap.size 1 (some ⟨w.heap.size, 0, none⟩) 1 [u] :=
  reads_new_below (below_step ((Below.refl _ _).drew) hb)

/-- As step_append_below; what the operands hold is not asked. -/
theorem step_append_I {P : Program} {ops : Array Oper} {o : Oper} {a : Act} {w : World} {K : Act → World → Prop} {Q : Exit → Act → World → Prop} {E : Prop} {s x : Operand} (us : List Value) (m : Nat) (t : TypeId) (n : Nat) (xs : List Value) (hgd : o.guard = none)
    (ho : o.op = .call { callee := .builtin .append, args := #[s, x], argTypes := #[t, t] })
    (base : Nat) (e : TypeId) (z : Value) (size bytes : Nat) (ht : P.underlying t = some (.slice e)) (hi : (P.info? e).map (fun i => (i.zero, i.size, i.bytes)) = some (some z, size, bytes))
    (hzs : z.cells.size = size) (hsz : 0 < size)
    (hown : w.ownsRow base e size (a.eval s) n xs) (hx : ∃ A c, a.eval x = .slice A m c ∧ Reads w w.heap.size size A m us) (h1 : ∀ u ∈ us, u.oneCell' = true)
    (h63 : n + m ≤ maxLen) (hbytes : (n + m) * bytes ≤ 140737488355328) (hbase : base ≤ w.heap.size)
    (h : ∀ v' w', w'.ownsRow base e size v' (n + m) (xs ++ us) → Below base w w' → K (a.put o.dst v') w') :
    if Region.wanted o (yielded ops a.tmps) = true then Oper.wp P o a w K Q else E := by
  obtain ⟨A, c, hx, hr⟩ := hx
  exact step_append_below hgd s x t ho base e z size bytes ht hi hzs hsz _ n xs rfl hown _ A m c us hx hr h1 h63 hbytes hbase h

/-- What the reference's viaPort returns, when 9 - f others were come to. -/
def RefPort (l : List ViaV) (Al : Option Addr) (n cl f : Nat) : Prop := ∀ (seen : List Int) (hop : Int) (A : Option Addr) (m cap : Nat) (w : World), seen.length + f = 9 → -9223372036854775808 ≤ hop ∧ hop ≤ 9223372036854775807 → IsVias w Al n cl l → IsSeen w A m seen →
    Calls Try.prog 70 #[.slice Al n cl, .int .i64 hop, .slice A m cap] w fun e w' => e = .returned (.tuple #[.int .i64 (portR l (f + 1) hop seen).1, .int .i64 (portR l (f + 1) hop seen).2.1, .int .i64 (portR l (f + 1) hop seen).2.2]) ∧ Below w.heap.size w w'

set_option maxRecDepth 100000 in
set_option maxHeartbeats 1600000 in
theorem refPort_core (l : List ViaV) (hv : viasF l = 0) (Al : Option Addr) (n cl : Nat) (f : Nat) (ih : ∀ g, f = g + 1 → RefPort l Al n cl g) : RefPort l Al n cl f := by
    intro seen hop A m cap w hf ho hl hs
    obtain rfl : seen.length = m := hs.1
    have HIH := Lib.hid ih
    clear ih
    have HV := Lib.hid hv
    have HL := Lib.hid hl
    have hz := hl.1
    have hnm := hl.2.1
    unfold maxLen at hnm
    have HZ := Lib.hid hz
    have HRD := Lib.hid hl.2.2.2
    have HSR := Lib.hid hs.2
    have hs9 : seen.length ≤ 9 := by omega
    have HFL := Lib.hid hf
    obtain ⟨R, hR⟩ : ∃ R, R = portR l (f + 1) hop seen := ⟨_, rfl⟩
    rw [← hR]
    have HR := Lib.hid hR
    clear hl hs hR hz hf
    go_enter Try.func70, Try.ntmps70
    go_wp2
    go_loopw [15, 10, 12, 25] (fun i _ _ _ wr => ∃ k : Nat, k ≤ n ∧ i = .int .i64 k ∧ NoneYet (fun v : ViaV => v.hop == hop) l k ∧ Below w.heap.size w wr) (fun i _ _ _ _ => n - (intOf i).toNat)
    case atStart => exact ⟨0, by omega, rfl, noneYet_zero _ _, Below.refl _ _⟩
    case round =>
      obtain ⟨k, hk, rfl, hto, hb⟩ := hrel
      have HN := Lib.hid hto
      clear hto
      by_cases hlt : k < n
      · obtain ⟨ad, ⟨vh, vp, vn⟩, rfl, hlk, htk, hmem, hbk, hc0, hcj⟩ := HRD.out.atS ViaV.cells_length HZ.out hlt
        have q0 := (hb.cell (p := ad.add (k * 3)) (by rw [block_of_add]; exact hbk)).trans (hc0 _ rfl)
        have q1 := (hb.cell (p := ⟨(ad.add (k * 3)).block, (ad.add (k * 3)).off + 1, none⟩) (by rw [block_of_add]; exact hbk)).trans (hcj 1 _ rfl)
        have q2 := (hb.cell (p := ⟨(ad.add (k * 3)).block, (ad.add (k * 3)).off + 2, none⟩) (by rw [block_of_add]; exact hbk)).trans (hcj 2 _ rfl)
        obtain ⟨_, hp, hnx, _⟩ := valid_at HV.out hlk
        simp only at hp hnx
        have HLK := Lib.hid hlk
        have HTK := Lib.hid htk
        have HB := Lib.hid hb
        have hsz := hb.size
        clear hlk htk hmem hbk hc0 hcj hb
        by_cases he : vh = hop
        · subst he
          have HG := Lib.hid (viaGet_at HN.out HLK.out (by simp))
          have hne : (vh != vh) = false := by simp
          go_wp2_with fail
          obtain ⟨X, hX⟩ : ∃ X, X = wr.alloc (.cells #[.int .i64 vh, .int .i64 vp, .int .i64 vn] 155) := ⟨_, rfl⟩
          rw [← hX]
          have x1 : X.cell? ⟨wr.heap.size, 1, none⟩ = some (.int .i64 vp) := by rw [hX, World.cell?_alloc_at _ _ _ _ rfl]; rfl
          have x2 : X.cell? ⟨wr.heap.size, 2, none⟩ = some (.int .i64 vn) := by rw [hX, World.cell?_alloc_at _ _ _ _ rfl]; rfl
          have HBX : Hid (Below w.heap.size w X) := by show Below _ _ _; rw [hX]; exact HB.out.alloc hsz _
          have xs : wr.heap.size < X.heap.size := by rw [hX]; simp
          clear hX q0 q1 q2 hsz hne
          go_loop [25, 12] (fun i _ => ∃ j : Nat, j ≤ seen.length ∧ i = .int .i64 j ∧ NoneYet (fun b => b == vh) seen j) (fun i _ => seen.length - (intOf i).toNat)
          case atStart => exact ⟨0, by omega, rfl, noneYet_zero _ _⟩
          case round =>
            obtain ⟨j, hj, rfl, hno⟩ := hrel
            have HNJ := Lib.hid hno
            clear hno
            by_cases hltj : j < seen.length
            · obtain ⟨ad2, x, rfl, hcx, htx, _, hmx⟩ := HSR.out.at1 hltj
              have hbx : X.cell? (ad2.add j) = some (.int .i64 x) := by
                obtain ⟨ad3, ha3, hb3, _⟩ := HSR.out.2 (by omega)
                injection ha3 with ha3
                subst ha3
                exact (HBX.out.cell (p := ad2.add j) (by rw [block_of_add]; exact hb3)).trans hcx
              have HTX := Lib.hid htx
              have HMX := Lib.hid hmx
              clear hcx htx hmx
              by_cases hxe : x = vh
              · subst hxe
                have HFIN : Hid (R = (0, 0, 10)) := by show R = _; rw [HR.out]; simp only [portR, HG.out]; rw [if_pos (contains_of_mem HMX.out)]
                go_wp2
                go_ret3
                exact ⟨ret3i HFIN.out.symm, HBX.out⟩
              · have hxe2 : (x == vh) = false := by simpa using hxe
                have HN2 := Lib.hid (noneYet_succ HNJ.out HTX.out hxe2)
                clear hxe
                go_wp2
                go_round
                case rel => exact ⟨j + 1, by omega, by go_num, HN2.out⟩
                case measure => simp [intOf]; omega
            · obtain rfl : j = seen.length := by omega
              have HCT := Lib.hid (contains_of_noneYet HNJ.out rfl)
              by_cases h8 : 8 < seen.length
              · have h8i : (8 : Int) < (seen.length : Int) := by omega
                have HFIN : Hid (R = (0, 0, 9)) := by show R = _; rw [HR.out]; simp only [portR, HG.out]; rw [HCT.out, if_neg (by simp), if_pos h8]
                go_wp2
                go_ret3
                exact ⟨ret3i HFIN.out.symm, HBX.out⟩
              have h8i : ¬ (8 : Int) < (seen.length : Int) := by omega
              by_cases hpp : 0 < vp
              · have HFIN : Hid (R = (vp, (seen.length : Int), 0)) := by show R = _; rw [HR.out]; simp only [portR, HG.out]; rw [HCT.out, if_neg (by simp), if_neg (by omega), if_pos hpp]
                go_wp2
                go_ret3
                exact ⟨ret3i HFIN.out.symm, HBX.out⟩
              · obtain ⟨g, hg⟩ : ∃ g, f = g + 1 := ⟨f - 1, by have := HFL.out; omega⟩
                have HFIN : Hid (R = portR l (g + 1) vn (seen ++ [vh])) := by show R = _; rw [HR.out, hg]; rw [portR]; simp only [HG.out]; rw [HCT.out, if_neg (by simp), if_neg (by omega), if_neg hpp]
                have HI2 := Lib.hid (HIH.out g hg)
                have HFG : Hid (seen.length + (g + 1) = 9) := by show _ = _; have := HFL.out; omega
                have HSX : Hid (∀ Y, Below X.heap.size X Y → Reads Y X.heap.size 1 A seen.length (seen.map (Value.int .i64))) := fun Y hY => ((HSR.out.below HBX.out).more HBX.out.size).below hY
                have HLX : Hid (∀ Y, Below X.heap.size X Y → IsVias Y (some ad) n cl l) := fun Y hY => HL.out.below (below_step HBX.out hY)
                clear hg h8
                go_wp2_with fail
                go_region_held3 (fun w' => (∀ b o, b < X.heap.size → w'.cell? ⟨b, o, none⟩ = X.cell? ⟨b, o, none⟩) ∧ X.heap.size ≤ w'.heap.size ∧ Hid (Below X.heap.size X w'))
                  ((first | assumption | exact keep0 _ | exact keep1 (by assumption) (by assumption) | exact keepD (by assumption) | exact keepB (by assumption) (by assumption) | exact keepA (by assumption) _ | exact ⟨fun _ _ _ => rfl, Nat.le_refl _, Below.refl _ _⟩))
                  (first
                    | (apply step_append_nil (o := ⟨some 47, _, _, _, _, _⟩) rfl _ _ 49 rfl X.heap.size 3 (.int .i64 0) 1 8 Try.underlying49 infoInt rfl (by decide) ?_ X.heap.size A seen.length cap (seen.map (Value.int .i64)) ?_ ?_ ?_ ?_ ?_ ?_ ?_; (focus rfl); (focus rfl); (focus exact HSX.out _ (keepBelow (by assumption))); (focus (intro u hu; obtain ⟨y, _, rfl⟩ := List.mem_map.1 hu; rfl)); (focus (unfold maxLen; omega)); (focus omega); (focus exact keepSize (by assumption)); intro v1 w2 hown2 hb2)
                    | (go_at_call 70; (refine (HI2.out (seen ++ [vh]) vn A2 (seen.length + 1) cap2 _ ?_ ?_ ?_ ?_).mono ?_); (focus (rw [List.length_append]; have := HFG.out; simp; omega)); (focus omega); (focus exact HLX.out _ (keepBelow (by assumption))); (focus exact ⟨by simp, by have := Reads.of_own hown3; rw [List.map_append]; exact this⟩); (rintro e w4 ⟨rfl, hb4⟩))
                    | (refine step_append_I (o := ⟨some 50, _, _, _, _, _⟩) [.int .i64 vh] 1 49 seen.length (seen.map (Value.int .i64)) rfl rfl X.heap.size 3 (.int .i64 0) 1 8 Try.underlying49 infoInt rfl (by decide) ?_ ?_ ?_ ?_ ?_ ?_ ?_; (focus (first | exact hown2.alloc _ | exact hown2)); (focus (first | exact ⟨_, _, rfl, reads_new _ _ _⟩ | exact ⟨_, _, rfl, reads_new_below hb2⟩ | exact ⟨_, _, rfl, reads_new_belowD hb2⟩)); (focus (intro u hu; simp at hu; subst hu; rfl)); (focus (unfold maxLen; omega)); (focus omega); (focus exact keepSize (by assumption)); intro v2 w3 hown3 hb3; obtain ⟨A2, cap2, rfl, hm2⟩ := own_slice hown3))
                all_goals
                  go_wp2
                  go_ret3
                  exact ⟨ret3i HFIN.out.symm, HBX.out.trans (keepBelow (by assumption) |>.mono HBX.out.size)⟩
        · have hne : (vh != hop) = true := by simpa using he
          have hne2 : (vh == hop) = false := by simpa using he
          have HN2 := Lib.hid (noneYet_succ HN.out HTK.out hne2)
          clear he
          go_wp2
          go_roundw
          case rel => exact ⟨k + 1, by omega, by go_num, HN2.out, HB.out.alloc hsz _⟩
          case measure => simp [intOf]; omega
      · obtain rfl : k = n := by omega
        have HG := Lib.hid (viaGet_end HN.out HZ.out)
        have HFIN : Hid (R = (0, 0, 7)) := by show R = _; rw [HR.out]; rw [portR]; simp only [HG.out]
        go_wp2
        go_ret3
        exact ⟨ret3i HFIN.out.symm, hb⟩

theorem refPort (l : List ViaV) (hv : viasF l = 0) (Al : Option Addr) (n cl : Nat) : ∀ f, RefPort l Al n cl f
  | 0 => refPort_core l hv Al n cl 0 (fun g h => by cases h)
  | f + 1 => refPort_core l hv Al n cl (f + 1) (fun g h => by injection h with h; subst h; exact refPort l hv Al n cl f)

/-- What both answer. -/
def viaPortR (l : List ViaV) (hop : Int) : Int × Int × Int := if viasF l = 0 then portR l 10 hop [] else (0, 0, viasF l)

set_option maxRecDepth 100000 in
set_option maxHeartbeats 400000 in
theorem refViaPort_is {A : Option Addr} {n c : Nat} {l : List ViaV} {hop : Int} {w : World} (ho : -9223372036854775808 ≤ hop ∧ hop ≤ 9223372036854775807) (h : IsVias w A n c l) :
    Calls Try.prog 28 #[.slice A n c, .int .i64 hop] w fun e w' => e = .returned (.tuple #[.int .i64 (viaPortR l hop).1, .int .i64 (viaPortR l hop).2.1, .int .i64 (viaPortR l hop).2.2]) ∧ Below w.heap.size w w' := by
  have HF := Lib.hid (viaFault_is h)
  have HP := Lib.hid (fun (hv : viasF l = 0) (w1 : World) (hb : Below w.heap.size w w1) => refPort l hv A n c 9 [] hop none 0 0 w1 (by simp) ho (h.below hb) ⟨rfl, by simpa using Reads.none_⟩)
  clear h
  by_cases hv : viasF l = 0
  · rw [show viaPortR l hop = portR l 10 hop [] from by unfold viaPortR; rw [if_pos hv]]
    have HP1 := Lib.hid (HP.out hv)
    have HV := Lib.hid hv
    rw [hv] at HF
    clear hv HP
    go_enter Try.func28, Try.ntmps28
    go_wp2_with fail
    refine HF.out.mono ?_
    rintro e w1 ⟨rfl, hb1⟩
    go_wp2_with fail
    refine (HP1.out _ hb1).mono ?_
    rintro e w2 ⟨rfl, hb2⟩
    go_wp2
    go_ret3
    exact ⟨rfl, below_step hb1 hb2⟩
  · rw [show viaPortR l hop = (0, 0, viasF l) from by unfold viaPortR; rw [if_neg hv]]
    generalize hr : viasF l = r at *
    clear hr HP
    have hne : (r != 0) = true := by simpa using hv
    go_enter Try.func28, Try.ntmps28
    go_wp2_with fail
    refine HF.out.mono ?_
    rintro e w1 ⟨rfl, hb1⟩
    go_wp2
    go_ret3
    exact ⟨rfl, hb1⟩

set_option maxRecDepth 100000 in
set_option maxHeartbeats 400000 in
theorem viaPort_is {A : Option Addr} {n c : Nat} {l : List ViaV} {hop : Int} {w : World} (ho : -9223372036854775808 ≤ hop ∧ hop ≤ 9223372036854775807) (h : IsVias w A n c l) :
    Calls Try.prog 27 #[.slice A n c, .int .i64 hop] w fun e w' => e = .returned (.tuple #[.int .i64 (viaPortR l hop).1, .int .i64 (viaPortR l hop).2.1, .int .i64 (viaPortR l hop).2.2]) ∧ Below w.heap.size w w' := by
  have HK := Lib.hid (known_is h)
  have HP := Lib.hid (fun (hv : viasF l = 0) (w1 : World) (hm : MapF w1 Try.prog 3 w.heap.size l.length (viaMap l)) => port_any l hop w.heap.size l.length w1 hv ho hm)
  clear h
  by_cases hv : viasF l = 0
  · rw [show viaPortR l hop = portR l 10 hop [] from by unfold viaPortR; rw [if_pos hv]]
    have HP1 := Lib.hid (HP.out hv)
    have HV := Lib.hid hv
    clear hv HP
    go_enter Try.func27, Try.ntmps27
    go_wp2_with fail
    refine HK.out.mono ?_
    rintro e w1 ⟨hb1, ⟨hne, rfl⟩ | ⟨h0, rfl, hm⟩⟩
    · exact absurd HV.out hne
    clear h0
    have HP2 := Lib.hid (HP1.out _ hm)
    clear hm
    go_wp2_with fail
    refine HP2.out.mono ?_
    rintro e w2 ⟨rfl, hb2⟩
    go_wp2
    go_ret3
    exact ⟨rfl, below_step hb1 hb2⟩
  · rw [show viaPortR l hop = (0, 0, viasF l) from by unfold viaPortR; rw [if_neg hv]]
    have HV : Hid (¬ viasF l = 0) := Lib.hid hv
    have hne : (viasF l != 0) = true := by simpa using hv
    clear hv HP
    go_enter Try.func27, Try.ntmps27
    go_wp2_with fail
    refine HK.out.mono ?_
    rintro e w1 ⟨hb1, ⟨_, rfl⟩ | ⟨h0, _⟩⟩
    · go_wp2
      go_ret3
      exact ⟨rfl, hb1⟩
    · exact absurd h0 HV.out

set_option maxRecDepth 100000 in
set_option maxHeartbeats 400000 in
theorem viaPorts_walk {H : Type} {enc : TypeId × Value → H} (W : World) (vs : Array Value) (ds : List (DataW H)) (ps : List MemPlace) (h : ArgsOk Try.prog [40, 3] H enc W vs.toList ds ps) :
    Calls Try.prog 7 vs W fun e W' => e = .returned (.bool true) ∧ Below W.heap.size W W' := by
  obtain ⟨hA, ⟨base, hval⟩, _, _⟩ := h
  obtain ⟨v0, v1, d0, d1, p0, p1, e0, _, _, h0, h1⟩ := trodAll_two hA
  obtain ⟨a0, n, c, rfl⟩ := okWide_slice Try.underlying40 (hval 0 _ v0 rfl (by rw [e0]; rfl))
  obtain ⟨hop, rfl, _, _, wh⟩ := open_int Try.underlying3 (hval 1 _ v1 rfl (by rw [e0]; rfl)) h1
  obtain ⟨l, hr⟩ := open_vias h0
  obtain rfl : vs = #[.slice a0 n c, .int .i64 hop] := by cases vs; simp_all
  have ho := bounds_i64 wh
  generalize hg : viaPortR l hop = r
  have C1 := Lib.hid (fun (w : World) (hb : Below W.heap.size W w) => viaPort_is ho (hr.below hb))
  have C2 := Lib.hid (fun (w : World) (hb : Below W.heap.size W w) => refViaPort_is ho (hr.below hb))
  rw [hg] at C1 C2
  obtain ⟨r1, r2, r3⟩ := r
  simp only at C1 C2
  clear hr h0 h1 hA hval e0 hg
  go_enter Try.func7, Try.ntmps7
  go_wp2_with fail
  refine (C1.out _ (Below.refl _ _)).mono ?_
  rintro e w1 ⟨rfl, hb1⟩
  go_wp2_with fail
  refine (C2.out _ hb1).mono ?_
  rintro e w2 ⟨rfl, hb2⟩
  go_wp2
  go_ret
  exact ⟨by simp, below_step hb1 hb2⟩

end Go.Proofs.Ytbjojfcpehkopaa
