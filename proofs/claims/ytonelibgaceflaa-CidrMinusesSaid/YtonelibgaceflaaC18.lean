/-
  
  
-/
import Derived.Test.YtonelibgaceflaaC17
import Derived.Test.YtonelibgaceflaaC15
namespace Go.Proofs.Ytonelibgaceflaa
open Go.ChangeShapes Go.WideShapes Go.ChangeAt Go.RowKit

theorem restG_len (six : Bool) : ∀ (l : List SV) (a : AV), (restG six a l).length ≤ l.length + 1
  | [], a => by unfold restG; simp
  | s :: l, a => by
    unfold restG
    split
    · rw [List.length_append, List.length_cons]
      have h1 := restG_len six l (s.l.plus 1)
      split <;> split <;> simp <;> omega
    · have := restG_len six l a
      rw [List.length_cons]
      omega
theorem step_append_far {P : Program} {ops : Array Oper} {o : Oper} {a : Act} {w : World} {K : Act → World → Prop} {Q : Exit → Act → World → Prop} {E : Prop} (hgd : o.guard = none) (s x : Operand) (t : TypeId)
    (ho : o.op = .call { callee := .builtin .append, args := #[s, x], argTypes := #[t, t] })
    (base : Nat) (e : TypeId) (z : Value) (size bytes : Nat) (ht : P.underlying t = some (.slice e)) (hi : (P.info? e).map (fun i => (i.zero, i.size, i.bytes)) = some (some z, size, bytes))
    (hzs : z.cells.size = size) (hsz : 0 < size)
    (v : Value) (n : Nat) (xs : List Value) (hs : a.eval s = v) (hown : w.ownsRow base e size v n xs)
    (B : Nat) (A : Option Addr) (m c : Nat) (news : List Value) (hx : a.eval x = .slice A m c) (hr : Reads w B size A m news) (h1 : ∀ u ∈ news, u.oneCell' = true)
    (h63 : n + m ≤ maxLen) (hbytes : (n + m) * bytes ≤ 140737488355328) (hbase : base ≤ w.heap.size)
    (h : ∀ v' w', w'.ownsRow base e size v' (n + m) (xs ++ news) → Below base w w' → w.grownBy w' v.ownBlock → K (a.put o.dst v') w') :
    if Region.wanted o (yielded ops a.tmps) = true then Oper.wp P o a w K Q else E := by
  obtain ⟨i0, hi, hz0, hz1, hz2⟩ := info_parts hi
  refine step_append_any w hgd s x t ho base e i0 z size bytes ht hi hz0 hz1 hz2 hzs hsz v n xs hs hown B A m c news hx hr h1 h63 hbytes hbase fun v' w' h2 h3 _ => h v' w' h2 ((Below.refl _ _).grown h3 hbase ?_) h3
  intro k hk
  rcases hown.2 with ⟨rfl, _⟩ | ⟨g, cap, cur, rfl, hgb, _⟩
  · simp [Value.ownBlock] at hk
  · simp only [Value.ownBlock, Option.some.injEq] at hk
    omega
theorem step_append_farI {P : Program} {ops : Array Oper} {o : Oper} {a : Act} {w : World} {K : Act → World → Prop} {Q : Exit → Act → World → Prop} {E : Prop} {s x : Operand} (us : List Value) (m : Nat) (t : TypeId) (n : Nat) (xs : List Value) (hgd : o.guard = none)
    (ho : o.op = .call { callee := .builtin .append, args := #[s, x], argTypes := #[t, t] })
    (base : Nat) (e : TypeId) (z : Value) (size bytes : Nat) (ht : P.underlying t = some (.slice e)) (hi : (P.info? e).map (fun i => (i.zero, i.size, i.bytes)) = some (some z, size, bytes))
    (hzs : z.cells.size = size) (hsz : 0 < size)
    (hown : w.ownsRow base e size (a.eval s) n xs) (hx : ∃ A c, a.eval x = .slice A m c ∧ Reads w w.heap.size size A m us) (h1 : ∀ u ∈ us, u.oneCell' = true)
    (h63 : n + m ≤ maxLen) (hbytes : (n + m) * bytes ≤ 140737488355328) (hbase : base ≤ w.heap.size)
    (h : ∀ v' w', w'.ownsRow base e size v' (n + m) (xs ++ us) → Below base w w' → w.grownBy w' (a.eval s).ownBlock → K (a.put o.dst v') w') :
    if Region.wanted o (yielded ops a.tmps) = true then Oper.wp P o a w K Q else E := by
  obtain ⟨A, c, hx, hr⟩ := hx
  exact step_append_far hgd s x t ho base e z size bytes ht hi hzs hsz _ n xs rfl hown _ A m c us hx hr h1 h63 hbytes hbase h
theorem reads_new {w : World} {us : List Value} {e : TypeId} {fr : Nat × Nat} {size : Nat} (hl : us.length = size) :
    Reads (w.alloc (.cells us.toArray e fr)) (w.alloc (.cells us.toArray e fr)).heap.size size (some ⟨w.heap.size, 0, none⟩) 1 us := by
  refine ⟨by simp [hl], fun _ => ⟨_, rfl, by simp, fun j u hj => ?_⟩⟩
  have e1 : (⟨w.heap.size, 0, none⟩ : Addr).add j = ⟨w.heap.size, j, none⟩ := by unfold Addr.add; split <;> simp_all
  rw [e1]
  have : (w.alloc (.cells us.toArray e fr)).heap[w.heap.size]? = some (.cells us.toArray e fr) := heap_alloc_new w _
  unfold World.cell?
  simp only [this]
  simpa using hj
def ACs (a : AV) : Array Value := #[.bool a.six, .int .u64 a.hi, .int .u64 a.lo]
/-- Where the inner loop stands. -/
def RestAt (w : World) (l : List SV) (six : Bool) (O : List SV) (b6 k : Nat) (v7 v3 : Value) (wr : World) : Prop :=
  ∃ (a : AV) (done : List SV), v7 = .bool true ∧ a.Ok ∧ a.six = six ∧ Blk wr b6 24 (ACs a) ∧ wr.ownsRow w.heap.size 117 6 v3 done.length (done.flatMap SV.cells) ∧ O ++ restG six (zeroA six) l = done ++ restG six a (l.drop k) ∧ Below w.heap.size w wr
/-- Where it ends. -/
def RestEnd (w : World) (l : List SV) (six : Bool) (O : List SV) (b6 : Nat) (v7 v3 : Value) (wr : World) : Prop :=
  ∃ (a : AV) (op : Bool) (done : List SV), v7 = .bool op ∧ a.Ok ∧ a.six = six ∧ Blk wr b6 24 (ACs a) ∧ wr.ownsRow w.heap.size 117 6 v3 done.length (done.flatMap SV.cells) ∧ O ++ restG six (zeroA six) l = done ++ (if op = true then [⟨a, topA six⟩] else []) ∧ Below w.heap.size w wr
def outR (l : List SV) : Nat → List SV
  | 0 => []
  | 1 => restG false (zeroA false) l
  | _ => restL l

set_option maxRecDepth 100000 in
set_option maxHeartbeats 6400000 in
theorem rest_any {A : Option Addr} {n c : Nat} {l : List SV} {w : World} (h : IsSpans w A n c l) (hok : ∀ s ∈ l, s.Ok) (hn : n ≤ 1000) :
    Calls Try.prog 146 #[.slice A n c] w fun e w' => ∃ v, e = .returned v ∧ w'.ownsRow w.heap.size 117 6 v (restL l).length ((restL l).flatMap SV.cells) ∧ Below w.heap.size w w' := by
  have hc1 := h.2.1
  unfold maxLen at hc1
  have HZ := Lib.hid h.1
  have HR := Lib.hid h.2.2
  have HOK := Lib.hid hok
  clear h hok
  have ix0 : ∀ w, (Instr.index 297 (.agg #[.bool false, .bool true]) (.int .i64 0)).run Try.prog w = .ok (.bool false) w := fun _ => by kernel_rfl
  have ix1 : ∀ w, (Instr.index 297 (.agg #[.bool false, .bool true]) (.int .i64 1)).run Try.prog w = .ok (.bool true) w := fun _ => by kernel_rfl
  go_enter Try.func146, Try.ntmps146
  go_wp2
  go_loopw [13, 3, 5, 6, 7, 9, 10, 11] (fun i v _ _ _ _ _ _ wr => ∃ (k : Nat) (z : Int), k ≤ 2 ∧ z = k ∧ i = .int .i64 z ∧ wr.ownsRow w.heap.size 117 6 v (outR l k).length ((outR l k).flatMap SV.cells) ∧ Below w.heap.size w wr) (fun i _ _ _ _ _ _ _ _ => 2 - (intOf i).toNat)
  case atStart => exact ⟨0, 0, by omega, rfl, rfl, ⟨rfl, .inl ⟨rfl, rfl⟩⟩, Below.refl _ _⟩
  case round =>
    obtain ⟨k, z, hk, hzk, rfl, hown, hb⟩ := hrel
    obtain ⟨wo, rfl⟩ : ∃ wo : World, wo = wr := ⟨_, rfl⟩
    have HOWN := Lib.hid hown
    have HB := Lib.hid hb
    clear hown hb
    by_cases hlt : k < 2
    · obtain ⟨six, O, hO, hO2, hOl, hix⟩ : ∃ (six : Bool) (O : List SV), outR l k = O ∧ outR l (k + 1) = O ++ restG six (zeroA six) l ∧ O.length ≤ n + 1 ∧ ((k = 0 ∧ six = false) ∨ (k = 1 ∧ six = true)) := by
        have hz := HZ.out
        rcases Nat.lt_or_ge k 1 with hk0 | hk0
        · obtain rfl : k = 0 := by omega
          exact ⟨false, [], rfl, by simp [outR], by simp, .inl ⟨rfl, rfl⟩⟩
        · obtain rfl : k = 1 := by omega
          exact ⟨true, _, rfl, rfl, by have := restG_len false l (zeroA false); show (restG false (zeroA false) l).length ≤ n + 1; omega, .inr ⟨rfl, rfl⟩⟩
      rw [hO] at HOWN
      have HO2 := Lib.hid hO2
      have hdl : ∀ (done : List SV) (r : List SV), O ++ restG six (zeroA six) l = done ++ r → done.length ≤ 2 * n + 2 := by
        intro done r he
        have h1 := congrArg List.length he
        rw [List.length_append, List.length_append] at h1
        have := restG_len six l (zeroA six)
        have := HZ.out
        omega
      have HDL := Lib.hid hdl
      clear hO hO2 hdl
      have hzz : (z = 0 ∧ six = false) ∨ (z = 1 ∧ six = true) := by
        rcases hix with ⟨h1, h2⟩ | ⟨h1, h2⟩
        · exact .inl ⟨by omega, h2⟩
        · exact .inr ⟨by omega, h2⟩
      have HZK : Hid (z + 1 = ((k + 1 : Nat) : Int)) := by show _ = _; omega
      have HK2 : Hid (k < 2) := hlt
      clear hix hzk hlt hk
      rcases hzz with ⟨rfl, rfl⟩ | ⟨rfl, rfl⟩
      · go_upto_block 2 with fail
        obtain ⟨Y, hY⟩ : ∃ Y, wo.alloc (.cells #[.bool false, .int .u64 0, .int .u64 0] 24) = Y := ⟨_, rfl⟩
        have hk6 : Blk Y wo.heap.size 24 (ACs (zeroA false)) := by rw [← hY]; exact Blk.new _ _ _
        have hby : Below w.heap.size w Y := by rw [← hY]; exact HB.out.alloc HB.out.size _
        have hoy : Y.ownsRow w.heap.size 117 6 u3 O.length (O.flatMap SV.cells) := by rw [← hY]; exact HOWN.out.alloc _
        rw [hY]
        obtain ⟨b6, hb6⟩ : ∃ b6, wo.heap.size = b6 := ⟨_, rfl⟩
        rw [hb6] at hk6 ⊢
        have hb6w : w.heap.size ≤ b6 := by rw [← hb6]; exact HB.out.size
        have HK6 := Lib.hid hk6
        have HBY := Lib.hid hby
        have HOY := Lib.hid hoy
        clear hY hb6 hk6 hby hoy HB HOWN
        go_cut [7, 3] (fun v7 v3 wx => RestEnd w l false O b6 v7 v3 wx)
        case first =>
          go_wp2_with fail
          go_loopw [20, 7, 3, 9, 10, 11] (fun i v7 v3 _ _ _ wr => ∃ j : Nat, j ≤ n ∧ i = .int .i64 j ∧ RestAt w l false O b6 j v7 v3 wr) (fun i _ _ _ _ _ _ => n - (intOf i).toNat)
          case atStart => exact ⟨0, by omega, rfl, zeroA false, O, rfl, zeroA_ok _, rfl, HK6.out, HOY.out, by rw [List.drop_zero], HBY.out⟩
          case round =>
            obtain ⟨j, hj, rfl, a, done, rfl, ha, ha6, hka, hown, heq, hb⟩ := hrel
            obtain ⟨X, rfl⟩ : ∃ X : World, X = wr := ⟨_, rfl⟩
            have hdn := HDL.out done _ heq
            have HA := Lib.hid ha
            have HA6 := Lib.hid ha6
            have HKA := Lib.hid hka
            have HOX := Lib.hid hown
            have HEQ := Lib.hid heq
            have HBX := Lib.hid hb
            clear ha ha6 hka hown heq
            by_cases hlt : j < n
            · obtain ⟨ad, s, rfl, hls, htk, hmem, hbk, hc0, hcj⟩ := HR.out.atS SV.cells_length HZ.out hlt
              have hdr : l.drop j = s :: l.drop (j + 1) := by
                obtain ⟨hjl, hje⟩ := List.getElem?_eq_some_iff.1 hls
                rw [← hje]; exact List.drop_eq_getElem_cons hjl
              have q0 := (hb.cell (p := ad.add (j * 6)) (by rw [block_of_add]; exact hbk)).trans (hc0 _ rfl)
              have q1 := (hb.cell (p := ⟨(ad.add (j * 6)).block, (ad.add (j * 6)).off + 1, none⟩) (by rw [block_of_add]; exact hbk)).trans (hcj 1 _ rfl)
              have q2 := (hb.cell (p := ⟨(ad.add (j * 6)).block, (ad.add (j * 6)).off + 2, none⟩) (by rw [block_of_add]; exact hbk)).trans (hcj 2 _ rfl)
              have q3 := (hb.cell (p := ⟨(ad.add (j * 6)).block, (ad.add (j * 6)).off + 3, none⟩) (by rw [block_of_add]; exact hbk)).trans (hcj 3 _ rfl)
              have q4 := (hb.cell (p := ⟨(ad.add (j * 6)).block, (ad.add (j * 6)).off + 4, none⟩) (by rw [block_of_add]; exact hbk)).trans (hcj 4 _ rfl)
              have q5 := (hb.cell (p := ⟨(ad.add (j * 6)).block, (ad.add (j * 6)).off + 5, none⟩) (by rw [block_of_add]; exact hbk)).trans (hcj 5 _ rfl)
              have HSO := Lib.hid (HOK.out s hmem)
              have HEQ2 : Hid (O ++ restG false (zeroA false) l = done ++ restG false a (s :: l.drop (j + 1))) := by show _ = _; rw [HEQ.out, hdr]
              clear hls htk hmem hbk hc0 hcj hdr
              obtain ⟨⟨sf6, sfh, sfl⟩, ⟨sl6, slh, sll⟩⟩ := s
              obtain ⟨a6, ah, al⟩ := a
              obtain rfl : a6 = false := HA6.out
              cases sf6
              · have hd6 := HSO.out.six
                simp only at hd6
                obtain rfl : false = sl6 := hd6
                have hun : restG false ⟨false, ah, al⟩ (⟨⟨false, sfh, sfl⟩, ⟨false, slh, sll⟩⟩ :: l.drop (j + 1)) = (if lessB ⟨false, ah, al⟩ ⟨false, sfh, sfl⟩ then [⟨⟨false, ah, al⟩, ⟨false, plusHi sfh sfl (-1), plusLo sfh sfl (-1)⟩⟩] else []) ++ (if plusOk false slh sll 1 then restG false ⟨false, plusHi slh sll 1, plusLo slh sll 1⟩ (l.drop (j + 1)) else []) := by
                  rw [restG, if_pos rfl]; rfl
                have HUP := Lib.hid (up_num HSO.out.l)
                have C1 := Lib.hid (fun w => less_any false ah al false sfh sfl w)
                have CM := Lib.hid (fun w => plus_any false sfh sfl (-1) w HSO.out.f.rhi HSO.out.f.rlo (by omega))
                have CE := Lib.hid (fun w => end_any false slh sll w HSO.out.l.rhi HSO.out.l.rlo)
                have CP := Lib.hid (fun w => plus_any false slh sll 1 w HSO.out.l.rhi HSO.out.l.rlo (by omega))
                have hpl : (⟨false, slh, sll⟩ : AV).plus 1 = ⟨false, plusHi slh sll 1, plusLo slh sll 1⟩ := rfl
                simp only [hpl] at HUP
                clear hpl
                obtain ⟨lt, hlt1⟩ : ∃ lt, lessB ⟨false, ah, al⟩ ⟨false, sfh, sfl⟩ = lt := ⟨_, rfl⟩
                obtain ⟨po, hpo⟩ : ∃ po, plusOk false slh sll 1 = po := ⟨_, rfl⟩
                rw [hlt1] at C1
                rw [hpo] at CE CP HUP
                rw [hlt1, hpo] at hun
                generalize plusHi sfh sfl (-1) = mh at *
                generalize plusLo sfh sfl (-1) = ml at *
                generalize plusHi slh sll 1 = ph at *
                generalize plusLo slh sll 1 = pl at *
                generalize plusOk false sfh sfl (-1) = mo at *
                have HEQ3 : Hid (O ++ restG false (zeroA false) l = (done ++ (if lt = true then [⟨⟨false, ah, al⟩, ⟨false, mh, ml⟩⟩] else [])) ++ (if po = true then restG false ⟨false, ph, pl⟩ (l.drop (j + 1)) else [])) := by show _ = _; rw [HEQ2.out, hun, List.append_assoc]
                clear hun hlt1 hpo
                obtain ⟨Z, hZ⟩ : ∃ Z, X.alloc (.cells #[.bool false, .int .u64 sfh, .int .u64 sfl, .bool false, .int .u64 slh, .int .u64 sll] 117) = Z := ⟨_, rfl⟩
                have hk9 : Blk Z X.heap.size 117 #[.bool false, .int .u64 sfh, .int .u64 sfl, .bool false, .int .u64 slh, .int .u64 sll] := by rw [← hZ]; exact Blk.new _ _ _
                have hxz : Below X.heap.size X Z := by rw [← hZ]; exact (Below.refl _ _).alloc (Nat.le_refl _) _
                have HKZ := Lib.hid (HKA.out.below hxz HKA.out.lt)
                have HOZ := Lib.hid (own_below HOX.out hxz)
                have HBZ : Hid (Below w.heap.size w Z) := HBX.out.trans (hxz.mono HBX.out.size)
                have HK9 := Lib.hid hk9
                have HXZ := Lib.hid hxz
                have z0 := hk9.cell 0
                have z3 := hk9.cell 3
                have z1 := hk9.cell 1
                have z2 := hk9.cell 2
                have z4 := hk9.cell 4
                have z5 := hk9.cell 5
                have k0 := HKZ.out.cell 0
                have k1 := HKZ.out.cell 1
                have k2 := HKZ.out.cell 2
                simp [ACs] at z0 z1 z2 z3 z4 z5 k0 k1 k2
                have l9 := hk9.lt
                have l6 := HKZ.out.lt
                go_wp2_with fail
                refine (C1.out _).mono ?_
                rintro e w2 ⟨rfl, hb2⟩
                clear hZ hk9 hxz
                have HK92 := Lib.hid (HK9.out.below hb2 l9)
                have HK62 := Lib.hid (HKZ.out.below hb2 l6)
                have HO2' := Lib.hid (own_below HOZ.out hb2)
                have HB2 : Hid (Below w.heap.size w w2) := HBZ.out.trans (hb2.mono HBZ.out.size)
                have N6 := Lib.hid (own_blk_ne HOX.out HKA.out (by decide))
                have N9 := Lib.hid (own_block_lt HOX.out (Nat.le_refl X.heap.size))
                have l92 := HK92.out.lt
                have l62 := HK62.out.lt
                go_upto_if 32 with fail
                go_cut [3] (fun v3 wx => wx.ownsRow w.heap.size 117 6 v3 (done ++ (if lt = true then [(⟨⟨false, ah, al⟩, ⟨false, mh, ml⟩⟩ : SV)] else [])).length ((done ++ (if lt = true then [(⟨⟨false, ah, al⟩, ⟨false, mh, ml⟩⟩ : SV)] else [])).flatMap SV.cells) ∧ Blk wx b6 24 (ACs ⟨false, ah, al⟩) ∧ Blk wx X.heap.size 117 #[.bool false, .int .u64 sfh, .int .u64 sfl, .bool false, .int .u64 slh, .int .u64 sll] ∧ Below w.heap.size w wx)
                case first =>
                  cases lt
                  · go_wp2
                    go_meet
                    refine ⟨?_, HK62.out, HK92.out, HB2.out⟩
                    simpa using HO2'.out
                  · have y0 := HK92.out.cell 0
                    have y1 := HK92.out.cell 1
                    have y2 := HK92.out.cell 2
                    have j0 := HK62.out.cell 0
                    have j1 := HK62.out.cell 1
                    have j2 := HK62.out.cell 2
                    simp [ACs] at y0 y1 y2 j0 j1 j2
                    go_wp2_with fail
                    refine (CM.out _).mono ?_
                    rintro e w3 ⟨rfl, hb3⟩
                    obtain ⟨fc3, ff3⟩ := bcell hb3
                    have hz3 := hb3.size
                    have l93 : X.heap.size < w3.heap.size := by omega
                    have l63 : b6 < w3.heap.size := by omega
                    have HO3 := Lib.hid (own_below HO2'.out hb3)
                    have HK63 := Lib.hid (HK62.out.below hb3 l62)
                    have HK93 := Lib.hid (HK92.out.below hb3 l92)
                    have HB3 : Hid (Below w.heap.size w w3) := HB2.out.trans (hb3.mono HB2.out.size)
                    clear hb3
                    go_wp2_with (at_builtin; go_loud (refine wpList_append_oneN (us := SV.cells ⟨⟨false, ah, al⟩, ⟨false, mh, ml⟩⟩) rfl _ _ 228 rfl w.heap.size _ 6 48 Try.underlying228 infoSpan rfl (by decide) _ _ _ rfl rfl ?c5 (HO3.out.alloc _) ?c1 rfl ?c4 ?c2 ?c3 ?_))
                    case c5 => simp
                    case c1 => have := HB3.out.size; simp; omega
                    case c2 => unfold maxLen; omega
                    case c3 => omega
                    case c4 => exact span_one _
                    intro v' w9 hown' hb9 hs9 hk9
                    have HO9 := Lib.hid hown'
                    have HB9 := Lib.hid hb9
                    have HK9' := Lib.hid hk9
                    clear hown' hb9 hk9
                    go_wp2
                    go_meet
                    refine ⟨?_, ?_, ?_, ?_⟩
                    · rw [List.length_append, List.flatMap_append]; simpa using HO9.out
                    · refine Eq.trans (HK9'.out b6 ?_ N6.out) (HK63.out.alloc _)
                      first | omega | (simp; done) | (simp; omega)
                    · refine Eq.trans (HK9'.out X.heap.size ?_ N9.out) (HK93.out.alloc _)
                      first | omega | (simp; done) | (simp; omega)
                    · exact (HB3.out.alloc HB3.out.size _).trans HB9.out
                case rest =>
                  obtain ⟨hown, hk6, hk9, hbv⟩ := hcut
                  obtain ⟨V, rfl⟩ : ∃ V : World, V = wc := ⟨_, rfl⟩
                  obtain ⟨don, hdon⟩ : ∃ don, done ++ (if lt = true then [(⟨⟨false, ah, al⟩, ⟨false, mh, ml⟩⟩ : SV)] else []) = don := ⟨_, rfl⟩
                  rw [hdon] at hown HEQ3
                  have y3 := hk9.cell 3
                  have y4 := hk9.cell 4
                  have y5 := hk9.cell 5
                  simp at y3 y4 y5
                  have l9v := hk9.lt
                  have l6v := hk6.lt
                  have M6 := Lib.hid (own_blk_ne hown hk6 (by decide))
                  have HOV := Lib.hid hown
                  have HK6V := Lib.hid hk6
                  have HBV := Lib.hid hbv
                  clear hown hk6 hk9 hbv hdon z0 z1 z2 z3 z4 z5 k0 k1 k2
                  go_wp2_with fail
                  refine (CE.out _).mono ?_
                  rintro e w4 ⟨rfl, hb4⟩
                  obtain ⟨fc4, ff4⟩ := bcell hb4
                  have hz4 := hb4.size
                  have l94 : X.heap.size < w4.heap.size := by omega
                  have l64 : b6 < w4.heap.size := by omega
                  have HO4 := Lib.hid (own_below HOV.out hb4)
                  have HK64 := Lib.hid (HK6V.out.below hb4 l6v)
                  have HB4 : Hid (Below w.heap.size w w4) := HBV.out.trans (hb4.mono HBV.out.size)
                  clear hb4
                  cases po
                  · go_wp2
                    go_meet
                    exact ⟨⟨false, ah, al⟩, false, don, rfl, HA.out, rfl, HK64.out, HO4.out, by rw [HEQ3.out]; simp, HB4.out⟩
                  · go_wp2_with fail
                    refine (CP.out _).mono ?_
                    rintro e w5 ⟨rfl, hb5⟩
                    have HO5 := Lib.hid (own_below HO4.out hb5)
                    have HK65 := Lib.hid (HK64.out.below hb5 l64)
                    have HB5 : Hid (Below w.heap.size w w5) := HB4.out.trans (hb5.mono HB4.out.size)
                    have j0 := HK65.out.cell 0
                    have j1 := HK65.out.cell 1
                    have j2 := HK65.out.cell 2
                    have f0 := HK65.out.frozen 0
                    have f1 := HK65.out.frozen 1
                    have f2 := HK65.out.frozen 2
                    simp [ACs] at j0 j1 j2
                    clear hb5
                    go_wp2
                    go_roundw
                    case rel => exact ⟨j + 1, by omega, by go_num, ⟨false, ph, pl⟩, don, rfl, (HUP.out.2 trivial).1, rfl, ((HK65.out.set_ 0 _).set_ 1 _).set_ 2 _, ownsRow_setCell_other (ownsRow_setCell_other (ownsRow_setCell_other HO5.out M6.out _) M6.out _) M6.out _, by rw [HEQ3.out, if_pos trivial], ((HB5.out.setCell hb6w _).setCell hb6w _).setCell hb6w _⟩
                    case measure => simp [intOf]; omega
              · have HEQ3 : Hid (O ++ restG false (zeroA false) l = done ++ restG false ⟨false, ah, al⟩ (l.drop (j + 1))) := by show _ = _; rw [HEQ2.out, restG, if_neg (by simp)]
                go_wp2
                go_roundw
                case rel => exact ⟨j + 1, by omega, by go_num, ⟨false, ah, al⟩, done, rfl, HA.out, rfl, HKA.out.alloc _, HOX.out.alloc _, HEQ3.out, HBX.out.alloc HBX.out.size _⟩
                case measure => simp [intOf]; omega
            · obtain rfl : j = n := by omega
              have hdr : l.drop j = [] := List.drop_eq_nil_of_le (by have := HZ.out; omega)
              have HEQ2 : Hid (O ++ restG false (zeroA false) l = done ++ [⟨a, topA false⟩]) := by show _ = _; rw [HEQ.out, hdr]; rfl
              clear hdr hb
              go_wp2
              go_meet
              exact ⟨a, true, done, rfl, HA.out, HA6.out, HKA.out, HOX.out, by rw [HEQ2.out]; rfl, HBX.out⟩
        case rest =>
          obtain ⟨a, op, done, rfl, ha, ha6, hka, hown, heq, hb⟩ := hcut
          obtain ⟨X, rfl⟩ : ∃ X : World, X = wc := ⟨_, rfl⟩
          obtain ⟨a6, ah, al⟩ := a
          obtain rfl : a6 = false := ha6
          have hdn := HDL.out done _ heq
          have HEQ := Lib.hid (HO2.out.trans heq)
          have M6 := Lib.hid (own_blk_ne hown hka (by decide))
          have HOX := Lib.hid hown
          have HKX := Lib.hid hka
          have HBX := Lib.hid hb
          clear ha heq hown hka hb HK6 HBY HOY
          cases op
          · go_wp2
            go_roundw
            case rel => exact ⟨k + 1, _, by have := HK2.out; omega, HZK.out, rfl, by rw [HEQ.out]; simpa using HOX.out, HBX.out⟩
            case measure => simp [intOf]
          · have c0 := HKX.out.cell 0
            have c1 := HKX.out.cell 1
            have c2 := HKX.out.cell 2
            simp [ACs] at c0 c1 c2
            have hT : topA false = ⟨false, lastHi false 0 0 0, lastLo false 0 0 0⟩ := rfl
            have CL := Lib.hid (fun w => last_any false 0 0 0 w (by omega) (by omega) (by omega) (by omega))
            generalize lastHi false 0 0 0 = th at *
            generalize lastLo false 0 0 0 = tl at *
            have HT := Lib.hid hT
            have l6 := HKX.out.lt
            clear hT
            go_wp2
            go_region_held3 (fun w' => w'.cell? ⟨b6, 0, none⟩ = some (.bool false) ∧ w'.cell? ⟨b6, 1, none⟩ = some (.int .u64 ah) ∧ w'.cell? ⟨b6, 2, none⟩ = some (.int .u64 al))
              ((first | with_reducible assumption | exact ⟨c0, c1, c2⟩ | exact ⟨d0, d1, d2⟩ | (exact ⟨(World.cell?_alloc_lt _ _ _ l7).trans d0, (World.cell?_alloc_lt _ _ _ l7).trans d1, (World.cell?_alloc_lt _ _ _ l7).trans d2⟩) | exact ⟨e0, e1, e2⟩))
              (first
                | (go_at_call 113; refine (CL.out _).mono ?_; rintro e w7 ⟨rfl, hb7⟩; have HB7 : Hid (Below X.heap.size X w7) := (Below.refl X.heap.size X).drew.trans hb7; have l7 : b6 < w7.heap.size := Nat.lt_of_lt_of_le l6 HB7.out.size; have d0 : w7.cell? ⟨b6, 0, none⟩ = some (.bool false) := (HB7.out.cell (p := ⟨b6, 0, none⟩) l6).trans c0; have d1 : w7.cell? ⟨b6, 1, none⟩ = some (.int .u64 ah) := (HB7.out.cell (p := ⟨b6, 1, none⟩) l6).trans c1; have d2 : w7.cell? ⟨b6, 2, none⟩ = some (.int .u64 al) := (HB7.out.cell (p := ⟨b6, 2, none⟩) l6).trans c2)
                | (refine step_append_farI (o := ⟨some 67, _, _, _, _, _⟩) (SV.cells ⟨⟨false, ah, al⟩, ⟨false, th, tl⟩⟩) 1 228 done.length (done.flatMap SV.cells) rfl rfl w.heap.size 117 _ 6 48 Try.underlying228 infoSpan rfl (by decide) ?_ ?_ ?_ ?_ ?_ ?_ ?_; (focus exact (own_below HOX.out HB7.out).alloc _); (focus exact ⟨_, _, rfl, reads_new rfl⟩); (focus exact span_one _); (focus (unfold maxLen; omega)); (focus omega); (focus (have := HBX.out.size; have := HB7.out.size; first | omega | (simp; omega))); intro v8 w8 hown8 hb8 hg8; have HO8 := Lib.hid hown8; have HB8 := Lib.hid hb8; have hk8 := ((HKX.out.below HB7.out l6).alloc _).grown hg8 (fun e => M6.out e.symm); have e0 := hk8.cell 0; have e1 := hk8.cell 1; have e2 := hk8.cell 2; simp [ACs] at e0 e1 e2; clear hown8 hb8 hg8 hk8))
            go_wp2
            go_roundw
            case rel =>
              refine ⟨k + 1, _, by have := HK2.out; omega, HZK.out, rfl, ?_, ((HBX.out.trans (HB7.out.mono HBX.out.size)).alloc (by have := HBX.out.size; have := HB7.out.size; omega) _).trans HB8.out⟩
              rw [HEQ.out]
              first | rw [if_pos rfl] | rw [if_pos trivial]
              rw [HT.out, List.length_append, List.flatMap_append]
              simpa using HO8.out
            case measure => simp [intOf]
      · go_upto_block 2 with fail
        obtain ⟨Y, hY⟩ : ∃ Y, wo.alloc (.cells #[.bool true, .int .u64 0, .int .u64 0] 24) = Y := ⟨_, rfl⟩
        have hk6 : Blk Y wo.heap.size 24 (ACs (zeroA true)) := by rw [← hY]; exact Blk.new _ _ _
        have hby : Below w.heap.size w Y := by rw [← hY]; exact HB.out.alloc HB.out.size _
        have hoy : Y.ownsRow w.heap.size 117 6 u3 O.length (O.flatMap SV.cells) := by rw [← hY]; exact HOWN.out.alloc _
        rw [hY]
        obtain ⟨b6, hb6⟩ : ∃ b6, wo.heap.size = b6 := ⟨_, rfl⟩
        rw [hb6] at hk6 ⊢
        have hb6w : w.heap.size ≤ b6 := by rw [← hb6]; exact HB.out.size
        have HK6 := Lib.hid hk6
        have HBY := Lib.hid hby
        have HOY := Lib.hid hoy
        clear hY hb6 hk6 hby hoy HB HOWN
        go_cut [7, 3] (fun v7 v3 wx => RestEnd w l true O b6 v7 v3 wx)
        case first =>
          go_wp2_with fail
          go_loopw [20, 7, 3, 9, 10, 11] (fun i v7 v3 _ _ _ wr => ∃ j : Nat, j ≤ n ∧ i = .int .i64 j ∧ RestAt w l true O b6 j v7 v3 wr) (fun i _ _ _ _ _ _ => n - (intOf i).toNat)
          case atStart => exact ⟨0, by omega, rfl, zeroA true, O, rfl, zeroA_ok _, rfl, HK6.out, HOY.out, by rw [List.drop_zero], HBY.out⟩
          case round =>
            obtain ⟨j, hj, rfl, a, done, rfl, ha, ha6, hka, hown, heq, hb⟩ := hrel
            obtain ⟨X, rfl⟩ : ∃ X : World, X = wr := ⟨_, rfl⟩
            have hdn := HDL.out done _ heq
            have HA := Lib.hid ha
            have HA6 := Lib.hid ha6
            have HKA := Lib.hid hka
            have HOX := Lib.hid hown
            have HEQ := Lib.hid heq
            have HBX := Lib.hid hb
            clear ha ha6 hka hown heq
            by_cases hlt : j < n
            · obtain ⟨ad, s, rfl, hls, htk, hmem, hbk, hc0, hcj⟩ := HR.out.atS SV.cells_length HZ.out hlt
              have hdr : l.drop j = s :: l.drop (j + 1) := by
                obtain ⟨hjl, hje⟩ := List.getElem?_eq_some_iff.1 hls
                rw [← hje]; exact List.drop_eq_getElem_cons hjl
              have q0 := (hb.cell (p := ad.add (j * 6)) (by rw [block_of_add]; exact hbk)).trans (hc0 _ rfl)
              have q1 := (hb.cell (p := ⟨(ad.add (j * 6)).block, (ad.add (j * 6)).off + 1, none⟩) (by rw [block_of_add]; exact hbk)).trans (hcj 1 _ rfl)
              have q2 := (hb.cell (p := ⟨(ad.add (j * 6)).block, (ad.add (j * 6)).off + 2, none⟩) (by rw [block_of_add]; exact hbk)).trans (hcj 2 _ rfl)
              have q3 := (hb.cell (p := ⟨(ad.add (j * 6)).block, (ad.add (j * 6)).off + 3, none⟩) (by rw [block_of_add]; exact hbk)).trans (hcj 3 _ rfl)
              have q4 := (hb.cell (p := ⟨(ad.add (j * 6)).block, (ad.add (j * 6)).off + 4, none⟩) (by rw [block_of_add]; exact hbk)).trans (hcj 4 _ rfl)
              have q5 := (hb.cell (p := ⟨(ad.add (j * 6)).block, (ad.add (j * 6)).off + 5, none⟩) (by rw [block_of_add]; exact hbk)).trans (hcj 5 _ rfl)
              have HSO := Lib.hid (HOK.out s hmem)
              have HEQ2 : Hid (O ++ restG true (zeroA true) l = done ++ restG true a (s :: l.drop (j + 1))) := by show _ = _; rw [HEQ.out, hdr]
              clear hls htk hmem hbk hc0 hcj hdr
              obtain ⟨⟨sf6, sfh, sfl⟩, ⟨sl6, slh, sll⟩⟩ := s
              obtain ⟨a6, ah, al⟩ := a
              obtain rfl : a6 = true := HA6.out
              cases sf6
              · have HEQ3 : Hid (O ++ restG true (zeroA true) l = done ++ restG true ⟨true, ah, al⟩ (l.drop (j + 1))) := by show _ = _; rw [HEQ2.out, restG, if_neg (by simp)]
                go_wp2
                go_roundw
                case rel => exact ⟨j + 1, by omega, by go_num, ⟨true, ah, al⟩, done, rfl, HA.out, rfl, HKA.out.alloc _, HOX.out.alloc _, HEQ3.out, HBX.out.alloc HBX.out.size _⟩
                case measure => simp [intOf]; omega
              · have hd6 := HSO.out.six
                simp only at hd6
                obtain rfl : true = sl6 := hd6
                have hun : restG true ⟨true, ah, al⟩ (⟨⟨true, sfh, sfl⟩, ⟨true, slh, sll⟩⟩ :: l.drop (j + 1)) = (if lessB ⟨true, ah, al⟩ ⟨true, sfh, sfl⟩ then [⟨⟨true, ah, al⟩, ⟨true, plusHi sfh sfl (-1), plusLo sfh sfl (-1)⟩⟩] else []) ++ (if plusOk true slh sll 1 then restG true ⟨true, plusHi slh sll 1, plusLo slh sll 1⟩ (l.drop (j + 1)) else []) := by
                  rw [restG, if_pos rfl]; rfl
                have HUP := Lib.hid (up_num HSO.out.l)
                have C1 := Lib.hid (fun w => less_any true ah al true sfh sfl w)
                have CM := Lib.hid (fun w => plus_any true sfh sfl (-1) w HSO.out.f.rhi HSO.out.f.rlo (by omega))
                have CE := Lib.hid (fun w => end_any true slh sll w HSO.out.l.rhi HSO.out.l.rlo)
                have CP := Lib.hid (fun w => plus_any true slh sll 1 w HSO.out.l.rhi HSO.out.l.rlo (by omega))
                have hpl : (⟨true, slh, sll⟩ : AV).plus 1 = ⟨true, plusHi slh sll 1, plusLo slh sll 1⟩ := rfl
                simp only [hpl] at HUP
                clear hpl
                obtain ⟨lt, hlt1⟩ : ∃ lt, lessB ⟨true, ah, al⟩ ⟨true, sfh, sfl⟩ = lt := ⟨_, rfl⟩
                obtain ⟨po, hpo⟩ : ∃ po, plusOk true slh sll 1 = po := ⟨_, rfl⟩
                rw [hlt1] at C1
                rw [hpo] at CE CP HUP
                rw [hlt1, hpo] at hun
                generalize plusHi sfh sfl (-1) = mh at *
                generalize plusLo sfh sfl (-1) = ml at *
                generalize plusHi slh sll 1 = ph at *
                generalize plusLo slh sll 1 = pl at *
                generalize plusOk true sfh sfl (-1) = mo at *
                have HEQ3 : Hid (O ++ restG true (zeroA true) l = (done ++ (if lt = true then [⟨⟨true, ah, al⟩, ⟨true, mh, ml⟩⟩] else [])) ++ (if po = true then restG true ⟨true, ph, pl⟩ (l.drop (j + 1)) else [])) := by show _ = _; rw [HEQ2.out, hun, List.append_assoc]
                clear hun hlt1 hpo
                obtain ⟨Z, hZ⟩ : ∃ Z, X.alloc (.cells #[.bool true, .int .u64 sfh, .int .u64 sfl, .bool true, .int .u64 slh, .int .u64 sll] 117) = Z := ⟨_, rfl⟩
                have hk9 : Blk Z X.heap.size 117 #[.bool true, .int .u64 sfh, .int .u64 sfl, .bool true, .int .u64 slh, .int .u64 sll] := by rw [← hZ]; exact Blk.new _ _ _
                have hxz : Below X.heap.size X Z := by rw [← hZ]; exact (Below.refl _ _).alloc (Nat.le_refl _) _
                have HKZ := Lib.hid (HKA.out.below hxz HKA.out.lt)
                have HOZ := Lib.hid (own_below HOX.out hxz)
                have HBZ : Hid (Below w.heap.size w Z) := HBX.out.trans (hxz.mono HBX.out.size)
                have HK9 := Lib.hid hk9
                have HXZ := Lib.hid hxz
                have z0 := hk9.cell 0
                have z3 := hk9.cell 3
                have z1 := hk9.cell 1
                have z2 := hk9.cell 2
                have z4 := hk9.cell 4
                have z5 := hk9.cell 5
                have k0 := HKZ.out.cell 0
                have k1 := HKZ.out.cell 1
                have k2 := HKZ.out.cell 2
                simp [ACs] at z0 z1 z2 z3 z4 z5 k0 k1 k2
                have l9 := hk9.lt
                have l6 := HKZ.out.lt
                go_wp2_with fail
                refine (C1.out _).mono ?_
                rintro e w2 ⟨rfl, hb2⟩
                clear hZ hk9 hxz
                have HK92 := Lib.hid (HK9.out.below hb2 l9)
                have HK62 := Lib.hid (HKZ.out.below hb2 l6)
                have HO2' := Lib.hid (own_below HOZ.out hb2)
                have HB2 : Hid (Below w.heap.size w w2) := HBZ.out.trans (hb2.mono HBZ.out.size)
                have N6 := Lib.hid (own_blk_ne HOX.out HKA.out (by decide))
                have N9 := Lib.hid (own_block_lt HOX.out (Nat.le_refl X.heap.size))
                have l92 := HK92.out.lt
                have l62 := HK62.out.lt
                go_upto_if 32 with fail
                go_cut [3] (fun v3 wx => wx.ownsRow w.heap.size 117 6 v3 (done ++ (if lt = true then [(⟨⟨true, ah, al⟩, ⟨true, mh, ml⟩⟩ : SV)] else [])).length ((done ++ (if lt = true then [(⟨⟨true, ah, al⟩, ⟨true, mh, ml⟩⟩ : SV)] else [])).flatMap SV.cells) ∧ Blk wx b6 24 (ACs ⟨true, ah, al⟩) ∧ Blk wx X.heap.size 117 #[.bool true, .int .u64 sfh, .int .u64 sfl, .bool true, .int .u64 slh, .int .u64 sll] ∧ Below w.heap.size w wx)
                case first =>
                  cases lt
                  · go_wp2
                    go_meet
                    refine ⟨?_, HK62.out, HK92.out, HB2.out⟩
                    simpa using HO2'.out
                  · have y0 := HK92.out.cell 0
                    have y1 := HK92.out.cell 1
                    have y2 := HK92.out.cell 2
                    have j0 := HK62.out.cell 0
                    have j1 := HK62.out.cell 1
                    have j2 := HK62.out.cell 2
                    simp [ACs] at y0 y1 y2 j0 j1 j2
                    go_wp2_with fail
                    refine (CM.out _).mono ?_
                    rintro e w3 ⟨rfl, hb3⟩
                    obtain ⟨fc3, ff3⟩ := bcell hb3
                    have hz3 := hb3.size
                    have l93 : X.heap.size < w3.heap.size := by omega
                    have l63 : b6 < w3.heap.size := by omega
                    have HO3 := Lib.hid (own_below HO2'.out hb3)
                    have HK63 := Lib.hid (HK62.out.below hb3 l62)
                    have HK93 := Lib.hid (HK92.out.below hb3 l92)
                    have HB3 : Hid (Below w.heap.size w w3) := HB2.out.trans (hb3.mono HB2.out.size)
                    clear hb3
                    go_wp2_with (at_builtin; go_loud (refine wpList_append_oneN (us := SV.cells ⟨⟨true, ah, al⟩, ⟨true, mh, ml⟩⟩) rfl _ _ 228 rfl w.heap.size _ 6 48 Try.underlying228 infoSpan rfl (by decide) _ _ _ rfl rfl ?c5 (HO3.out.alloc _) ?c1 rfl ?c4 ?c2 ?c3 ?_))
                    case c5 => simp
                    case c1 => have := HB3.out.size; simp; omega
                    case c2 => unfold maxLen; omega
                    case c3 => omega
                    case c4 => exact span_one _
                    intro v' w9 hown' hb9 hs9 hk9
                    have HO9 := Lib.hid hown'
                    have HB9 := Lib.hid hb9
                    have HK9' := Lib.hid hk9
                    clear hown' hb9 hk9
                    go_wp2
                    go_meet
                    refine ⟨?_, ?_, ?_, ?_⟩
                    · rw [List.length_append, List.flatMap_append]; simpa using HO9.out
                    · refine Eq.trans (HK9'.out b6 ?_ N6.out) (HK63.out.alloc _)
                      first | omega | (simp; done) | (simp; omega)
                    · refine Eq.trans (HK9'.out X.heap.size ?_ N9.out) (HK93.out.alloc _)
                      first | omega | (simp; done) | (simp; omega)
                    · exact (HB3.out.alloc HB3.out.size _).trans HB9.out
                case rest =>
                  obtain ⟨hown, hk6, hk9, hbv⟩ := hcut
                  obtain ⟨V, rfl⟩ : ∃ V : World, V = wc := ⟨_, rfl⟩
                  obtain ⟨don, hdon⟩ : ∃ don, done ++ (if lt = true then [(⟨⟨true, ah, al⟩, ⟨true, mh, ml⟩⟩ : SV)] else []) = don := ⟨_, rfl⟩
                  rw [hdon] at hown HEQ3
                  have y3 := hk9.cell 3
                  have y4 := hk9.cell 4
                  have y5 := hk9.cell 5
                  simp at y3 y4 y5
                  have l9v := hk9.lt
                  have l6v := hk6.lt
                  have M6 := Lib.hid (own_blk_ne hown hk6 (by decide))
                  have HOV := Lib.hid hown
                  have HK6V := Lib.hid hk6
                  have HBV := Lib.hid hbv
                  clear hown hk6 hk9 hbv hdon z0 z1 z2 z3 z4 z5 k0 k1 k2
                  go_wp2_with fail
                  refine (CE.out _).mono ?_
                  rintro e w4 ⟨rfl, hb4⟩
                  obtain ⟨fc4, ff4⟩ := bcell hb4
                  have hz4 := hb4.size
                  have l94 : X.heap.size < w4.heap.size := by omega
                  have l64 : b6 < w4.heap.size := by omega
                  have HO4 := Lib.hid (own_below HOV.out hb4)
                  have HK64 := Lib.hid (HK6V.out.below hb4 l6v)
                  have HB4 : Hid (Below w.heap.size w w4) := HBV.out.trans (hb4.mono HBV.out.size)
                  clear hb4
                  cases po
                  · go_wp2
                    go_meet
                    exact ⟨⟨true, ah, al⟩, false, don, rfl, HA.out, rfl, HK64.out, HO4.out, by rw [HEQ3.out]; simp, HB4.out⟩
                  · go_wp2_with fail
                    refine (CP.out _).mono ?_
                    rintro e w5 ⟨rfl, hb5⟩
                    have HO5 := Lib.hid (own_below HO4.out hb5)
                    have HK65 := Lib.hid (HK64.out.below hb5 l64)
                    have HB5 : Hid (Below w.heap.size w w5) := HB4.out.trans (hb5.mono HB4.out.size)
                    have j0 := HK65.out.cell 0
                    have j1 := HK65.out.cell 1
                    have j2 := HK65.out.cell 2
                    have f0 := HK65.out.frozen 0
                    have f1 := HK65.out.frozen 1
                    have f2 := HK65.out.frozen 2
                    simp [ACs] at j0 j1 j2
                    clear hb5
                    go_wp2
                    go_roundw
                    case rel => exact ⟨j + 1, by omega, by go_num, ⟨true, ph, pl⟩, don, rfl, (HUP.out.2 trivial).1, rfl, ((HK65.out.set_ 0 _).set_ 1 _).set_ 2 _, ownsRow_setCell_other (ownsRow_setCell_other (ownsRow_setCell_other HO5.out M6.out _) M6.out _) M6.out _, by rw [HEQ3.out, if_pos trivial], ((HB5.out.setCell hb6w _).setCell hb6w _).setCell hb6w _⟩
                    case measure => simp [intOf]; omega
            · obtain rfl : j = n := by omega
              have hdr : l.drop j = [] := List.drop_eq_nil_of_le (by have := HZ.out; omega)
              have HEQ2 : Hid (O ++ restG true (zeroA true) l = done ++ [⟨a, topA true⟩]) := by show _ = _; rw [HEQ.out, hdr]; rfl
              clear hdr hb
              go_wp2
              go_meet
              exact ⟨a, true, done, rfl, HA.out, HA6.out, HKA.out, HOX.out, by rw [HEQ2.out]; rfl, HBX.out⟩
        case rest =>
          obtain ⟨a, op, done, rfl, ha, ha6, hka, hown, heq, hb⟩ := hcut
          obtain ⟨X, rfl⟩ : ∃ X : World, X = wc := ⟨_, rfl⟩
          obtain ⟨a6, ah, al⟩ := a
          obtain rfl : a6 = true := ha6
          have hdn := HDL.out done _ heq
          have HEQ := Lib.hid (HO2.out.trans heq)
          have M6 := Lib.hid (own_blk_ne hown hka (by decide))
          have HOX := Lib.hid hown
          have HKX := Lib.hid hka
          have HBX := Lib.hid hb
          clear ha heq hown hka hb HK6 HBY HOY
          cases op
          · go_wp2
            go_roundw
            case rel => exact ⟨k + 1, _, by have := HK2.out; omega, HZK.out, rfl, by rw [HEQ.out]; simpa using HOX.out, HBX.out⟩
            case measure => simp [intOf]
          · have c0 := HKX.out.cell 0
            have c1 := HKX.out.cell 1
            have c2 := HKX.out.cell 2
            simp [ACs] at c0 c1 c2
            have hT : topA true = ⟨true, lastHi true 0 0 0, lastLo true 0 0 0⟩ := rfl
            have CL := Lib.hid (fun w => last_any true 0 0 0 w (by omega) (by omega) (by omega) (by omega))
            generalize lastHi true 0 0 0 = th at *
            generalize lastLo true 0 0 0 = tl at *
            have HT := Lib.hid hT
            have l6 := HKX.out.lt
            clear hT
            go_wp2
            go_region_held3 (fun w' => w'.cell? ⟨b6, 0, none⟩ = some (.bool true) ∧ w'.cell? ⟨b6, 1, none⟩ = some (.int .u64 ah) ∧ w'.cell? ⟨b6, 2, none⟩ = some (.int .u64 al))
              ((first | with_reducible assumption | exact ⟨c0, c1, c2⟩ | exact ⟨d0, d1, d2⟩ | (exact ⟨(World.cell?_alloc_lt _ _ _ l7).trans d0, (World.cell?_alloc_lt _ _ _ l7).trans d1, (World.cell?_alloc_lt _ _ _ l7).trans d2⟩) | exact ⟨e0, e1, e2⟩))
              (first
                | (go_at_call 113; refine (CL.out _).mono ?_; rintro e w7 ⟨rfl, hb7⟩; have HB7 : Hid (Below X.heap.size X w7) := (Below.refl X.heap.size X).drew.trans hb7; have l7 : b6 < w7.heap.size := Nat.lt_of_lt_of_le l6 HB7.out.size; have d0 : w7.cell? ⟨b6, 0, none⟩ = some (.bool true) := (HB7.out.cell (p := ⟨b6, 0, none⟩) l6).trans c0; have d1 : w7.cell? ⟨b6, 1, none⟩ = some (.int .u64 ah) := (HB7.out.cell (p := ⟨b6, 1, none⟩) l6).trans c1; have d2 : w7.cell? ⟨b6, 2, none⟩ = some (.int .u64 al) := (HB7.out.cell (p := ⟨b6, 2, none⟩) l6).trans c2)
                | (refine step_append_farI (o := ⟨some 67, _, _, _, _, _⟩) (SV.cells ⟨⟨true, ah, al⟩, ⟨true, th, tl⟩⟩) 1 228 done.length (done.flatMap SV.cells) rfl rfl w.heap.size 117 _ 6 48 Try.underlying228 infoSpan rfl (by decide) ?_ ?_ ?_ ?_ ?_ ?_ ?_; (focus exact (own_below HOX.out HB7.out).alloc _); (focus exact ⟨_, _, rfl, reads_new rfl⟩); (focus exact span_one _); (focus (unfold maxLen; omega)); (focus omega); (focus (have := HBX.out.size; have := HB7.out.size; first | omega | (simp; omega))); intro v8 w8 hown8 hb8 hg8; have HO8 := Lib.hid hown8; have HB8 := Lib.hid hb8; have hk8 := ((HKX.out.below HB7.out l6).alloc _).grown hg8 (fun e => M6.out e.symm); have e0 := hk8.cell 0; have e1 := hk8.cell 1; have e2 := hk8.cell 2; simp [ACs] at e0 e1 e2; clear hown8 hb8 hg8 hk8))
            go_wp2
            go_roundw
            case rel =>
              refine ⟨k + 1, _, by have := HK2.out; omega, HZK.out, rfl, ?_, ((HBX.out.trans (HB7.out.mono HBX.out.size)).alloc (by have := HBX.out.size; have := HB7.out.size; omega) _).trans HB8.out⟩
              rw [HEQ.out]
              first | rw [if_pos rfl] | rw [if_pos trivial]
              rw [HT.out, List.length_append, List.flatMap_append]
              simpa using HO8.out
            case measure => simp [intOf]
    · obtain rfl : k = 2 := by omega
      have hz2 : ¬ z < 2 := by omega
      clear hzk
      go_wp2
      go_ret
      exact ⟨_, rfl, HOWN.out, HB.out⟩

end Go.Proofs.Ytonelibgaceflaa

namespace Go.Proofs.Ytonelibgaceflaa
open Go.ChangeShapes Go.WideShapes Go.ChangeAt Go.RowKit

set_option maxRecDepth 100000 in
set_option maxHeartbeats 1600000 in
theorem minus_is {A A' : Option Addr} {n c n' c' : Nat} {l m : List PV} {w : World} (h : IsPres w A n c l) (h' : IsPres w A' n' c' m) (hl : ∀ q ∈ l, q.Raw) (hm : ∀ q ∈ m, q.Raw) :
    Calls Try.prog 69 #[.slice A n c, .slice A' n' c'] w (RetPres w (setO (fun a b => a && !b) l m) (presE l m)) := by
  have CF : Hid (∀ w1, w1 = w.alloc (.cells #[.slice A n c, .slice A' n' c'] 30) → Calls Try.prog 139 #[.slice (some ⟨w.heap.size, 0, none⟩) 2 2] w1 fun e w' => e = .returned (.int .i64 (presE l m)) ∧ Below w1.heap.size w1 w') := by
    intro w1 hw1
    subst hw1
    exact fault_two (h.below ((Below.refl _ _).alloc (Nat.le_refl _) _)) (h'.below ((Below.refl _ _).alloc (Nat.le_refl _) _)) hl hm (Blk.new _ _ _)
  by_cases hE : presE l m = 0
  · obtain ⟨z1, y1, z2, y2⟩ := presE_zero hl hm hE
    have CS := Lib.hid (fun (w1 : World) (hb : Below w.heap.size w w1) => spans_is (h.below hb) z2 (by have := h.1; omega))
    have CS2 := Lib.hid (fun (w1 : World) (hb : Below w.heap.size w w1) => spans_is (h'.below hb) y2 (by have := h'.1; omega))
    have hO : setO (fun a b => a && !b) l m = setW (fun a b => a && !b) l m := by unfold setO; rw [if_pos hE]; rfl
    unfold RetPres
    rw [hE] at CF ⊢
    rw [hO]
    clear hE hO h h' hl hm z1 z2 y1 y2
    go_enter Try.func69, Try.ntmps69
    go_wp2_with fail
    refine (CF.out _ rfl).mono ?_
    rintro e w2 ⟨rfl, hb2⟩
    have HB2 : Hid (Below w.heap.size w w2) := below_step ((Below.refl _ _).alloc (Nat.le_refl _) _) hb2
    clear hb2
    go_wp2_with fail
    refine (CS.out _ HB2.out).mono ?_
    rintro e w3 ⟨A1, n1, c1, s, rfl, hi, hsp, hn1, hb3⟩
    have HSP := Lib.hid hsp
    have HI := Lib.hid hi
    have HB3 := Lib.hid (below_step HB2.out hb3)
    clear hi hsp hb3
    go_wp2_with fail
    refine (CS2.out _ HB3.out).mono ?_
    rintro e w4 ⟨A2, n2, c2, t, rfl, hi2, hsp2, hn2, hb4⟩
    have HSP2 := Lib.hid hsp2
    have HI1 := Lib.hid (HI.out.below hb4)
    have HI2 := Lib.hid hi2
    have HB4 := Lib.hid (below_step HB3.out hb4)
    clear hi2 hsp2 hb4
    have CR := Lib.hid (rest_any HI2.out HSP2.out.joined.ok (by omega))
    go_wp2_with fail
    refine CR.out.mono ?_
    rintro e w7 ⟨v7, rfl, hown7, hb7⟩
    obtain ⟨A7, c7, rfl, hi7⟩ := IsSpans.of_own hown7
    have hr7 := rest_law HSP2.out.joined
    have HR7 := Lib.hid hr7
    have HI7 := Lib.hid hi7
    have hl7 : (restL t).length ≤ 162 := by have := hr7.2.2; have := HI2.out.1; omega
    have HI1b := Lib.hid (HI1.out.below hb7)
    have HB7 := Lib.hid (below_step HB4.out hb7)
    clear hown7 hb7 hi7 hr7

    have CM := Lib.hid (meet_any HI1b.out HI7.out (by omega))
    go_wp2_with fail
    refine CM.out.mono ?_
    rintro e w5 ⟨v, rfl, hown5, hb5⟩
    obtain ⟨A5, c5, rfl, hi5⟩ := IsSpans.of_own hown5
    have hj5 := meet_law s (restL t) HSP.out.joined HR7.out.1
    have CP := Lib.hid (prefixes_any hi5 hj5.1.ok (by have := hj5.2.2.2; have := HI1.out.1; omega))
    have HB5 := Lib.hid (below_step HB7.out hb5)
    clear hown5 hb5 hi5 hj5
    go_wp2_with fail
    refine CP.out.mono ?_
    rintro e w6 ⟨v, rfl, hown, hb6⟩
    have HOW := Lib.hid hown
    have HB9 := Lib.hid (below_step HB5.out hb6)
    have HZ := Lib.hid HB5.out.size
    have HFIN := Lib.hid (minus_set HSP.out HSP2.out)
    clear hown hb6
    go_wp2
    go_ret2
    refine ⟨_, rfl, ?_, HB9.out⟩
    have := own_mono HOW.out HZ.out
    rw [HFIN.out] at this
    exact this
  · have hO : setO (fun a b => a && !b) l m = [] := by unfold setO; rw [if_neg hE]
    obtain ⟨E, hEE⟩ : ∃ E, presE l m = E := ⟨_, rfl⟩
    unfold RetPres
    rw [hEE] at hE CF ⊢
    rw [hO]
    have hne : (E != 0) = true := by simpa using hE
    clear hE hO h h' hl hm hEE
    go_enter Try.func69, Try.ntmps69
    go_wp2_with fail
    refine (CF.out _ rfl).mono ?_
    rintro e w2 ⟨rfl, hb2⟩
    have HB2 : Hid (Below w.heap.size w w2) := below_step ((Below.refl _ _).alloc (Nat.le_refl _) _) hb2
    clear hb2
    go_wp2
    go_ret2
    exact ⟨_, rfl, World.ownsRow_nil _ _ _ _, HB2.out⟩

set_option maxRecDepth 100000 in
set_option maxHeartbeats 800000 in
theorem cidrMinuses_walk {H : Type} {enc : TypeId × Value → H} (W : World) (vs : Array Value) (ds : List (DataW H)) (ps : List MemPlace) (h : ArgsOk Try.prog [30, 30] H enc W vs.toList ds ps) :
    Calls Try.prog 23 vs W fun e W' => e = .returned (.bool true) ∧ Below W.heap.size W W' := by
  obtain ⟨hA, ⟨base, hval⟩, _, _⟩ := h
  obtain ⟨v0, v1, d0, d1, p0, p1, e0, _, _, h0, h1⟩ := trodAll_two hA
  obtain ⟨a0, n, c, rfl⟩ := okWide_slice Try.underlying30 (hval 0 _ v0 rfl (by rw [e0]; rfl))
  obtain ⟨a1, n', c', rfl⟩ := okWide_slice Try.underlying30 (hval 1 _ v1 rfl (by rw [e0]; rfl))
  obtain ⟨l, hr, hraw⟩ := open_pres h0
  obtain ⟨m, hr', hraw'⟩ := open_pres h1
  obtain rfl : vs = #[.slice a0 n c, .slice a1 n' c'] := by cases vs; simp_all
  have C1 := Lib.hid (fun (w : World) (hb : Below W.heap.size W w) => minus_is (hr.below hb) (hr'.below hb) hraw hraw')
  have C2 := Lib.hid (fun (w : World) (hb : Below W.heap.size W w) => refMinus_is (hr.below hb) (hr'.below hb) hraw hraw')
  have hlen : (setO (fun a b => a && !b) l m).length ≤ 120000 := setO_len hraw hraw'
  generalize setO (fun a b => a && !b) l m = L at *
  generalize presE l m = E at *
  unfold RetPres at C1 C2
  clear h0 h1 hA hval e0 hr hr' hraw hraw'
  go_enter Try.func23, Try.ntmps23
  go_wp2_with fail
  refine (C1.out _ (Below.refl _ _)).mono ?_
  rintro e w1 ⟨v, rfl, hown, hb1⟩
  have HB := Lib.hid hb1
  have HO1 := Lib.hid hown
  clear hb1 hown
  go_wp2_with fail
  refine (C2.out _ HB.out).mono ?_
  rintro e w2 ⟨v', rfl, hown2, hb2⟩
  have hO1 := own_below HO1.out hb2
  obtain ⟨A1, c1, rfl, hr1⟩ := reads_row hO1
  obtain ⟨A2, c2, rfl, hr2⟩ := reads_row hown2
  have HB2 := Lib.hid (below_step HB.out hb2)
  have CS := Lib.hid (fun (w' : World) (hb : Below w2.heap.size w2 w') => samePres_any A1 A2 L.length c1 L.length c2 L L w' rfl rfl (by unfold maxLen; omega) (by unfold maxLen; omega) ((hr1.below hb).more hb.size) ((hr2.below hb).more hb.size))
  rw [decide_eq_true rfl] at CS
  clear hb2 hO1 hr1 hr2 hown2
  go_wp2_with fail
  refine (CS.out _ (Below.refl _ _)).mono ?_
  rintro e w3 ⟨rfl, hb3⟩
  have HB3 := Lib.hid (below_step HB2.out hb3)
  clear hb3
  go_wp2
  go_ret
  exact ⟨by simp, HB3.out⟩

end Go.Proofs.Ytonelibgaceflaa
