/-
  
  
  
-/
import Derived.Test.YtmljdjakbbedlaaC8
import Derived.Test.YtmljdjakbbedlaaC7
import Derived.Test.YtmljdjakbbedlaaC6
import Derived.ArgAppend
import Derived.Lib.SlBytesConst
import Derived.Test.YtmljdjakbbedlaaC10
import Derived.Test.YtmljdjakbbedlaaC9
namespace Go.Proofs.Ytmljdjakbbedlaa
open Go.ChangeShapes Go.WideShapes Go.ChangeAt Go.RowKit

theorem infoU8 : (Try.prog.info? 5).map (fun i => (i.zero, i.size, i.bytes)) = some (some (.int .u8 0), 1, 1) := by kernel_rfl
def OwnBs (w : World) (base : Nat) (v : Value) (L : List Int) : Prop := w.ownsRow base 5 1 v L.length (L.map (Value.int .u8))
theorem own_new {w : World} {base : Nat} {us : List Value} {e : TypeId} {m : Nat} (hb : base ≤ w.heap.size) (hl : us.length = m) (hm : m ≤ maxLen) : (w.alloc (.cells us.toArray e)).ownsRow base e 1 (.slice (some ⟨w.heap.size, 0, none⟩) m m) m us :=
  ⟨by rw [Nat.mul_one]; exact hl, .inr ⟨w.heap.size, m, us.toArray, rfl, hb, heap_alloc_new w _, Nat.le_refl _, hm, by simpa using hl, by simp [← hl]⟩⟩
theorem reads_newM {w : World} {us : List Value} {e : TypeId} {fr : Nat × Nat} {m : Nat} (hl : us.length = m) :
    Reads (w.alloc (.cells us.toArray e fr)) (w.alloc (.cells us.toArray e fr)).heap.size 1 (some ⟨w.heap.size, 0, none⟩) m us := by
  refine ⟨by simp [hl], fun _ => ⟨_, rfl, by simp, fun j u hj => ?_⟩⟩
  have e1 : (⟨w.heap.size, 0, none⟩ : Addr).add j = ⟨w.heap.size, j, none⟩ := by unfold Addr.add; split <;> simp_all
  rw [e1]
  have : (w.alloc (.cells us.toArray e fr)).heap[w.heap.size]? = some (.cells us.toArray e fr) := heap_alloc_new w _
  unfold World.cell?
  simp only [this]
  simpa using hj
theorem wpList_append_mN {P : Program} {ops : Array Oper} {rest : List Oper} {o : Oper} {a : Act} {Q : Exit → Act → World → Prop} {w0 : World} {us : List Value} {fr : Nat × Nat} {e : TypeId} {g m : Nat} (hgd : o.guard = none) (s x : Operand) (t : TypeId)
    (ho : o.op = .call { callee := .builtin .append, args := #[s, x], argTypes := #[t, t] })
    (base : Nat) (z : Value) (bytes : Nat) (ht : P.underlying t = some (.slice e)) (hi : (P.info? e).map (fun i => (i.zero, i.size, i.bytes)) = some (some z, 1, bytes))
    (hzs : z.cells.size = 1) (v : Value) (n : Nat) (xs : List Value) (hs : a.eval s = v)
    (hx : a.eval x = .slice (some ⟨g, 0, none⟩) m m) (hg : g = w0.heap.size) (hown : w0.ownsRow base e 1 v n xs) (hbase : base ≤ w0.heap.size)
    (hl : us.length = m) (h1 : ∀ u ∈ us, u.oneCell' = true) (h63 : n + m ≤ maxLen) (hbytes : (n + m) * bytes ≤ 140737488355328)
    (h : ∀ v' w', w'.ownsRow base e 1 v' (n + m) (xs ++ us) → Below base w0 w' → w0.heap.size ≤ w'.heap.size → (∀ k, k < w0.heap.size → v.ownBlock ≠ some k → w'.heap[k]? = w0.heap[k]?) → wpList P ops Q rest (a.put o.dst v') w') :
    wpList P ops Q (o :: rest) a (w0.alloc (.cells us.toArray e fr)) := by
  subst hg
  obtain ⟨i0, hi, hz0, hz1, hz2⟩ := info_parts hi
  refine wpList_append_any _ hgd s x t ho base e i0 z 1 bytes ht hi hz0 hz1 hz2 hzs (by decide) v n xs hs (hown.alloc _) _ _ m m us hx (reads_newM hl) h1 h63 hbytes (by simp; omega) ?_
  intro v' w' hown' hgr _
  have hsz' := hgr.size
  simp at hsz'
  have hb : Below base w0 (w0.alloc (.cells us.toArray e fr)) := (Below.refl _ _).alloc hbase _
  refine h v' w' hown' (hb.grown hgr (by simp; omega) (fun k hk => own_base hown k hk)) (by omega) (fun k hk hne => ?_)
  rw [hgr.block k (by simp; omega) (fun he => hne he.symm)]
  exact Below.heap_alloc _ _ _ hk
theorem cells_fresh (w : World) (us : List Value) (e : TypeId) (fr : Nat × Nat := (0, 0)) : ∀ j u, us[j]? = some u → (w.alloc (.cells us.toArray e fr)).cell? ((⟨w.heap.size, 0, none⟩ : Addr).add j) = some u := by
  intro j u hj
  have hl := (List.getElem?_eq_some_iff.1 hj).1
  obtain ⟨ad, hv, _, hc⟩ := (reads_newM (w := w) (us := us) (e := e) (fr := fr) rfl).2 (by omega)
  injection hv with hv
  rw [hv]
  exact hc j u hj
theorem cells_marked (w : World) (us : List Value) (e : TypeId) (fr : Nat × Nat) (o : Obj) : ∀ j u, us[j]? = some u → ((w.alloc (.cells us.toArray e fr)).alloc o).cell? ((⟨w.heap.size, 0, none⟩ : Addr).add j) = some u := by
  intro j u hj
  rw [← cells_fresh w us e fr j u hj]
  refine World.cell?_of_block (Below.heap_alloc _ _ _ ?_)
  rw [block_of_add]
  simp
theorem bs_one (l : List Int) : ∀ u ∈ l.map (Value.int .u8), u.oneCell' = true := by
  intro u hu
  obtain ⟨x, _, rfl⟩ := List.mem_map.1 hu
  rfl
def Saved (w : World) (L : List RouteV) (e : Ending) (w' : World) : Prop := ∃ v, e = .returned v ∧ OwnBs w' w.heap.size v (saveL L ++ tailL (sumOf (saveL L))) ∧ Below w.heap.size w w'

set_option maxRecDepth 100000 in
set_option maxHeartbeats 3200000 in
theorem save_any {w : World} {A : Option Addr} {n c : Nat} {L : List RouteV} (hz : L.length = n) (hn : n ≤ 60) (hr : Reads w w.heap.size 5 A n (L.flatMap RouteV.cells)) (hB : ∀ r ∈ L, RouteB r) :
    Calls Try.prog 89 #[.slice A n c] w (Saved w L) := by
  have HZ := Lib.hid hz
  have HR := Lib.hid hr
  have HB := Lib.hid hB
  obtain ⟨post, hpost⟩ : ∃ post, Saved w L = post := ⟨_, rfl⟩
  have HP := Lib.hid hpost
  rw [hpost]
  have m1 : (n : Int) % 256 = n := by omega
  clear hz hr hB hpost
  have kc := fun (w : World) (C : Array Value) (n c : Nat) => Lib.run_convert_bytes_const (P := Try.prog) w 82 5 C n c Try.underlying82 Try.underlying5
  obtain ⟨i0, hi0, hz0, hz1, hz2⟩ := info_parts infoU8
  go_enter Try.func89, Try.ntmps89
  have hold := fun (o : Obj) => cells_marked w [.int .u8 87, .int .u8 72, .int .u8 49] 5 (3, 4) o
  have hnew := fun (W : World) => cells_fresh W [.int .u8 n] 5
  go_wp2_with (at_builtin; go_loud (refine wpList_append_grows _ rfl _ _ 82 rfl 5 i0 _ 1 1 Try.underlying82 hi0 hz0 hz1 hz2 rfl (by decide) (some ⟨w.heap.size, 0, none⟩) 3 3 [.int .u8 87, .int .u8 72, .int .u8 49] rfl (fun h => by cases h) rfl ?c0 ⟨w.heap.size + 1, 0, none⟩ 1 1 [.int .u8 n] rfl rfl ?c1 ?c2 (by decide) (by decide) (by decide) ?_))
  case c0 => intro b hb j u hj; injection hb with hb; subst hb; exact hold _ j u hj
  case c1 => intro j u hj; have := hnew (w.alloc (.cells #[.int .u8 87, .int .u8 72, .int .u8 49] 5 (3, 4))) j u hj; simpa using this
  case c2 => intro u hu; simp at hu; subst hu; rfl
  intro v3 w1 hown0 hgr1
  have hown : w1.ownsRow w.heap.size 5 1 v3 4 ([.int .u8 87, .int .u8 72, .int .u8 49] ++ [.int .u8 n]) := own_mono hown0 (by first | omega | (simp; done) | (simp; omega))
  have hb1 : Below w.heap.size w w1 := (((Below.refl _ _).alloc (Nat.le_refl _) _).alloc (by simp) _).grown hgr1 (by first | omega | (simp; done) | (simp; omega)) (fun k hk => by cases hk)
  have HO1 : Hid (OwnBs w1 w.heap.size v3 (headL L)) := by
    show World.ownsRow _ _ _ _ _ _ _
    unfold headL
    rw [HZ.out]
    exact hown
  have HB1 : Hid (Below w.heap.size w w1) := hb1
  have hs1 := HB1.out.size
  clear hown hb1 hown0 hgr1 hold hnew kc
  go_wp2
  go_loopw [18, 3] (fun i s3 wr => ∃ (k : Nat) (v3 : Value), k ≤ n ∧ i = .int .i64 k ∧ v3 = s3 ∧ OwnBs wr w.heap.size v3 (headL L ++ (L.take k).flatMap rbL) ∧ Below w.heap.size w wr) (fun i _ _ => n - (intOf i).toNat)
  case atStart => exact ⟨0, _, by omega, rfl, rfl, by simpa using HO1.out, HB1.out⟩
  case round =>
    obtain ⟨k, v3, hk, rfl, rfl, hrow, hb⟩ := hrel
    obtain ⟨wo, rfl⟩ : ∃ wo : World, wo = wr := ⟨_, rfl⟩
    have hszb := hb.size
    by_cases hlt : k < n
    · obtain ⟨ad, ⟨⟨six, hi, lo, m⟩, hop⟩, rfl, hlk, htk, hmem, hbk, hc0, hcj⟩ := HR.out.atS RouteV.cells_length HZ.out hlt
      have q0 := (hb.cell (p := ad.add (k * 5)) (by rw [block_of_add]; exact hbk)).trans (hc0 _ rfl)
      have q1 := (hb.cell (p := ⟨(ad.add (k * 5)).block, (ad.add (k * 5)).off + 1, none⟩) (by rw [block_of_add]; exact hbk)).trans (hcj 1 _ rfl)
      have q2 := (hb.cell (p := ⟨(ad.add (k * 5)).block, (ad.add (k * 5)).off + 2, none⟩) (by rw [block_of_add]; exact hbk)).trans (hcj 2 _ rfl)
      have q3 := (hb.cell (p := ⟨(ad.add (k * 5)).block, (ad.add (k * 5)).off + 3, none⟩) (by rw [block_of_add]; exact hbk)).trans (hcj 3 _ rfl)
      have q4 := (hb.cell (p := ⟨(ad.add (k * 5)).block, (ad.add (k * 5)).off + 4, none⟩) (by rw [block_of_add]; exact hbk)).trans (hcj 4 _ rfl)
      have hrb := HB.out _ hmem
      have hlen := save_length (L := L.take k) (fun r hr => HB.out r (List.mem_of_mem_take hr))
      rw [List.length_take, HZ.out, Nat.min_eq_left (by omega)] at hlen
      have hfl : (L.take (k + 1)).flatMap rbL = (L.take k).flatMap rbL ++ rbL ⟨⟨six, hi, lo, m⟩, hop⟩ := by rw [htk, List.flatMap_append]; simp
      have hkk := hrb.k
      have hn0 := hrb.n0
      have hn1 := hrb.n1
      have hp0 := hrb.h0
      have hp1 := hrb.h1
      have HAO := Lib.hid hrb.a
      simp only at hkk hn0 hn1 hp0 hp1
      have hm128 : m ≤ 128 := by rcases wideI_cases six with h5 | h5 <;> rw [h5] at hn1 <;> omega
      have m2 : m % 256 = m := by omega
      obtain ⟨base, hbase⟩ : ∃ base, headL L ++ (L.take k).flatMap rbL = base := ⟨_, rfl⟩
      have hbl : base.length ≤ 4 + 20 * k := by rw [← hbase, List.length_append]; show 4 + _ ≤ _; omega
      rw [hbase] at hrow
      have HBA := Lib.hid hbase
      obtain ⟨bl, hbl2⟩ : ∃ bl, base.length = bl := ⟨_, rfl⟩
      unfold OwnBs at hrow
      rw [hbl2] at hrow hbl
      have HBL := Lib.hid hbl2
      have HFL := Lib.hid hfl
      have HO := Lib.hid (fun (o : Obj) => own_below hrow ((Below.refl _ _).alloc (Nat.le_refl _) o))
      have HBO := Lib.hid hb
      clear hlk htk hmem hbk hc0 hcj hb hrow hrb hlen hfl hbase hbl2 hn1
      have w7 : IntKind.i64.wrap (m + 7) = m + 7 := by rw [IntWalk.i64_in _ (by omega)]
      have t8 : Int.tdiv (m + 7) 8 = (m + 7) / 8 := Int.tdiv_eq_ediv_of_nonneg (by omega)
      have w8 : IntKind.i64.wrap ((m + 7) / 8) = (m + 7) / 8 := by rw [IntWalk.i64_in _ (by omega)]
      obtain ⟨kk, hkk2⟩ : ∃ kk : Nat, kO ⟨⟨six, hi, lo, m⟩, hop⟩ = kk := ⟨_, rfl⟩
      have hk8 : (m + 7) / 8 = (kk : Int) := by rw [← hkk2]; unfold kO; simp only; omega
      rw [hkk2] at hkk
      have HKK := Lib.hid hkk2
      clear hkk2
      cases six with
      | false =>
        go_wp2_with (at_builtin; go_loud (refine wpList_append_mN (us := [.int .u8 0, .int .u8 m]) rfl _ _ 82 rfl w.heap.size _ 1 Try.underlying82 infoU8 rfl _ _ _ rfl rfl (by simp) (HO.out _) ?c1 rfl ?c2 ?c3 ?c4 ?_))
        case c1 => omega
        case c2 => exact ⟨rfl, rfl⟩
        case c3 => unfold maxLen; omega
        case c4 => omega
        intro v4 w2 hown2 hb2 hs2 hk2
        have hbx : Blk (wo.alloc (.cells #[.bool false, .int .u64 hi, .int .u64 lo, .int .i64 m, .int .i64 hop] 48)) wo.heap.size 48 #[.bool false, .int .u64 hi, .int .u64 lo, .int .i64 m, .int .i64 hop] := Blk.new _ _ _
        have HK2 : Hid (Blk w2 wo.heap.size 48 #[.bool false, .int .u64 hi, .int .u64 lo, .int .i64 m, .int .i64 hop]) := (KeepT.of_own (fun k hk hne => hk2 k (by simpa using hk) hne) (HO.out _) (by decide) _ _ hbx).trans hbx
        have HB2 : Hid (Below w.heap.size w w2) := (HBO.out.alloc hszb _).trans hb2
        have HO2 : Hid (OwnBs w2 w.heap.size v4 (base ++ [0, m])) := by
          show World.ownsRow _ _ _ _ _ _ _
          rw [List.length_append, HBL.out, List.map_append]
          exact hown2
        have y0 := HK2.out.cell 0
        have y1 := HK2.out.cell 1
        have y2 := HK2.out.cell 2
        have y3 := HK2.out.cell 3
        have y4 := HK2.out.cell 4
        simp at y0 y1 y2 y3 y4
        have hw2 := HK2.out.lt
        clear hown2 hb2 hk2 hbx q0 q1 q2 q3 q4
        go_wp2
        go_loopw [39, 3] (fun i s3 wr => ∃ (j : Nat) (v5 : Value), j ≤ kk ∧ i = .int .i64 j ∧ v5 = s3 ∧ OwnBs wr w.heap.size v5 (base ++ [0, m] ++ octs ⟨⟨false, hi, lo, m⟩, hop⟩ j) ∧ Hid (Blk wr wo.heap.size 48 #[.bool false, .int .u64 hi, .int .u64 lo, .int .i64 m, .int .i64 hop]) ∧ Below w.heap.size w wr) (fun i _ _ => kk - (intOf i).toNat)
        case atStart => exact ⟨0, _, by omega, rfl, rfl, (by show OwnBs _ _ _ (_ ++ []); rw [List.append_nil]; exact HO2.out), HK2.out, HB2.out⟩
        case round =>
          obtain ⟨j, v5, hj, rfl, rfl, hrow5, hk5, hb5⟩ := hrel
          obtain ⟨wi, rfl⟩ : ∃ wi : World, wi = wr := ⟨_, rfl⟩
          have hszi := hb5.size
          have z0 := hk5.out.cell 0
          have z1 := hk5.out.cell 1
          have z2 := hk5.out.cell 2
          have z3 := hk5.out.cell 3
          have z4 := hk5.out.cell 4
          simp at z0 z1 z2 z3 z4
          have hwi := hk5.out.lt
          obtain ⟨bs, hbs⟩ : ∃ bs, base ++ [0, m] ++ octs ⟨⟨false, hi, lo, m⟩, hop⟩ j = bs := ⟨_, rfl⟩
          have hbsl : bs.length = bl + 2 + j := by rw [← hbs, List.length_append, List.length_append, octs_length, HBL.out]; rfl
          have hbsn : base ++ [0, m] ++ octs ⟨⟨false, hi, lo, m⟩, hop⟩ (j + 1) = bs ++ [(octN ⟨false, hi, lo⟩ j : Int)] := by rw [octs_succ, ← List.append_assoc, hbs]; rfl
          rw [hbs] at hrow5
          unfold OwnBs at hrow5
          rw [hbsl] at hrow5
          have HBS := Lib.hid hbs
          have HBSL := Lib.hid hbsl
          have HBSN := Lib.hid hbsn
          have HO5 := Lib.hid hrow5
          have HB5 := Lib.hid hb5
          clear hbs hbsl hbsn hrow5 hb5
          by_cases hjk : j < kk
          · have CO := Lib.hid (fun (W : World) => octet_any false hi lo j W HAO.out (by have := hkk.1; omega))
            obtain ⟨ov, hov⟩ : ∃ ov : Int, (octN ⟨false, hi, lo⟩ j : Int) = ov := ⟨_, rfl⟩
            rw [hov] at CO HBSN
            clear hov
            go_wp2_with (first | (go_at_call 136; (with_reducible refine (CO.out _).mono ?_); rintro e w6 ⟨rfl, hb6⟩; obtain ⟨fc6, ff6⟩ := bcell hb6; have hz6 := hb6.size; have HB6 := Lib.hid hb6; clear hb6) | (at_builtin; go_loud (refine wpList_append_mN (us := [.int .u8 ov]) rfl _ _ 82 rfl w.heap.size _ 1 Try.underlying82 infoU8 rfl _ _ _ rfl rfl (by first | rfl | simp) (own_below HO5.out HB6.out) ?c1 rfl ?c2 ?c3 ?c4 ?_)))
            case c1 => omega
            case c2 => first | rfl | (intro u hu; simp at hu; subst hu; rfl)
            case c3 => unfold maxLen; omega
            case c4 => omega
            intro v7 w7 hown7 hb7 hs7 hk7
            have HK7 : Hid (Blk w7 wo.heap.size 48 #[.bool false, .int .u64 hi, .int .u64 lo, .int .i64 m, .int .i64 hop]) := (KeepT.of_own hk7 (own_below HO5.out HB6.out) (by decide) _ _ (hk5.out.below HB6.out hwi)).trans (hk5.out.below HB6.out hwi)
            have HO7 : Hid (OwnBs w7 w.heap.size v7 (bs ++ [ov])) := by
              show World.ownsRow _ _ _ _ _ _ _
              rw [List.length_append, HBSL.out, List.map_append]
              exact hown7
            have HB7 : Hid (Below w.heap.size w w7) := (below_step HB5.out HB6.out).trans hb7
            clear hown7 hb7 hk7
            go_wp2
            go_roundw
            case rel => exact ⟨j + 1, _, by omega, by go_num, rfl, by rw [HBSN.out]; exact HO7.out, HK7.out, HB7.out⟩
            case measure => simp [intOf]; omega
          · obtain rfl : j = kk := by omega
            have m3 : hop / 256 % 256 = hop / 256 := by omega
            go_wp2_with (at_builtin; go_loud (refine wpList_append_mN (us := [.int .u8 (hop / 256), .int .u8 (hop % 256)]) rfl _ _ 82 rfl w.heap.size _ 1 Try.underlying82 infoU8 rfl _ _ _ rfl rfl (by first | rfl | simp) HO5.out ?c1 rfl ?c2 ?c3 ?c4 ?_))
            case c1 => omega
            case c2 => first | exact ⟨rfl, rfl⟩ | (intro u hu; simp at hu; rcases hu with rfl | rfl <;> rfl)
            case c3 => unfold maxLen; omega
            case c4 => omega
            intro v7 w7 hown7 hb7 hs7 hk7
            have HO7 : Hid (OwnBs w7 w.heap.size v7 (headL L ++ (L.take (k + 1)).flatMap rbL)) := by
              show World.ownsRow _ _ _ _ _ _ _
              have e9 : headL L ++ (L.take (k + 1)).flatMap rbL = bs ++ [hop / 256, hop % 256] := by
                rw [HFL.out, ← List.append_assoc, HBA.out, ← HBS.out]
                show base ++ rbL _ = _
                unfold rbL
                rw [HKK.out]
                simp
              rw [e9, List.length_append, HBSL.out, List.map_append]
              exact hown7
            have HB7 := Lib.hid (HB5.out.trans hb7)
            clear hown7 hb7 hk7
            go_wp2
            go_roundw
            case rel => exact ⟨k + 1, _, by omega, by go_num, rfl, HO7.out, HB7.out⟩
            case measure => simp [intOf]; omega
      | true =>
        go_wp2_with (at_builtin; go_loud (refine wpList_append_mN (us := [.int .u8 1, .int .u8 m]) rfl _ _ 82 rfl w.heap.size _ 1 Try.underlying82 infoU8 rfl _ _ _ rfl rfl (by simp) (HO.out _) ?c1 rfl ?c2 ?c3 ?c4 ?_))
        case c1 => omega
        case c2 => exact ⟨rfl, rfl⟩
        case c3 => unfold maxLen; omega
        case c4 => omega
        intro v4 w2 hown2 hb2 hs2 hk2
        have hbx : Blk (wo.alloc (.cells #[.bool true, .int .u64 hi, .int .u64 lo, .int .i64 m, .int .i64 hop] 48)) wo.heap.size 48 #[.bool true, .int .u64 hi, .int .u64 lo, .int .i64 m, .int .i64 hop] := Blk.new _ _ _
        have HK2 : Hid (Blk w2 wo.heap.size 48 #[.bool true, .int .u64 hi, .int .u64 lo, .int .i64 m, .int .i64 hop]) := (KeepT.of_own (fun k hk hne => hk2 k (by simpa using hk) hne) (HO.out _) (by decide) _ _ hbx).trans hbx
        have HB2 : Hid (Below w.heap.size w w2) := (HBO.out.alloc hszb _).trans hb2
        have HO2 : Hid (OwnBs w2 w.heap.size v4 (base ++ [1, m])) := by
          show World.ownsRow _ _ _ _ _ _ _
          rw [List.length_append, HBL.out, List.map_append]
          exact hown2
        have y0 := HK2.out.cell 0
        have y1 := HK2.out.cell 1
        have y2 := HK2.out.cell 2
        have y3 := HK2.out.cell 3
        have y4 := HK2.out.cell 4
        simp at y0 y1 y2 y3 y4
        have hw2 := HK2.out.lt
        clear hown2 hb2 hk2 hbx q0 q1 q2 q3 q4
        go_wp2
        go_loopw [39, 3] (fun i s3 wr => ∃ (j : Nat) (v5 : Value), j ≤ kk ∧ i = .int .i64 j ∧ v5 = s3 ∧ OwnBs wr w.heap.size v5 (base ++ [1, m] ++ octs ⟨⟨true, hi, lo, m⟩, hop⟩ j) ∧ Hid (Blk wr wo.heap.size 48 #[.bool true, .int .u64 hi, .int .u64 lo, .int .i64 m, .int .i64 hop]) ∧ Below w.heap.size w wr) (fun i _ _ => kk - (intOf i).toNat)
        case atStart => exact ⟨0, _, by omega, rfl, rfl, (by show OwnBs _ _ _ (_ ++ []); rw [List.append_nil]; exact HO2.out), HK2.out, HB2.out⟩
        case round =>
          obtain ⟨j, v5, hj, rfl, rfl, hrow5, hk5, hb5⟩ := hrel
          obtain ⟨wi, rfl⟩ : ∃ wi : World, wi = wr := ⟨_, rfl⟩
          have hszi := hb5.size
          have z0 := hk5.out.cell 0
          have z1 := hk5.out.cell 1
          have z2 := hk5.out.cell 2
          have z3 := hk5.out.cell 3
          have z4 := hk5.out.cell 4
          simp at z0 z1 z2 z3 z4
          have hwi := hk5.out.lt
          obtain ⟨bs, hbs⟩ : ∃ bs, base ++ [1, m] ++ octs ⟨⟨true, hi, lo, m⟩, hop⟩ j = bs := ⟨_, rfl⟩
          have hbsl : bs.length = bl + 2 + j := by rw [← hbs, List.length_append, List.length_append, octs_length, HBL.out]; rfl
          have hbsn : base ++ [1, m] ++ octs ⟨⟨true, hi, lo, m⟩, hop⟩ (j + 1) = bs ++ [(octN ⟨true, hi, lo⟩ j : Int)] := by rw [octs_succ, ← List.append_assoc, hbs]; rfl
          rw [hbs] at hrow5
          unfold OwnBs at hrow5
          rw [hbsl] at hrow5
          have HBS := Lib.hid hbs
          have HBSL := Lib.hid hbsl
          have HBSN := Lib.hid hbsn
          have HO5 := Lib.hid hrow5
          have HB5 := Lib.hid hb5
          clear hbs hbsl hbsn hrow5 hb5
          by_cases hjk : j < kk
          · have CO := Lib.hid (fun (W : World) => octet_any true hi lo j W HAO.out (by have := hkk.1; omega))
            obtain ⟨ov, hov⟩ : ∃ ov : Int, (octN ⟨true, hi, lo⟩ j : Int) = ov := ⟨_, rfl⟩
            rw [hov] at CO HBSN
            clear hov
            go_wp2_with (first | (go_at_call 136; (with_reducible refine (CO.out _).mono ?_); rintro e w6 ⟨rfl, hb6⟩; obtain ⟨fc6, ff6⟩ := bcell hb6; have hz6 := hb6.size; have HB6 := Lib.hid hb6; clear hb6) | (at_builtin; go_loud (refine wpList_append_mN (us := [.int .u8 ov]) rfl _ _ 82 rfl w.heap.size _ 1 Try.underlying82 infoU8 rfl _ _ _ rfl rfl (by first | rfl | simp) (own_below HO5.out HB6.out) ?c1 rfl ?c2 ?c3 ?c4 ?_)))
            case c1 => omega
            case c2 => first | rfl | (intro u hu; simp at hu; subst hu; rfl)
            case c3 => unfold maxLen; omega
            case c4 => omega
            intro v7 w7 hown7 hb7 hs7 hk7
            have HK7 : Hid (Blk w7 wo.heap.size 48 #[.bool true, .int .u64 hi, .int .u64 lo, .int .i64 m, .int .i64 hop]) := (KeepT.of_own hk7 (own_below HO5.out HB6.out) (by decide) _ _ (hk5.out.below HB6.out hwi)).trans (hk5.out.below HB6.out hwi)
            have HO7 : Hid (OwnBs w7 w.heap.size v7 (bs ++ [ov])) := by
              show World.ownsRow _ _ _ _ _ _ _
              rw [List.length_append, HBSL.out, List.map_append]
              exact hown7
            have HB7 : Hid (Below w.heap.size w w7) := (below_step HB5.out HB6.out).trans hb7
            clear hown7 hb7 hk7
            go_wp2
            go_roundw
            case rel => exact ⟨j + 1, _, by omega, by go_num, rfl, by rw [HBSN.out]; exact HO7.out, HK7.out, HB7.out⟩
            case measure => simp [intOf]; omega
          · obtain rfl : j = kk := by omega
            have m3 : hop / 256 % 256 = hop / 256 := by omega
            go_wp2_with (at_builtin; go_loud (refine wpList_append_mN (us := [.int .u8 (hop / 256), .int .u8 (hop % 256)]) rfl _ _ 82 rfl w.heap.size _ 1 Try.underlying82 infoU8 rfl _ _ _ rfl rfl (by first | rfl | simp) HO5.out ?c1 rfl ?c2 ?c3 ?c4 ?_))
            case c1 => omega
            case c2 => first | exact ⟨rfl, rfl⟩ | (intro u hu; simp at hu; rcases hu with rfl | rfl <;> rfl)
            case c3 => unfold maxLen; omega
            case c4 => omega
            intro v7 w7 hown7 hb7 hs7 hk7
            have HO7 : Hid (OwnBs w7 w.heap.size v7 (headL L ++ (L.take (k + 1)).flatMap rbL)) := by
              show World.ownsRow _ _ _ _ _ _ _
              have e9 : headL L ++ (L.take (k + 1)).flatMap rbL = bs ++ [hop / 256, hop % 256] := by
                rw [HFL.out, ← List.append_assoc, HBA.out, ← HBS.out]
                show base ++ rbL _ = _
                unfold rbL
                rw [HKK.out]
                simp
              rw [e9, List.length_append, HBSL.out, List.map_append]
              exact hown7
            have HB7 := Lib.hid (HB5.out.trans hb7)
            clear hown7 hb7 hk7
            go_wp2
            go_roundw
            case rel => exact ⟨k + 1, _, by omega, by go_num, rfl, HO7.out, HB7.out⟩
            case measure => simp [intOf]; omega
    · obtain rfl : k = n := by omega
      have ht : L.take k = L := List.take_of_length_le (by rw [HZ.out]; omega)
      rw [ht] at hrow
      have hrow : OwnBs wo w.heap.size v3 (saveL L) := hrow
      have hlen := save_length HB.out
      rw [HZ.out] at hlen
      have hsl : (saveL L).length ≤ 1204 := by unfold saveL; rw [List.length_append]; show 4 + _ ≤ _; omega
      have hby := save_bytes HB.out (by rw [HZ.out]; exact hn)
      have hrg := sumOf_range (saveL L)
      obtain ⟨zs, hzs⟩ : ∃ zs, saveL L = zs := ⟨_, rfl⟩
      rw [hzs] at hrow hsl hby hrg
      obtain ⟨A3, c3, rfl, hc3, hr3⟩ := own_reads hrow
      obtain ⟨N, hN⟩ : ∃ N, sumOf zs = N := ⟨_, rfl⟩
      have CS0 := sum_any A3 zs.length c3 zs wo (by omega) hby rfl hr3
      rw [hN] at CS0 hrg
      obtain ⟨zl, hzl⟩ : ∃ zl, zs.length = zl := ⟨_, rfl⟩
      unfold OwnBs at hrow
      rw [hzl] at CS0 hsl hrow hc3
      have CS := Lib.hid CS0
      have HO := Lib.hid hrow
      have HBO := Lib.hid hb
      have HZS := Lib.hid hzs
      have HNN := Lib.hid hN
      have HZL := Lib.hid hzl
      rw [hzl]
      have x1 : N / 16777216 % 256 = N / 16777216 := by omega
      clear CS0 hrow hb hr3 hby hzs hN hzl ht hlen
      go_wp2_with fail
      refine CS.out.mono ?_
      rintro e w2 ⟨rfl, rfl⟩
      go_wp2_with (at_builtin; go_loud (refine wpList_append_mN (us := [.int .u8 (N / 16777216), .int .u8 (N / 65536 % 256), .int .u8 (N / 256 % 256), .int .u8 (N % 256)]) rfl _ _ 82 rfl w.heap.size _ 1 Try.underlying82 infoU8 rfl _ _ _ rfl rfl (by first | rfl | simp) HO.out ?c1 rfl ?c2 ?c3 ?c4 ?_))
      case c1 => exact hszb
      case c2 => first | exact ⟨rfl, rfl, rfl, rfl⟩ | (intro u hu; simp at hu; rcases hu with rfl | rfl | rfl | rfl <;> rfl)
      case c3 => unfold maxLen; omega
      case c4 => omega
      intro v7 w7 hown7 hb7 hs7 hk7
      have HO7 : Hid (OwnBs w7 w.heap.size v7 (zs ++ tailL N)) := by
        show World.ownsRow _ _ _ _ _ _ _
        rw [List.length_append, HZL.out, List.map_append]
        exact hown7
      have HB7 := Lib.hid (HBO.out.trans hb7)
      clear hown7 hb7 hk7
      go_wp2
      (try go_ret)
      rw [← HP.out]
      unfold Saved
      rw [HZS.out, HNN.out]
      exact ⟨_, rfl, HO7.out, HB7.out⟩

end Go.Proofs.Ytmljdjakbbedlaa

namespace Go.Proofs.Ytmljdjakbbedlaa
open Go.ChangeShapes Go.WideShapes Go.ChangeAt Go.RowKit

/-- The code and the bytes of a save. -/
def SaveIs (f : Int) (l : List RouteV) (E : Int) (bs : List Int) : Prop :=
  (¬ f = 0 ∧ E = f ∧ bs = []) ∨ (f = 0 ∧ E = 0 ∧ ∃ S, SortedOf l S ∧ bs = saveL S ++ tailL (sumOf (saveL S)))
theorem saveIs_unique {f : Int} {l : List RouteV} {E E' : Int} {bs bs' : List Int} (hl : f = 0 → Valid l) (h : SaveIs f l E bs) (h' : SaveIs f l E' bs') : E = E' ∧ bs = bs' := by
  rcases h with ⟨a, rfl, rfl⟩ | ⟨a, rfl, S, h1, rfl⟩ <;> rcases h' with ⟨a', rfl, rfl⟩ | ⟨a', rfl, S', h1', rfl⟩
  · exact ⟨rfl, rfl⟩
  · exact absurd a' a
  · exact absurd a a'
  · rw [sortedOf_unique (hl a) h1 h1']; exact ⟨rfl, rfl⟩
theorem route_b {r : RouteV} (h : r.p.Ok) (h1 : 1 ≤ r.hop) (h2 : r.hop ≤ 999) : RouteB r := ⟨h.len.1, h.len.2, h1, h2, h.addr⟩
theorem routes_b {l S : List RouteV} (hv : Valid l) (h : SortedOf l S) : ∀ r ∈ S, RouteB r := fun r hr => by
  obtain ⟨a, b, c⟩ := hv.1 r (h.1.mem_iff.1 hr)
  exact route_b a b c
def SavedP (w : World) (f : Int) (l : List RouteV) (e : Ending) (w' : World) : Prop :=
  ∃ v E bs, e = .returned (.tuple #[v, .int .i64 E]) ∧ SaveIs f l E bs ∧ OwnBs w' w.heap.size v bs ∧ Below w.heap.size w w'
theorem savedP_bad {w w' : World} {f : Int} {l : List RouteV} (h : ¬ f = 0) (hb : Below w.heap.size w w') : SavedP w f l (.returned (.tuple #[.slice none 0 0, .int .i64 f])) w' :=
  ⟨_, f, [], rfl, .inl ⟨h, rfl, rfl⟩, World.ownsRow_nil _ _ _ _, hb⟩

set_option maxRecDepth 100000 in
set_option maxHeartbeats 3200000 in
theorem refSave_any {w : World} {Al : Option Addr} {nl cl : Nat} {l : List RouteV} (hl : IsRoutes w Al nl cl l) :
    Calls Try.prog 38 #[.slice Al nl cl] w (SavedP w (routesF l) l) := by
  have C1 := Lib.hid (tableFault_is hl)
  have HG1 := Lib.hid (fun h0 => valid_of hl.2.2.1 h0)
  have HZ1 := Lib.hid hl.1
  have HR1 := Lib.hid (fun (W : World) (hb : Below w.heap.size w W) => (hl.below hb).2.2.2)
  obtain ⟨post, hpost⟩ : ∃ post, SavedP w (routesF l) l = post := ⟨_, rfl⟩
  rw [hpost]
  obtain ⟨f, hf⟩ : ∃ f, routesF l = f := ⟨_, rfl⟩
  rw [hf] at C1 HG1 hpost
  have HP := Lib.hid hpost
  clear hl hpost hf
  by_cases hf : f = 0
  rotate_left
  · have d0 : (f != 0) = true := by simpa using hf
    go_enter Try.func38, Try.ntmps38
    go_wp2_with fail
    refine C1.out.mono ?_
    rintro e w1 ⟨rfl, hb1⟩
    have HB1 := Lib.hid hb1
    clear hb1
    go_wp2
    (try go_ret2)
    rw [← HP.out]
    exact savedP_bad hf HB1.out
  subst hf
  have hG1 := HG1.out rfl
  have hn1 : nl ≤ 60 := by rw [← HZ1.out]; exact hG1.2
  have HV1 : Hid (GoodL l) := hG1
  clear hG1 HG1
  go_enter Try.func38, Try.ntmps38
  go_wp2_with fail
  refine C1.out.mono ?_
  rintro e w2 ⟨rfl, hb2⟩
  have HB2 := Lib.hid hb2
  have hs2 := HB2.out.size
  have HRA := Lib.hid (HR1.out _ HB2.out)
  clear hb2 C1
  go_wp2_with (at_builtin; go_loud (refine wpList_append_reads rfl _ _ 26 rfl w2.heap.size 48 _ 5 40 Try.underlying26 infoRouteP rfl (by decide) _ _ _ rfl _ _ _ rfl (World.ownsRow_nil _ _ _ _) _ _ HRA.out (rts_one _) ?c3 ?c4 ?c5 ?_))
  case c3 => unfold maxLen; omega
  case c4 => omega
  case c5 => exact Nat.le_refl _
  intro v9 w3 hown9 hb3
  have H93 : Hid (OwnRs w3 w2.heap.size v9 l) := by
    show World.ownsRow _ _ _ _ _ _ _
    rw [HZ1.out]
    simpa using hown9
  obtain ⟨A9, c9, rfl, _, _⟩ := own_reads H93.out
  have HB3 := Lib.hid (below_step HB2.out hb3)
  have hs3 := hb3.size
  have CS1 := Lib.hid (sortRs_any H93.out HV1.out)
  obtain ⟨nn, hnn⟩ : ∃ nn, l.length = nn := ⟨_, rfl⟩
  rw [hnn] at CS1 H93
  rw [hnn]
  have HNN := Lib.hid hnn
  have hnn60 : nn ≤ 60 := by rw [← hnn]; exact HV1.out.2
  have m1 : (nn : Int) % 256 = nn := by omega
  clear hown9 hb3 HRA hnn
  go_wp2_with (go_at_call 92; (with_reducible refine CS1.out.mono ?_); rintro e w5 ⟨rfl, S, hS, h95, hg5⟩; have HS := Lib.hid hS; have H95 := Lib.hid h95; have HG5 := Lib.hid hg5; clear hS h95 hg5)
  have HB5 : Hid (Below w.heap.size w w5) := HB3.out.grown HG5.out HB3.out.size (fun b hb => by have := own_base H93.out b hb; omega)
  have hs5 := HB5.out.size
  have hls : S.length = nn := HS.out.1.length_eq.trans HNN.out
  obtain ⟨_, _, ea, hca, hra⟩ := own_reads H95.out
  injection ea with e1 e3 e2
  clear e3
  subst e1 e2
  rw [hls] at hra hca
  have HZ : Hid (S.length = nn) := hls
  have HBR := Lib.hid (routes_b HV1.out.1 HS.out)
  obtain ⟨X, hX⟩ : ∃ X : World, X = w5.alloc (.cells #[.int .u8 87, .int .u8 72, .int .u8 49, .int .u8 nn] 5) := ⟨_, rfl⟩
  have hbX : Below w5.heap.size w5 X := by rw [hX]; exact (Below.refl _ _).alloc (Nat.le_refl _) _
  have hoX : X.ownsRow w.heap.size 5 1 (.slice (some ⟨w5.heap.size, 0, none⟩) 4 4) 4 [.int .u8 87, .int .u8 72, .int .u8 49, .int .u8 nn] := by rw [hX]; exact own_new (us := [.int .u8 87, .int .u8 72, .int .u8 49, .int .u8 nn]) hs5 rfl (by decide)
  have HRX := Lib.hid ((hra.below hbX).more hbX.size)
  have HBX := Lib.hid (below_step HB5.out hbX)
  have hwX := HBX.out.size
  have HO1 : Hid (OwnBs X w.heap.size (.slice (some ⟨w5.heap.size, 0, none⟩) 4 4) (headL S)) := by
    show World.ownsRow _ _ _ _ _ _ _
    unfold headL
    rw [HZ.out]
    exact hoX
  have HRX9 : Hid (OwnRs X w2.heap.size (.slice A9 nn c9) S) := own_below H95.out hbX
  rw [← hX]
  clear hX hbX hoX hra hca hls CS1 HG5 H93 H95 HB2 HB3 HR1 HRX
  go_loopw [29, 6] (fun i s3 wr => ∃ (k : Nat) (v3 : Value), k ≤ nn ∧ i = .int .i64 k ∧ v3 = s3 ∧ OwnBs wr w.heap.size v3 (headL S ++ (S.take k).flatMap rbL) ∧ Hid (OwnRs wr w2.heap.size (.slice A9 nn c9) S) ∧ Below w.heap.size w wr) (fun i _ _ => nn - (intOf i).toNat)
  case atStart => exact ⟨0, _, by omega, rfl, rfl, by simpa using HO1.out, HRX9, HBX.out⟩
  case round =>
    obtain ⟨k, v3, hk, rfl, rfl, hrow, hown9, hb⟩ := hrel
    obtain ⟨wo, rfl⟩ : ∃ wo : World, wo = wr := ⟨_, rfl⟩
    have hszb := hb.size
    by_cases hlt : k < nn
    · obtain ⟨_, _, ea, hca, hra⟩ := own_reads hown9.out
      injection ea with e1 e3 e2
      clear e3
      subst e1 e2
      rw [HZ.out] at hra
      obtain ⟨ad, ⟨⟨six, hi, lo, m⟩, hop⟩, rfl, hlk, htk, hmem, hbk, hc0, hcj⟩ := hra.atS RouteV.cells_length HZ.out hlt
      have q0 := hc0 _ rfl
      have q1 := hcj 1 _ rfl
      have q2 := hcj 2 _ rfl
      have q3 := hcj 3 _ rfl
      have q4 := hcj 4 _ rfl
      have hrb := HBR.out _ hmem
      have hlen := save_length (L := S.take k) (fun r hr => HBR.out r (List.mem_of_mem_take hr))
      rw [List.length_take, HZ.out, Nat.min_eq_left (by omega)] at hlen
      have hfl : (S.take (k + 1)).flatMap rbL = (S.take k).flatMap rbL ++ rbL ⟨⟨six, hi, lo, m⟩, hop⟩ := by rw [htk, List.flatMap_append]; simp
      have hkk := hrb.k
      have hn0 := hrb.n0
      have hn1 := hrb.n1
      have hp0 := hrb.h0
      have hp1 := hrb.h1
      have HAO := Lib.hid hrb.a
      simp only at hkk hn0 hn1 hp0 hp1
      have hm128 : m ≤ 128 := by rcases wideI_cases six with h5 | h5 <;> rw [h5] at hn1 <;> omega
      have m2 : m % 256 = m := by omega
      obtain ⟨base, hbase⟩ : ∃ base, headL S ++ (S.take k).flatMap rbL = base := ⟨_, rfl⟩
      have hbl : base.length ≤ 4 + 20 * k := by rw [← hbase, List.length_append]; show 4 + _ ≤ _; omega
      rw [hbase] at hrow
      have HBA := Lib.hid hbase
      obtain ⟨bl, hbl2⟩ : ∃ bl, base.length = bl := ⟨_, rfl⟩
      unfold OwnBs at hrow
      rw [hbl2] at hrow hbl
      have HBL := Lib.hid hbl2
      have HFL := Lib.hid hfl
      have HO := Lib.hid (fun (o : Obj) => own_below hrow ((Below.refl _ _).alloc (Nat.le_refl _) o))
      have HO9 := Lib.hid (fun (o : Obj) => own_below hown9.out ((Below.refl _ _).alloc (Nat.le_refl _) o))
      have HBO := Lib.hid hb
      clear hlk htk hmem hbk hc0 hcj hb hrow hrb hlen hfl hbase hbl2 hn1 hra hca hown9
      obtain ⟨kk, hkk2⟩ : ∃ kk : Nat, kO ⟨⟨six, hi, lo, m⟩, hop⟩ = kk := ⟨_, rfl⟩
      have hk8 : (m + 7) / 8 = (kk : Int) := by rw [← hkk2]; unfold kO; simp only; omega
      rw [hkk2] at hkk
      have HKK := Lib.hid hkk2
      clear hkk2
      cases six with
      | false =>
        go_wp2_with (at_builtin; go_loud (refine wpList_append_mN (us := [.int .u8 0, .int .u8 m]) rfl _ _ 82 rfl w.heap.size _ 1 Try.underlying82 infoU8 rfl _ _ _ rfl rfl (by simp) (HO.out _) ?c1 rfl ?c2 ?c3 ?c4 ?_))
        case c1 => omega
        case c2 => exact ⟨rfl, rfl⟩
        case c3 => unfold maxLen; omega
        case c4 => omega
        intro v4 w6 hown6 hb6 hs6 hk6
        have hbx : Blk (wo.alloc (.cells #[.bool false, .int .u64 hi, .int .u64 lo, .int .i64 m, .int .i64 hop] 48)) wo.heap.size 48 #[.bool false, .int .u64 hi, .int .u64 lo, .int .i64 m, .int .i64 hop] := Blk.new _ _ _
        have hkt : KeepT 48 (wo.alloc (.cells #[.bool false, .int .u64 hi, .int .u64 lo, .int .i64 m, .int .i64 hop] 48)) w6 := KeepT.of_own (fun k hk hne => hk6 k (by simpa using hk) hne) (HO.out _) (by decide)
        have HK6 : Hid (Blk w6 wo.heap.size 48 #[.bool false, .int .u64 hi, .int .u64 lo, .int .i64 m, .int .i64 hop]) := (hkt _ _ hbx).trans hbx
        have H96 : Hid (OwnRs w6 w2.heap.size (.slice (some ad) nn c9) S) := own_keepT (HO9.out _) hkt
        have HB6 : Hid (Below w.heap.size w w6) := (HBO.out.alloc hszb _).trans hb6
        have HO6 : Hid (OwnBs w6 w.heap.size v4 (base ++ [0, m])) := by
          show World.ownsRow _ _ _ _ _ _ _
          rw [List.length_append, HBL.out, List.map_append]
          exact hown6
        have y0 := HK6.out.cell 0
        have y1 := HK6.out.cell 1
        have y2 := HK6.out.cell 2
        have y3 := HK6.out.cell 3
        have y4 := HK6.out.cell 4
        simp at y0 y1 y2 y3 y4
        have hw6 := HK6.out.lt
        have hsw6 := HB6.out.size
        have CP := Lib.hid (partsOf_any false hi lo 8 w6 HAO.out (by decide) (by decide))
        clear hown6 hb6 hk6 hbx hkt q0 q1 q2 q3 q4
        go_wp2_with fail
        refine CP.out.mono ?_
        rintro e w8 ⟨vp, rfl, hownp, hb8⟩
        have HK8 : Hid (Blk w8 wo.heap.size 48 #[.bool false, .int .u64 hi, .int .u64 lo, .int .i64 m, .int .i64 hop]) := HK6.out.below hb8 hw6
        have H98 : Hid (OwnRs w8 w2.heap.size (.slice (some ad) nn c9) S) := own_below H96.out hb8
        have HO8 : Hid (OwnBs w8 w.heap.size v4 (base ++ [0, m])) := own_below HO6.out hb8
        have HB8 := Lib.hid (below_step HB6.out hb8)
        have hs8 := hb8.size
        have hW : widN (⟨false, hi, lo⟩ : AV).six = 32 := by simp [widN]
        have hgl : (groups (AV.v ⟨false, hi, lo⟩) (widN (⟨false, hi, lo⟩ : AV).six) 8 (widN (⟨false, hi, lo⟩ : AV).six)).length = 4 := by rw [groups_length, hW]
        obtain ⟨G, hG⟩ : ∃ G, groups (AV.v ⟨false, hi, lo⟩) (widN (⟨false, hi, lo⟩ : AV).six) 8 (widN (⟨false, hi, lo⟩ : AV).six) = G := ⟨_, rfl⟩
        have HGG : Hid (∀ j, j < 4 → G[j]? = some (octN ⟨false, hi, lo⟩ j : Int)) := by
          intro j hj
          rw [← hG, groups_get _ _ _ _ j (by rw [hW]; omega), gv_oct ⟨false, hi, lo⟩ j (by rw [hW]; omega)]
        rw [hG] at hgl hownp
        rw [hgl] at hownp
        obtain ⟨Ap, cp, rfl, hcp, hrp⟩ := own_reads hownp
        obtain ⟨ap, rfl, -, -⟩ := hrp.2 (by decide)
        have HP8 := Lib.hid hownp
        have hkN : kk ≤ 4 := by
          have := hkk.1
          have e : widN false = 32 := by simp [widN]
          omega
        clear hownp hb8 hG hgl hrp y0 y1 y2 y3 y4 CP
        go_wp2
        go_loopw [50, 6] (fun i s6 wr => ∃ (j : Nat) (v5 : Value), j ≤ 4 ∧ i = .int .i64 j ∧ v5 = s6 ∧ OwnBs wr w.heap.size v5 (base ++ [0, m] ++ octs ⟨⟨false, hi, lo, m⟩, hop⟩ (min j kk)) ∧ Hid (Blk wr wo.heap.size 48 #[.bool false, .int .u64 hi, .int .u64 lo, .int .i64 m, .int .i64 hop]) ∧ Hid (OwnRs wr w2.heap.size (.slice (some ad) nn c9) S) ∧ Hid (wr.ownsRow w6.heap.size 3 1 (.slice (some ap) 4 cp) 4 (G.map (Value.int .i64))) ∧ Below w.heap.size w wr) (fun i _ _ => 4 - (intOf i).toNat)
        case atStart => exact ⟨0, _, by omega, rfl, rfl, (by rw [Nat.zero_min]; show OwnBs _ _ _ (_ ++ []); rw [List.append_nil]; exact HO8.out), HK8.out, H98.out, HP8.out, HB8.out⟩
        case round =>
          obtain ⟨j, v5, hj, rfl, rfl, hrow5, hk5, h95, hp5, hb5⟩ := hrel
          obtain ⟨wi, rfl⟩ : ∃ wi : World, wi = wr := ⟨_, rfl⟩
          have hszi := hb5.size
          have z0 := hk5.out.cell 0
          have z1 := hk5.out.cell 1
          have z2 := hk5.out.cell 2
          have z3 := hk5.out.cell 3
          have z4 := hk5.out.cell 4
          simp at z0 z1 z2 z3 z4
          have hwi := hk5.out.lt
          obtain ⟨bs, hbs⟩ : ∃ bs, base ++ [0, m] ++ octs ⟨⟨false, hi, lo, m⟩, hop⟩ (min j kk) = bs := ⟨_, rfl⟩
          have hbsl : bs.length = bl + 2 + min j kk := by rw [← hbs, List.length_append, List.length_append, octs_length, HBL.out]; rfl
          obtain ⟨ml, hml⟩ : ∃ ml, bl + 2 + min j kk = ml := ⟨_, rfl⟩
          have hml2 : ml ≤ bl + 18 := by omega
          rw [hbs] at hrow5
          unfold OwnBs at hrow5
          rw [hbsl, hml] at hrow5
          have HBSL : Hid (bs.length = ml) := hbsl.trans hml
          have HBS := Lib.hid hbs
          have HO5 := Lib.hid hrow5
          have HB5 := Lib.hid hb5
          clear hbsl hrow5 hb5 hml
          by_cases hlt : j < 4
          · obtain ⟨_, _, ea, -, hrp⟩ := own_reads hp5.out
            injection ea with e1 e3 e2
            clear e3
            subst e1 e2
            obtain ⟨ap', x, e1, hx, -, hxl, -⟩ := hrp.at1 hlt
            injection e1 with e1
            subst e1
            rw [HGG.out j hlt] at hxl
            injection hxl with hxl
            have hx255 : 0 ≤ x ∧ x < 256 := by have := octN_lt ⟨false, hi, lo⟩ j; omega
            have m4 : x % 256 = x := by omega
            have w8' : IntKind.i64.wrap (8 * (j : Int)) = 8 * (j : Int) := by rw [IntWalk.i64_in _ (by omega)]
            have HX := Lib.hid hxl
            clear hrp hxl
            by_cases hjk : j < kk
            · have hc : 8 * (j : Int) < m := by omega
              have hmn : min (j + 1) kk = min j kk + 1 := by omega
              have hmj : min j kk = j := by omega
              clear hbs
              go_wp2_with (at_builtin; go_loud (refine wpList_append_mN (us := [.int .u8 x]) rfl _ _ 82 rfl w.heap.size _ 1 Try.underlying82 infoU8 rfl _ _ _ rfl rfl (by first | rfl | simp) HO5.out (by omega) rfl (by first | rfl | exact ⟨rfl, rfl⟩ | (intro u hu; simp at hu; subst hu; rfl) | (intro u hu; simp at hu; rcases hu with rfl | rfl <;> rfl)) (by unfold maxLen; omega) (by omega) ?_))
              intro v7 w7 hown7 hb7 hs7 hk7
              have HK7 : Hid (Blk w7 wo.heap.size 48 #[.bool false, .int .u64 hi, .int .u64 lo, .int .i64 m, .int .i64 hop]) := (KeepT.of_own hk7 HO5.out (by decide) _ _ hk5.out).trans hk5.out
              have H97 : Hid (OwnRs w7 w2.heap.size (.slice (some ad) nn c9) S) := own_keepT h95.out (KeepT.of_own hk7 HO5.out (by decide))
              have HP7 : Hid (w7.ownsRow w6.heap.size 3 1 (.slice (some ap) 4 cp) 4 (G.map (Value.int .i64))) := own_keepT hp5.out (KeepT.of_own hk7 HO5.out (by decide))
              have HO7 : Hid (OwnBs w7 w.heap.size v7 (base ++ [0, m] ++ octs ⟨⟨false, hi, lo, m⟩, hop⟩ (min (j + 1) kk))) := by
                show World.ownsRow _ _ _ _ _ _ _
                rw [hmn, octs_succ, ← List.append_assoc, HBS.out, hmj]
                rw [show ((octN (PV.addr ⟨false, hi, lo, m⟩) j : Nat) : Int) = x from HX.out]
                rw [List.length_append, HBSL.out, List.map_append]
                exact hown7
              have HB7 : Hid (Below w.heap.size w w7) := HB5.out.trans hb7
              clear hown7 hb7 hk7
              go_wp2
              go_roundw
              case rel => exact ⟨j + 1, _, by omega, by go_num, rfl, HO7.out, HK7.out, H97.out, HP7.out, HB7.out⟩
              case measure => simp [intOf]; omega
            · have hc : ¬ 8 * (j : Int) < m := by omega
              have hmn : min (j + 1) kk = min j kk := by omega
              clear hbs
              go_wp2
              go_roundw
              case rel => exact ⟨j + 1, _, by omega, by go_num, rfl, (by rw [hmn, HBS.out]; show World.ownsRow _ _ _ _ _ _ _; rw [HBSL.out]; exact HO5.out), hk5.out, h95.out, hp5.out, HB5.out⟩
              case measure => simp [intOf]; omega
          · obtain rfl : j = 4 := by omega
            have hmk : min 4 kk = kk := by omega
            rw [hmk] at hbs
            have HBQ := Lib.hid hbs
            have t1 : Int.tdiv hop 256 = hop / 256 := Int.tdiv_eq_ediv_of_nonneg (by omega)
            have t2 : Int.tmod hop 256 = hop % 256 := Int.tmod_eq_emod_of_nonneg (by omega)
            have t3 : IntKind.i64.wrap (hop / 256) = hop / 256 := by rw [IntWalk.i64_in _ (by omega)]
            have t4 : IntKind.i64.wrap (hop % 256) = hop % 256 := by rw [IntWalk.i64_in _ (by omega)]
            have m3 : hop / 256 % 256 = hop / 256 := by omega
            clear hbs
            go_wp2_with (at_builtin; go_loud (refine wpList_append_mN (us := [.int .u8 (hop / 256), .int .u8 (hop % 256)]) rfl _ _ 82 rfl w.heap.size _ 1 Try.underlying82 infoU8 rfl _ _ _ rfl rfl (by first | rfl | simp) HO5.out (by omega) rfl (by first | rfl | exact ⟨rfl, rfl⟩ | (intro u hu; simp at hu; subst hu; rfl) | (intro u hu; simp at hu; rcases hu with rfl | rfl <;> rfl)) (by unfold maxLen; omega) (by omega) ?_))
            intro v7 w7 hown7 hb7 hs7 hk7
            have H97 : Hid (OwnRs w7 w2.heap.size (.slice (some ad) nn c9) S) := own_keepT h95.out (KeepT.of_own hk7 HO5.out (by decide))
            have HO7 : Hid (OwnBs w7 w.heap.size v7 (headL S ++ (S.take (k + 1)).flatMap rbL)) := by
              show World.ownsRow _ _ _ _ _ _ _
              have e9 : headL S ++ (S.take (k + 1)).flatMap rbL = bs ++ [hop / 256, hop % 256] := by
                rw [HFL.out, ← List.append_assoc, HBA.out, ← HBQ.out]
                show base ++ rbL _ = _
                unfold rbL
                rw [HKK.out]
                simp
              rw [e9, List.length_append, HBSL.out, List.map_append]
              exact hown7
            have HB7 := Lib.hid (HB5.out.trans hb7)
            clear hown7 hb7 hk7
            go_wp2
            go_roundw
            case rel =>
              exact ⟨k + 1, _, by omega, by go_num, rfl, HO7.out, H97.out, HB7.out⟩
            case measure => simp [intOf]; omega
      | true =>
        go_wp2_with (at_builtin; go_loud (refine wpList_append_mN (us := [.int .u8 1, .int .u8 m]) rfl _ _ 82 rfl w.heap.size _ 1 Try.underlying82 infoU8 rfl _ _ _ rfl rfl (by simp) (HO.out _) ?c1 rfl ?c2 ?c3 ?c4 ?_))
        case c1 => omega
        case c2 => exact ⟨rfl, rfl⟩
        case c3 => unfold maxLen; omega
        case c4 => omega
        intro v4 w6 hown6 hb6 hs6 hk6
        have hbx : Blk (wo.alloc (.cells #[.bool true, .int .u64 hi, .int .u64 lo, .int .i64 m, .int .i64 hop] 48)) wo.heap.size 48 #[.bool true, .int .u64 hi, .int .u64 lo, .int .i64 m, .int .i64 hop] := Blk.new _ _ _
        have hkt : KeepT 48 (wo.alloc (.cells #[.bool true, .int .u64 hi, .int .u64 lo, .int .i64 m, .int .i64 hop] 48)) w6 := KeepT.of_own (fun k hk hne => hk6 k (by simpa using hk) hne) (HO.out _) (by decide)
        have HK6 : Hid (Blk w6 wo.heap.size 48 #[.bool true, .int .u64 hi, .int .u64 lo, .int .i64 m, .int .i64 hop]) := (hkt _ _ hbx).trans hbx
        have H96 : Hid (OwnRs w6 w2.heap.size (.slice (some ad) nn c9) S) := own_keepT (HO9.out _) hkt
        have HB6 : Hid (Below w.heap.size w w6) := (HBO.out.alloc hszb _).trans hb6
        have HO6 : Hid (OwnBs w6 w.heap.size v4 (base ++ [1, m])) := by
          show World.ownsRow _ _ _ _ _ _ _
          rw [List.length_append, HBL.out, List.map_append]
          exact hown6
        have y0 := HK6.out.cell 0
        have y1 := HK6.out.cell 1
        have y2 := HK6.out.cell 2
        have y3 := HK6.out.cell 3
        have y4 := HK6.out.cell 4
        simp at y0 y1 y2 y3 y4
        have hw6 := HK6.out.lt
        have hsw6 := HB6.out.size
        have CP := Lib.hid (partsOf_any true hi lo 8 w6 HAO.out (by decide) (by decide))
        clear hown6 hb6 hk6 hbx hkt q0 q1 q2 q3 q4
        go_wp2_with fail
        refine CP.out.mono ?_
        rintro e w8 ⟨vp, rfl, hownp, hb8⟩
        have HK8 : Hid (Blk w8 wo.heap.size 48 #[.bool true, .int .u64 hi, .int .u64 lo, .int .i64 m, .int .i64 hop]) := HK6.out.below hb8 hw6
        have H98 : Hid (OwnRs w8 w2.heap.size (.slice (some ad) nn c9) S) := own_below H96.out hb8
        have HO8 : Hid (OwnBs w8 w.heap.size v4 (base ++ [1, m])) := own_below HO6.out hb8
        have HB8 := Lib.hid (below_step HB6.out hb8)
        have hs8 := hb8.size
        have hW : widN (⟨true, hi, lo⟩ : AV).six = 128 := by simp [widN]
        have hgl : (groups (AV.v ⟨true, hi, lo⟩) (widN (⟨true, hi, lo⟩ : AV).six) 8 (widN (⟨true, hi, lo⟩ : AV).six)).length = 16 := by rw [groups_length, hW]
        obtain ⟨G, hG⟩ : ∃ G, groups (AV.v ⟨true, hi, lo⟩) (widN (⟨true, hi, lo⟩ : AV).six) 8 (widN (⟨true, hi, lo⟩ : AV).six) = G := ⟨_, rfl⟩
        have HGG : Hid (∀ j, j < 16 → G[j]? = some (octN ⟨true, hi, lo⟩ j : Int)) := by
          intro j hj
          rw [← hG, groups_get _ _ _ _ j (by rw [hW]; omega), gv_oct ⟨true, hi, lo⟩ j (by rw [hW]; omega)]
        rw [hG] at hgl hownp
        rw [hgl] at hownp
        obtain ⟨Ap, cp, rfl, hcp, hrp⟩ := own_reads hownp
        obtain ⟨ap, rfl, -, -⟩ := hrp.2 (by decide)
        have HP8 := Lib.hid hownp
        have hkN : kk ≤ 16 := by
          have := hkk.1
          have e : widN true = 128 := by simp [widN]
          omega
        clear hownp hb8 hG hgl hrp y0 y1 y2 y3 y4 CP
        go_wp2
        go_loopw [50, 6] (fun i s6 wr => ∃ (j : Nat) (v5 : Value), j ≤ 16 ∧ i = .int .i64 j ∧ v5 = s6 ∧ OwnBs wr w.heap.size v5 (base ++ [1, m] ++ octs ⟨⟨true, hi, lo, m⟩, hop⟩ (min j kk)) ∧ Hid (Blk wr wo.heap.size 48 #[.bool true, .int .u64 hi, .int .u64 lo, .int .i64 m, .int .i64 hop]) ∧ Hid (OwnRs wr w2.heap.size (.slice (some ad) nn c9) S) ∧ Hid (wr.ownsRow w6.heap.size 3 1 (.slice (some ap) 16 cp) 16 (G.map (Value.int .i64))) ∧ Below w.heap.size w wr) (fun i _ _ => 16 - (intOf i).toNat)
        case atStart => exact ⟨0, _, by omega, rfl, rfl, (by rw [Nat.zero_min]; show OwnBs _ _ _ (_ ++ []); rw [List.append_nil]; exact HO8.out), HK8.out, H98.out, HP8.out, HB8.out⟩
        case round =>
          obtain ⟨j, v5, hj, rfl, rfl, hrow5, hk5, h95, hp5, hb5⟩ := hrel
          obtain ⟨wi, rfl⟩ : ∃ wi : World, wi = wr := ⟨_, rfl⟩
          have hszi := hb5.size
          have z0 := hk5.out.cell 0
          have z1 := hk5.out.cell 1
          have z2 := hk5.out.cell 2
          have z3 := hk5.out.cell 3
          have z4 := hk5.out.cell 4
          simp at z0 z1 z2 z3 z4
          have hwi := hk5.out.lt
          obtain ⟨bs, hbs⟩ : ∃ bs, base ++ [1, m] ++ octs ⟨⟨true, hi, lo, m⟩, hop⟩ (min j kk) = bs := ⟨_, rfl⟩
          have hbsl : bs.length = bl + 2 + min j kk := by rw [← hbs, List.length_append, List.length_append, octs_length, HBL.out]; rfl
          obtain ⟨ml, hml⟩ : ∃ ml, bl + 2 + min j kk = ml := ⟨_, rfl⟩
          have hml2 : ml ≤ bl + 18 := by omega
          rw [hbs] at hrow5
          unfold OwnBs at hrow5
          rw [hbsl, hml] at hrow5
          have HBSL : Hid (bs.length = ml) := hbsl.trans hml
          have HBS := Lib.hid hbs
          have HO5 := Lib.hid hrow5
          have HB5 := Lib.hid hb5
          clear hbsl hrow5 hb5 hml
          by_cases hlt : j < 16
          · obtain ⟨_, _, ea, -, hrp⟩ := own_reads hp5.out
            injection ea with e1 e3 e2
            clear e3
            subst e1 e2
            obtain ⟨ap', x, e1, hx, -, hxl, -⟩ := hrp.at1 hlt
            injection e1 with e1
            subst e1
            rw [HGG.out j hlt] at hxl
            injection hxl with hxl
            have hx255 : 0 ≤ x ∧ x < 256 := by have := octN_lt ⟨true, hi, lo⟩ j; omega
            have m4 : x % 256 = x := by omega
            have w8' : IntKind.i64.wrap (8 * (j : Int)) = 8 * (j : Int) := by rw [IntWalk.i64_in _ (by omega)]
            have HX := Lib.hid hxl
            clear hrp hxl
            by_cases hjk : j < kk
            · have hc : 8 * (j : Int) < m := by omega
              have hmn : min (j + 1) kk = min j kk + 1 := by omega
              have hmj : min j kk = j := by omega
              clear hbs
              go_wp2_with (at_builtin; go_loud (refine wpList_append_mN (us := [.int .u8 x]) rfl _ _ 82 rfl w.heap.size _ 1 Try.underlying82 infoU8 rfl _ _ _ rfl rfl (by first | rfl | simp) HO5.out (by omega) rfl (by first | rfl | exact ⟨rfl, rfl⟩ | (intro u hu; simp at hu; subst hu; rfl) | (intro u hu; simp at hu; rcases hu with rfl | rfl <;> rfl)) (by unfold maxLen; omega) (by omega) ?_))
              intro v7 w7 hown7 hb7 hs7 hk7
              have HK7 : Hid (Blk w7 wo.heap.size 48 #[.bool true, .int .u64 hi, .int .u64 lo, .int .i64 m, .int .i64 hop]) := (KeepT.of_own hk7 HO5.out (by decide) _ _ hk5.out).trans hk5.out
              have H97 : Hid (OwnRs w7 w2.heap.size (.slice (some ad) nn c9) S) := own_keepT h95.out (KeepT.of_own hk7 HO5.out (by decide))
              have HP7 : Hid (w7.ownsRow w6.heap.size 3 1 (.slice (some ap) 16 cp) 16 (G.map (Value.int .i64))) := own_keepT hp5.out (KeepT.of_own hk7 HO5.out (by decide))
              have HO7 : Hid (OwnBs w7 w.heap.size v7 (base ++ [1, m] ++ octs ⟨⟨true, hi, lo, m⟩, hop⟩ (min (j + 1) kk))) := by
                show World.ownsRow _ _ _ _ _ _ _
                rw [hmn, octs_succ, ← List.append_assoc, HBS.out, hmj]
                rw [show ((octN (PV.addr ⟨true, hi, lo, m⟩) j : Nat) : Int) = x from HX.out]
                rw [List.length_append, HBSL.out, List.map_append]
                exact hown7
              have HB7 : Hid (Below w.heap.size w w7) := HB5.out.trans hb7
              clear hown7 hb7 hk7
              go_wp2
              go_roundw
              case rel => exact ⟨j + 1, _, by omega, by go_num, rfl, HO7.out, HK7.out, H97.out, HP7.out, HB7.out⟩
              case measure => simp [intOf]; omega
            · have hc : ¬ 8 * (j : Int) < m := by omega
              have hmn : min (j + 1) kk = min j kk := by omega
              clear hbs
              go_wp2
              go_roundw
              case rel => exact ⟨j + 1, _, by omega, by go_num, rfl, (by rw [hmn, HBS.out]; show World.ownsRow _ _ _ _ _ _ _; rw [HBSL.out]; exact HO5.out), hk5.out, h95.out, hp5.out, HB5.out⟩
              case measure => simp [intOf]; omega
          · obtain rfl : j = 16 := by omega
            have hmk : min 16 kk = kk := by omega
            rw [hmk] at hbs
            have HBQ := Lib.hid hbs
            have t1 : Int.tdiv hop 256 = hop / 256 := Int.tdiv_eq_ediv_of_nonneg (by omega)
            have t2 : Int.tmod hop 256 = hop % 256 := Int.tmod_eq_emod_of_nonneg (by omega)
            have t3 : IntKind.i64.wrap (hop / 256) = hop / 256 := by rw [IntWalk.i64_in _ (by omega)]
            have t4 : IntKind.i64.wrap (hop % 256) = hop % 256 := by rw [IntWalk.i64_in _ (by omega)]
            have m3 : hop / 256 % 256 = hop / 256 := by omega
            clear hbs
            go_wp2_with (at_builtin; go_loud (refine wpList_append_mN (us := [.int .u8 (hop / 256), .int .u8 (hop % 256)]) rfl _ _ 82 rfl w.heap.size _ 1 Try.underlying82 infoU8 rfl _ _ _ rfl rfl (by first | rfl | simp) HO5.out (by omega) rfl (by first | rfl | exact ⟨rfl, rfl⟩ | (intro u hu; simp at hu; subst hu; rfl) | (intro u hu; simp at hu; rcases hu with rfl | rfl <;> rfl)) (by unfold maxLen; omega) (by omega) ?_))
            intro v7 w7 hown7 hb7 hs7 hk7
            have H97 : Hid (OwnRs w7 w2.heap.size (.slice (some ad) nn c9) S) := own_keepT h95.out (KeepT.of_own hk7 HO5.out (by decide))
            have HO7 : Hid (OwnBs w7 w.heap.size v7 (headL S ++ (S.take (k + 1)).flatMap rbL)) := by
              show World.ownsRow _ _ _ _ _ _ _
              have e9 : headL S ++ (S.take (k + 1)).flatMap rbL = bs ++ [hop / 256, hop % 256] := by
                rw [HFL.out, ← List.append_assoc, HBA.out, ← HBQ.out]
                show base ++ rbL _ = _
                unfold rbL
                rw [HKK.out]
                simp
              rw [e9, List.length_append, HBSL.out, List.map_append]
              exact hown7
            have HB7 := Lib.hid (HB5.out.trans hb7)
            clear hown7 hb7 hk7
            go_wp2
            go_roundw
            case rel =>
              exact ⟨k + 1, _, by omega, by go_num, rfl, HO7.out, H97.out, HB7.out⟩
            case measure => simp [intOf]; omega
    · obtain rfl : k = nn := by omega
      have ht : S.take k = S := List.take_of_length_le (by rw [HZ.out]; exact Nat.le_refl _)
      rw [ht] at hrow
      have hrow : OwnBs wo w.heap.size v3 (saveL S) := hrow
      have hlen := save_length HBR.out
      rw [HZ.out] at hlen
      have hsl : (saveL S).length ≤ 1204 := by unfold saveL; rw [List.length_append]; show 4 + _ ≤ _; omega
      have hby := save_bytes HBR.out (by rw [HZ.out]; exact hnn60)
      have hrg := sumOf_range (saveL S)
      obtain ⟨zs, hzs⟩ : ∃ zs, saveL S = zs := ⟨_, rfl⟩
      rw [hzs] at hrow hsl hby hrg
      obtain ⟨A3, c3, rfl, hc3, hr3⟩ := own_reads hrow
      obtain ⟨N, hN⟩ : ∃ N, sumOf zs = N := ⟨_, rfl⟩
      have CS0 := refSum_any A3 zs.length c3 zs wo (by omega) hby rfl hr3
      rw [hN] at CS0 hrg
      obtain ⟨zl, hzl⟩ : ∃ zl, zs.length = zl := ⟨_, rfl⟩
      unfold OwnBs at hrow
      rw [hzl] at CS0 hsl hrow hc3
      have CS := Lib.hid CS0
      have HO := Lib.hid hrow
      have HBO := Lib.hid hb
      have HZS := Lib.hid hzs
      have HNS := Lib.hid hN
      have HZL := Lib.hid hzl
      rw [hzl]
      have x1 : N / 16777216 % 256 = N / 16777216 := by omega
      have t1 : Int.tdiv N 16777216 = N / 16777216 := Int.tdiv_eq_ediv_of_nonneg (by omega)
      have t2 : Int.tdiv N 65536 = N / 65536 := Int.tdiv_eq_ediv_of_nonneg (by omega)
      have t3 : Int.tdiv N 256 = N / 256 := Int.tdiv_eq_ediv_of_nonneg (by omega)
      have t4 : Int.tmod (N / 65536) 256 = N / 65536 % 256 := Int.tmod_eq_emod_of_nonneg (by omega)
      have t5 : Int.tmod (N / 256) 256 = N / 256 % 256 := Int.tmod_eq_emod_of_nonneg (by omega)
      have t6 : Int.tmod N 256 = N % 256 := Int.tmod_eq_emod_of_nonneg (by omega)
      have u1 : IntKind.i64.wrap (N / 16777216) = N / 16777216 := by rw [IntWalk.i64_in _ (by omega)]
      have u2 : IntKind.i64.wrap (N / 65536) = N / 65536 := by rw [IntWalk.i64_in _ (by omega)]
      have u3 : IntKind.i64.wrap (N / 256) = N / 256 := by rw [IntWalk.i64_in _ (by omega)]
      have u4 : IntKind.i64.wrap (N / 65536 % 256) = N / 65536 % 256 := by rw [IntWalk.i64_in _ (by omega)]
      have u5 : IntKind.i64.wrap (N / 256 % 256) = N / 256 % 256 := by rw [IntWalk.i64_in _ (by omega)]
      have u6 : IntKind.i64.wrap (N % 256) = N % 256 := by rw [IntWalk.i64_in _ (by omega)]
      clear CS0 hrow hb hr3 hby hzs hN hzl ht hlen hown9
      go_wp2_with fail
      refine CS.out.mono ?_
      rintro e w7 ⟨rfl, rfl⟩
      go_wp2_with (at_builtin; go_loud (refine wpList_append_mN (us := [.int .u8 (N / 16777216), .int .u8 (N / 65536 % 256), .int .u8 (N / 256 % 256), .int .u8 (N % 256)]) rfl _ _ 82 rfl w.heap.size _ 1 Try.underlying82 infoU8 rfl _ _ _ rfl rfl (by first | rfl | simp) HO.out hszb rfl (by first | exact ⟨rfl, rfl, rfl, rfl⟩ | (intro u hu; simp at hu; rcases hu with rfl | rfl | rfl | rfl <;> rfl)) (by unfold maxLen; omega) (by omega) ?_))
      intro v7 w9 hown7 hb7 hs7 hk7
      have HO7 : Hid (OwnBs w9 w.heap.size v7 (zs ++ tailL N)) := by
        show World.ownsRow _ _ _ _ _ _ _
        rw [List.length_append, HZL.out, List.map_append]
        exact hown7
      have HB7 := Lib.hid (HBO.out.trans hb7)
      clear hown7 hb7 hk7
      go_wp2
      (try go_ret2)
      rw [← HP.out]
      exact ⟨_, 0, _, rfl, .inr ⟨rfl, rfl, S, HS.out, rfl⟩, by rw [HZS.out, HNS.out]; exact HO7.out, HB7.out⟩

end Go.Proofs.Ytmljdjakbbedlaa

namespace Go.Proofs.Ytmljdjakbbedlaa
open Go.ChangeShapes Go.WideShapes Go.ChangeAt Go.RowKit

set_option maxRecDepth 100000 in
set_option maxHeartbeats 1600000 in
theorem imgSave_any {w : World} {A : Option Addr} {n c : Nat} {l : List RouteV} (hl : IsRoutes w A n c l) :
    Calls Try.prog 37 #[.slice A n c] w (SavedP w (routesF l) l) := by
  have C1 := Lib.hid (new_is hl)
  have HG1 := Lib.hid (fun h0 => valid_of hl.2.2.1 h0)
  obtain ⟨post, hpost⟩ : ∃ post, SavedP w (routesF l) l = post := ⟨_, rfl⟩
  rw [hpost]
  obtain ⟨f, hf⟩ : ∃ f, routesF l = f := ⟨_, rfl⟩
  rw [hf] at C1 HG1 hpost
  have HP := Lib.hid hpost
  clear hl hpost hf
  by_cases hf : f = 0
  rotate_left
  · have d0 : (f != 0) = true := by simpa using hf
    go_enter Try.func37, Try.ntmps37
    go_wp2_with fail
    refine C1.out.mono ?_
    rintro e w1 ⟨hb1, ⟨-, rfl⟩ | ⟨h0, _⟩⟩
    · have HB1 := Lib.hid hb1
      clear hb1
      go_wp2
      (try go_ret2)
      rw [← HP.out]
      exact savedP_bad hf HB1.out
    · exact absurd h0 hf
  subst hf
  have HV := Lib.hid (HG1.out rfl)
  clear HG1
  go_enter Try.func37, Try.ntmps37
  go_wp2_with fail
  refine C1.out.mono ?_
  rintro e w1 ⟨hb1, ⟨h0, _⟩ | ⟨-, rfl, hH, -⟩⟩
  · exact absurd rfl h0
  have HB1 := Lib.hid hb1
  have hs1 := hb1.size
  have CC := Lib.hid (collect_tab hH HV.out.1 (Nat.le_trans HV.out.2 (by omega)))
  clear hb1 hH C1
  go_wp2_with fail
  refine CC.out.mono ?_
  rintro e w2 ⟨v, S, rfl, hS, hown, hb2⟩
  have hs2 := hb2.size
  have hlen : S.length ≤ 60 := by rw [hS.1.length_eq]; exact HV.out.2
  have HS := Lib.hid hS
  have HB2 := Lib.hid (below_step HB1.out hb2)
  obtain ⟨A2, c2, rfl, -, hr2⟩ := own_reads hown
  obtain ⟨m, hm⟩ : ∃ m, S.length = m := ⟨_, rfl⟩
  rw [hm] at hr2 hlen ⊢
  have CSV := Lib.hid (save_any (c := c2) hm hlen hr2 (routes_b HV.out.1 hS))
  clear hown hr2 hS hb2 CC hm
  go_wp2_with fail
  refine CSV.out.mono ?_
  rintro e w3 ⟨v3, rfl, hown3, hb3⟩
  have HO3 := Lib.hid (own_mono hown3 (Nat.le_trans hs1 hs2))
  have HB3 := Lib.hid (below_step HB2.out hb3)
  clear hown3 hb3
  go_wp2
  (try go_ret2)
  rw [← HP.out]
  exact ⟨v3, 0, _, rfl, .inr ⟨rfl, rfl, S, HS.out, rfl⟩, HO3.out, HB3.out⟩

theorem saveIs_len {f : Int} {l : List RouteV} {E : Int} {bs : List Int} (hv : f = 0 → Valid l ∧ l.length ≤ 60) (h : SaveIs f l E bs) : bs.length ≤ 1300 := by
  rcases h with ⟨_, _, rfl⟩ | ⟨a, _, S, hS, rfl⟩
  · simp
  · have h1 := save_length (routes_b (hv a).1 hS)
    have h2 := (hv a).2
    rw [hS.1.length_eq] at h1
    unfold saveL headL tailL
    simp only [List.length_append, List.length_cons, List.length_nil]
    omega

set_option maxRecDepth 100000 in
set_option maxHeartbeats 800000 in
theorem imageSaves_core {W : World} {Al : Option Addr} {nl cl : Nat} {l : List RouteV} (hl : IsRoutes W Al nl cl l) :
    Calls Try.prog 11 #[.slice Al nl cl] W fun e W' => e = .returned (.bool true) ∧ Below W.heap.size W W' := by
  have C1 := Lib.hid (imgSave_any hl)
  have C2 := Lib.hid (fun (w : World) (hb : Below W.heap.size W w) => refSave_any (hl.below hb))
  have hG1 := fun h0 => valid_of hl.2.2.1 h0
  clear hl
  go_enter Try.func11, Try.ntmps11
  go_wp2_with fail
  refine C1.out.mono ?_
  rintro e w1 ⟨v1, E, bs, rfl, hS1, hd1, hb1⟩
  have HD1 := Lib.hid hd1
  have HB1 := Lib.hid hb1
  clear hd1 hb1
  go_wp2_with fail
  refine (C2.out _ HB1.out).mono ?_
  rintro e w2 ⟨v2, E2, bs2, rfl, hS2, hd2, hb2⟩
  obtain ⟨rfl, rfl⟩ := saveIs_unique (fun h => (hG1 h).1) hS1 hS2
  have hlen : bs.length ≤ 1300 := saveIs_len hG1 hS1
  obtain ⟨A2, c2, rfl, hc2, hr2⟩ := own_reads hd2
  obtain ⟨A1, c1, rfl, hc1, hr1⟩ := own_reads (own_below HD1.out hb2)
  have CS := Lib.hid (sameBytes_any A1 A2 bs.length c1 bs.length c2 bs bs w2 rfl rfl (by unfold maxLen; omega) (by unfold maxLen; omega) hr1 hr2)
  rw [decide_eq_true rfl] at CS
  have HB2 := Lib.hid (below_step HB1.out hb2)
  generalize bs.length = k at *
  clear hd2 hb2 hr1 hr2 C1 C2 HD1 hS1 hS2 hG1
  go_wp2_with fail
  refine CS.out.mono ?_
  rintro e w3 ⟨rfl, hb3⟩
  have HB3 := Lib.hid (below_step HB2.out hb3)
  clear hb3
  go_wp2
  go_ret
  exact ⟨ret_bool (by simp), HB3.out⟩

set_option maxRecDepth 100000 in
set_option maxHeartbeats 800000 in
theorem imageSaves_walk {H : Type} {enc : TypeId × Value → H} (W : World) (vs : Array Value) (ds : List (DataW H)) (ps : List MemPlace) (h : ArgsOk Try.prog [26] H enc W vs.toList ds ps) :
    Calls Try.prog 11 vs W fun e W' => e = .returned (.bool true) ∧ Below W.heap.size W W' := by
  obtain ⟨hA, ⟨base, hval⟩, _, _⟩ := h
  obtain ⟨v0, d0, e0, _, h0⟩ := trodAll_one hA
  obtain ⟨a0, n, c, rfl⟩ := okWide_slice Try.underlying26 (hval 0 _ v0 rfl (by rw [e0]; rfl))
  obtain ⟨l, hr⟩ := open_routes h0
  obtain rfl : vs = #[.slice a0 n c] := by cases vs; simp_all
  exact imageSaves_core hr

end Go.Proofs.Ytmljdjakbbedlaa
