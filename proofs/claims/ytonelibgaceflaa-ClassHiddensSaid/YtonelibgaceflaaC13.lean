/-
  
-/
import Derived.Test.YtonelibgaceflaaC12
import Derived.Test.YtonelibgaceflaaC11
namespace Go.Proofs.Ytonelibgaceflaa
open Go.ChangeShapes Go.WideShapes Go.ChangeAt Go.RowKit

theorem infoPreH : (Try.prog.info? 35).map (fun i => (i.zero, i.size, i.bytes)) = some (some (.agg #[.bool false, .int .u64 0, .int .u64 0, .int .i64 0]), 4, 32) := by kernel_rfl
theorem own_same {w w' : World} {base : Nat} {e : TypeId} {size n : Nat} {v : Value} {xs : List Value} (h : w.ownsRow base e size v n xs) (hk : ∀ k, v.ownBlock = some k → w'.heap[k]? = w.heap[k]?) : w'.ownsRow base e size v n xs := by
  obtain ⟨h1, h2⟩ := h
  refine ⟨h1, ?_⟩
  rcases h2 with ⟨rfl, h3⟩ | ⟨g, cap, cur, rfl, hg, hh, r⟩
  · exact .inl ⟨rfl, h3⟩
  · exact .inr ⟨g, cap, cur, rfl, hg, (hk g rfl).trans hh, r⟩
/-- Two rows of the call's own, in blocks apart. -/
structure Two (w : World) (base : Nat) (e : TypeId) (size : Nat) (v u : Value) (n m : Nat) (xs ys : List Value) : Prop where
  a : w.ownsRow base e size v n xs
  b : w.ownsRow base e size u m ys
  apart : ∀ k, v.ownBlock = some k → u.ownBlock ≠ some k
theorem Two.swap {w : World} {base : Nat} {e : TypeId} {size : Nat} {v u : Value} {n m : Nat} {xs ys : List Value} (h : Two w base e size v u n m xs ys) : Two w base e size u v m n ys xs :=
  ⟨h.b, h.a, fun k h1 h2 => h.apart k h2 h1⟩
theorem Two.step {w w' : World} {base : Nat} {e : TypeId} {size : Nat} {v u : Value} {n m : Nat} {xs ys : List Value} (h : Two w base e size v u n m xs ys) (hb : Below w.heap.size w w') : Two w' base e size v u n m xs ys :=
  ⟨own_below h.a hb, own_below h.b hb, h.apart⟩
theorem wpList_append_two {P : Program} {ops : Array Oper} {rest : List Oper} {o : Oper} {a : Act} {Q : Exit → Act → World → Prop} {w0 : World} {us : List Value} {fr : Nat × Nat} {e : TypeId} {g : Nat} (hgd : o.guard = none) (s x : Operand) (t : TypeId)
    (ho : o.op = .call { callee := .builtin .append, args := #[s, x], argTypes := #[t, t] })
    (base : Nat) (z : Value) (size bytes : Nat) (ht : P.underlying t = some (.slice e)) (hi : (P.info? e).map (fun i => (i.zero, i.size, i.bytes)) = some (some z, size, bytes))
    (hzs : z.cells.size = size) (hsz : 0 < size) (v u : Value) (n m : Nat) (xs ys : List Value) (hs : a.eval s = v)
    (hx : a.eval x = .slice (some ⟨g, 0, none⟩) 1 1) (hg : g = w0.heap.size) (htwo : Two w0 base e size v u n m xs ys) (hbase : base ≤ w0.heap.size)
    (hl : us.length = size) (h1 : ∀ u ∈ us, u.oneCell' = true) (h63 : n + 1 ≤ maxLen) (hbytes : (n + 1) * bytes ≤ 140737488355328)
    (h : ∀ v' w', Two w' base e size v' u (n + 1) m (xs ++ us) ys → Below base w0 w' → w0.heap.size < w'.heap.size → (∀ k, k < w0.heap.size → v.ownBlock ≠ some k → w'.heap[k]? = w0.heap[k]?) → wpList P ops Q rest (a.put o.dst v') w') :
    wpList P ops Q (o :: rest) a (w0.alloc (.cells us.toArray e fr)) := by
  subst hg
  obtain ⟨i0, hi, hz0, hz1, hz2⟩ := info_parts hi
  have hr : Reads (w0.alloc (.cells us.toArray e fr)) (w0.alloc (.cells us.toArray e fr)).heap.size size (some ⟨w0.heap.size, 0, none⟩) 1 us := by
    refine ⟨by simp [hl], fun _ => ⟨_, rfl, by simp, fun j u hj => ?_⟩⟩
    have e1 : (⟨w0.heap.size, 0, none⟩ : Addr).add j = ⟨w0.heap.size, j, none⟩ := by unfold Addr.add; split <;> simp_all
    rw [e1]
    have : (w0.alloc (.cells us.toArray e fr)).heap[w0.heap.size]? = some (.cells us.toArray e fr) := heap_alloc_new w0 _
    unfold World.cell?
    simp only [this]
    simpa using hj
  refine wpList_append_any _ hgd s x t ho base e i0 z size bytes ht hi hz0 hz1 hz2 hzs hsz v n xs hs (htwo.a.alloc _) _ _ 1 1 us hx hr h1 h63 hbytes (by simp; omega) ?_
  intro v' w' hown' hgr hblk
  have hsz' := hgr.size
  simp at hsz'
  have hkeep : ∀ k, k < w0.heap.size → v.ownBlock ≠ some k → w'.heap[k]? = w0.heap[k]? := fun k hk hne => by
    rw [hgr.block k (by simp; omega) (fun he => hne he.symm)]
    exact Below.heap_alloc _ _ _ hk
  have hub : ∀ k, u.ownBlock = some k → k < w0.heap.size := fun k hk => by
    apply Classical.byContradiction
    intro hc
    exact own_block_lt htwo.b (k := k) (by omega) hk
  have hb : Below base w0 (w0.alloc (.cells us.toArray e fr)) := (Below.refl _ _).alloc hbase _
  refine h v' w' ⟨hown', own_same htwo.b (fun k hk => hkeep k (hub k hk) (fun hh => htwo.apart k hh hk)), fun k hk hu => ?_⟩ (hb.grown hgr (by simp; omega) ?_) (by omega) hkeep
  · rcases hblk with hh | hh
    · rw [hh] at hk
      exact htwo.apart k hk hu
    · rw [hh] at hk
      injection hk with hk
      have := hub k hu
      simp at hk
      omega
  · intro k hk
    rcases htwo.a.2 with ⟨rfl, _⟩ | ⟨g, cap, cur, rfl, hgb, _⟩
    · simp [Value.ownBlock] at hk
    · simp only [Value.ownBlock, Option.some.injEq] at hk
      omega
theorem firstF_of {l : List MatchV} (h : ∀ m ∈ l, m.fault = 0) : firstF MatchV.fault l = 0 := by
  induction l with
  | nil => rfl
  | cons m l ih =>
    unfold firstF
    rw [if_pos (h m (by simp))]
    exact ih (fun x hx => h x (by simp [hx]))
theorem matchesF_take {l : List MatchV} (h : matchesF l = 0) (k : Nat) : matchesF (l.take k) = 0 := by
  obtain ⟨h1, h2⟩ := matchesF_good h
  unfold matchesF at h ⊢
  rw [if_neg (by omega)] at h
  rw [if_neg (by rw [List.length_take]; omega)]
  exact firstF_of fun m hm => firstF_zero3 m (List.mem_of_mem_take hm) h
theorem all_succ {α : Type} (f : α → Bool) {l : List α} {k : Nat} {x : α} (h : l.take (k + 1) = l.take k ++ [x]) : (l.take (k + 1)).all f = ((l.take k).all f && f x) := by
  rw [h, List.all_append]; simp

set_option maxRecDepth 100000 in
set_option maxHeartbeats 6400000 in
theorem refHidden_ok {A : Option Addr} {n c : Nat} {l : List MatchV} {w : World} (h : IsMatches w A n l) (hnc : n ≤ c) (hcm : c ≤ maxLen) (hz : matchesF l = 0) :
    Calls Try.prog 38 #[.slice A n c] w (Places w (hidTo l n) 0) := by
  have HBC := (fun (w' : World) (hb : Below w.heap.size w w') => matchesFault_is (h.below hb) c)
  rw [hz] at HBC
  have C0 := Lib.hid HBC
  have hg : GoodM w A n c l := goodM_of h hz
  have hn30 := hg.few
  have HZ := Lib.hid hg.len
  have HR := Lib.hid hg.reads
  have HOK := Lib.hid hg.ok
  have HGOOD := Lib.hid (matchesF_good hz).2
  have HIS := Lib.hid h
  have HMZ := Lib.hid hz
  unfold Places
  unfold maxLen at hcm
  clear HBC h hz hg
  go_enter Try.func38, Try.ntmps38
  go_wp2_with fail
  refine (C0.out _ (Below.refl _ _)).mono ?_
  rintro e w0 ⟨rfl, hb0⟩
  have HB0 := Lib.hid hb0
  clear hb0
  go_wp2
  go_loopw [27, 5, 6, 7, 8, 9, 11, 12, 14, 16, 17, 18, 19] (fun i v _ _ _ _ _ _ _ _ _ _ _ wr => ∃ k : Nat, k ≤ n ∧ i = .int .i64 k ∧ wr.ownsRow w.heap.size 3 1 v (hidTo l k).length ((hidTo l k).map (Value.int .i64)) ∧ Below w.heap.size w wr) (fun i _ _ _ _ _ _ _ _ _ _ _ _ _ => n - (intOf i).toNat)
  case atStart => exact ⟨0, by omega, rfl, World.ownsRow_nil _ _ _ _, HB0.out⟩
  case round =>
    obtain ⟨k, hk, rfl, hown, hb⟩ := hrel
    obtain ⟨wo, rfl⟩ : ∃ wo : World, wo = wr := ⟨_, rfl⟩
    have HOW := Lib.hid hown
    have HB := Lib.hid hb
    have hszb := hb.size
    clear hown
    by_cases hlt : k < n
    · obtain ⟨ad, ⟨ms, mh, ml, mn, ms2, mh2, ml2, mn2, mc⟩, rfl, hlk, htk, hmem, hbk, hc0, hcj⟩ := HR.out.atS MatchV.cells_length HZ.out hlt
      have q0 := (hb.cell (p := ad.add (k * 9)) (by rw [block_of_add]; exact hbk)).trans (hc0 _ rfl)
      have q1 := (hb.cell (p := ⟨(ad.add (k * 9)).block, (ad.add (k * 9)).off + 1, none⟩) (by rw [block_of_add]; exact hbk)).trans (hcj 1 _ rfl)
      have q2 := (hb.cell (p := ⟨(ad.add (k * 9)).block, (ad.add (k * 9)).off + 2, none⟩) (by rw [block_of_add]; exact hbk)).trans (hcj 2 _ rfl)
      have q3 := (hb.cell (p := ⟨(ad.add (k * 9)).block, (ad.add (k * 9)).off + 3, none⟩) (by rw [block_of_add]; exact hbk)).trans (hcj 3 _ rfl)
      have q4 := (hb.cell (p := ⟨(ad.add (k * 9)).block, (ad.add (k * 9)).off + 4, none⟩) (by rw [block_of_add]; exact hbk)).trans (hcj 4 _ rfl)
      have q5 := (hb.cell (p := ⟨(ad.add (k * 9)).block, (ad.add (k * 9)).off + 5, none⟩) (by rw [block_of_add]; exact hbk)).trans (hcj 5 _ rfl)
      have q6 := (hb.cell (p := ⟨(ad.add (k * 9)).block, (ad.add (k * 9)).off + 6, none⟩) (by rw [block_of_add]; exact hbk)).trans (hcj 6 _ rfl)
      have q7 := (hb.cell (p := ⟨(ad.add (k * 9)).block, (ad.add (k * 9)).off + 7, none⟩) (by rw [block_of_add]; exact hbk)).trans (hcj 7 _ rfl)
      have q8 := (hb.cell (p := ⟨(ad.add (k * 9)).block, (ad.add (k * 9)).off + 8, none⟩) (by rw [block_of_add]; exact hbk)).trans (hcj 8 _ rfl)
      obtain ⟨o1, o2⟩ := HOK.out _ hmem
      have h66 : ms = ms2 := (HGOOD.out _ hmem).2.2.1
      subst h66
      have HHL : Hid (hidAt l k = allEdges (l.take k) ⟨ms, mh, ml, mn, ms, mh2, ml2, mn2, mc⟩) := by
        show _ = _
        rw [hidAt_of hlk, hidden_law ⟨o1, o2⟩ (fun x hx => HOK.out x (List.mem_of_mem_take hx))]
      have HSS := Lib.hid (hidTo_succ l k)
      have hlen := hidTo_len l k
      have HO1 := Lib.hid o1
      have HO2 := Lib.hid o2
      have hk30 : k ≤ 30 := by omega
      have HZK : Hid ((l.take k).length = k) := by show _ = _; rw [List.length_take, HZ.out]; omega
      have HRK := Lib.hid (HR.out.front MatchV.cells_length HZ.out hk)
      have HISK : Hid (IsMatches w (some ad) k (l.take k)) := ⟨HZK.out, by unfold maxLen; omega, fun m hm => HIS.out.2.2.1 m (List.mem_of_mem_take hm), HRK.out⟩
      have HMK := Lib.hid (matchesF_take HMZ.out k)
      have HOKK : Hid (∀ m ∈ l.take k, m.p.Ok ∧ m.q.Ok) := fun m hm => HOK.out m (List.mem_of_mem_take hm)
      have hki : (0 : Int) ≤ (k : Int) := by omega
      have hkc : (k : Int) ≤ (c : Int) := by omega
      clear hlk htk hmem hbk hc0 hcj hb o1 o2
      generalize hidTo l k = done at *
      generalize l.take k = lk at *
      go_wp2
      obtain ⟨M, hM⟩ : ∃ M, (wo.alloc (.cells #[.bool ms, .int .u64 mh, .int .u64 ml, .int .i64 mn, .bool ms, .int .u64 mh2, .int .u64 ml2, .int .i64 mn2, .int .i64 mc] 145)) = M := ⟨_, rfl⟩
      have KM : Hid (Blk M wo.heap.size 145 #[.bool ms, .int .u64 mh, .int .u64 ml, .int .i64 mn, .bool ms, .int .u64 mh2, .int .u64 ml2, .int .i64 mn2, .int .i64 mc]) := by rw [← hM]; exact Blk.new _ _ _
      have hmb : Below wo.heap.size wo M := by rw [← hM]; exact (Below.refl _ _).alloc (Nat.le_refl _) _
      have lm := KM.out.lt
      have HOWM := Lib.hid (own_below HOW.out hmb)
      have HBM := Lib.hid (below_step HB.out hmb)
      have hmz := HBM.out.size
      rw [hM]
      clear q0 q1 q2 q3 q4 q5 q6 q7 q8 hM hmb HOW HB
      go_loopw [36, 8, 9, 11] (fun j v u _ wr => ∃ kj : Nat, kj ≤ k ∧ j = .int .i64 kj ∧ Two wr M.heap.size 35 4 v u kj kj (((lk.take kj).map MatchV.p).flatMap PV.cells) (((lk.take kj).map MatchV.q).flatMap PV.cells) ∧ Below M.heap.size M wr) (fun j _ _ _ _ => k - (intOf j).toNat)
      case atStart => exact ⟨0, by omega, rfl, ⟨World.ownsRow_nil _ _ _ _, World.ownsRow_nil _ _ _ _, fun k h => by simp [Value.ownBlock] at h⟩, Below.refl _ _⟩
      case round =>
        obtain ⟨kj, hkj, rfl, htwo, hbj⟩ := hrel
        obtain ⟨wj, rfl⟩ : ∃ wj : World, wj = wr := ⟨_, rfl⟩
        have HTWO := Lib.hid htwo
        have HBJ := Lib.hid hbj
        have hzj := hbj.size
        clear htwo
        by_cases hltj : kj < k
        · obtain ⟨ad2, ⟨xs, xh, xl, xn, xs2, xh2, xl2, xn2, xc⟩, had, hlk2, htk2, hmem2, hbk2, hc02, hcj2⟩ := HRK.out.atS MatchV.cells_length HZK.out hltj
          injection had with had
          subst had
          have hb02 := HBM.out.trans (hbj.mono HBM.out.size)
          have q0 := (hb02.cell (p := ad.add (kj * 9)) (by rw [block_of_add]; exact hbk2)).trans (hc02 _ rfl)
          have q1 := (hb02.cell (p := ⟨(ad.add (kj * 9)).block, (ad.add (kj * 9)).off + 1, none⟩) (by rw [block_of_add]; exact hbk2)).trans (hcj2 1 _ rfl)
          have q2 := (hb02.cell (p := ⟨(ad.add (kj * 9)).block, (ad.add (kj * 9)).off + 2, none⟩) (by rw [block_of_add]; exact hbk2)).trans (hcj2 2 _ rfl)
          have q3 := (hb02.cell (p := ⟨(ad.add (kj * 9)).block, (ad.add (kj * 9)).off + 3, none⟩) (by rw [block_of_add]; exact hbk2)).trans (hcj2 3 _ rfl)
          have q4 := (hb02.cell (p := ⟨(ad.add (kj * 9)).block, (ad.add (kj * 9)).off + 4, none⟩) (by rw [block_of_add]; exact hbk2)).trans (hcj2 4 _ rfl)
          have q5 := (hb02.cell (p := ⟨(ad.add (kj * 9)).block, (ad.add (kj * 9)).off + 5, none⟩) (by rw [block_of_add]; exact hbk2)).trans (hcj2 5 _ rfl)
          have q6 := (hb02.cell (p := ⟨(ad.add (kj * 9)).block, (ad.add (kj * 9)).off + 6, none⟩) (by rw [block_of_add]; exact hbk2)).trans (hcj2 6 _ rfl)
          have q7 := (hb02.cell (p := ⟨(ad.add (kj * 9)).block, (ad.add (kj * 9)).off + 7, none⟩) (by rw [block_of_add]; exact hbk2)).trans (hcj2 7 _ rfl)
          have q8 := (hb02.cell (p := ⟨(ad.add (kj * 9)).block, (ad.add (kj * 9)).off + 8, none⟩) (by rw [block_of_add]; exact hbk2)).trans (hcj2 8 _ rfl)
          have HTK : Hid (lk.take (kj + 1) = lk.take kj ++ [⟨xs, xh, xl, xn, xs2, xh2, xl2, xn2, xc⟩]) := htk2
          clear hlk2 htk2 hmem2 hbk2 hc02 hcj2 hb02 hbj
          have HT2 := Lib.hid (HTWO.out.step ((Below.refl _ _).alloc (Nat.le_refl _) (.cells #[.bool xs, .int .u64 xh, .int .u64 xl, .int .i64 xn, .bool xs2, .int .u64 xh2, .int .u64 xl2, .int .i64 xn2, .int .i64 xc] 145)))
          have hne := own_block_lt HTWO.out.a (k := wj.heap.size) (Nat.le_refl _)
          go_wp2_with (at_builtin; go_loud (refine wpList_append_two rfl _ _ 30 rfl M.heap.size (.agg #[.bool false, .int .u64 0, .int .u64 0, .int .i64 0]) 4 32 Try.underlying30 infoPreH rfl (by decide) _ _ _ _ _ _ rfl rfl ?a0 HT2.out ?a1 rfl ?a2 ?a3 ?a4 ?_))
          case a1 => (try simp); omega
          case a2 => first | (intro u hu; simp at hu; (rcases hu with rfl | rfl | rfl | rfl <;> rfl); done) | exact ⟨rfl, rfl, rfl, rfl⟩
          case a3 => unfold maxLen; omega
          case a4 => omega
          intro v3 w3 htwo3 hb3 hs3 hk3
          have kX : Blk w3 wj.heap.size 145 #[.bool xs, .int .u64 xh, .int .u64 xl, .int .i64 xn, .bool xs2, .int .u64 xh2, .int .u64 xl2, .int .i64 xn2, .int .i64 xc] := (hk3 wj.heap.size (by simp) hne).trans (Blk.new wj _ _)
          have g4 := kX.cell 4
          have g5 := kX.cell 5
          have g6 := kX.cell 6
          have g7 := kX.cell 7
          simp at g4 g5 g6 g7
          have HT3 := Lib.hid htwo3.swap
          have HB3 : Hid (Below M.heap.size M w3) := (HBJ.out.alloc HBJ.out.size _).trans hb3
          have hz3 := HB3.out.size
          clear htwo3 hb3 hk3 kX hne q0 q1 q2 q3 q4 q5 q6 q7 q8
          go_wp2_with (at_builtin; go_loud (refine wpList_append_two rfl _ _ 30 rfl M.heap.size (.agg #[.bool false, .int .u64 0, .int .u64 0, .int .i64 0]) 4 32 Try.underlying30 infoPreH rfl (by decide) _ _ _ _ _ _ rfl rfl ?b0 HT3.out ?b1 rfl ?b2 ?b3 ?b4 ?_))
          case b0 => rfl
          case b1 => omega
          case b2 => first | (intro u hu; simp at hu; (rcases hu with rfl | rfl | rfl | rfl <;> rfl); done) | exact ⟨rfl, rfl, rfl, rfl⟩
          case b3 => unfold maxLen; omega
          case b4 => omega
          intro v5 w5 htwo5 hb5 hs5 _
          have HT5 := Lib.hid htwo5.swap
          have HB5 := Lib.hid (HB3.out.trans hb5)
          clear htwo5 hb5
          go_wp2
          go_roundw
          case rel => exact ⟨kj + 1, by omega, by go_num, by rw [HTK.out, List.map_append, List.map_append, List.flatMap_append, List.flatMap_append, List.map_take, List.map_take]; exact HT5.out, HB5.out⟩
          case measure => simp [intOf]; omega
        · obtain rfl : kj = k := by omega
          have htwo := HTWO.out
          rw [List.take_of_length_le (by rw [HZK.out]; omega)] at htwo
          obtain ⟨A8, c8, rfl, hc8, hr8⟩ := own_reads htwo.a
          obtain ⟨A9, c9, rfl, hc9, hr9⟩ := own_reads htwo.b
          have HF : Hid (IsPres wj A8 kj c8 (lk.map MatchV.p)) := ⟨by rw [List.length_map]; exact HZK.out, hc8, hr8⟩
          have HT : Hid (IsPres wj A9 kj c9 (lk.map MatchV.q)) := ⟨by rw [List.length_map]; exact HZK.out, hc9, hr9⟩
          have hF1 : ∀ q ∈ lk.map MatchV.p, q.Ok := by intro q hq; obtain ⟨x, hx, rfl⟩ := List.mem_map.1 hq; exact (HOKK.out x hx).1
          have hT1 : ∀ q ∈ lk.map MatchV.q, q.Ok := by intro q hq; obtain ⟨x, hx, rfl⟩ := List.mem_map.1 hq; exact (HOKK.out x hx).2
          have CE1 := Lib.hid (fun (w' : World) (hb : Below wj.heap.size wj w') => edges_any (HF.out.below hb) hF1 hk30 ⟨ms, mh, ml, mn⟩ HO1.out)
          have CE2 := Lib.hid (fun (w' : World) (hb : Below wj.heap.size wj w') => edges_any (HT.out.below hb) hT1 hk30 ⟨ms, mh2, ml2, mn2⟩ HO2.out)
          have HEO1 : Hid (∀ a ∈ edgesP ⟨ms, mh, ml, mn⟩ (lk.map MatchV.p), a.Ok ∧ a.six = ms) := fun a ha => by obtain ⟨x, y, _⟩ := edgesP_ok HO1.out hF1 a ha; exact ⟨x, y⟩
          have HEO2 : Hid (∀ a ∈ edgesP ⟨ms, mh2, ml2, mn2⟩ (lk.map MatchV.q), a.Ok ∧ a.six = ms) := fun a ha => by obtain ⟨x, y, _⟩ := edgesP_ok HO2.out hT1 a ha; exact ⟨x, y⟩
          have HALL : Hid (allEdges lk ⟨ms, mh, ml, mn, ms, mh2, ml2, mn2, mc⟩ = (edgesP ⟨ms, mh, ml, mn⟩ (lk.map MatchV.p)).all fun a => (edgesP ⟨ms, mh2, ml2, mn2⟩ (lk.map MatchV.q)).all fun b => decide (0 ≤ firstAt (fun x => MatchV.fits x a b) lk)) := rfl
          have hel : ∀ (p : PV) (l : List PV), (edgesP p l).length ≤ 2 * l.length + 1 := by
            intro p l
            have key : ∀ l : List PV, (l.flatMap fun q => edgeA p q ++ edgeB p q).length ≤ 2 * l.length := by
              intro l
              induction l with
              | nil => simp
              | cons x l ih =>
                have h1 : (edgeA p x).length ≤ 1 := by unfold edgeA; split <;> simp
                have h2 : (edgeB p x).length ≤ 1 := by unfold edgeB; split <;> simp
                rw [List.flatMap_cons, List.length_append, List.length_append, List.length_cons]
                omega
            have := key l
            unfold edgesP
            rw [List.length_cons]
            omega
          have hE1len := hel ⟨ms, mh, ml, mn⟩ (lk.map MatchV.p)
          have hE2len := hel ⟨ms, mh2, ml2, mn2⟩ (lk.map MatchV.q)
          rw [List.length_map, HZK.out] at hE1len hE2len
          generalize edgesP ⟨ms, mh, ml, mn⟩ (lk.map MatchV.p) = E1 at *
          generalize edgesP ⟨ms, mh2, ml2, mn2⟩ (lk.map MatchV.q) = E2 at *
          have kmj := KM.out.below hbj lm
          have KMJ := Lib.hid kmj
          have HOWJ : Hid (wj.ownsRow w.heap.size 3 1 _ done.length (done.map (Value.int .i64))) := own_below HOWM.out hbj
          have HBJ0 := Lib.hid (HBM.out.trans (hbj.mono HBM.out.size))
          have r0 := kmj.cell 0
          have r1 := kmj.cell 1
          have r2 := kmj.cell 2
          have r3 := kmj.cell 3
          simp at r0 r1 r2 r3
          have lmj := kmj.lt
          unfold PV.val at CE1 CE2
          simp only at CE1 CE2
          clear htwo hc8 hc9 hr8 hr9 hF1 hT1 hel kmj hbj HTWO
          go_wp2_with fail
          refine (CE1.out _ (Below.refl _ _)).mono ?_
          rintro e wE ⟨vE, rfl, hownE, hbE⟩
          obtain ⟨AE, cE, rfl, hcE, hrE⟩ := own_reads hownE
          have HRE := Lib.hid hrE
          have HBE := Lib.hid hbE
          have hzE := hbE.size
          have KME := Lib.hid (KMJ.out.below hbE lmj)
          have HOWE := Lib.hid (own_below HOWJ.out hbE)
          have HBE0 := Lib.hid (below_step HBJ0.out hbE)
          clear hownE hbE hrE r0 r1 r2 r3
          unfold maxLen at hcE
          go_wp2
          go_loopw [56, 12, 14, 16, 17, 18, 19] (fun i v _ _ _ _ _ wr => ∃ ka : Nat, ka ≤ E1.length ∧ i = .int .i64 ka ∧ v = .bool ((E1.take ka).all fun a => E2.all fun b => decide (0 ≤ firstAt (fun x => MatchV.fits x a b) lk)) ∧ Below wE.heap.size wE wr) (fun i _ _ _ _ _ _ _ => E1.length - (intOf i).toNat)
          case atStart => exact ⟨0, by omega, rfl, rfl, Below.refl _ _⟩
          case round =>
            obtain ⟨ka, hka, rfl, rfl, hba⟩ := hrel
            obtain ⟨wa, rfl⟩ : ∃ wa : World, wa = wr := ⟨_, rfl⟩
            have HBA := Lib.hid hba
            have hza := hba.size
            by_cases hlta : ka < E1.length
            · obtain ⟨ade, ⟨ax, ah, al⟩, hade, hlka, htka, hmema, hbka, hc0a, hcja⟩ := HRE.out.atS AV.cells_length rfl hlta
              subst hade
              obtain ⟨aok, a6⟩ := HEO1.out _ hmema
              have a6 : ax = ms := a6
              subst a6
              have e0 := (hba.cell (p := ade.add (ka * 3)) (by rw [block_of_add]; exact hbka)).trans (hc0a _ rfl)
              have e1 := (hba.cell (p := ⟨(ade.add (ka * 3)).block, (ade.add (ka * 3)).off + 1, none⟩) (by rw [block_of_add]; exact hbka)).trans (hcja 1 _ rfl)
              have e2 := (hba.cell (p := ⟨(ade.add (ka * 3)).block, (ade.add (ka * 3)).off + 2, none⟩) (by rw [block_of_add]; exact hbka)).trans (hcja 2 _ rfl)
              have HSA := Lib.hid (all_succ (fun a => E2.all fun b => decide (0 ≤ firstAt (fun x => MatchV.fits x a b) lk)) htka)
              have HAOK := Lib.hid aok
              obtain ⟨prev, hprev⟩ : ∃ b, ((E1.take ka).all fun a => E2.all fun b => decide (0 ≤ firstAt (fun x => MatchV.fits x a b) lk)) = b := ⟨_, rfl⟩
              rw [hprev] at HSA
              rw [hprev]
              have kma := (KME.out.below hba KME.out.lt).alloc (.cells #[.bool ax, .int .u64 ah, .int .u64 al] 24)
              have hba2 : Below wE.heap.size wE (wa.alloc (.cells #[.bool ax, .int .u64 ah, .int .u64 al] 24)) := hba.alloc hba.size _
              have k14 := Blk.new wa 24 #[.bool ax, .int .u64 ah, .int .u64 al]
              have f4 := kma.cell 4
              have f5 := kma.cell 5
              have f6 := kma.cell 6
              have f7 := kma.cell 7
              simp at f4 f5 f6 f7
              have KMA := Lib.hid kma
              have K14 := Lib.hid k14
              have HBA2 := Lib.hid hba2
              have lma : wo.heap.size < wa.heap.size := by have := KME.out.lt; omega
              clear hlka htka hmema hbka hc0a hcja hprev kma hba2 hba k14 aok
              go_wp2_with fail
              refine (CE2.out _ ((HBE.out.trans (HBA2.out.mono HBE.out.size)))).mono ?_
              rintro e wF ⟨vF, rfl, hownF, hbF⟩
              obtain ⟨AF, cF, rfl, hcF, hrF⟩ := own_reads hownF
              have HRF := Lib.hid hrF
              have HBF := Lib.hid (below_step HBA2.out hbF)
              have hzF := hbF.size
              simp at hzF
              have K14F := Lib.hid (K14.out.below hbF (by simp))
              clear hownF hbF hrF f4 f5 f6 f7
              unfold maxLen at hcF
              go_wp2
              go_loopw [65, 12, 16, 17, 18, 19] (fun i v _ _ _ _ wr => ∃ kb : Nat, kb ≤ E2.length ∧ i = .int .i64 kb ∧ v = .bool (prev && (E2.take kb).all fun b => decide (0 ≤ firstAt (fun x => MatchV.fits x ⟨ax, ah, al⟩ b) lk)) ∧ Below wF.heap.size wF wr) (fun i _ _ _ _ _ _ => E2.length - (intOf i).toNat)
              case atStart => exact ⟨0, by omega, rfl, by rw [List.take_zero, List.all_nil, Bool.and_true], Below.refl _ _⟩
              case round =>
                obtain ⟨kb, hkb, rfl, rfl, hbb⟩ := hrel
                obtain ⟨wb, rfl⟩ : ∃ wb : World, wb = wr := ⟨_, rfl⟩
                have HBB := Lib.hid hbb
                have hzb := hbb.size
                by_cases hltb : kb < E2.length
                · obtain ⟨bde, ⟨bx, bh, bl⟩, hbde, hlkb, htkb, hmemb, hbkb, hc0b, hcjb⟩ := HRF.out.atS AV.cells_length rfl hltb
                  subst hbde
                  obtain ⟨bok, b6⟩ := HEO2.out _ hmemb
                  have b6 : bx = ax := b6
                  subst b6
                  have e0 := (hbb.cell (p := bde.add (kb * 3)) (by rw [block_of_add]; exact hbkb)).trans (hc0b _ rfl)
                  have e1 := (hbb.cell (p := ⟨(bde.add (kb * 3)).block, (bde.add (kb * 3)).off + 1, none⟩) (by rw [block_of_add]; exact hbkb)).trans (hcjb 1 _ rfl)
                  have e2 := (hbb.cell (p := ⟨(bde.add (kb * 3)).block, (bde.add (kb * 3)).off + 2, none⟩) (by rw [block_of_add]; exact hbkb)).trans (hcjb 2 _ rfl)
                  have HSB := Lib.hid (all_succ (fun b => decide (0 ≤ firstAt (fun x => MatchV.fits x ⟨bx, ah, al⟩ b) lk)) htkb)
                  obtain ⟨pb, hpb⟩ : ∃ b, (prev && (E2.take kb).all fun b => decide (0 ≤ firstAt (fun x => MatchV.fits x ⟨bx, ah, al⟩ b) lk)) = b := ⟨_, rfl⟩
                  rw [hpb]
                  have CFD := Lib.hid (fun (w' : World) (hb : Below w.heap.size w w') => rfind_ok (some ad) kj c lk bx ah al bh bl w' HAOK.out.rhi HAOK.out.rlo bok.rhi bok.rlo (HISK.out.below hb) HMK.out HAOK.out.may bok.may)
                  have HDB : Hid ((prev && (E2.take (kb + 1)).all fun b => decide (0 ≤ firstAt (fun x => MatchV.fits x ⟨bx, ah, al⟩ b) lk)) = (pb && decide (0 ≤ firstAt (fun x => MatchV.fits x ⟨bx, ah, al⟩ ⟨bx, bh, bl⟩) lk))) := by
                    show _ = _
                    rw [HSB.out, ← hpb, Bool.and_assoc]
                  generalize clAt lk (firstAt (fun m => m.fits ⟨bx, ah, al⟩ ⟨bx, bh, bl⟩) lk) = fc at *
                  generalize firstAt (fun m => MatchV.fits m ⟨bx, ah, al⟩ ⟨bx, bh, bl⟩) lk = fi at *
                  clear hlkb htkb hmemb hbkb hc0b hcjb hpb bok
                  go_wp2_with fail
                  obtain ⟨W16, hW16⟩ : ∃ W, (wb.alloc (.cells #[.bool bx, .int .u64 bh, .int .u64 bl] 24)) = W := ⟨_, rfl⟩
                  have k16 : Blk W16 wb.heap.size 24 #[.bool bx, .int .u64 bh, .int .u64 bl] := by rw [← hW16]; exact Blk.new _ _ _
                  have k14 : Blk W16 wa.heap.size 24 #[.bool bx, .int .u64 ah, .int .u64 al] := by rw [← hW16]; exact (K14F.out.below hbb (by omega)).alloc _
                  have hb16 : Below wb.heap.size wb W16 := by rw [← hW16]; exact (Below.refl _ _).alloc (Nat.le_refl _) _
                  have s0 := k16.cell 0
                  have s1 := k16.cell 1
                  have s2 := k16.cell 2
                  have t0 := k14.cell 0
                  have t1 := k14.cell 1
                  have t2 := k14.cell 2
                  simp at s0 s1 s2 t0 t1 t2
                  have ls := k16.lt
                  have lt0 := k14.lt
                  have HB16 := Lib.hid (hbb.trans (hb16.mono hbb.size))
                  have HBW0 : Hid (Below w.heap.size w W16) := HBE0.out.trans (((HBF.out.trans ((HB16.out).mono HBF.out.size)).mono HBE0.out.size))
                  rw [hW16]
                  clear hW16 e0 e1 e2 k16 k14 hb16 hbb
                  go_region_held3 (fun w' => (∀ b o, b < W16.heap.size → w'.cell? ⟨b, o, none⟩ = W16.cell? ⟨b, o, none⟩) ∧ W16.heap.size ≤ w'.heap.size ∧ Hid (Below W16.heap.size W16 w'))
                    ((first | assumption | exact keep0 _ | exact keep1 (by assumption) (by assumption) | exact keepD (by assumption) | exact keepB (by assumption) (by assumption) | exact keepA (by assumption) _ | exact ⟨fun _ _ _ => rfl, Nat.le_refl _, Below.refl _ _⟩))
                    (first | (go_at_call 40; (with_reducible refine (CFD.out _ ?hb1).mono ?_); (case hb1 => exact below_step HBW0.out (keepBelow (by assumption))); rintro e w22 ⟨rfl, hb22⟩; obtain ⟨fc22, ff22⟩ := bcell hb22; have hz22 := hb22.size))
                  obtain ⟨fc6, z6, HH⟩ : (∀ b o, b < W16.heap.size → w22.cell? ⟨b, o, none⟩ = W16.cell? ⟨b, o, none⟩) ∧ W16.heap.size ≤ w22.heap.size ∧ Hid (Below W16.heap.size W16 w22) := by assumption
                  have HBN := Lib.hid (HB16.out.trans (HH.out.mono HB16.out.size))
                  cases pb with
                  | false =>
                    go_wp2
                    go_roundw
                    case rel => exact ⟨kb + 1, by omega, by go_num, by rw [HDB.out, Bool.false_and], HBN.out⟩
                    case measure => simp [intOf]; omega
                  | true =>
                    go_wp2
                    go_roundw
                    case rel => exact ⟨kb + 1, by omega, by go_num, by rw [HDB.out, Bool.true_and], HBN.out⟩
                    case measure => simp [intOf]; omega
                · obtain rfl : kb = E2.length := by omega
                  rw [List.take_length]
                  have HBN := Lib.hid (HBF.out.trans (hbb.mono HBF.out.size))
                  obtain ⟨pv, hpv⟩ : ∃ b, (prev && E2.all fun b => decide (0 ≤ firstAt (fun x => MatchV.fits x ⟨ax, ah, al⟩ b) lk)) = b := ⟨_, rfl⟩
                  rw [hpv] at HSA ⊢
                  clear hpv
                  go_wp2
                  go_roundw
                  case rel => exact ⟨ka + 1, by omega, by go_num, by rw [HSA.out], HBN.out⟩
                  case measure => simp [intOf]; omega
            · obtain rfl : ka = E1.length := by omega
              rw [List.take_length, ← HALL.out, ← HHL.out]
              have HOWX := Lib.hid (own_below HOWE.out hba)
              have HBX := Lib.hid (below_step HBE0.out hba)
              have zx := HBX.out.size
              generalize hidAt l kj = hv at *
              cases hv with
              | false =>
                have HS2 : Hid (hidTo l (kj + 1) = done) := by show _ = _; rw [HSS.out, if_neg (by simp), List.append_nil]
                go_wp2
                go_roundw
                case rel => exact ⟨kj + 1, by omega, by go_num, by rw [HS2.out]; exact HOWX.out, HBX.out⟩
                case measure => simp [intOf]; omega
              | true =>
                have HS2 : Hid (hidTo l (kj + 1) = done ++ [(kj : Int)]) := by show _ = _; rw [HSS.out, if_pos rfl]
                go_wp2_with (at_builtin; go_loud (refine wpList_append_oneN rfl _ _ 44 rfl w.heap.size (.int .i64 0) 1 8 Try.underlying44 infoIntC rfl (by decide) _ _ _ rfl rfl ?d0 HOWX.out ?d1 rfl ?d2 ?d3 ?d4 ?_))
                case d0 => (try simp); done
                case d2 => first | (intro u hu; simp at hu; (rcases hu with rfl <;> rfl); done) | exact rfl | trivial
                case d3 => unfold maxLen; omega
                case d4 => omega
                intro v' w' hown' hb' hs' _
                have HOW2 : Hid (w'.ownsRow w.heap.size 3 1 v' (hidTo l (kj + 1)).length ((hidTo l (kj + 1)).map (Value.int .i64))) := by
                  show World.ownsRow _ _ _ _ _ _ _
                  rw [HS2.out, List.length_append, List.map_append]
                  exact hown'
                have HB2 := Lib.hid (HBX.out.trans hb')
                clear hown' hb'
                go_wp2
                go_roundw
                case rel => exact ⟨kj + 1, by omega, by go_num, HOW2.out, HB2.out⟩
                case measure => simp [intOf]; omega
    · obtain rfl : k = n := by omega
      go_wp2
      go_ret2
      exact ⟨_, rfl, HOW.out, HB.out⟩

noncomputable def hidO (l : List MatchV) : List Int := if matchesF l = 0 then hidTo l l.length else []

set_option maxRecDepth 100000 in
set_option maxHeartbeats 800000 in
theorem hidden_bad {A : Option Addr} {n c : Nat} {l : List MatchV} {w : World} (h : IsMatches w A n l) (hz : ¬ matchesF l = 0) :
    Calls Try.prog 37 #[.slice A n c] w (Places w [] (matchesF l)) := by
  have HB := classCheck_is h c
  obtain ⟨E, hE⟩ : ∃ E, matchesF l = E := ⟨_, rfl⟩
  rw [hE] at hz HB ⊢
  have hzb : (E != 0) = true := by simpa using hz
  have C0 := Lib.hid HB
  unfold Places
  clear HB h hE hz
  go_enter Try.func37, Try.ntmps37
  go_wp2_with fail
  refine C0.out.mono ?_
  rintro e w0 ⟨rfl, hb0⟩
  have HB0 := Lib.hid hb0
  clear hb0
  go_wp2
  go_ret2
  exact ⟨_, rfl, World.ownsRow_nil _ _ _ _, HB0.out⟩

set_option maxRecDepth 100000 in
set_option maxHeartbeats 800000 in
theorem refHidden_bad {A : Option Addr} {n c : Nat} {l : List MatchV} {w : World} (h : IsMatches w A n l) (hz : ¬ matchesF l = 0) :
    Calls Try.prog 38 #[.slice A n c] w (Places w [] (matchesF l)) := by
  have HB := matchesFault_is h c
  obtain ⟨E, hE⟩ : ∃ E, matchesF l = E := ⟨_, rfl⟩
  rw [hE] at hz HB ⊢
  have hzb : (E != 0) = true := by simpa using hz
  have C0 := Lib.hid HB
  unfold Places
  clear HB h hE hz
  go_enter Try.func38, Try.ntmps38
  go_wp2_with fail
  refine C0.out.mono ?_
  rintro e w0 ⟨rfl, hb0⟩
  have HB0 := Lib.hid hb0
  clear hb0
  go_wp2
  go_ret2
  exact ⟨_, rfl, World.ownsRow_nil _ _ _ _, HB0.out⟩

theorem hidden_is {A : Option Addr} {n c : Nat} {l : List MatchV} {w : World} (h : IsMatches w A n l) (hnc : n ≤ c) (hcm : c ≤ maxLen) : Calls Try.prog 37 #[.slice A n c] w (Places w (hidO l) (matchesF l)) := by
  unfold hidO
  by_cases hz : matchesF l = 0
  · rw [if_pos hz, hz, h.1]; exact hidden_ok h hnc hcm hz
  · rw [if_neg hz]; exact hidden_bad h hz
theorem refHidden_is {A : Option Addr} {n c : Nat} {l : List MatchV} {w : World} (h : IsMatches w A n l) (hnc : n ≤ c) (hcm : c ≤ maxLen) : Calls Try.prog 38 #[.slice A n c] w (Places w (hidO l) (matchesF l)) := by
  unfold hidO
  by_cases hz : matchesF l = 0
  · rw [if_pos hz, hz, h.1]; exact refHidden_ok h hnc hcm hz
  · rw [if_neg hz]; exact refHidden_bad h hz
theorem hidO_len (l : List MatchV) : (hidO l).length ≤ 30 := by
  unfold hidO
  by_cases hz : matchesF l = 0
  · rw [if_pos hz]
    have := hidTo_len l l.length
    have := (matchesF_good hz).1
    omega
  · rw [if_neg hz]; simp

set_option maxRecDepth 100000 in
theorem open_matchesC {H : Type} {enc : TypeId × Value → H} {W : World} {base : Nat} {sp : Nat → Bool} {held : Bool} {a0 : Option Addr} {len0 cap0 : Nat} {d : DataW H} {p : List MemPlace}
    (h : DataW.Trod enc Try.prog W base sp held 60 (.slice a0 len0 cap0) d p) : len0 ≤ cap0 ∧ cap0 ≤ maxLen := by
  have hk : flat Try.prog 9 145 = some [none, some .u64, some .u64, some .i64, none, some .u64, some .u64, some .i64, some .i64] := by kernel_rfl
  obtain ⟨css, hcl, hfit, hr, hl, hm⟩ := open_flats Try.underlying60 hk (by kernel_rfl) (by simp) h
  exact ⟨hl, hm⟩

set_option maxRecDepth 100000 in
set_option maxHeartbeats 800000 in
theorem classHiddens_walk {H : Type} {enc : TypeId × Value → H} (W : World) (vs : Array Value) (ds : List (DataW H)) (ps : List MemPlace) (h : ArgsOk Try.prog [60] H enc W vs.toList ds ps) :
    Calls Try.prog 7 vs W fun e W' => e = .returned (.bool true) ∧ Below W.heap.size W W' := by
  obtain ⟨hA, ⟨base, hval⟩, _, _⟩ := h
  obtain ⟨v0, d0, e0, _, h0⟩ := trodAll_one hA
  obtain ⟨a0, n, c, rfl⟩ := okWide_slice Try.underlying60 (hval 0 _ v0 rfl (by rw [e0]; rfl))
  obtain ⟨l, hr⟩ := open_matches h0
  obtain ⟨hnc, hcm⟩ := open_matchesC h0
  obtain rfl : vs = #[.slice a0 n c] := by cases vs; simp_all
  have C1 := Lib.hid (fun (w : World) (hb : Below W.heap.size W w) => hidden_is (hr.below hb) hnc hcm)
  have C2 := Lib.hid (fun (w : World) (hb : Below W.heap.size W w) => refHidden_is (hr.below hb) hnc hcm)
  have hlen := hidO_len l
  generalize hidO l = L at *
  generalize matchesF l = E at *
  unfold Places at C1 C2
  clear hr h0 hA hval e0
  go_enter Try.func7, Try.ntmps7
  go_wp2_with fail
  refine (C1.out _ (Below.refl _ _)).mono ?_
  rintro e w1 ⟨v1, rfl, ho1, hb1⟩
  have HO1 := Lib.hid ho1
  have HB1 := Lib.hid hb1
  clear ho1 hb1
  go_wp2_with fail
  refine (C2.out _ HB1.out).mono ?_
  rintro e w2 ⟨v2, rfl, ho2, hb2⟩
  obtain ⟨A1, k1, rfl, hk1, hr1⟩ := own_reads (own_below HO1.out hb2)
  obtain ⟨A2, k2, rfl, hk2, hr2⟩ := own_reads ho2
  have HB2 := Lib.hid (below_step HB1.out hb2)
  have CS := Lib.hid (fun (w' : World) (hb : Below w2.heap.size w2 w') => sameInts_any A1 A2 L.length k1 L.length k2 L L w' rfl rfl (by unfold maxLen; omega) (by unfold maxLen; omega) ((hr1.below hb).more hb.size) ((hr2.below hb).more hb.size))
  rw [decide_eq_true rfl] at CS
  clear ho2 hb2 hr1 hr2 hk1 hk2 HO1
  go_wp2_with fail
  refine (CS.out _ (Below.refl _ _)).mono ?_
  rintro e w3 ⟨rfl, hb3⟩
  have HB3 := Lib.hid (below_step HB2.out hb3)
  clear hb3
  go_wp2
  go_ret
  exact ⟨by simp, HB3.out⟩

end Go.Proofs.Ytonelibgaceflaa
