
/-
  Proved here: the contract of Table.Put.
-/
import Derived.Test.YtonelibgaceflaaPlace
import Derived.Test.YtonelibgaceflaaCommon
import Derived.Deep.DeepCutAuto
import Derived.Test.YtonelibgaceflaaEqV
namespace Go.Proofs.Ytonelibgaceflaa
open Go.ChangeShapes Go.WideShapes Go.ChangeAt Go.RowKit

theorem Kept.alloc {S : List Nat} {w w' : World} (h : Kept S w w') (o : Obj) : Kept S w (w'.alloc o) :=
  ⟨h.os, h.tape, h.output, by simp; have := h.size; omega, fun k hk hn => (Below.heap_alloc _ _ _ (by have := h.size; omega)).trans (h.block k hk hn)⟩
theorem Kept.setCell {S : List Nat} {w w' : World} (h : Kept S w w') {p : Addr} (hp : p.block ∈ S ∨ w.heap.size ≤ p.block) (u : Value) : Kept S w (w'.setCell p u) :=
  ⟨h.os, h.tape, h.output, by simp; exact h.size, fun k hk hn => (Below.heap_setCell _ _ _ _ (fun e => by subst e; rcases hp with hp | hp; exact hn hp; omega)).trans (h.block k hk hn)⟩
theorem Kept.of_below {S : List Nat} {w w' : World} (h : Below w.heap.size w w') : Kept S w w' := ⟨h.os, h.tape, h.output, h.size, fun k hk _ => h.block k hk⟩
theorem Kept.then_below {S : List Nat} {w w1 w2 : World} (h : Kept S w w1) (hb : Below w1.heap.size w1 w2) : Kept S w w2 :=
  ⟨hb.os.trans h.os, hb.tape.trans h.tape, hb.output.trans h.output, Nat.le_trans h.size hb.size, fun k hk hn => (hb.block k (by have := h.size; omega)).trans (h.block k hk hn)⟩
theorem Kept.below {S : List Nat} {w w' : World} {B : Nat} (h : Kept S w w') (hS : ∀ k ∈ S, B ≤ k) (hB : B ≤ w.heap.size) : Below B w w' :=
  ⟨h.os, h.tape, h.output, h.size, fun k hk => h.block k (by omega) (fun hx => by have := hS k hx; omega)⟩

/-- What Put returns, and what it leaves. -/
def PutPost (w : World) (B tb : Nat) (R : Bool → Tr) (c : Int) (p : PV) (hop : Int) (e : Ending) (w' : World) : Prop :=
  e = .returned (.int .i64 (hopAt (R p.six) p)) ∧ (∃ G1 G2, Tab w' B tb (upd R p.six (putT p hop G1 G2 (R p.six))) (if hopAt (R p.six) p = 0 then c + 1 else c)) ∧ Kept (tabBlocks tb R) w w'

theorem chk_of {six : Bool} {hi lo n : Int} (h : Pfx six hi lo n) : chk six hi lo n = 0 := by
  unfold chk
  have := h.len
  rw [if_neg (by simp [h.may]), if_neg (by omega), if_pos h.clean]
theorem bothE_of {six : Bool} {hi lo n hi' lo' n' : Int} (h : Pfx six hi lo n) (h' : Pfx six hi' lo' n') : bothE six hi lo n six hi' lo' n' = 0 := by
  unfold bothE
  simp [chk_of h, chk_of h']
theorem keepF {w1 X : World} (hb : Below w1.heap.size w1 X) :
    (∀ b o, b < w1.heap.size → X.cell? ⟨b, o, none⟩ = w1.cell? ⟨b, o, none⟩) ∧ w1.heap.size ≤ X.heap.size ∧ Hid (Below w1.heap.size w1 X) :=
  ⟨fun b o h => hb.cell (p := ⟨b, o, none⟩) h, hb.size, hb⟩
theorem keepS {w1 X : World} (h : (∀ b o, b < w1.heap.size → X.cell? ⟨b, o, none⟩ = w1.cell? ⟨b, o, none⟩) ∧ w1.heap.size ≤ X.heap.size ∧ Hid (Below w1.heap.size w1 X)) {p : Addr} (hp : w1.heap.size ≤ p.block) (u : Value) :
    (∀ b o, b < w1.heap.size → (X.setCell p u).cell? ⟨b, o, none⟩ = w1.cell? ⟨b, o, none⟩) ∧ w1.heap.size ≤ (X.setCell p u).heap.size ∧ Hid (Below w1.heap.size w1 (X.setCell p u)) :=
  keepF (h.2.2.out.setCell hp u)
/-- A new block with a prefix. -/
def NewPfx (Y : World) (p : PV) (v : Value) (wc : World) : Prop :=
  ∃ b, v = .pointer (some ⟨b, 0, none⟩) ∧ b < wc.heap.size ∧ Blk wc b 35 #[.bool p.six, .int .u64 p.hi, .int .u64 p.lo, .int .i64 p.n] ∧ Below Y.heap.size Y wc
theorem newPfx_A {Y w3 : World} {six : Bool} {hi lo n : Int} (h : Below Y.heap.size Y w3) :
    NewPfx Y ⟨six, hi, lo, n⟩ (.pointer (some ⟨w3.heap.size, 0, none⟩)) (w3.alloc (.cells #[.bool six, .int .u64 hi, .int .u64 lo, .int .i64 n] 35)) :=
  ⟨_, rfl, by simp, Blk.new _ _ _, h.alloc h.size _⟩
theorem newPfx_B {Y Q w3 : World} {six : Bool} {hi lo n : Int} (hb : Below Q.heap.size Q w3) (hQ : Q.heap = (Y.alloc (.cells #[.bool false, .int .u64 0, .int .u64 0, .int .i64 0] 35)).heap) (h : Below Y.heap.size Y w3) :
    NewPfx Y ⟨six, hi, lo, n⟩ (.pointer (some ⟨Y.heap.size, 0, none⟩)) ((((w3.setCell ⟨Y.heap.size, 0, none⟩ (.bool six)).setCell ⟨Y.heap.size, 1, none⟩ (.int .u64 hi)).setCell ⟨Y.heap.size, 2, none⟩ (.int .u64 lo)).setCell ⟨Y.heap.size, 3, none⟩ (.int .i64 n)) := by
  have hs := hb.size
  rw [hQ] at hs
  simp at hs
  refine ⟨Y.heap.size, rfl, by simp; omega, ((((?_ : Blk w3 Y.heap.size _ #[.bool false, .int .u64 0, .int .u64 0, .int .i64 0]).set_ 0 _).set_ 1 _).set_ 2 _).set_ 3 _, ?_⟩
  · have := hb.block Y.heap.size (by rw [hQ]; simp)
    rw [hQ] at this
    exact this.trans (Blk.new Y _ _)
  · exact (((h.setCell (by simp) _).setCell (by simp) _).setCell (by simp) _).setCell (by simp) _
/-- A new node, and a block that leads to it. -/
def NewKid (wc : World) (G1 : Nat) (cs : Value → Array Value) (p : PV) (hop : Int) (wx : World) : Prop :=
  ∃ G2, wc.heap.size < G2 ∧ ¬ G1 = G2 ∧ Blk wx G2 244 (nodeCs p hop (.pointer none) (.pointer none)) ∧ Blk wx G1 244 (cs (.pointer (some ⟨G2, 0, none⟩))) ∧ Below wc.heap.size wc wx
theorem forkZ {wc Q w5 : World} {F : Array Value} (hb : Below Q.heap.size Q w5) (hQ : Q.heap = (wc.alloc (.cells F 244)).heap) (h : Below wc.heap.size wc w5) (i : Nat) (u : Value) :
    Blk (w5.setCell ⟨wc.heap.size, i, none⟩ u) wc.heap.size 244 (F.setIfInBounds i u) ∧ Below wc.heap.size wc (w5.setCell ⟨wc.heap.size, i, none⟩ u) := by
  refine ⟨Blk.set_ ?_ i u, h.setCell (Nat.le_refl _) _⟩
  have := hb.block wc.heap.size (by rw [hQ]; simp)
  rw [hQ] at this
  exact this.trans (Blk.new wc _ _)
theorem newKid_A {wc Z Q w6 : World} {G1 i : Nat} {F : Array Value} {p : PV} {hop : Int} {six : Bool} {hi lo n : Int} (hb : Below Q.heap.size Q w6) (hQ : Q.heap = Z.heap) (hp : p = ⟨six, hi, lo, n⟩) (hG : wc.heap.size = G1) (hz : wc.heap.size < Z.heap.size) (hk : Blk Z G1 244 F) (hb2 : Below wc.heap.size wc w6) :
    NewKid wc G1 (fun v => F.setIfInBounds i v) p hop ((w6.setCell ⟨G1, i, none⟩ (.pointer (some ⟨w6.heap.size, 0, none⟩))).alloc (.cells #[.bool six, .int .u64 hi, .int .u64 lo, .int .i64 n, .int .i64 hop, .pointer none, .pointer none] 244)) := by
  subst hp
  subst hG
  have hs := hb.size
  rw [hQ] at hs
  have k2 := hb.block wc.heap.size (by rw [hQ]; omega)
  rw [hQ] at k2
  have kn := Blk.new (w6.setCell ⟨wc.heap.size, i, none⟩ (.pointer (some ⟨w6.heap.size, 0, none⟩))) 244 #[.bool six, .int .u64 hi, .int .u64 lo, .int .i64 n, .int .i64 hop, .pointer none, .pointer none]
  rw [World.size_setCell] at kn
  refine ⟨w6.heap.size, by omega, by omega, kn, Blk.alloc (Blk.set_ (k2.trans hk) i _) _, ?_⟩
  exact (hb2.setCell (Nat.le_refl _) _).alloc (by simp; exact hb2.size) _
theorem newKid_B {wc Z Q w6 : World} {G1 i : Nat} {F : Array Value} {p : PV} {hop : Int} {six : Bool} {hi lo n : Int} (hb : Below Q.heap.size Q w6) (hQ : Q.heap = (Z.alloc (.cells #[.bool six, .int .u64 hi, .int .u64 lo, .int .i64 n, .int .i64 hop, .pointer none, .pointer none] 244)).heap) (hp : p = ⟨six, hi, lo, n⟩) (hG : wc.heap.size = G1) (hz : wc.heap.size < Z.heap.size) (hk : Blk Z G1 244 F) (hwz : Below wc.heap.size wc Z) (hb2 : Below wc.heap.size wc w6) :
    NewKid wc G1 (fun v => F.setIfInBounds i v) p hop (w6.setCell ⟨G1, i, none⟩ (.pointer (some ⟨Z.heap.size, 0, none⟩))) := by
  subst hp
  subst hG
  have k1 := hb.block Z.heap.size (by rw [hQ]; simp)
  have k2 := hb.block wc.heap.size (by rw [hQ]; simp; omega)
  rw [hQ] at k1 k2
  refine ⟨Z.heap.size, hz, by omega, Blk.far (k1.trans (Blk.new Z _ _)) (p := ⟨wc.heap.size, i, none⟩) (by show ¬ _ = _; simp; omega) _, Blk.set_ (k2.trans (hk.alloc _)) i _, hb2.setCell (Nat.le_refl _) _⟩
theorem tab_fork {Y W : World} {B tb : Nat} {R : Bool → Tr} {c : Int} {s : Bool} {C : Ctx} {cur extra : Tr} {G1 : Nat} {p1 : PV} {h1 b : Int} (hT : Tab Y B tb R c) (hR : R s = C.plug cur) (hb : Below Y.heap.size Y W) (hG : Y.heap.size ≤ G1)
    (hblk : Blk W G1 244 (if b = 0 then nodeCs p1 h1 cur.ptr extra.ptr else nodeCs p1 h1 extra.ptr cur.ptr)) (hx : extra.Lies W B) (hxb : ∀ g ∈ extra.blocks, Y.heap.size ≤ g ∧ ¬ g = G1) (hxn : extra.blocks.Nodup) :
    Tab (W.setCell (C.slot tb s) (.pointer (some ⟨G1, 0, none⟩))) B tb (upd R s (C.plug (node2 G1 p1 h1 b cur extra))) c := by
  obtain ⟨n1, n2, n3, n4, n5, n6, n7, n8⟩ := nodup_parts hT hR
  have hcl := ((plug_lies C cur).1 (hR ▸ hT.lies s)).2
  have hlt := fun g hg => (hcl.lt g hg).2
  have hB := hT.base
  have htl := hT.blk.lt
  have hnotin : ∀ g, Y.heap.size ≤ g → g ∉ tabBlocks tb R := fun g hg hm => by have := (hT.lt g hm).2; omega
  have hcur := hcl.below hb
  have hptr : (node2 G1 p1 h1 b cur extra).ptr = .pointer (some ⟨G1, 0, none⟩) := by unfold node2; split <;> rfl
  rw [← hptr]
  refine Tab.store (hT.below hb) hR ?_ ?_ ?_
  · unfold node2
    by_cases h0 : b = 0
    · rw [if_pos h0] at hblk ⊢
      exact ⟨by omega, hblk, hcur, hx⟩
    · rw [if_neg h0] at hblk ⊢
      exact ⟨by omega, hblk, hx, hcur⟩
  · have hd1 : ∀ a ∈ cur.blocks, ∀ b ∈ extra.blocks, ¬ a = b := fun a ha b hb e => by subst e; have := hlt a ha; have := (hxb a hb).1; omega
    have hg1 : G1 ∉ cur.blocks := fun h => by have := hlt G1 h; omega
    have hg2 : G1 ∉ extra.blocks := fun h => (hxb G1 h).2 rfl
    unfold node2
    split
    · simp only [Tr.blocks, List.nodup_cons, List.mem_append, not_or, List.nodup_append]
      exact ⟨⟨hg1, hg2⟩, n4, hxn, hd1⟩
    · simp only [Tr.blocks, List.nodup_cons, List.mem_append, not_or, List.nodup_append]
      exact ⟨⟨hg2, hg1⟩, hxn, n4, fun a ha b hb e => hd1 b hb a ha e.symm⟩
  · intro g hg
    have : g = G1 ∨ g ∈ cur.blocks ∨ g ∈ extra.blocks := by
      unfold node2 at hg
      split at hg <;> simp only [Tr.blocks, List.mem_cons, List.mem_append] at hg
      · exact hg
      · rcases hg with h | h | h
        · exact .inl h
        · exact .inr (.inr h)
        · exact .inr (.inl h)
    rcases this with rfl | h | h
    · exact .inr (hnotin _ hG)
    · exact .inl h
    · exact .inr (hnotin _ (hxb g h).1)
theorem put_fin {W : World} {B tb : Nat} {R : Bool → Tr} {c : Int} {p : PV} {hop : Int} {C : Ctx} {cur : Tr} (G1 G2 : Nat) (hR : R p.six = C.plug cur) (hon : C.OnPath p)
    (ht : Tab W B tb (upd R p.six (C.plug (putT p hop G1 G2 cur))) (if hopAt cur p = 0 then c + 1 else c)) :
    ∃ G1 G2, Tab W B tb (upd R p.six (putT p hop G1 G2 (R p.six))) (if hopAt (R p.six) p = 0 then c + 1 else c) := by
  refine ⟨G1, G2, ?_⟩
  rw [hR, plug_hop C cur hon, plug_put C cur hon]
  exact ht

set_option maxRecDepth 100000 in
set_option maxHeartbeats 12800000 in
theorem put_any {w : World} {B tb : Nat} {R : Bool → Tr} {c : Int} (h : Tab w B tb R c) (p : PV) (hp : p.Ok) (hI : ∀ s, Inv s (fun _ => True) (R s)) (hop : Int) (hc : 0 ≤ c ∧ c ≤ 1000000) :
    Calls Try.prog 152 #[.pointer (some ⟨tb, 0, none⟩), p.val, .int .i64 hop] w (PutPost w B tb R c p hop) := by
  have HT := Lib.hid h
  have HP := Lib.hid hp
  have HI := Lib.hid hI
  have CP := Lib.hid (fun (Y : World) (hb : Below w.heap.size w Y) => place_any (h.below hb) p hp hI)
  obtain ⟨six, hi, lo, n⟩ := p
  clear h hp hI
  unfold PV.val at CP ⊢
  simp only at CP ⊢
  go_enter Try.func152, Try.ntmps152
  go_wp2_with fail
  refine (CP.out _ ((Below.refl _ _).alloc (Nat.le_refl _) _)).mono ?_
  rintro e X ⟨C, cur, hR, hon, hst, rfl, hb⟩
  obtain ⟨HBX, hsx, hbx⟩ := box1 (cs := [.bool six, .int .u64 hi, .int .u64 lo, .int .i64 n]) hb
  have e0 := hbx 0 _ rfl
  have e1 := hbx 1 _ rfl
  have e2 := hbx 2 _ rfl
  have e3 := hbx 3 _ rfl
  have hTX := HT.out.below HBX
  have hsl := hTX.slot hR
  have HTX := Lib.hid hTX
  have HB := Lib.hid HBX
  have HR := Lib.hid hR
  have HON := Lib.hid hon
  have hct : X.cell? ⟨tb, 2, none⟩ = some (.int .i64 c) := hTX.blk.cell 2
  have hcf : X.frozen? ⟨tb, 2, none⟩ = false := hTX.blk.frozen 2
  have htb := hTX.blk.lt
  obtain ⟨hs1, hs2, hs3⟩ := hsl
  have hslt := (hTX.lt _ hs3).2
  have HS3 := Lib.hid hs3
  have hne : ¬ Ctx.slot tb six C = ⟨tb, 2, none⟩ := by
    intro hx
    cases C with
    | top => simp only [Ctx.slot, slotOf] at hx; cases six <;> simp at hx
    | left C g q h r => simp [Ctx.slot] at hx
    | right C g q h r => simp [Ctx.slot] at hx
  have HNE := Lib.hid hne
  have hne' : ¬ (⟨tb, 2, none⟩ : Addr) = Ctx.slot tb six C := fun hx => HNE.out hx.symm
  obtain ⟨sl, hsl⟩ : ∃ sl, Ctx.slot tb six C = sl := ⟨_, rfl⟩
  have HSL := Lib.hid hsl
  rw [hsl] at hs1 hs2 hslt hne hne' ⊢
  clear hsl hb hbx HBX hTX hR hon hs3
  have hph := Lib.hid (plug_hop (p := ⟨six, hi, lo, n⟩) C cur HON.out)
  have HBA : ∀ o, Hid (Below X.heap.size X (X.alloc o)) := fun o => (Below.refl _ _).alloc (Nat.le_refl _) o
  have hsf : ∀ o, (X.alloc o).frozen? sl = false := fun o => ((HBA o).out.frozen hslt).trans hs2
  cases cur with
  | nil =>
    change X.cell? sl = some (.pointer none) at hs1
    go_wp2
    go_ret
    refine ⟨ret_int (by rw [HR.out, hph.out]; rfl), put_fin X.heap.size 0 HR.out HON.out ?_, ((((Kept.of_below HB.out).alloc _).setCell (.inl (by rw [← HSL.out]; exact HS3.out)) _).setCell (.inl (by simp [tabBlocks])) _)⟩
    rw [show hopAt Tr.nil ⟨six, hi, lo, n⟩ = 0 from rfl, if_pos rfl, ← HSL.out]
    refine Tab.count (Tab.store (HTX.out.below (HBA _).out) HR.out (new := .node X.heap.size ⟨six, hi, lo, n⟩ hop .nil .nil) ⟨?_, Blk.new _ _ _, trivial, trivial⟩ (by simp [Tr.blocks]) (fun g hg => ?_)) _
    · have := HTX.out.base; omega
    · simp [Tr.blocks] at hg
      subst hg
      exact .inr (fun hx => by have := (HTX.out.lt _ hx).2; omega)
  | node g q h l r =>
    obtain ⟨hblk, hgm⟩ := HTX.out.node HR.out
    obtain ⟨U', hiv⟩ := inv_plug C (.node g q h l r) _ (by rw [← HR.out]; exact HI.out six)
    obtain ⟨hq, hq6, _, hh, _, _⟩ := hiv
    have HQ := Lib.hid hq
    have n0 := hblk.cell 0
    have n1 := hblk.cell 1
    have n2 := hblk.cell 2
    have n3 := hblk.cell 3
    have n4 := hblk.cell 4
    have f4 := hblk.frozen 4
    have hgl := hblk.lt
    have HGM := Lib.hid hgm
    obtain ⟨qs, qh, ql, qn⟩ := q
    simp only [nodeCs] at n0 n1 n2 n3 n4 hq6
    simp at n0 n1 n2 n3 n4
    subst hq6
    change X.cell? sl = some (.pointer (some ⟨g, 0, none⟩)) at hs1
    clear hgm hblk hq
    have HEQ := Lib.hid (fun w => eqPV ⟨qs, qh, ql, qn⟩ ⟨qs, hi, lo, n⟩ w)
    by_cases he : (⟨qs, qh, ql, qn⟩ : PV) = ⟨qs, hi, lo, n⟩
    · injection he with _ a1 a2 a3
      subst a1
      subst a2
      subst a3
      have hop0 : Hid (hopAt (.node g ⟨qs, qh, ql, qn⟩ h l r) ⟨qs, qh, ql, qn⟩ = h) := by show _ = _; unfold hopAt; rw [if_pos rfl]
      have hput : Hid (putT ⟨qs, qh, ql, qn⟩ hop 0 0 (.node g ⟨qs, qh, ql, qn⟩ h l r) = .node g ⟨qs, qh, ql, qn⟩ hop l r) := by show _ = _; unfold putT; rw [if_pos rfl]
      by_cases h0 : h = 0
      · subst h0
        go_wp2
        go_quiet (fail)
        go_wp2
        go_ret
        refine ⟨ret_int (by rw [HR.out, hph.out, hop0.out]), put_fin 0 0 HR.out HON.out ?_, ((Kept.of_below (below_drewN HB.out _)).setCell (.inl HGM.out) _).setCell (.inl (by simp [tabBlocks])) _⟩
        rw [hop0.out, if_pos rfl, hput.out]
        exact (Tab.hop (HTX.out.below (below_drewN (Below.refl _ _) _)) HR.out hop).count _
      · have hn0 : (h == 0) = false := by simpa using h0
        have H0 := Lib.hid h0
        clear h0
        go_wp2
        go_quiet (fail)
        go_wp2
        go_ret
        refine ⟨ret_int (by rw [HR.out, hph.out, hop0.out]), put_fin 0 0 HR.out HON.out ?_, (Kept.of_below (below_drewN HB.out _)).setCell (.inl HGM.out) _⟩
        rw [hop0.out, if_neg H0.out, hput.out]
        exact Tab.hop (HTX.out.below (below_drewN (Below.refl _ _) _)) HR.out hop
    · have hov : PV.over ⟨qs, qh, ql, qn⟩ ⟨qs, hi, lo, n⟩ = false := by
        rcases hst with hx | hx
        · exact absurd hx he
        · exact hx
      have HNQ := Lib.hid he
      rw [decide_eq_false he] at HEQ
      unfold PV.val at HEQ
      simp only at HEQ
      have HEQ' := HEQ.out
      clear he hst
      have HCF := Lib.hid (com_facts HQ.out HP.out rfl)
      have HCL := Lib.hid (com_lt HQ.out HP.out rfl hov)
      have HCB := Lib.hid (com_bit HQ.out HP.out rfl)
      have HOV := Lib.hid hov
      have CC : Hid (∀ Z, Calls Try.prog 202 #[.agg #[.bool qs, .int .u64 qh, .int .u64 ql, .int .i64 qn], .agg #[.bool qs, .int .u64 hi, .int .u64 lo, .int .i64 n]] Z fun e w' => e = .returned (.tuple #[(PV.com ⟨qs, qh, ql, qn⟩ ⟨qs, hi, lo, n⟩).val, .int .i64 0]) ∧ Below Z.heap.size Z w') :=
        fun Z => common_ok qs qh ql qn hi lo n Z HQ.out HP.out (bothE_of HQ.out HP.out)
      have h6 : (PV.com ⟨qs, qh, ql, qn⟩ ⟨qs, hi, lo, n⟩).six = qs := rfl
      obtain ⟨cm, hcm⟩ : ∃ cm, PV.com ⟨qs, qh, ql, qn⟩ ⟨qs, hi, lo, n⟩ = cm := ⟨_, rfl⟩
      have HCM := Lib.hid hcm
      rw [hcm] at HCF HCL HCB CC h6
      obtain ⟨cs, ch, cl, cn⟩ := cm
      simp only at h6
      subst h6
      unfold PV.val at CC
      simp only at CC
      clear hcm hov
      go_wp2
      go_quiet (fail)
      obtain ⟨Y, hY⟩ : ∃ Y, X.drewN nq = Y := ⟨_, rfl⟩
      have HXY : Hid (Below X.heap.size X Y) := by show Below _ _ _; rw [← hY]; exact below_drewN (Below.refl _ _) _
      rw [hY]
      have HTY := Lib.hid (HTX.out.below HXY.out)
      have sy := HXY.out.size
      obtain ⟨cy, fy⟩ := bcell HXY.out
      have hs1y : Y.cell? sl = some (.pointer (some ⟨g, 0, none⟩)) := (HXY.out.cell hslt).trans hs1
      have hs2y : Y.frozen? sl = false := (HXY.out.frozen hslt).trans hs2
      have e0y := (cy w.heap.size 0 hsx).trans e0
      have e1y := (cy w.heap.size 1 hsx).trans e1
      have e2y := (cy w.heap.size 2 hsx).trans e2
      have e3y := (cy w.heap.size 3 hsx).trans e3
      have n0y := (cy g 0 hgl).trans n0
      have n1y := (cy g 1 hgl).trans n1
      have n2y := (cy g 2 hgl).trans n2
      have n3y := (cy g 3 hgl).trans n3
      have hcty := (cy tb 2 htb).trans hct
      have hcfy := (fy tb 2 htb).trans hcf
      have hsyw : w.heap.size < Y.heap.size := by omega
      have hsyg : g < Y.heap.size := by omega
      have hsyt : tb < Y.heap.size := by omega
      have hsys : sl.block < Y.heap.size := by omega
      have HBY := Lib.hid (below_step HB.out HXY.out)
      clear hY cy fy hs1 hs2 e0 e1 e2 e3 n0 n1 n2 n3 n4 f4 hct hcf hsf HBA hslt htb hsx hgl
      go_upto_region 3 with fail
      go_cut [10] (fun v wx => NewPfx Y ⟨cs, ch, cl, cn⟩ v wx)
      case first =>
        go_region_held3 (fun w' => (∀ b o, b < Y.heap.size → w'.cell? ⟨b, o, none⟩ = Y.cell? ⟨b, o, none⟩) ∧ Y.heap.size ≤ w'.heap.size ∧ Hid (Below Y.heap.size  Y w'))
          ((first | assumption | exact keep0 _ | (refine keepF ?_; (repeat' first | with_reducible exact HB3.out | with_reducible exact Below.refl _ _ | with_reducible refine Below.drew ?_ | with_reducible refine below_drewN ?_ _ | with_reducible refine Below.setCell ?_ ?_ _ | with_reducible refine Below.alloc ?_ ?_ _ | exact HB3.out.size | (simp; done) | (simp; have := HB3.out.size; omega) | (simp; omega)); done)))
          (first | (go_at_call 202; refine (CC.out _).mono ?_; rintro e w3 ⟨rfl, hb3⟩; obtain ⟨fc3, ff3⟩ := bcell hb3; have hz3 := hb3.size; have HB3 : Hid (Below Y.heap.size Y w3) := (keepBelow (by assumption)).trans (hb3.mono (keepSize (by assumption)))))
        all_goals
          go_wp2_with fail
          go_meet
          first
            | with_reducible exact newPfx_A HB3.out
            | exact newPfx_B hb3 rfl HB3.out
      case rest =>
        generalize wc = V at *
        obtain ⟨b1, rfl, hb1, hbk, hbw⟩ := hcut
        have c0 := hbk.cell 0
        have c1 := hbk.cell 1
        have c2 := hbk.cell 2
        have c3 := hbk.cell 3
        simp at c0 c1 c2 c3
        obtain ⟨cy, fy⟩ := bcell hbw
        have HTW := Lib.hid (HTY.out.below hbw)
        have HBW := Lib.hid hbw
        have sw := hbw.size
        have e0w := (cy w.heap.size 0 hsyw).trans e0y
        have e1w := (cy w.heap.size 1 hsyw).trans e1y
        have e2w := (cy w.heap.size 2 hsyw).trans e2y
        have e3w := (cy w.heap.size 3 hsyw).trans e3y
        have n0w := (cy g 0 hsyg).trans n0y
        have n1w := (cy g 1 hsyg).trans n1y
        have n2w := (cy g 2 hsyg).trans n2y
        have n3w := (cy g 3 hsyg).trans n3y
        have hctw := (cy tb 2 hsyt).trans hcty
        have hcfw := (fy tb 2 hsyt).trans hcfy
        have hs1w : V.cell? sl = some (.pointer (some ⟨g, 0, none⟩)) := (HBW.out.cell hsys).trans hs1y
        have hs2w : V.frozen? sl = false := (HBW.out.frozen hsys).trans hs2y
        have hwb : w.heap.size < V.heap.size := by omega
        have hwg : g < V.heap.size := by omega
        have hwt : tb < V.heap.size := by omega
        have hws : sl.block < V.heap.size := by omega
        have hrc := ok_n HCF.out.1
        try simp only at hrc
        have hcl := HCL.out
        try simp only at hcl
        have hcqn := (ok_n HQ.out).2
        try simp only at hcqn
        have rq1 := Pfx.rhi HQ.out
        have rq2 := Pfx.rlo HQ.out
        have rp1 := Pfx.rhi HP.out
        have rp2 := Pfx.rlo HP.out
        try simp only at rq1 rq2 rp1 rp2
        have CB0 := Lib.hid (fun w => at_any cs qh ql cn w rq1 rq2 hrc.1 (by omega))
        have CP0 := Lib.hid (fun w (h : cn < n) => at_any cs hi lo cn w rp1 rp2 hrc.1 (by have := (ok_n HP.out).2; simp only at this; omega))
        have HQB : Hid (PV.bit ⟨cs, qh, ql, qn⟩ cn = bitI cs qh ql cn) := Eq.refl _
        obtain ⟨bv, hbv⟩ : ∃ bv, bitI cs qh ql cn = bv := ⟨_, rfl⟩
        have hb01 : bv = 0 ∨ bv = 1 := by rw [← hbv]; exact PV.bit01 ⟨cs, qh, ql, qn⟩ cn
        rw [hbv] at CB0 HQB
        clear hbv hbk hbw cy fy rq1 rq2 rp1 rp2 hcqn hcl sw e0y e1y e2y e3y n0y n1y n2y n3y hcty hcfy hs1y hs2y hsyw hsyg hsyt hsys
        rcases hb01 with rfl | rfl
        · have CB := Lib.hid CB0.out
          have HZ : Hid (Below V.heap.size V V) := Below.refl _ _
          go_wp2
          go_region_held3 (fun w' => (∀ b o, b < V.heap.size → w'.cell? ⟨b, o, none⟩ = V.cell? ⟨b, o, none⟩) ∧ V.heap.size ≤ w'.heap.size ∧ Hid (Below V.heap.size V w'))
            ((first | assumption | exact keep0 _ | (refine keepF ?_; (repeat' first | with_reducible exact HB5.out | with_reducible exact HZ.out | with_reducible exact Below.refl _ _ | with_reducible refine Below.drew ?_ | with_reducible refine below_drewN ?_ _ | with_reducible refine Below.setCell ?_ ?_ _ | with_reducible refine Below.alloc ?_ ?_ _ | exact HB5.out.size | exact HZ.out.size | (simp; done) | (simp; have := HB5.out.size; omega) | (simp; have := HZ.out.size; omega) | (simp; omega)); done)))
            (first | (go_at_call 165; refine (CB.out _).mono ?_; rintro e w5 ⟨rfl, hb5⟩; obtain ⟨fc5, ff5⟩ := bcell hb5; have hz5 := hb5.size; have HB5 : Hid (Below V.heap.size V w5) := (keepBelow (by assumption)).trans (hb5.mono (keepSize (by assumption)))))
          obtain ⟨Z, hZ⟩ : ∃ Z, w5.setCell ⟨V.heap.size, 5, none⟩ (.pointer (some ⟨g, 0, none⟩)) = Z := ⟨_, rfl⟩
          have hfz := forkZ hb5 rfl HB5.out 5 (.pointer (some ⟨g, 0, none⟩))
          rw [hZ] at hfz
          rw [hZ]
          have hsz5 : V.heap.size < Z.heap.size := hfz.1.lt
          clear hZ fc5 ff5 hz5 hb5 HB5 HZ
          obtain ⟨hkz, hbz⟩ := hfz
          have hkz : Blk Z V.heap.size 244 (nodeCs ⟨cs, ch, cl, cn⟩ 0 (.pointer (some ⟨g, 0, none⟩)) (.pointer none)) := hkz
          have HKZ := Lib.hid hkz
          have HZ := Lib.hid hbz
          obtain ⟨cz, fz⟩ := bcell hbz
          have c0z := (cz b1 0 hb1).trans c0
          have c1z := (cz b1 1 hb1).trans c1
          have c2z := (cz b1 2 hb1).trans c2
          have c3z := (cz b1 3 hb1).trans c3
          have e0z := (cz w.heap.size 0 hwb).trans e0w
          have e1z := (cz w.heap.size 1 hwb).trans e1w
          have e2z := (cz w.heap.size 2 hwb).trans e2w
          have e3z := (cz w.heap.size 3 hwb).trans e3w
          have hctz := (cz tb 2 hwt).trans hctw
          have hcfz := (fz tb 2 hwt).trans hcfw
          have hs1z : Z.cell? sl = some (.pointer (some ⟨g, 0, none⟩)) := (HZ.out.cell hws).trans hs1w
          have hs2z : Z.frozen? sl = false := (HZ.out.frozen hws).trans hs2w
          have kz4 := hkz.cell 4
          have kf4 := hkz.frozen 4
          simp [nodeCs] at kz4
          have hsl4 : ¬ sl = ⟨V.heap.size, 4, none⟩ := fun hx => by rw [hx] at hws; simp at hws
          have hsl4' : ¬ (⟨V.heap.size, 4, none⟩ : Addr) = sl := fun hx => hsl4 hx.symm
          have hzz : Hid (Below Y.heap.size Y Z) := HBW.out.trans (HZ.out.mono HBW.out.size)
          clear cz fz hkz hbz
          have HCP := fun w => eqPV ⟨cs, ch, cl, cn⟩ ⟨cs, hi, lo, n⟩ w
          by_cases hcp : (⟨cs, ch, cl, cn⟩ : PV) = ⟨cs, hi, lo, n⟩
          · have hput : Hid (putT ⟨cs, hi, lo, n⟩ hop V.heap.size 0 (.node g ⟨cs, qh, ql, qn⟩ h l r) = node2 V.heap.size ⟨cs, hi, lo, n⟩ hop 0 (.node g ⟨cs, qh, ql, qn⟩ h l r) .nil) := by
              show _ = _
              unfold putT
              rw [if_neg HNQ.out, if_pos HOV.out]
              unfold forkT
              rw [HCM.out, if_pos hcp, HQB.out]
            have hop0 : Hid (hopAt (.node g ⟨cs, qh, ql, qn⟩ h l r) ⟨cs, hi, lo, n⟩ = 0) := by show _ = _; unfold hopAt; rw [if_neg HNQ.out, if_pos HOV.out]
            rw [decide_eq_true hcp] at HCP
            injection hcp with _ a1 a2 a3
            subst a1
            subst a2
            subst a3
            unfold PV.val at HCP
            simp only at HCP
            go_wp2
            go_ret
            refine ⟨ret_int (by rw [HR.out, hph.out, hop0.out]), put_fin V.heap.size 0 HR.out HON.out ?_, ((((Kept.of_below (HBY.out.trans (hzz.out.mono HBY.out.size))).setCell (.inr (by show _ ≤ _; simp; omega)) _).setCell (.inl (by rw [← HSL.out]; exact HS3.out)) _).setCell (.inl (by simp [tabBlocks])) _)⟩
            rw [hop0.out, if_pos rfl, hput.out, ← HSL.out]
            exact (tab_fork (extra := Tr.nil) HTY.out HR.out (hzz.out.setCell (HBW.out.size) _) HBW.out.size (HKZ.out.set_ 4 _) trivial (by simp [Tr.blocks]) (by simp [Tr.blocks])).count _
          · have hltn : cn < n := by
              rcases Int.lt_or_le cn n with hx | hx
              · exact hx
              · exact absurd (over_eq HCF.out.1 HP.out HCF.out.2.2.2.2.1 hx) hcp
            have hpb : Hid (bitI cs hi lo cn = 1) := by
              have h1 := HCB.out HCL.out hltn
              have h2 := PV.bit01 ⟨cs, hi, lo, n⟩ cn
              have h3 := HQB.out
              try simp only at h1
              show PV.bit ⟨cs, hi, lo, n⟩ cn = 1
              omega
            have CPB := Lib.hid (fun w => CP0.out w hltn)
            rw [hpb.out] at CPB
            rw [decide_eq_false hcp] at HCP
            have HNC := Lib.hid hcp
            unfold PV.val at HCP
            simp only at HCP
            clear hcp
            have kz6 := HKZ.out.cell 6
            have kf6 := HKZ.out.frozen 6
            simp [nodeCs] at kz6
            go_upto_region 8 with fail
            go_cut [60] (fun _ wx => NewKid V V.heap.size (fun v => (nodeCs ⟨cs, ch, cl, cn⟩ 0 (.pointer (some ⟨g, 0, none⟩)) (.pointer none)).setIfInBounds 6 v) ⟨cs, hi, lo, n⟩ hop wx)
            case first =>
              go_region_held3 (fun w' => (∀ b o, b < V.heap.size → w'.cell? ⟨b, o, none⟩ = V.cell? ⟨b, o, none⟩) ∧ V.heap.size ≤ w'.heap.size ∧ Hid (Below V.heap.size V w'))
                ((first | assumption | exact keep0 _ | (refine keepF ?_; (repeat' first | with_reducible exact HB6.out | with_reducible exact HZ.out | with_reducible exact Below.refl _ _ | with_reducible refine Below.drew ?_ | with_reducible refine below_drewN ?_ _ | with_reducible refine Below.setCell ?_ ?_ _ | with_reducible refine Below.alloc ?_ ?_ _ | exact HB6.out.size | exact HZ.out.size | (simp; done) | (simp; have := HB6.out.size; omega) | (simp; have := HZ.out.size; omega) | (simp; omega)); done)))
                (first | (go_at_call 165; refine (CPB.out _).mono ?_; rintro e w6 ⟨rfl, hb6⟩; obtain ⟨fc6, ff6⟩ := bcell hb6; have hz6 := hb6.size; have hg6 : V.heap.size < w6.heap.size := Nat.lt_of_lt_of_le hsz5 (Nat.le_trans (by simp) hb6.size); have hg7 : ¬ V.heap.size = w6.heap.size := Nat.ne_of_lt hg6; have hg8 : ¬ w6.heap.size = V.heap.size := fun hx => hg7 hx.symm; have kz7 : w6.cell? ⟨V.heap.size, 6, none⟩ = some (.pointer none) := (fc6 _ _ (Nat.lt_of_lt_of_le hsz5 (by simp))).trans (by first | exact kz6 | exact (((Below.refl Z.heap.size Z).alloc (Nat.le_refl _) _).cell (p := ⟨V.heap.size, 6, none⟩) hsz5).trans kz6); have kf7 : w6.frozen? ⟨V.heap.size, 6, none⟩ = false := (ff6 _ _ (Nat.lt_of_lt_of_le hsz5 (by simp))).trans (by first | exact kf6 | exact (((Below.refl Z.heap.size Z).alloc (Nat.le_refl _) _).frozen (p := ⟨V.heap.size, 6, none⟩) hsz5).trans kf6); have HB6 : Hid (Below V.heap.size V w6) := (keepBelow (by assumption)).trans (hb6.mono (keepSize (by assumption)))))
              all_goals
                go_wp2_with fail
                go_meet
                first
                  | ((with_reducible refine newKid_B hb6 ?_ rfl rfl hsz5 HKZ.out HZ.out HB6.out); rfl)
                  | ((with_reducible refine newKid_A hb6 ?_ rfl rfl hsz5 HKZ.out HB6.out); rfl)
            case rest =>
              obtain ⟨G2, hg2, hg12, hk2, hk1, hbx⟩ := hcut
              have HK2 := Lib.hid hk2
              have HK1 := Lib.hid hk1
              have HX := Lib.hid hbx
              obtain ⟨cx, fx⟩ := bcell hbx
              have hctx := (cx tb 2 hwt).trans hctw
              have hcfx := (fx tb 2 hwt).trans hcfw
              have hs1x : wc.cell? sl = some (.pointer (some ⟨g, 0, none⟩)) := (HX.out.cell hws).trans hs1w
              have hs2x : wc.frozen? sl = false := (HX.out.frozen hws).trans hs2w
              have hput : Hid (putT ⟨cs, hi, lo, n⟩ hop V.heap.size G2 (.node g ⟨cs, qh, ql, qn⟩ h l r) = node2 V.heap.size ⟨cs, ch, cl, cn⟩ 0 0 (.node g ⟨cs, qh, ql, qn⟩ h l r) (.node G2 ⟨cs, hi, lo, n⟩ hop .nil .nil)) := by
                show _ = _
                unfold putT
                rw [if_neg HNQ.out, if_pos HOV.out]
                unfold forkT
                rw [HCM.out, if_neg HNC.out, HQB.out]
              have hop0 : Hid (hopAt (.node g ⟨cs, qh, ql, qn⟩ h l r) ⟨cs, hi, lo, n⟩ = 0) := by show _ = _; unfold hopAt; rw [if_neg HNQ.out, if_pos HOV.out]
              have hyx : Hid (Below Y.heap.size Y wc) := HBW.out.trans (HX.out.mono HBW.out.size)
              have hbs := HBW.out.size
              clear hk2 hk1 hbx cx fx hs1z hs2z hctz hcfz hs1w hs2w hctw hcfw
              go_wp2
              go_ret
              refine ⟨ret_int (by rw [HR.out, hph.out, hop0.out]), put_fin V.heap.size G2 HR.out HON.out ?_, (((Kept.of_below (HBY.out.trans (hyx.out.mono HBY.out.size))).setCell (.inl (by rw [← HSL.out]; exact HS3.out)) _).setCell (.inl (by simp [tabBlocks])) _)⟩
              rw [hop0.out, if_pos rfl, hput.out, ← HSL.out]
              refine Tab.count (tab_fork (p1 := ⟨cs, ch, cl, cn⟩) (h1 := 0) (b := 0) (extra := Tr.node G2 ⟨cs, hi, lo, n⟩ hop .nil .nil) HTY.out HR.out hyx.out HBW.out.size HK1.out ⟨?_, HK2.out, trivial, trivial⟩ (fun g' hg' => ?_) (by simp [Tr.blocks])) _
              · have := HTY.out.base
                have := HTY.out.blk.lt
                omega
              · simp [Tr.blocks] at hg'
                subst hg'
                exact ⟨by omega, fun hx => hg12 hx.symm⟩
        · have CB := Lib.hid CB0.out
          have HZ : Hid (Below V.heap.size V V) := Below.refl _ _
          go_wp2
          go_region_held3 (fun w' => (∀ b o, b < V.heap.size → w'.cell? ⟨b, o, none⟩ = V.cell? ⟨b, o, none⟩) ∧ V.heap.size ≤ w'.heap.size ∧ Hid (Below V.heap.size V w'))
            ((first | assumption | exact keep0 _ | (refine keepF ?_; (repeat' first | with_reducible exact HB5.out | with_reducible exact HZ.out | with_reducible exact Below.refl _ _ | with_reducible refine Below.drew ?_ | with_reducible refine below_drewN ?_ _ | with_reducible refine Below.setCell ?_ ?_ _ | with_reducible refine Below.alloc ?_ ?_ _ | exact HB5.out.size | exact HZ.out.size | (simp; done) | (simp; have := HB5.out.size; omega) | (simp; have := HZ.out.size; omega) | (simp; omega)); done)))
            (first | (go_at_call 165; refine (CB.out _).mono ?_; rintro e w5 ⟨rfl, hb5⟩; obtain ⟨fc5, ff5⟩ := bcell hb5; have hz5 := hb5.size; have HB5 : Hid (Below V.heap.size V w5) := (keepBelow (by assumption)).trans (hb5.mono (keepSize (by assumption)))))
          obtain ⟨Z, hZ⟩ : ∃ Z, w5.setCell ⟨V.heap.size, 6, none⟩ (.pointer (some ⟨g, 0, none⟩)) = Z := ⟨_, rfl⟩
          have hfz := forkZ hb5 rfl HB5.out 6 (.pointer (some ⟨g, 0, none⟩))
          rw [hZ] at hfz
          rw [hZ]
          have hsz5 : V.heap.size < Z.heap.size := hfz.1.lt
          clear hZ fc5 ff5 hz5 hb5 HB5 HZ
          obtain ⟨hkz, hbz⟩ := hfz
          have hkz : Blk Z V.heap.size 244 (nodeCs ⟨cs, ch, cl, cn⟩ 0 (.pointer none) (.pointer (some ⟨g, 0, none⟩))) := hkz
          have HKZ := Lib.hid hkz
          have HZ := Lib.hid hbz
          obtain ⟨cz, fz⟩ := bcell hbz
          have c0z := (cz b1 0 hb1).trans c0
          have c1z := (cz b1 1 hb1).trans c1
          have c2z := (cz b1 2 hb1).trans c2
          have c3z := (cz b1 3 hb1).trans c3
          have e0z := (cz w.heap.size 0 hwb).trans e0w
          have e1z := (cz w.heap.size 1 hwb).trans e1w
          have e2z := (cz w.heap.size 2 hwb).trans e2w
          have e3z := (cz w.heap.size 3 hwb).trans e3w
          have hctz := (cz tb 2 hwt).trans hctw
          have hcfz := (fz tb 2 hwt).trans hcfw
          have hs1z : Z.cell? sl = some (.pointer (some ⟨g, 0, none⟩)) := (HZ.out.cell hws).trans hs1w
          have hs2z : Z.frozen? sl = false := (HZ.out.frozen hws).trans hs2w
          have kz4 := hkz.cell 4
          have kf4 := hkz.frozen 4
          simp [nodeCs] at kz4
          have hsl4 : ¬ sl = ⟨V.heap.size, 4, none⟩ := fun hx => by rw [hx] at hws; simp at hws
          have hsl4' : ¬ (⟨V.heap.size, 4, none⟩ : Addr) = sl := fun hx => hsl4 hx.symm
          have hzz : Hid (Below Y.heap.size Y Z) := HBW.out.trans (HZ.out.mono HBW.out.size)
          clear cz fz hkz hbz
          have HCP := fun w => eqPV ⟨cs, ch, cl, cn⟩ ⟨cs, hi, lo, n⟩ w
          by_cases hcp : (⟨cs, ch, cl, cn⟩ : PV) = ⟨cs, hi, lo, n⟩
          · have hput : Hid (putT ⟨cs, hi, lo, n⟩ hop V.heap.size 0 (.node g ⟨cs, qh, ql, qn⟩ h l r) = node2 V.heap.size ⟨cs, hi, lo, n⟩ hop 1 (.node g ⟨cs, qh, ql, qn⟩ h l r) .nil) := by
              show _ = _
              unfold putT
              rw [if_neg HNQ.out, if_pos HOV.out]
              unfold forkT
              rw [HCM.out, if_pos hcp, HQB.out]
            have hop0 : Hid (hopAt (.node g ⟨cs, qh, ql, qn⟩ h l r) ⟨cs, hi, lo, n⟩ = 0) := by show _ = _; unfold hopAt; rw [if_neg HNQ.out, if_pos HOV.out]
            rw [decide_eq_true hcp] at HCP
            injection hcp with _ a1 a2 a3
            subst a1
            subst a2
            subst a3
            unfold PV.val at HCP
            simp only at HCP
            go_wp2
            go_ret
            refine ⟨ret_int (by rw [HR.out, hph.out, hop0.out]), put_fin V.heap.size 0 HR.out HON.out ?_, ((((Kept.of_below (HBY.out.trans (hzz.out.mono HBY.out.size))).setCell (.inr (by show _ ≤ _; simp; omega)) _).setCell (.inl (by rw [← HSL.out]; exact HS3.out)) _).setCell (.inl (by simp [tabBlocks])) _)⟩
            rw [hop0.out, if_pos rfl, hput.out, ← HSL.out]
            exact (tab_fork (extra := Tr.nil) HTY.out HR.out (hzz.out.setCell (HBW.out.size) _) HBW.out.size (HKZ.out.set_ 4 _) trivial (by simp [Tr.blocks]) (by simp [Tr.blocks])).count _
          · have hltn : cn < n := by
              rcases Int.lt_or_le cn n with hx | hx
              · exact hx
              · exact absurd (over_eq HCF.out.1 HP.out HCF.out.2.2.2.2.1 hx) hcp
            have hpb : Hid (bitI cs hi lo cn = 0) := by
              have h1 := HCB.out HCL.out hltn
              have h2 := PV.bit01 ⟨cs, hi, lo, n⟩ cn
              have h3 := HQB.out
              try simp only at h1
              show PV.bit ⟨cs, hi, lo, n⟩ cn = 0
              omega
            have CPB := Lib.hid (fun w => CP0.out w hltn)
            rw [hpb.out] at CPB
            rw [decide_eq_false hcp] at HCP
            have HNC := Lib.hid hcp
            unfold PV.val at HCP
            simp only at HCP
            clear hcp
            have kz6 := HKZ.out.cell 5
            have kf6 := HKZ.out.frozen 5
            simp [nodeCs] at kz6
            go_upto_region 8 with fail
            go_cut [60] (fun _ wx => NewKid V V.heap.size (fun v => (nodeCs ⟨cs, ch, cl, cn⟩ 0 (.pointer none) (.pointer (some ⟨g, 0, none⟩))).setIfInBounds 5 v) ⟨cs, hi, lo, n⟩ hop wx)
            case first =>
              go_region_held3 (fun w' => (∀ b o, b < V.heap.size → w'.cell? ⟨b, o, none⟩ = V.cell? ⟨b, o, none⟩) ∧ V.heap.size ≤ w'.heap.size ∧ Hid (Below V.heap.size V w'))
                ((first | assumption | exact keep0 _ | (refine keepF ?_; (repeat' first | with_reducible exact HB6.out | with_reducible exact HZ.out | with_reducible exact Below.refl _ _ | with_reducible refine Below.drew ?_ | with_reducible refine below_drewN ?_ _ | with_reducible refine Below.setCell ?_ ?_ _ | with_reducible refine Below.alloc ?_ ?_ _ | exact HB6.out.size | exact HZ.out.size | (simp; done) | (simp; have := HB6.out.size; omega) | (simp; have := HZ.out.size; omega) | (simp; omega)); done)))
                (first | (go_at_call 165; refine (CPB.out _).mono ?_; rintro e w6 ⟨rfl, hb6⟩; obtain ⟨fc6, ff6⟩ := bcell hb6; have hz6 := hb6.size; have hg6 : V.heap.size < w6.heap.size := Nat.lt_of_lt_of_le hsz5 (Nat.le_trans (by simp) hb6.size); have hg7 : ¬ V.heap.size = w6.heap.size := Nat.ne_of_lt hg6; have hg8 : ¬ w6.heap.size = V.heap.size := fun hx => hg7 hx.symm; have kz7 : w6.cell? ⟨V.heap.size, 5, none⟩ = some (.pointer none) := (fc6 _ _ (Nat.lt_of_lt_of_le hsz5 (by simp))).trans (by first | exact kz6 | exact (((Below.refl Z.heap.size Z).alloc (Nat.le_refl _) _).cell (p := ⟨V.heap.size, 5, none⟩) hsz5).trans kz6); have kf7 : w6.frozen? ⟨V.heap.size, 5, none⟩ = false := (ff6 _ _ (Nat.lt_of_lt_of_le hsz5 (by simp))).trans (by first | exact kf6 | exact (((Below.refl Z.heap.size Z).alloc (Nat.le_refl _) _).frozen (p := ⟨V.heap.size, 5, none⟩) hsz5).trans kf6); have HB6 : Hid (Below V.heap.size V w6) := (keepBelow (by assumption)).trans (hb6.mono (keepSize (by assumption)))))
              all_goals
                go_wp2_with fail
                go_meet
                first
                  | ((with_reducible refine newKid_B hb6 ?_ rfl rfl hsz5 HKZ.out HZ.out HB6.out); rfl)
                  | ((with_reducible refine newKid_A hb6 ?_ rfl rfl hsz5 HKZ.out HB6.out); rfl)
            case rest =>
              obtain ⟨G2, hg2, hg12, hk2, hk1, hbx⟩ := hcut
              have HK2 := Lib.hid hk2
              have HK1 := Lib.hid hk1
              have HX := Lib.hid hbx
              obtain ⟨cx, fx⟩ := bcell hbx
              have hctx := (cx tb 2 hwt).trans hctw
              have hcfx := (fx tb 2 hwt).trans hcfw
              have hs1x : wc.cell? sl = some (.pointer (some ⟨g, 0, none⟩)) := (HX.out.cell hws).trans hs1w
              have hs2x : wc.frozen? sl = false := (HX.out.frozen hws).trans hs2w
              have hput : Hid (putT ⟨cs, hi, lo, n⟩ hop V.heap.size G2 (.node g ⟨cs, qh, ql, qn⟩ h l r) = node2 V.heap.size ⟨cs, ch, cl, cn⟩ 0 1 (.node g ⟨cs, qh, ql, qn⟩ h l r) (.node G2 ⟨cs, hi, lo, n⟩ hop .nil .nil)) := by
                show _ = _
                unfold putT
                rw [if_neg HNQ.out, if_pos HOV.out]
                unfold forkT
                rw [HCM.out, if_neg HNC.out, HQB.out]
              have hop0 : Hid (hopAt (.node g ⟨cs, qh, ql, qn⟩ h l r) ⟨cs, hi, lo, n⟩ = 0) := by show _ = _; unfold hopAt; rw [if_neg HNQ.out, if_pos HOV.out]
              have hyx : Hid (Below Y.heap.size Y wc) := HBW.out.trans (HX.out.mono HBW.out.size)
              have hbs := HBW.out.size
              clear hk2 hk1 hbx cx fx hs1z hs2z hctz hcfz hs1w hs2w hctw hcfw
              go_wp2
              go_ret
              refine ⟨ret_int (by rw [HR.out, hph.out, hop0.out]), put_fin V.heap.size G2 HR.out HON.out ?_, (((Kept.of_below (HBY.out.trans (hyx.out.mono HBY.out.size))).setCell (.inl (by rw [← HSL.out]; exact HS3.out)) _).setCell (.inl (by simp [tabBlocks])) _)⟩
              rw [hop0.out, if_pos rfl, hput.out, ← HSL.out]
              refine Tab.count (tab_fork (p1 := ⟨cs, ch, cl, cn⟩) (h1 := 0) (b := 1) (extra := Tr.node G2 ⟨cs, hi, lo, n⟩ hop .nil .nil) HTY.out HR.out hyx.out HBW.out.size HK1.out ⟨?_, HK2.out, trivial, trivial⟩ (fun g' hg' => ?_) (by simp [Tr.blocks])) _
              · have := HTY.out.base
                have := HTY.out.blk.lt
                omega
              · simp [Tr.blocks] at hg'
                subst hg'
                exact ⟨by omega, fun hx => hg12 hx.symm⟩

end Go.Proofs.Ytonelibgaceflaa
