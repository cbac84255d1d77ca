/-
  
  
  
  
  
  
  
  
-/
import Derived.Test.YtonelibgaceflaaC3
import Derived.Deep.DeepCutAuto
import Derived.Test.YtonelibgaceflaaC2
namespace Go.Proofs.Ytonelibgaceflaa
open Go.ChangeShapes Go.WideShapes Go.ChangeAt Go.RowKit

theorem Kept.alloc {S : List Nat} {w w' : World} (h : Kept S w w') (o : Obj) : Kept S w (w'.alloc o) :=
  ⟨h.os, h.tape, h.output, by simp; have := h.size; omega, fun k hk hn => (Below.heap_alloc _ _ _ (by have := h.size; omega)).trans (h.block k hk hn)⟩
theorem Kept.setCell {S : List Nat} {w w' : World} (h : Kept S w w') {p : Addr} (hp : p.block ∈ S ∨ w.heap.size ≤ p.block) (u : Value) : Kept S w (w'.setCell p u) :=
  ⟨h.os, h.tape, h.output, by simp; exact h.size, fun k hk hn => (Below.heap_setCell _ _ _ _ (fun e => by subst e; rcases hp with hp | hp; exact hn hp; omega)).trans (h.block k hk hn)⟩
theorem Kept.of_below {S : List Nat} {w w' : World} (h : Below w.heap.size w w') : Kept S w w' := ⟨h.os, h.tape, h.output, h.size, fun k hk _ => h.block k hk⟩
theorem Kept.then_below {S : List Nat} {w w1 w2 : World} (h : Kept S w w1) (hb : Below w1.heap.size w1 w2) : Kept S w w2 :=
  ⟨hb.os.trans h.os, hb.tape.trans h.tape, hb.output.trans h.output, Nat.le_trans h.size hb.size, fun k hk hn => (hb.block k (by have := h.size; omega)).trans (h.block k hk hn)⟩
theorem Kept.below {S : List Nat} {w w' : World} {B : Nat} (h : Kept S w w') (hS : ∀ k ∈ S, B ≤ k) (hB : B ≤ w.heap.size) : Below B w w' :=
  ⟨h.os, h.tape, h.output, h.size, fun k hk => h.block k (by omega) (fun hx => by have := hS k hx; omega)⟩

/-- What Put returns, and what it leaves. -/
def PutPost (w : World) (B tb : Nat) (R : Bool → Tr) (c : Int) (p : PV) (hop : Int) (e : Ending) (w' : World) : Prop :=
  e = .returned (.int .i64 (hopAt (R p.six) p)) ∧ (∃ G1 G2, Tab w' B tb (upd R p.six (putT p hop G1 G2 (R p.six))) (if hopAt (R p.six) p = 0 then c + 1 else c)) ∧ Kept (tabBlocks tb R) w w'

theorem chk_of {six : Bool} {hi lo n : Int} (h : Pfx six hi lo n) : chk six hi lo n = 0 := by
  unfold chk
  have := h.len
  rw [if_neg (by simp [h.may]), if_neg (by omega), if_pos h.clean]
theorem bothE_of {six : Bool} {hi lo n hi' lo' n' : Int} (h : Pfx six hi lo n) (h' : Pfx six hi' lo' n') : bothE six hi lo n six hi' lo' n' = 0 := by
  unfold bothE
  simp [chk_of h, chk_of h']
theorem keepF {w1 X : World} (hb : Below w1.heap.size w1 X) :
    (∀ b o, b < w1.heap.size → X.cell? ⟨b, o, none⟩ = w1.cell? ⟨b, o, none⟩) ∧ w1.heap.size ≤ X.heap.size ∧ Hid (Below w1.heap.size w1 X) :=
  ⟨fun b o h => hb.cell (p := ⟨b, o, none⟩) h, hb.size, hb⟩
theorem keepS {w1 X : World} (h : (∀ b o, b < w1.heap.size → X.cell? ⟨b, o, none⟩ = w1.cell? ⟨b, o, none⟩) ∧ w1.heap.size ≤ X.heap.size ∧ Hid (Below w1.heap.size w1 X)) {p : Addr} (hp : w1.heap.size ≤ p.block) (u : Value) :
    (∀ b o, b < w1.heap.size → (X.setCell p u).cell? ⟨b, o, none⟩ = w1.cell? ⟨b, o, none⟩) ∧ w1.heap.size ≤ (X.setCell p u).heap.size ∧ Hid (Below w1.heap.size w1 (X.setCell p u)) :=
  keepF (h.2.2.out.setCell hp u)
/-- A new block with a prefix. -/
def NewPfx (Y : World) (p : PV) (v : Value) (wc : World) : Prop :=
  ∃ b, v = .pointer (some ⟨b, 0, none⟩) ∧ b < wc.heap.size ∧ Blk wc b 35 #[.bool p.six, .int .u64 p.hi, .int .u64 p.lo, .int .i64 p.n] ∧ Below Y.heap.size Y wc
theorem newPfx_A {Y w3 : World} {six : Bool} {hi lo n : Int} (h : Below Y.heap.size Y w3) :
    NewPfx Y ⟨six, hi, lo, n⟩ (.pointer (some ⟨w3.heap.size, 0, none⟩)) (w3.alloc (.cells #[.bool six, .int .u64 hi, .int .u64 lo, .int .i64 n] 35)) :=
  ⟨_, rfl, by simp, Blk.new _ _ _, h.alloc h.size _⟩
theorem newPfx_B {Y Q w3 : World} {six : Bool} {hi lo n : Int} (hb : Below Q.heap.size Q w3) (hQ : Q.heap = (Y.alloc (.cells #[.bool false, .int .u64 0, .int .u64 0, .int .i64 0] 35)).heap) (h : Below Y.heap.size Y w3) :
    NewPfx Y ⟨six, hi, lo, n⟩ (.pointer (some ⟨Y.heap.size, 0, none⟩)) ((((w3.setCell ⟨Y.heap.size, 0, none⟩ (.bool six)).setCell ⟨Y.heap.size, 1, none⟩ (.int .u64 hi)).setCell ⟨Y.heap.size, 2, none⟩ (.int .u64 lo)).setCell ⟨Y.heap.size, 3, none⟩ (.int .i64 n)) := by
  have hs := hb.size
  rw [hQ] at hs
  simp at hs
  refine ⟨Y.heap.size, rfl, by simp; omega, ((((?_ : Blk w3 Y.heap.size _ #[.bool false, .int .u64 0, .int .u64 0, .int .i64 0]).set_ 0 _).set_ 1 _).set_ 2 _).set_ 3 _, ?_⟩
  · have := hb.block Y.heap.size (by rw [hQ]; simp)
    rw [hQ] at this
    exact this.trans (Blk.new Y _ _)
  · exact (((h.setCell (by simp) _).setCell (by simp) _).setCell (by simp) _).setCell (by simp) _
/-- A new node, and a block that leads to it. -/
def NewKid (wc : World) (G1 : Nat) (cs : Value → Array Value) (p : PV) (hop : Int) (wx : World) : Prop :=
  ∃ G2, wc.heap.size < G2 ∧ ¬ G1 = G2 ∧ Blk wx G2 244 (nodeCs p hop (.pointer none) (.pointer none)) ∧ Blk wx G1 244 (cs (.pointer (some ⟨G2, 0, none⟩))) ∧ Below wc.heap.size wc wx
theorem forkZ {wc Q w5 : World} {F : Array Value} (hb : Below Q.heap.size Q w5) (hQ : Q.heap = (wc.alloc (.cells F 244)).heap) (h : Below wc.heap.size wc w5) (i : Nat) (u : Value) :
    Blk (w5.setCell ⟨wc.heap.size, i, none⟩ u) wc.heap.size 244 (F.setIfInBounds i u) ∧ Below wc.heap.size wc (w5.setCell ⟨wc.heap.size, i, none⟩ u) := by
  refine ⟨Blk.set_ ?_ i u, h.setCell (Nat.le_refl _) _⟩
  have := hb.block wc.heap.size (by rw [hQ]; simp)
  rw [hQ] at this
  exact this.trans (Blk.new wc _ _)
theorem newKid_A {wc Z Q w6 : World} {G1 i : Nat} {F : Array Value} {p : PV} {hop : Int} {six : Bool} {hi lo n : Int} (hb : Below Q.heap.size Q w6) (hQ : Q.heap = Z.heap) (hp : p = ⟨six, hi, lo, n⟩) (hG : wc.heap.size = G1) (hz : wc.heap.size < Z.heap.size) (hk : Blk Z G1 244 F) (hb2 : Below wc.heap.size wc w6) :
    NewKid wc G1 (fun v => F.setIfInBounds i v) p hop ((w6.setCell ⟨G1, i, none⟩ (.pointer (some ⟨w6.heap.size, 0, none⟩))).alloc (.cells #[.bool six, .int .u64 hi, .int .u64 lo, .int .i64 n, .int .i64 hop, .pointer none, .pointer none] 244)) := by
  subst hp
  subst hG
  have hs := hb.size
  rw [hQ] at hs
  have k2 := hb.block wc.heap.size (by rw [hQ]; omega)
  rw [hQ] at k2
  have kn := Blk.new (w6.setCell ⟨wc.heap.size, i, none⟩ (.pointer (some ⟨w6.heap.size, 0, none⟩))) 244 #[.bool six, .int .u64 hi, .int .u64 lo, .int .i64 n, .int .i64 hop, .pointer none, .pointer none]
  rw [World.size_setCell] at kn
  refine ⟨w6.heap.size, by omega, by omega, kn, Blk.alloc (Blk.set_ (k2.trans hk) i _) _, ?_⟩
  exact (hb2.setCell (Nat.le_refl _) _).alloc (by simp; exact hb2.size) _
theorem newKid_B {wc Z Q w6 : World} {G1 i : Nat} {F : Array Value} {p : PV} {hop : Int} {six : Bool} {hi lo n : Int} (hb : Below Q.heap.size Q w6) (hQ : Q.heap = (Z.alloc (.cells #[.bool six, .int .u64 hi, .int .u64 lo, .int .i64 n, .int .i64 hop, .pointer none, .pointer none] 244)).heap) (hp : p = ⟨six, hi, lo, n⟩) (hG : wc.heap.size = G1) (hz : wc.heap.size < Z.heap.size) (hk : Blk Z G1 244 F) (_hwz : Below wc.heap.size wc Z) (hb2 : Below wc.heap.size wc w6) :
    NewKid wc G1 (fun v => F.setIfInBounds i v) p hop (w6.setCell ⟨G1, i, none⟩ (.pointer (some ⟨Z.heap.size, 0, none⟩))) := by
  subst hp
  subst hG
  have k1 := hb.block Z.heap.size (by rw [hQ]; simp)
  have k2 := hb.block wc.heap.size (by rw [hQ]; simp; omega)
  rw [hQ] at k1 k2
  refine ⟨Z.heap.size, hz, by omega, Blk.far (k1.trans (Blk.new Z _ _)) (p := ⟨wc.heap.size, i, none⟩) (by show ¬ _ = _; simp; omega) _, Blk.set_ (k2.trans (hk.alloc _)) i _, hb2.setCell (Nat.le_refl _) _⟩
theorem tab_fork {Y W : World} {B tb : Nat} {R : Bool → Tr} {c : Int} {s : Bool} {C : Ctx} {cur extra : Tr} {G1 : Nat} {p1 : PV} {h1 b : Int} (hT : Tab Y B tb R c) (hR : R s = C.plug cur) (hb : Below Y.heap.size Y W) (hG : Y.heap.size ≤ G1)
    (hblk : Blk W G1 244 (if b = 0 then nodeCs p1 h1 cur.ptr extra.ptr else nodeCs p1 h1 extra.ptr cur.ptr)) (hx : extra.Lies W B) (hxb : ∀ g ∈ extra.blocks, Y.heap.size ≤ g ∧ ¬ g = G1) (hxn : extra.blocks.Nodup) :
    Tab (W.setCell (C.slot tb s) (.pointer (some ⟨G1, 0, none⟩))) B tb (upd R s (C.plug (node2 G1 p1 h1 b cur extra))) c := by
  obtain ⟨n1, n2, n3, n4, n5, n6, n7, n8⟩ := nodup_parts hT hR
  have hcl := ((plug_lies C cur).1 (hR ▸ hT.lies s)).2
  have hlt := fun g hg => (hcl.lt g hg).2
  have hB := hT.base
  have htl := hT.blk.lt
  have hnotin : ∀ g, Y.heap.size ≤ g → g ∉ tabBlocks tb R := fun g hg hm => by have := (hT.lt g hm).2; omega
  have hcur := hcl.below hb
  have hptr : (node2 G1 p1 h1 b cur extra).ptr = .pointer (some ⟨G1, 0, none⟩) := by unfold node2; split <;> rfl
  rw [← hptr]
  refine Tab.store (hT.below hb) hR ?_ ?_ ?_
  · unfold node2
    by_cases h0 : b = 0
    · rw [if_pos h0] at hblk ⊢
      exact ⟨by omega, hblk, hcur, hx⟩
    · rw [if_neg h0] at hblk ⊢
      exact ⟨by omega, hblk, hx, hcur⟩
  · have hd1 : ∀ a ∈ cur.blocks, ∀ b ∈ extra.blocks, ¬ a = b := fun a ha b hb e => by subst e; have := hlt a ha; have := (hxb a hb).1; omega
    have hg1 : G1 ∉ cur.blocks := fun h => by have := hlt G1 h; omega
    have hg2 : G1 ∉ extra.blocks := fun h => (hxb G1 h).2 rfl
    unfold node2
    split
    · simp only [Tr.blocks, List.nodup_cons, List.mem_append, not_or, List.nodup_append]
      exact ⟨⟨hg1, hg2⟩, n4, hxn, hd1⟩
    · simp only [Tr.blocks, List.nodup_cons, List.mem_append, not_or, List.nodup_append]
      exact ⟨⟨hg2, hg1⟩, hxn, n4, fun a ha b hb e => hd1 b hb a ha e.symm⟩
  · intro g hg
    have : g = G1 ∨ g ∈ cur.blocks ∨ g ∈ extra.blocks := by
      unfold node2 at hg
      split at hg <;> simp only [Tr.blocks, List.mem_cons, List.mem_append] at hg
      · exact hg
      · rcases hg with h | h | h
        · exact .inl h
        · exact .inr (.inr h)
        · exact .inr (.inl h)
    rcases this with rfl | h | h
    · exact .inr (hnotin _ hG)
    · exact .inl h
    · exact .inr (hnotin _ (hxb g h).1)
theorem put_fin {W : World} {B tb : Nat} {R : Bool → Tr} {c : Int} {p : PV} {hop : Int} {C : Ctx} {cur : Tr} (G1 G2 : Nat) (hR : R p.six = C.plug cur) (hon : C.OnPath p)
    (ht : Tab W B tb (upd R p.six (C.plug (putT p hop G1 G2 cur))) (if hopAt cur p = 0 then c + 1 else c)) :
    ∃ G1 G2, Tab W B tb (upd R p.six (putT p hop G1 G2 (R p.six))) (if hopAt (R p.six) p = 0 then c + 1 else c) := by
  refine ⟨G1, G2, ?_⟩
  rw [hR, plug_hop C cur hon, plug_put C cur hon]
  exact ht

set_option maxRecDepth 100000 in
set_option maxHeartbeats 12800000 in
theorem put_any {w : World} {B tb : Nat} {R : Bool → Tr} {c : Int} (h : Tab w B tb R c) (p : PV) (hp : p.Ok) (hI : ∀ s, Inv s (fun _ => True) (R s)) (hop : Int) (hc : 0 ≤ c ∧ c ≤ 1000000) :
    Calls Try.prog 152 #[.pointer (some ⟨tb, 0, none⟩), p.val, .int .i64 hop] w (PutPost w B tb R c p hop) := by
  have HT := Lib.hid h
  have HP := Lib.hid hp
  have HI := Lib.hid hI
  have CP := Lib.hid (fun (Y : World) (hb : Below w.heap.size w Y) => place_any (h.below hb) p hp hI)
  obtain ⟨six, hi, lo, n⟩ := p
  clear h hp hI
  unfold PV.val at CP ⊢
  simp only at CP ⊢
  go_enter Try.func152, Try.ntmps152
  go_wp2_with fail
  refine (CP.out _ ((Below.refl _ _).alloc (Nat.le_refl _) _)).mono ?_
  rintro e X ⟨C, cur, hR, hon, hst, rfl, hb⟩
  obtain ⟨HBX, hsx, hbx⟩ := box1 (cs := [.bool six, .int .u64 hi, .int .u64 lo, .int .i64 n]) hb
  have e0 := hbx 0 _ rfl
  have e1 := hbx 1 _ rfl
  have e2 := hbx 2 _ rfl
  have e3 := hbx 3 _ rfl
  have hTX := HT.out.below HBX
  have hsl := hTX.slot hR
  have HTX := Lib.hid hTX
  have HB := Lib.hid HBX
  have HR := Lib.hid hR
  have HON := Lib.hid hon
  have hct : X.cell? ⟨tb, 2, none⟩ = some (.int .i64 c) := hTX.blk.cell 2
  have hcf : X.frozen? ⟨tb, 2, none⟩ = false := hTX.blk.frozen 2
  have htb := hTX.blk.lt
  obtain ⟨hs1, hs2, hs3⟩ := hsl
  have hslt := (hTX.lt _ hs3).2
  have HS3 := Lib.hid hs3
  have hne : ¬ Ctx.slot tb six C = ⟨tb, 2, none⟩ := by
    intro hx
    cases C with
    | top => simp only [Ctx.slot, slotOf] at hx; cases six <;> simp at hx
    | left C g q h r => simp [Ctx.slot] at hx
    | right C g q h r => simp [Ctx.slot] at hx
  have HNE := Lib.hid hne
  have hne' : ¬ (⟨tb, 2, none⟩ : Addr) = Ctx.slot tb six C := fun hx => HNE.out hx.symm
  obtain ⟨sl, hsl⟩ : ∃ sl, Ctx.slot tb six C = sl := ⟨_, rfl⟩
  have HSL := Lib.hid hsl
  rw [hsl] at hs1 hs2 hslt hne hne' ⊢
  clear hsl hb hbx HBX hTX hR hon hs3
  have hph := Lib.hid (plug_hop (p := ⟨six, hi, lo, n⟩) C cur HON.out)
  have HBA : ∀ o, Hid (Below X.heap.size X (X.alloc o)) := fun o => (Below.refl _ _).alloc (Nat.le_refl _) o
  have hsf : ∀ o, (X.alloc o).frozen? sl = false := fun o => ((HBA o).out.frozen hslt).trans hs2
  cases cur with
  | nil =>
    change X.cell? sl = some (.pointer none) at hs1
    go_wp2
    go_ret
    refine ⟨ret_int (by rw [HR.out, hph.out]; rfl), put_fin X.heap.size 0 HR.out HON.out ?_, ((((Kept.of_below HB.out).alloc _).setCell (.inl (by rw [← HSL.out]; exact HS3.out)) _).setCell (.inl (by simp [tabBlocks])) _)⟩
    rw [show hopAt Tr.nil ⟨six, hi, lo, n⟩ = 0 from rfl, if_pos rfl, ← HSL.out]
    refine Tab.count (Tab.store (HTX.out.below (HBA _).out) HR.out (new := .node X.heap.size ⟨six, hi, lo, n⟩ hop .nil .nil) ⟨?_, Blk.new _ _ _, trivial, trivial⟩ (by simp [Tr.blocks]) (fun g hg => ?_)) _
    · have := HTX.out.base; omega
    · simp [Tr.blocks] at hg
      subst hg
      exact .inr (fun hx => by have := (HTX.out.lt _ hx).2; omega)
  | node g q h l r =>
    obtain ⟨hblk, hgm⟩ := HTX.out.node HR.out
    obtain ⟨U', hiv⟩ := inv_plug C (.node g q h l r) _ (by rw [← HR.out]; exact HI.out six)
    obtain ⟨hq, hq6, _, hh, _, _⟩ := hiv
    have HQ := Lib.hid hq
    have n0 := hblk.cell 0
    have n1 := hblk.cell 1
    have n2 := hblk.cell 2
    have n3 := hblk.cell 3
    have n4 := hblk.cell 4
    have f4 := hblk.frozen 4
    have hgl := hblk.lt
    have HGM := Lib.hid hgm
    obtain ⟨qs, qh, ql, qn⟩ := q
    simp only [nodeCs] at n0 n1 n2 n3 n4 hq6
    simp at n0 n1 n2 n3 n4
    subst hq6
    change X.cell? sl = some (.pointer (some ⟨g, 0, none⟩)) at hs1
    clear hgm hblk hq
    have HEQ := Lib.hid (fun w => eqPV ⟨qs, qh, ql, qn⟩ ⟨qs, hi, lo, n⟩ w)
    by_cases he : (⟨qs, qh, ql, qn⟩ : PV) = ⟨qs, hi, lo, n⟩
    · injection he with _ a1 a2 a3
      subst a1
      subst a2
      subst a3
      have hop0 : Hid (hopAt (.node g ⟨qs, qh, ql, qn⟩ h l r) ⟨qs, qh, ql, qn⟩ = h) := by show _ = _; unfold hopAt; rw [if_pos rfl]
      have hput : Hid (putT ⟨qs, qh, ql, qn⟩ hop 0 0 (.node g ⟨qs, qh, ql, qn⟩ h l r) = .node g ⟨qs, qh, ql, qn⟩ hop l r) := by show _ = _; unfold putT; rw [if_pos rfl]
      by_cases h0 : h = 0
      · subst h0
        go_wp2
        go_quiet (fail)
        go_wp2
        go_ret
        refine ⟨ret_int (by rw [HR.out, hph.out, hop0.out]), put_fin 0 0 HR.out HON.out ?_, ((Kept.of_below (below_drewN HB.out _)).setCell (.inl HGM.out) _).setCell (.inl (by simp [tabBlocks])) _⟩
        rw [hop0.out, if_pos rfl, hput.out]
        exact (Tab.hop (HTX.out.below (below_drewN (Below.refl _ _) _)) HR.out hop).count _
      · have hn0 : (h == 0) = false := by simpa using h0
        have H0 := Lib.hid h0
        clear h0
        go_wp2
        go_quiet (fail)
        go_wp2
        go_ret
        refine ⟨ret_int (by rw [HR.out, hph.out, hop0.out]), put_fin 0 0 HR.out HON.out ?_, (Kept.of_below (below_drewN HB.out _)).setCell (.inl HGM.out) _⟩
        rw [hop0.out, if_neg H0.out, hput.out]
        exact Tab.hop (HTX.out.below (below_drewN (Below.refl _ _) _)) HR.out hop
    · have hov : PV.over ⟨qs, qh, ql, qn⟩ ⟨qs, hi, lo, n⟩ = false := by
        rcases hst with hx | hx
        · exact absurd hx he
        · exact hx
      have HNQ := Lib.hid he
      rw [decide_eq_false he] at HEQ
      unfold PV.val at HEQ
      simp only at HEQ
      have HEQ' := HEQ.out
      clear he hst
      have HCF := Lib.hid (com_facts HQ.out HP.out rfl)
      have HCL := Lib.hid (com_lt HQ.out HP.out rfl hov)
      have HCB := Lib.hid (com_bit HQ.out HP.out rfl)
      have HOV := Lib.hid hov
      have CC : Hid (∀ Z, Calls Try.prog 202 #[.agg #[.bool qs, .int .u64 qh, .int .u64 ql, .int .i64 qn], .agg #[.bool qs, .int .u64 hi, .int .u64 lo, .int .i64 n]] Z fun e w' => e = .returned (.tuple #[(PV.com ⟨qs, qh, ql, qn⟩ ⟨qs, hi, lo, n⟩).val, .int .i64 0]) ∧ Below Z.heap.size Z w') :=
        fun Z => common_ok qs qh ql qn hi lo n Z HQ.out HP.out (bothE_of HQ.out HP.out)
      have h6 : (PV.com ⟨qs, qh, ql, qn⟩ ⟨qs, hi, lo, n⟩).six = qs := rfl
      obtain ⟨cm, hcm⟩ : ∃ cm, PV.com ⟨qs, qh, ql, qn⟩ ⟨qs, hi, lo, n⟩ = cm := ⟨_, rfl⟩
      have HCM := Lib.hid hcm
      rw [hcm] at HCF HCL HCB CC h6
      obtain ⟨cs, ch, cl, cn⟩ := cm
      simp only at h6
      subst h6
      unfold PV.val at CC
      simp only at CC
      clear hcm hov
      go_wp2
      go_quiet (fail)
      obtain ⟨Y, hY⟩ : ∃ Y, X.drewN nq = Y := ⟨_, rfl⟩
      have HXY : Hid (Below X.heap.size X Y) := by show Below _ _ _; rw [← hY]; exact below_drewN (Below.refl _ _) _
      rw [hY]
      have HTY := Lib.hid (HTX.out.below HXY.out)
      have sy := HXY.out.size
      obtain ⟨cy, fy⟩ := bcell HXY.out
      have hs1y : Y.cell? sl = some (.pointer (some ⟨g, 0, none⟩)) := (HXY.out.cell hslt).trans hs1
      have hs2y : Y.frozen? sl = false := (HXY.out.frozen hslt).trans hs2
      have e0y := (cy w.heap.size 0 hsx).trans e0
      have e1y := (cy w.heap.size 1 hsx).trans e1
      have e2y := (cy w.heap.size 2 hsx).trans e2
      have e3y := (cy w.heap.size 3 hsx).trans e3
      have n0y := (cy g 0 hgl).trans n0
      have n1y := (cy g 1 hgl).trans n1
      have n2y := (cy g 2 hgl).trans n2
      have n3y := (cy g 3 hgl).trans n3
      have hcty := (cy tb 2 htb).trans hct
      have hcfy := (fy tb 2 htb).trans hcf
      have hsyw : w.heap.size < Y.heap.size := by omega
      have hsyg : g < Y.heap.size := by omega
      have hsyt : tb < Y.heap.size := by omega
      have hsys : sl.block < Y.heap.size := by omega
      have HBY := Lib.hid (below_step HB.out HXY.out)
      clear hY cy fy hs1 hs2 e0 e1 e2 e3 n0 n1 n2 n3 n4 f4 hct hcf hsf HBA hslt htb hsx hgl
      go_upto_region 3 with fail
      go_cut [10] (fun v wx => NewPfx Y ⟨cs, ch, cl, cn⟩ v wx)
      case first =>
        go_region_held3 (fun w' => (∀ b o, b < Y.heap.size → w'.cell? ⟨b, o, none⟩ = Y.cell? ⟨b, o, none⟩) ∧ Y.heap.size ≤ w'.heap.size ∧ Hid (Below Y.heap.size  Y w'))
          ((first | assumption | exact keep0 _ | (refine keepF ?_; (repeat' first | with_reducible exact HB3.out | with_reducible exact Below.refl _ _ | with_reducible refine Below.drew ?_ | with_reducible refine below_drewN ?_ _ | with_reducible refine Below.setCell ?_ ?_ _ | with_reducible refine Below.alloc ?_ ?_ _ | exact HB3.out.size | (simp; done) | (simp; have := HB3.out.size; omega) | (simp; omega)); done)))
          (first | (go_at_call 202; refine (CC.out _).mono ?_; rintro e w3 ⟨rfl, hb3⟩; obtain ⟨fc3, ff3⟩ := bcell hb3; have hz3 := hb3.size; have HB3 : Hid (Below Y.heap.size Y w3) := (keepBelow (by assumption)).trans (hb3.mono (keepSize (by assumption)))))
        all_goals
          go_wp2_with fail
          go_meet
          first
            | with_reducible exact newPfx_A HB3.out
            | exact newPfx_B hb3 rfl HB3.out
      case rest =>
        generalize wc = V at *
        obtain ⟨b1, rfl, hb1, hbk, hbw⟩ := hcut
        have c0 := hbk.cell 0
        have c1 := hbk.cell 1
        have c2 := hbk.cell 2
        have c3 := hbk.cell 3
        simp at c0 c1 c2 c3
        obtain ⟨cy, fy⟩ := bcell hbw
        have HTW := Lib.hid (HTY.out.below hbw)
        have HBW := Lib.hid hbw
        have sw := hbw.size
        have e0w := (cy w.heap.size 0 hsyw).trans e0y
        have e1w := (cy w.heap.size 1 hsyw).trans e1y
        have e2w := (cy w.heap.size 2 hsyw).trans e2y
        have e3w := (cy w.heap.size 3 hsyw).trans e3y
        have n0w := (cy g 0 hsyg).trans n0y
        have n1w := (cy g 1 hsyg).trans n1y
        have n2w := (cy g 2 hsyg).trans n2y
        have n3w := (cy g 3 hsyg).trans n3y
        have hctw := (cy tb 2 hsyt).trans hcty
        have hcfw := (fy tb 2 hsyt).trans hcfy
        have hs1w : V.cell? sl = some (.pointer (some ⟨g, 0, none⟩)) := (HBW.out.cell hsys).trans hs1y
        have hs2w : V.frozen? sl = false := (HBW.out.frozen hsys).trans hs2y
        have hwb : w.heap.size < V.heap.size := by omega
        have hwg : g < V.heap.size := by omega
        have hwt : tb < V.heap.size := by omega
        have hws : sl.block < V.heap.size := by omega
        have hrc := ok_n HCF.out.1
        try simp only at hrc
        have hcl := HCL.out
        try simp only at hcl
        have hcqn := (ok_n HQ.out).2
        try simp only at hcqn
        have rq1 := Pfx.rhi HQ.out
        have rq2 := Pfx.rlo HQ.out
        have rp1 := Pfx.rhi HP.out
        have rp2 := Pfx.rlo HP.out
        try simp only at rq1 rq2 rp1 rp2
        have CB0 := Lib.hid (fun w => at_any cs qh ql cn w rq1 rq2 hrc.1 (by omega))
        have CP0 := Lib.hid (fun w (h : cn < n) => at_any cs hi lo cn w rp1 rp2 hrc.1 (by have := (ok_n HP.out).2; simp only at this; omega))
        have HQB : Hid (PV.bit ⟨cs, qh, ql, qn⟩ cn = bitI cs qh ql cn) := Eq.refl _
        obtain ⟨bv, hbv⟩ : ∃ bv, bitI cs qh ql cn = bv := ⟨_, rfl⟩
        have hb01 : bv = 0 ∨ bv = 1 := by rw [← hbv]; exact PV.bit01 ⟨cs, qh, ql, qn⟩ cn
        rw [hbv] at CB0 HQB
        clear hbv hbk hbw cy fy rq1 rq2 rp1 rp2 hcqn hcl sw e0y e1y e2y e3y n0y n1y n2y n3y hcty hcfy hs1y hs2y hsyw hsyg hsyt hsys
        rcases hb01 with rfl | rfl
        · have CB := Lib.hid CB0.out
          have HZ : Hid (Below V.heap.size V V) := Below.refl _ _
          go_wp2
          go_region_held3 (fun w' => (∀ b o, b < V.heap.size → w'.cell? ⟨b, o, none⟩ = V.cell? ⟨b, o, none⟩) ∧ V.heap.size ≤ w'.heap.size ∧ Hid (Below V.heap.size V w'))
            ((first | assumption | exact keep0 _ | (refine keepF ?_; (repeat' first | with_reducible exact HB5.out | with_reducible exact HZ.out | with_reducible exact Below.refl _ _ | with_reducible refine Below.drew ?_ | with_reducible refine below_drewN ?_ _ | with_reducible refine Below.setCell ?_ ?_ _ | with_reducible refine Below.alloc ?_ ?_ _ | exact HB5.out.size | exact HZ.out.size | (simp; done) | (simp; have := HB5.out.size; omega) | (simp; have := HZ.out.size; omega) | (simp; omega)); done)))
            (first | (go_at_call 165; refine (CB.out _).mono ?_; rintro e w5 ⟨rfl, hb5⟩; obtain ⟨fc5, ff5⟩ := bcell hb5; have hz5 := hb5.size; have HB5 : Hid (Below V.heap.size V w5) := (keepBelow (by assumption)).trans (hb5.mono (keepSize (by assumption)))))
          obtain ⟨Z, hZ⟩ : ∃ Z, w5.setCell ⟨V.heap.size, 5, none⟩ (.pointer (some ⟨g, 0, none⟩)) = Z := ⟨_, rfl⟩
          have hfz := forkZ hb5 rfl HB5.out 5 (.pointer (some ⟨g, 0, none⟩))
          rw [hZ] at hfz
          rw [hZ]
          have hsz5 : V.heap.size < Z.heap.size := hfz.1.lt
          clear hZ fc5 ff5 hz5 hb5 HB5 HZ
          obtain ⟨hkz, hbz⟩ := hfz
          have hkz : Blk Z V.heap.size 244 (nodeCs ⟨cs, ch, cl, cn⟩ 0 (.pointer (some ⟨g, 0, none⟩)) (.pointer none)) := hkz
          have HKZ := Lib.hid hkz
          have HZ := Lib.hid hbz
          obtain ⟨cz, fz⟩ := bcell hbz
          have c0z := (cz b1 0 hb1).trans c0
          have c1z := (cz b1 1 hb1).trans c1
          have c2z := (cz b1 2 hb1).trans c2
          have c3z := (cz b1 3 hb1).trans c3
          have e0z := (cz w.heap.size 0 hwb).trans e0w
          have e1z := (cz w.heap.size 1 hwb).trans e1w
          have e2z := (cz w.heap.size 2 hwb).trans e2w
          have e3z := (cz w.heap.size 3 hwb).trans e3w
          have hctz := (cz tb 2 hwt).trans hctw
          have hcfz := (fz tb 2 hwt).trans hcfw
          have hs1z : Z.cell? sl = some (.pointer (some ⟨g, 0, none⟩)) := (HZ.out.cell hws).trans hs1w
          have hs2z : Z.frozen? sl = false := (HZ.out.frozen hws).trans hs2w
          have kz4 := hkz.cell 4
          have kf4 := hkz.frozen 4
          simp [nodeCs] at kz4
          have hsl4 : ¬ sl = ⟨V.heap.size, 4, none⟩ := fun hx => by rw [hx] at hws; simp at hws
          have hsl4' : ¬ (⟨V.heap.size, 4, none⟩ : Addr) = sl := fun hx => hsl4 hx.symm
          have hzz : Hid (Below Y.heap.size Y Z) := HBW.out.trans (HZ.out.mono HBW.out.size)
          clear cz fz hkz hbz
          have HCP := fun w => eqPV ⟨cs, ch, cl, cn⟩ ⟨cs, hi, lo, n⟩ w
          by_cases hcp : (⟨cs, ch, cl, cn⟩ : PV) = ⟨cs, hi, lo, n⟩
          · have hput : Hid (putT ⟨cs, hi, lo, n⟩ hop V.heap.size 0 (.node g ⟨cs, qh, ql, qn⟩ h l r) = node2 V.heap.size ⟨cs, hi, lo, n⟩ hop 0 (.node g ⟨cs, qh, ql, qn⟩ h l r) .nil) := by
              show _ = _
              unfold putT
              rw [if_neg HNQ.out, if_pos HOV.out]
              unfold forkT
              rw [HCM.out, if_pos hcp, HQB.out]
            have hop0 : Hid (hopAt (.node g ⟨cs, qh, ql, qn⟩ h l r) ⟨cs, hi, lo, n⟩ = 0) := by show _ = _; unfold hopAt; rw [if_neg HNQ.out, if_pos HOV.out]
            rw [decide_eq_true hcp] at HCP
            injection hcp with _ a1 a2 a3
            subst a1
            subst a2
            subst a3
            unfold PV.val at HCP
            simp only at HCP
            go_wp2
            go_ret
            refine ⟨ret_int (by rw [HR.out, hph.out, hop0.out]), put_fin V.heap.size 0 HR.out HON.out ?_, ((((Kept.of_below (HBY.out.trans (hzz.out.mono HBY.out.size))).setCell (.inr (by show _ ≤ _; simp; omega)) _).setCell (.inl (by rw [← HSL.out]; exact HS3.out)) _).setCell (.inl (by simp [tabBlocks])) _)⟩
            rw [hop0.out, if_pos rfl, hput.out, ← HSL.out]
            exact (tab_fork (extra := Tr.nil) HTY.out HR.out (hzz.out.setCell (HBW.out.size) _) HBW.out.size (HKZ.out.set_ 4 _) trivial (by simp [Tr.blocks]) (by simp [Tr.blocks])).count _
          · have hltn : cn < n := by
              rcases Int.lt_or_le cn n with hx | hx
              · exact hx
              · exact absurd (over_eq HCF.out.1 HP.out HCF.out.2.2.2.2.1 hx) hcp
            have hpb : Hid (bitI cs hi lo cn = 1) := by
              have h1 := HCB.out HCL.out hltn
              have h2 := PV.bit01 ⟨cs, hi, lo, n⟩ cn
              have h3 := HQB.out
              try simp only at h1
              show PV.bit ⟨cs, hi, lo, n⟩ cn = 1
              omega
            have CPB := Lib.hid (fun w => CP0.out w hltn)
            rw [hpb.out] at CPB
            rw [decide_eq_false hcp] at HCP
            have HNC := Lib.hid hcp
            unfold PV.val at HCP
            simp only at HCP
            clear hcp
            have kz6 := HKZ.out.cell 6
            have kf6 := HKZ.out.frozen 6
            simp [nodeCs] at kz6
            go_upto_region 8 with fail
            go_cut [60] (fun _ wx => NewKid V V.heap.size (fun v => (nodeCs ⟨cs, ch, cl, cn⟩ 0 (.pointer (some ⟨g, 0, none⟩)) (.pointer none)).setIfInBounds 6 v) ⟨cs, hi, lo, n⟩ hop wx)
            case first =>
              go_region_held3 (fun w' => (∀ b o, b < V.heap.size → w'.cell? ⟨b, o, none⟩ = V.cell? ⟨b, o, none⟩) ∧ V.heap.size ≤ w'.heap.size ∧ Hid (Below V.heap.size V w'))
                ((first | assumption | exact keep0 _ | (refine keepF ?_; (repeat' first | with_reducible exact HB6.out | with_reducible exact HZ.out | with_reducible exact Below.refl _ _ | with_reducible refine Below.drew ?_ | with_reducible refine below_drewN ?_ _ | with_reducible refine Below.setCell ?_ ?_ _ | with_reducible refine Below.alloc ?_ ?_ _ | exact HB6.out.size | exact HZ.out.size | (simp; done) | (simp; have := HB6.out.size; omega) | (simp; have := HZ.out.size; omega) | (simp; omega)); done)))
                (first | (go_at_call 165; refine (CPB.out _).mono ?_; rintro e w6 ⟨rfl, hb6⟩; obtain ⟨fc6, ff6⟩ := bcell hb6; have hz6 := hb6.size; have hg6 : V.heap.size < w6.heap.size := Nat.lt_of_lt_of_le hsz5 (Nat.le_trans (by simp) hb6.size); have hg7 : ¬ V.heap.size = w6.heap.size := Nat.ne_of_lt hg6; have hg8 : ¬ w6.heap.size = V.heap.size := fun hx => hg7 hx.symm; have kz7 : w6.cell? ⟨V.heap.size, 6, none⟩ = some (.pointer none) := (fc6 _ _ (Nat.lt_of_lt_of_le hsz5 (by simp))).trans (by first | exact kz6 | exact (((Below.refl Z.heap.size Z).alloc (Nat.le_refl _) _).cell (p := ⟨V.heap.size, 6, none⟩) hsz5).trans kz6); have kf7 : w6.frozen? ⟨V.heap.size, 6, none⟩ = false := (ff6 _ _ (Nat.lt_of_lt_of_le hsz5 (by simp))).trans (by first | exact kf6 | exact (((Below.refl Z.heap.size Z).alloc (Nat.le_refl _) _).frozen (p := ⟨V.heap.size, 6, none⟩) hsz5).trans kf6); have HB6 : Hid (Below V.heap.size V w6) := (keepBelow (by assumption)).trans (hb6.mono (keepSize (by assumption)))))
              all_goals
                go_wp2_with fail
                go_meet
                first
                  | ((with_reducible refine newKid_B hb6 ?_ rfl rfl hsz5 HKZ.out HZ.out HB6.out); rfl)
                  | ((with_reducible refine newKid_A hb6 ?_ rfl rfl hsz5 HKZ.out HB6.out); rfl)
            case rest =>
              obtain ⟨G2, hg2, hg12, hk2, hk1, hbx⟩ := hcut
              have HK2 := Lib.hid hk2
              have HK1 := Lib.hid hk1
              have HX := Lib.hid hbx
              obtain ⟨cx, fx⟩ := bcell hbx
              have hctx := (cx tb 2 hwt).trans hctw
              have hcfx := (fx tb 2 hwt).trans hcfw
              have hs1x : wc.cell? sl = some (.pointer (some ⟨g, 0, none⟩)) := (HX.out.cell hws).trans hs1w
              have hs2x : wc.frozen? sl = false := (HX.out.frozen hws).trans hs2w
              have hput : Hid (putT ⟨cs, hi, lo, n⟩ hop V.heap.size G2 (.node g ⟨cs, qh, ql, qn⟩ h l r) = node2 V.heap.size ⟨cs, ch, cl, cn⟩ 0 0 (.node g ⟨cs, qh, ql, qn⟩ h l r) (.node G2 ⟨cs, hi, lo, n⟩ hop .nil .nil)) := by
                show _ = _
                unfold putT
                rw [if_neg HNQ.out, if_pos HOV.out]
                unfold forkT
                rw [HCM.out, if_neg HNC.out, HQB.out]
              have hop0 : Hid (hopAt (.node g ⟨cs, qh, ql, qn⟩ h l r) ⟨cs, hi, lo, n⟩ = 0) := by show _ = _; unfold hopAt; rw [if_neg HNQ.out, if_pos HOV.out]
              have hyx : Hid (Below Y.heap.size Y wc) := HBW.out.trans (HX.out.mono HBW.out.size)
              have hbs := HBW.out.size
              clear hk2 hk1 hbx cx fx hs1z hs2z hctz hcfz hs1w hs2w hctw hcfw
              go_wp2
              go_ret
              refine ⟨ret_int (by rw [HR.out, hph.out, hop0.out]), put_fin V.heap.size G2 HR.out HON.out ?_, (((Kept.of_below (HBY.out.trans (hyx.out.mono HBY.out.size))).setCell (.inl (by rw [← HSL.out]; exact HS3.out)) _).setCell (.inl (by simp [tabBlocks])) _)⟩
              rw [hop0.out, if_pos rfl, hput.out, ← HSL.out]
              refine Tab.count (tab_fork (p1 := ⟨cs, ch, cl, cn⟩) (h1 := 0) (b := 0) (extra := Tr.node G2 ⟨cs, hi, lo, n⟩ hop .nil .nil) HTY.out HR.out hyx.out HBW.out.size HK1.out ⟨?_, HK2.out, trivial, trivial⟩ (fun g' hg' => ?_) (by simp [Tr.blocks])) _
              · have := HTY.out.base
                have := HTY.out.blk.lt
                omega
              · simp [Tr.blocks] at hg'
                subst hg'
                exact ⟨by omega, fun hx => hg12 hx.symm⟩
        · have CB := Lib.hid CB0.out
          have HZ : Hid (Below V.heap.size V V) := Below.refl _ _
          go_wp2
          go_region_held3 (fun w' => (∀ b o, b < V.heap.size → w'.cell? ⟨b, o, none⟩ = V.cell? ⟨b, o, none⟩) ∧ V.heap.size ≤ w'.heap.size ∧ Hid (Below V.heap.size V w'))
            ((first | assumption | exact keep0 _ | (refine keepF ?_; (repeat' first | with_reducible exact HB5.out | with_reducible exact HZ.out | with_reducible exact Below.refl _ _ | with_reducible refine Below.drew ?_ | with_reducible refine below_drewN ?_ _ | with_reducible refine Below.setCell ?_ ?_ _ | with_reducible refine Below.alloc ?_ ?_ _ | exact HB5.out.size | exact HZ.out.size | (simp; done) | (simp; have := HB5.out.size; omega) | (simp; have := HZ.out.size; omega) | (simp; omega)); done)))
            (first | (go_at_call 165; refine (CB.out _).mono ?_; rintro e w5 ⟨rfl, hb5⟩; obtain ⟨fc5, ff5⟩ := bcell hb5; have hz5 := hb5.size; have HB5 : Hid (Below V.heap.size V w5) := (keepBelow (by assumption)).trans (hb5.mono (keepSize (by assumption)))))
          obtain ⟨Z, hZ⟩ : ∃ Z, w5.setCell ⟨V.heap.size, 6, none⟩ (.pointer (some ⟨g, 0, none⟩)) = Z := ⟨_, rfl⟩
          have hfz := forkZ hb5 rfl HB5.out 6 (.pointer (some ⟨g, 0, none⟩))
          rw [hZ] at hfz
          rw [hZ]
          have hsz5 : V.heap.size < Z.heap.size := hfz.1.lt
          clear hZ fc5 ff5 hz5 hb5 HB5 HZ
          obtain ⟨hkz, hbz⟩ := hfz
          have hkz : Blk Z V.heap.size 244 (nodeCs ⟨cs, ch, cl, cn⟩ 0 (.pointer none) (.pointer (some ⟨g, 0, none⟩))) := hkz
          have HKZ := Lib.hid hkz
          have HZ := Lib.hid hbz
          obtain ⟨cz, fz⟩ := bcell hbz
          have c0z := (cz b1 0 hb1).trans c0
          have c1z := (cz b1 1 hb1).trans c1
          have c2z := (cz b1 2 hb1).trans c2
          have c3z := (cz b1 3 hb1).trans c3
          have e0z := (cz w.heap.size 0 hwb).trans e0w
          have e1z := (cz w.heap.size 1 hwb).trans e1w
          have e2z := (cz w.heap.size 2 hwb).trans e2w
          have e3z := (cz w.heap.size 3 hwb).trans e3w
          have hctz := (cz tb 2 hwt).trans hctw
          have hcfz := (fz tb 2 hwt).trans hcfw
          have hs1z : Z.cell? sl = some (.pointer (some ⟨g, 0, none⟩)) := (HZ.out.cell hws).trans hs1w
          have hs2z : Z.frozen? sl = false := (HZ.out.frozen hws).trans hs2w
          have kz4 := hkz.cell 4
          have kf4 := hkz.frozen 4
          simp [nodeCs] at kz4
          have hsl4 : ¬ sl = ⟨V.heap.size, 4, none⟩ := fun hx => by rw [hx] at hws; simp at hws
          have hsl4' : ¬ (⟨V.heap.size, 4, none⟩ : Addr) = sl := fun hx => hsl4 hx.symm
          have hzz : Hid (Below Y.heap.size Y Z) := HBW.out.trans (HZ.out.mono HBW.out.size)
          clear cz fz hkz hbz
          have HCP := fun w => eqPV ⟨cs, ch, cl, cn⟩ ⟨cs, hi, lo, n⟩ w
          by_cases hcp : (⟨cs, ch, cl, cn⟩ : PV) = ⟨cs, hi, lo, n⟩
          · have hput : Hid (putT ⟨cs, hi, lo, n⟩ hop V.heap.size 0 (.node g ⟨cs, qh, ql, qn⟩ h l r) = node2 V.heap.size ⟨cs, hi, lo, n⟩ hop 1 (.node g ⟨cs, qh, ql, qn⟩ h l r) .nil) := by
              show _ = _
              unfold putT
              rw [if_neg HNQ.out, if_pos HOV.out]
              unfold forkT
              rw [HCM.out, if_pos hcp, HQB.out]
            have hop0 : Hid (hopAt (.node g ⟨cs, qh, ql, qn⟩ h l r) ⟨cs, hi, lo, n⟩ = 0) := by show _ = _; unfold hopAt; rw [if_neg HNQ.out, if_pos HOV.out]
            rw [decide_eq_true hcp] at HCP
            injection hcp with _ a1 a2 a3
            subst a1
            subst a2
            subst a3
            unfold PV.val at HCP
            simp only at HCP
            go_wp2
            go_ret
            refine ⟨ret_int (by rw [HR.out, hph.out, hop0.out]), put_fin V.heap.size 0 HR.out HON.out ?_, ((((Kept.of_below (HBY.out.trans (hzz.out.mono HBY.out.size))).setCell (.inr (by show _ ≤ _; simp; omega)) _).setCell (.inl (by rw [← HSL.out]; exact HS3.out)) _).setCell (.inl (by simp [tabBlocks])) _)⟩
            rw [hop0.out, if_pos rfl, hput.out, ← HSL.out]
            exact (tab_fork (extra := Tr.nil) HTY.out HR.out (hzz.out.setCell (HBW.out.size) _) HBW.out.size (HKZ.out.set_ 4 _) trivial (by simp [Tr.blocks]) (by simp [Tr.blocks])).count _
          · have hltn : cn < n := by
              rcases Int.lt_or_le cn n with hx | hx
              · exact hx
              · exact absurd (over_eq HCF.out.1 HP.out HCF.out.2.2.2.2.1 hx) hcp
            have hpb : Hid (bitI cs hi lo cn = 0) := by
              have h1 := HCB.out HCL.out hltn
              have h2 := PV.bit01 ⟨cs, hi, lo, n⟩ cn
              have h3 := HQB.out
              try simp only at h1
              show PV.bit ⟨cs, hi, lo, n⟩ cn = 0
              omega
            have CPB := Lib.hid (fun w => CP0.out w hltn)
            rw [hpb.out] at CPB
            rw [decide_eq_false hcp] at HCP
            have HNC := Lib.hid hcp
            unfold PV.val at HCP
            simp only at HCP
            clear hcp
            have kz6 := HKZ.out.cell 5
            have kf6 := HKZ.out.frozen 5
            simp [nodeCs] at kz6
            go_upto_region 8 with fail
            go_cut [60] (fun _ wx => NewKid V V.heap.size (fun v => (nodeCs ⟨cs, ch, cl, cn⟩ 0 (.pointer none) (.pointer (some ⟨g, 0, none⟩))).setIfInBounds 5 v) ⟨cs, hi, lo, n⟩ hop wx)
            case first =>
              go_region_held3 (fun w' => (∀ b o, b < V.heap.size → w'.cell? ⟨b, o, none⟩ = V.cell? ⟨b, o, none⟩) ∧ V.heap.size ≤ w'.heap.size ∧ Hid (Below V.heap.size V w'))
                ((first | assumption | exact keep0 _ | (refine keepF ?_; (repeat' first | with_reducible exact HB6.out | with_reducible exact HZ.out | with_reducible exact Below.refl _ _ | with_reducible refine Below.drew ?_ | with_reducible refine below_drewN ?_ _ | with_reducible refine Below.setCell ?_ ?_ _ | with_reducible refine Below.alloc ?_ ?_ _ | exact HB6.out.size | exact HZ.out.size | (simp; done) | (simp; have := HB6.out.size; omega) | (simp; have := HZ.out.size; omega) | (simp; omega)); done)))
                (first | (go_at_call 165; refine (CPB.out _).mono ?_; rintro e w6 ⟨rfl, hb6⟩; obtain ⟨fc6, ff6⟩ := bcell hb6; have hz6 := hb6.size; have hg6 : V.heap.size < w6.heap.size := Nat.lt_of_lt_of_le hsz5 (Nat.le_trans (by simp) hb6.size); have hg7 : ¬ V.heap.size = w6.heap.size := Nat.ne_of_lt hg6; have hg8 : ¬ w6.heap.size = V.heap.size := fun hx => hg7 hx.symm; have kz7 : w6.cell? ⟨V.heap.size, 5, none⟩ = some (.pointer none) := (fc6 _ _ (Nat.lt_of_lt_of_le hsz5 (by simp))).trans (by first | exact kz6 | exact (((Below.refl Z.heap.size Z).alloc (Nat.le_refl _) _).cell (p := ⟨V.heap.size, 5, none⟩) hsz5).trans kz6); have kf7 : w6.frozen? ⟨V.heap.size, 5, none⟩ = false := (ff6 _ _ (Nat.lt_of_lt_of_le hsz5 (by simp))).trans (by first | exact kf6 | exact (((Below.refl Z.heap.size Z).alloc (Nat.le_refl _) _).frozen (p := ⟨V.heap.size, 5, none⟩) hsz5).trans kf6); have HB6 : Hid (Below V.heap.size V w6) := (keepBelow (by assumption)).trans (hb6.mono (keepSize (by assumption)))))
              all_goals
                go_wp2_with fail
                go_meet
                first
                  | ((with_reducible refine newKid_B hb6 ?_ rfl rfl hsz5 HKZ.out HZ.out HB6.out); rfl)
                  | ((with_reducible refine newKid_A hb6 ?_ rfl rfl hsz5 HKZ.out HB6.out); rfl)
            case rest =>
              obtain ⟨G2, hg2, hg12, hk2, hk1, hbx⟩ := hcut
              have HK2 := Lib.hid hk2
              have HK1 := Lib.hid hk1
              have HX := Lib.hid hbx
              obtain ⟨cx, fx⟩ := bcell hbx
              have hctx := (cx tb 2 hwt).trans hctw
              have hcfx := (fx tb 2 hwt).trans hcfw
              have hs1x : wc.cell? sl = some (.pointer (some ⟨g, 0, none⟩)) := (HX.out.cell hws).trans hs1w
              have hs2x : wc.frozen? sl = false := (HX.out.frozen hws).trans hs2w
              have hput : Hid (putT ⟨cs, hi, lo, n⟩ hop V.heap.size G2 (.node g ⟨cs, qh, ql, qn⟩ h l r) = node2 V.heap.size ⟨cs, ch, cl, cn⟩ 0 1 (.node g ⟨cs, qh, ql, qn⟩ h l r) (.node G2 ⟨cs, hi, lo, n⟩ hop .nil .nil)) := by
                show _ = _
                unfold putT
                rw [if_neg HNQ.out, if_pos HOV.out]
                unfold forkT
                rw [HCM.out, if_neg HNC.out, HQB.out]
              have hop0 : Hid (hopAt (.node g ⟨cs, qh, ql, qn⟩ h l r) ⟨cs, hi, lo, n⟩ = 0) := by show _ = _; unfold hopAt; rw [if_neg HNQ.out, if_pos HOV.out]
              have hyx : Hid (Below Y.heap.size Y wc) := HBW.out.trans (HX.out.mono HBW.out.size)
              have hbs := HBW.out.size
              clear hk2 hk1 hbx cx fx hs1z hs2z hctz hcfz hs1w hs2w hctw hcfw
              go_wp2
              go_ret
              refine ⟨ret_int (by rw [HR.out, hph.out, hop0.out]), put_fin V.heap.size G2 HR.out HON.out ?_, (((Kept.of_below (HBY.out.trans (hyx.out.mono HBY.out.size))).setCell (.inl (by rw [← HSL.out]; exact HS3.out)) _).setCell (.inl (by simp [tabBlocks])) _)⟩
              rw [hop0.out, if_pos rfl, hput.out, ← HSL.out]
              refine Tab.count (tab_fork (p1 := ⟨cs, ch, cl, cn⟩) (h1 := 0) (b := 1) (extra := Tr.node G2 ⟨cs, hi, lo, n⟩ hop .nil .nil) HTY.out HR.out hyx.out HBW.out.size HK1.out ⟨?_, HK2.out, trivial, trivial⟩ (fun g' hg' => ?_) (by simp [Tr.blocks])) _
              · have := HTY.out.base
                have := HTY.out.blk.lt
                omega
              · simp [Tr.blocks] at hg'
                subst hg'
                exact ⟨by omega, fun hx => hg12 hx.symm⟩

end Go.Proofs.Ytonelibgaceflaa

namespace Go.Proofs.Ytonelibgaceflaa

def hasB (r : RouteV) (six : Bool) (hi lo : Int) : Bool := inB r.p.six r.p.hi r.p.lo r.p.n six hi lo
/-- The hop and the length of the longest prefix so far. -/
def bestStep (six : Bool) (hi lo : Int) (b : Int × Int) (r : RouteV) : Int × Int := if hasB r six hi lo = true ∧ b.2 < r.p.n then (r.hop, r.p.n) else b
def bestTo (l : List RouteV) (six : Bool) (hi lo : Int) : Int × Int := l.foldl (bestStep six hi lo) (0, -1)
def goesR (l : List RouteV) (six : Bool) (hi lo : Int) : Int × Int := if (bestTo l six hi lo).2 < 0 then ((bestTo l six hi lo).1, 0) else bestTo l six hi lo
theorem bestTo_snoc (l : List RouteV) (r : RouteV) (six : Bool) (hi lo : Int) : bestTo (l ++ [r]) six hi lo = bestStep six hi lo (bestTo l six hi lo) r := by
  unfold bestTo; rw [List.foldl_append]; rfl

theorem bestTo_cases (six : Bool) (hi lo : Int) : ∀ (l : List RouteV), (∀ r ∈ l, 0 ≤ r.p.n) →
    (bestTo l six hi lo = (0, -1) ∧ ∀ r ∈ l, hasB r six hi lo = false) ∨ ∃ r ∈ l, hasB r six hi lo = true ∧ bestTo l six hi lo = (r.hop, r.p.n) ∧ ∀ r' ∈ l, hasB r' six hi lo = true → r'.p.n ≤ r.p.n := by
  intro l
  induction hn : l.length generalizing l with
  | zero =>
    intro _
    have : l = [] := List.eq_nil_of_length_eq_zero hn
    subst this
    exact .inl ⟨rfl, by simp⟩
  | succ n ih =>
    intro hpos
    rcases List.eq_nil_or_concat l with rfl | ⟨l', r, rfl⟩
    · simp at hn
    rw [List.concat_eq_append] at *
    have hl' : l'.length = n := by simpa using hn
    have hrn := hpos r (by simp)
    rw [bestTo_snoc]
    unfold bestStep
    rcases ih l' hl' (fun r hr => hpos r (by simp [hr])) with ⟨h1, h2⟩ | ⟨x, hx, h1, h2, h3⟩
    · rw [h1]
      by_cases hb : hasB r six hi lo = true
      · rw [if_pos ⟨hb, by simp only; omega⟩]
        refine .inr ⟨r, by simp, hb, rfl, fun r' hr' hb' => ?_⟩
        rcases List.mem_append.1 hr' with h | h
        · rw [h2 r' h] at hb'; cases hb'
        · simp at h; subst h; exact Int.le_refl _
      · rw [if_neg (fun h => hb h.1)]
        refine .inl ⟨rfl, fun r' hr' => ?_⟩
        rcases List.mem_append.1 hr' with h | h
        · exact h2 r' h
        · simp at h; subst h; simpa using hb
    · rw [h2]
      by_cases hb : hasB r six hi lo = true ∧ x.p.n < r.p.n
      · rw [if_pos hb]
        refine .inr ⟨r, by simp, hb.1, rfl, fun r' hr' hb' => ?_⟩
        rcases List.mem_append.1 hr' with h | h
        · have := h3 r' h hb'; omega
        · simp at h; subst h; exact Int.le_refl _
      · rw [if_neg hb]
        refine .inr ⟨x, by simp [hx], h1, rfl, fun r' hr' hb' => ?_⟩
        rcases List.mem_append.1 hr' with h | h
        · exact h3 r' h hb'
        · simp at h
          subst h
          apply Classical.byContradiction
          intro hc
          exact hb ⟨hb', by omega⟩

theorem getR_mem {l : List RouteV} (hv : Valid l) : ∀ r ∈ l, getR l r.p = r.hop := by
  obtain ⟨hv1, hv2⟩ := hv
  induction l with
  | nil => simp
  | cons x l ih =>
    intro r hr
    simp only [List.map_cons, List.nodup_cons] at hv2
    unfold getR
    rcases List.mem_cons.1 hr with rfl | hr
    · rw [if_pos rfl]
    · rw [if_neg (fun he => hv2.1 (by rw [he]; exact List.mem_map.2 ⟨r, hr, rfl⟩))]
      exact ih (fun r hr => hv1 r (by simp [hr])) hv2.2 r hr
theorem getR_ne {l : List RouteV} {p : PV} (h : ¬ getR l p = 0) : ∃ r ∈ l, r.p = p := by
  induction l with
  | nil => exact absurd rfl h
  | cons x l ih =>
    unfold getR at h
    by_cases hx : x.p = p
    · exact ⟨x, by simp, hx⟩
    · rw [if_neg hx] at h
      obtain ⟨r, hr, he⟩ := ih h
      exact ⟨r, by simp [hr], he⟩

theorem over_addr {q : PV} (hq : q.Ok) (six : Bool) (hi lo : Int) : q.over ⟨six, hi, lo, wideI six⟩ = inB q.six q.hi q.lo q.n six hi lo := by
  unfold PV.over overB
  simp only
  by_cases h : inB q.six q.hi q.lo q.n six hi lo = true
  · rw [h]
    have h6 : q.six = six := by
      unfold inB at h
      simp at h
      exact h.1.symm
    have := (ok_n hq).2
    rw [h6] at this
    simp [this]
  · rw [Bool.not_eq_true] at h
    rw [h]; simp

/-- What the tree finds is what the list says. -/
theorem look_goes {l : List RouteV} {t : Tr} {six : Bool} {hi lo : Int} (hv : Valid l) (hp : PV.Ok ⟨six, hi, lo, wideI six⟩) (hI : Inv six (fun _ => True) t) (hm : ∀ p : PV, p.Ok → p.six = six → hopAt t p = getR l p) :
    lookT ⟨six, hi, lo, wideI six⟩ t (0, 0) = goesR l six hi lo := by
  have hb := look_best hp rfl t _ (0, 0) hI
  have hc := bestTo_cases six hi lo l (fun r hr => (ok_n (hv.1 r hr).1).1)
  unfold goesR
  rcases hb with ⟨hres, hall⟩ | ⟨q, hq, hov, hne, hres, hmax⟩
  · rw [hres]
    rcases hc with ⟨h1, h2⟩ | ⟨r, hr, h1, h2, h3⟩
    · rw [h1, if_pos (by simp only; omega)]
    · exfalso
      have hrv := hv.1 r hr
      have ho := over_addr hrv.1 six hi lo
      have ho2 : r.p.over ⟨six, hi, lo, wideI six⟩ = true := by rw [ho]; exact h1
      have := hall r.p hrv.1 ho2
      rw [hm r.p hrv.1 (over_six hrv.1 hp ho2), getR_mem hv r hr] at this
      omega
  · rw [hres]
    rw [hm q hq (over_six hq hp hov)] at hne
    rw [hm q hq (over_six hq hp hov)]
    obtain ⟨x, hx, rfl⟩ := getR_ne hne
    have hxb : hasB x six hi lo = true := by unfold hasB; rw [← over_addr hq]; exact hov
    rcases hc with ⟨h1, h2⟩ | ⟨r, hr, h1, h2, h3⟩
    · rw [h2 x hx] at hxb; cases hxb
    · have hrv := hv.1 r hr
      have ho2 : r.p.over ⟨six, hi, lo, wideI six⟩ = true := by rw [over_addr hrv.1]; exact h1
      have hr0 := (ok_n hrv.1).1
      have n1 := h3 x hx hxb
      have n2 := hmax r.p hrv.1 ho2 (by rw [hm r.p hrv.1 (over_six hrv.1 hp ho2), getR_mem hv r hr]; omega)
      have he : x.p = r.p := over_eq hq hrv.1 (over_two hq hrv.1 hp hov ho2 n1) (by omega)
      rw [h2, if_neg (by simp only; omega), he, getR_mem hv r hr]

end Go.Proofs.Ytonelibgaceflaa

namespace Go.Proofs.Ytonelibgaceflaa
open Go.ChangeShapes Go.WideShapes Go.ChangeAt Go.RowKit

def NoteCs (a : Int × Int) : Array Value := #[.int .i64 0, .int .i64 a.1, .int .i64 a.2]

set_option maxHeartbeats 400000 in
theorem note_any (g ob : Nat) (q : PV) (h : Int) (a b : Value) (acc : Int × Int) (w : World) (hne1 : ¬ g = ob) (hg : Blk w g 244 (nodeCs q h a b)) (ho : Blk w ob 39 (NoteCs acc)) :
    Calls Try.prog 153 #[.pointer (some ⟨g, 0, none⟩), .pointer (some ⟨ob, 0, none⟩)] w fun e w' => e = .returned (.tuple #[]) ∧ Blk w' ob 39 (NoteCs (if h = 0 then acc else (h, q.n))) ∧ Kept [ob] w w' := by
  obtain ⟨qs, qh, ql, qn⟩ := q
  have n3 := hg.cell 3
  have n4 := hg.cell 4
  have o0 := ho.cell 0
  have o1 := ho.cell 1
  have o2 := ho.cell 2
  have f0 := ho.frozen 0
  have f1 := ho.frozen 1
  have f2 := ho.frozen 2
  simp [nodeCs, NoteCs] at n3 n4 o0 o1 o2
  have HO := Lib.hid ho
  clear hg ho
  by_cases h0 : h = 0
  · subst h0
    go_enter Try.func153, Try.ntmps153
    go_wp2
    refine bodyPost_end (results_none rfl _ _ _) rfl ?_
    exact ⟨rfl, HO.out, Kept.of_below (Below.refl _ _)⟩
  · have hne2 : ¬ ob = g := fun h => hne1 h.symm
    have hne : (h != 0) = true := by simpa using h0
    have HH := Lib.hid h0
    clear h0
    go_enter Try.func153, Try.ntmps153
    go_wp2
    go_region
    refine bodyPost_end (results_none rfl _ _ _) rfl ?_
    refine ⟨rfl, ?_, ?_⟩
    · rw [if_neg HH.out]
      have := (((((HO.out.set_ 0 (.int .i64 0)).set_ 1 (.int .i64 0)).set_ 2 (.int .i64 0)).set_ 1 (.int .i64 h)).set_ 2 (.int .i64 qn)).drew
      simpa [NoteCs] using this
    · exact (((((((Kept.of_below (Below.refl _ _)).setCell (.inl (by simp)) _).setCell (.inl (by simp)) _).setCell (.inl (by simp)) _).setCell (.inl (by simp)) _).setCell (.inl (by simp)) _).then_below (Below.refl _ _).drew)

theorem Kept.cellK {S : List Nat} {w w' : World} (h : Kept S w w') {p : Addr} (hp : p.block < w.heap.size) (hS : p.block ∉ S) : w'.cell? p = w.cell? p := World.cell?_of_block (h.block _ hp hS)
theorem Kept.trans {S : List Nat} {w w1 w2 : World} (h : Kept S w w1) (h' : Kept S w1 w2) : Kept S w w2 :=
  ⟨h'.os.trans h.os, h'.tape.trans h.tape, h'.output.trans h.output, Nat.le_trans h.size h'.size, fun k hk hS => (h'.block k (by have := h.size; omega) hS).trans (h.block k hk hS)⟩

def PlaceNote (w : World) (tb : Nat) (R : Bool → Tr) (p : PV) (ob : Nat) (e : Ending) (w' : World) : Prop :=
  ∃ (C : Ctx) (cur : Tr) (acc : Int × Int), R p.six = C.plug cur ∧ C.OnPath p ∧ Stop p cur ∧ e = .returned (.pointer (some (C.slot tb p.six))) ∧ Kept [ob] w w' ∧ Blk w' ob 39 (NoteCs acc) ∧ lookT p (R p.six) (0, 0) = lookT p cur acc
/-- Where the search stands, with what was noted. -/
def AtN (tb : Nat) (R : Bool → Tr) (p : PV) (ob k : Nat) (v : Value) (w : World) : Prop :=
  ∃ (C : Ctx) (cur : Tr) (acc : Int × Int), R p.six = C.plug cur ∧ C.OnPath p ∧ cur.size ≤ k ∧ v = .pointer (some (C.slot tb p.six)) ∧ Blk w ob 39 (NoteCs acc) ∧ lookT p (R p.six) (0, 0) = lookT p cur acc

theorem look_left {p q : PV} {g : Nat} {h : Int} {l r : Tr} {acc : Int × Int} (h1 : ¬ q = p) (h2 : q.over p = true) (h3 : p.bit q.n = 0) : lookT p (.node g q h l r) acc = lookT p l (if h = 0 then acc else (h, q.n)) := by
  conv => lhs; unfold lookT
  rw [if_neg (by simp [h2]), if_neg h1, if_pos h3]
theorem look_right {p q : PV} {g : Nat} {h : Int} {l r : Tr} {acc : Int × Int} (h1 : ¬ q = p) (h2 : q.over p = true) (h3 : ¬ p.bit q.n = 0) : lookT p (.node g q h l r) acc = lookT p r (if h = 0 then acc else (h, q.n)) := by
  conv => lhs; unfold lookT
  rw [if_neg (by simp [h2]), if_neg h1, if_neg h3]

set_option maxRecDepth 100000 in
set_option maxHeartbeats 1600000 in
theorem place_note {w : World} {B tb ob : Nat} {R : Bool → Tr} {c : Int} (h : Tab w B tb R c) (p : PV) (hp : p.Ok) (hI : ∀ s, Inv s (fun _ => True) (R s)) (hob : ob ∉ tabBlocks tb R) (hbo : Blk w ob 39 (NoteCs (0, 0))) :
    Calls Try.prog 154 #[.pointer (some ⟨tb, 0, none⟩), p.val, .func (.func 153) #[] #[.pointer (some ⟨ob, 0, none⟩)]] w (PlaceNote w tb R p ob) := by
  have HT := Lib.hid h
  have HP := Lib.hid hp
  have HI := Lib.hid hI
  have hRt := Lib.hid (fun w => root_any p tb w)
  obtain ⟨six, hi, lo, n⟩ := p
  have hrng := hp
  unfold PV.Ok at hrng
  simp only at hrng
  have r1 := hrng.rhi
  have r2 := hrng.rlo
  have hm5 := Lib.hid (fun hs : six = false => by have := hrng.may; rw [hs] at this; exact (mayB_four this).2 : six = false → lo < 4294967296)
  have hlen := hrng.len
  have hwl := wideI_le six
  clear h hp hI hrng
  have hnf : ∀ (caps : Array Value) (w : World), (binOp .neq 245 (.func (.func 153) #[] caps) .nilFunc).run Try.prog w = .ok (.bool true) w := fun _ _ => by kernel_rfl
  have hent : ∀ (args : Array Value) (w : World), (callFunc 153 args).run Try.prog w = .ok (.enter 153 args) w := fun args w => by kernel_rfl
  have HOB := Lib.hid hob
  have HBO0 := Lib.hid hbo
  have hobl := hbo.lt
  clear hob hbo
  unfold PV.val at hRt ⊢
  simp only at hRt ⊢
  go_enter Try.func154, Try.ntmps154
  go_wp2_with fail
  refine (hRt.out _).mono ?_
  rintro e X ⟨rfl, hb⟩
  obtain ⟨HBX, hsx, hbx⟩ := box1 (cs := [.bool six, .int .u64 hi, .int .u64 lo, .int .i64 n]) hb
  have e0 := hbx 0 _ rfl
  have e1 := hbx 1 _ rfl
  have e2 := hbx 2 _ rfl
  have e3 := hbx 3 _ rfl
  have HTX := Lib.hid (HT.out.below HBX)
  have HBO := Lib.hid (HBO0.out.below HBX hobl)
  have hobx : ob < X.heap.size := HBO.out.lt
  have hnob : w.heap.size ∉ [ob] := by simp; omega
  have HB := Lib.hid HBX
  clear hb hbx HBX
  go_wp2
  go_loopg [7, 8] (R six).size (fun k at_ _ wr => AtN tb R ⟨six, hi, lo, n⟩ ob k at_ wr ∧ Kept [ob] X wr)
  case atStart => exact ⟨⟨.top, R six, (0, 0), rfl, trivial, Nat.le_refl _, rfl, HBO.out, rfl⟩, Kept.of_below (Below.refl _ _)⟩
  case round =>
    obtain ⟨⟨C, cur, acc, hR, hon, hsz, rfl, hbn, hlk⟩, hb⟩ := hrel
    have hTW := HTX.out.keep (fun g hg => hb.block g (HTX.out.lt g hg).2 (by simp; intro he; subst he; exact HOB.out hg))
    have HTW := Lib.hid hTW
    have hs := (hTW.slot hR).1
    have HBN := Lib.hid hbn
    have HLK := Lib.hid hlk
    clear hbn hlk hTW
    have q0 := (hb.cellK (p := ⟨w.heap.size, 0, none⟩) hsx hnob).trans e0
    have q1 := (hb.cellK (p := ⟨w.heap.size, 1, none⟩) hsx hnob).trans e1
    have q2 := (hb.cellK (p := ⟨w.heap.size, 2, none⟩) hsx hnob).trans e2
    have q3 := (hb.cellK (p := ⟨w.heap.size, 3, none⟩) hsx hnob).trans e3
    have HR := Lib.hid hR
    have HON := Lib.hid hon
    have HBW := Lib.hid hb
    have hsw := hb.size
    obtain ⟨U', hiv⟩ := inv_plug C cur _ (by rw [← hR]; exact HI.out six)
    cases cur with
    | nil =>
      clear hR hon hb hiv
      change wr.cell? (Ctx.slot tb six C) = some (.pointer none) at hs
      show Code.wp _ _ _ _ _
      simp only at hs ⊢
      generalize hsl : Ctx.slot tb six C = sl at *
      have HSL := Lib.hid hsl
      clear hsl
      go_wp2
      go_ret
      exact ⟨C, .nil, acc, HR.out, HON.out, trivial, by rw [HSL.out]; rfl, (Kept.of_below HB.out).trans HBW.out, HBN.out, HLK.out⟩
    | node g q h l r =>
      obtain ⟨hq, hq6, _, hh, _, _⟩ := hiv
      obtain ⟨hblk, hgm⟩ := HTW.out.node hR
      have n0 := hblk.cell 0
      have n1 := hblk.cell 1
      have n2 := hblk.cell 2
      have n3 := hblk.cell 3
      have HQ := Lib.hid hq
      obtain ⟨qs, qh, ql, qn⟩ := q
      simp only [nodeCs] at n0 n1 n2 n3 hq6
      simp at n0 n1 n2 n3
      subst hq6
      have hgl := hblk.lt
      have HG := Lib.hid hblk
      have hgo : ¬ g = ob := by intro he; subst he; exact HOB.out hgm
      have hwo : ¬ w.heap.size = ob := by omega
      clear hR hon hb hblk hgm hq hh
      change wr.cell? (Ctx.slot tb qs C) = some (.pointer (some ⟨g, 0, none⟩)) at hs
      generalize hsl : Ctx.slot tb qs C = sl at *
      have HSL := Lib.hid hsl
      clear hsl
      by_cases he : qh = hi ∧ ql = lo ∧ qn = n
      · obtain ⟨rfl, rfl, rfl⟩ := he
        go_wp2_with fail
        go_quiet (fail)
        go_wp2
        go_ret
        exact ⟨C, _, acc, HR.out, HON.out, .inl rfl, by rw [HSL.out]; rfl, ((Kept.of_below HB.out).trans HBW.out).then_below (below_drewN (Below.refl _ _) _), HBN.out.drewN _, HLK.out⟩
      · have CO := Lib.hid (fun w => over_any qs qh ql qn qs hi lo n w r1 r2 hm5.out (by have := ok_n HQ.out; simp only at this; have := wideI_le qs; omega) (by have := ok_n HQ.out; simp only at this; have := wideI_le qs; omega))
        have CA := Lib.hid (fun w h3 h4 => at_any qs hi lo qn w r1 r2 h3 h4)
        have HE := Lib.hid he
        have HNE : Hid (¬ (⟨qs, qh, ql, qn⟩ : PV) = ⟨qs, hi, lo, n⟩) := fun hx => by injection hx with _ e1 e2 e3; exact he ⟨e1, e2, e3⟩
        have hsxw : w.heap.size < wr.heap.size := by omega
        have key : (qh == hi) = false ∨ (qh = hi ∧ (ql == lo) = false) ∨ (qh = hi ∧ ql = lo ∧ (qn == n) = false) := by
          by_cases a : qh = hi
          · by_cases b : ql = lo
            · exact .inr (.inr ⟨a, b, by simpa using fun h => he ⟨a, b, h⟩⟩)
            · exact .inr (.inl ⟨a, by simpa using b⟩)
          · exact .inl (by simpa using a)
        clear he
        obtain ⟨ov, hov⟩ : ∃ ov : Bool, overB qs qh ql qn qs hi lo n = ov := ⟨_, rfl⟩
        rw [hov] at CO
        have HOV := Lib.hid hov
        clear hov
        cases ov with
        | false =>
          rcases key with k1 | ⟨rfl, k1⟩ | ⟨rfl, rfl, k1⟩
          all_goals
            go_wp2_with fail
            go_region_held3 (fun w' => (∀ b o, b < wr.heap.size → w'.cell? ⟨b, o, none⟩ = wr.cell? ⟨b, o, none⟩) ∧ wr.heap.size ≤ w'.heap.size ∧ Hid (Below wr.heap.size wr w'))
              ((first | assumption | exact keep0 _ | exact keep1 (by assumption) (by assumption) | exact keepD (by assumption) | exact keepB (by assumption) (by assumption) | exact keepA (by assumption) _ | exact ⟨fun _ _ _ => rfl, Nat.le_refl _, Below.refl _ _⟩))
              (first | (go_at_call 137; refine (CO.out _).mono ?_; rintro e w2 ⟨rfl, hb2⟩))
            go_wp2
            go_ret
            exact ⟨C, _, acc, HR.out, HON.out, .inr HOV.out, by rw [HSL.out]; rfl, ((Kept.of_below HB.out).trans HBW.out).then_below (keepBelow (by assumption)), HBN.out.below (keepBelow (by assumption)) HBN.out.lt, HLK.out⟩
        | true =>
          have hnn := over_n HQ.out HP.out HOV.out
          simp only at hnn
          have hlt : qn < n := by
            rcases Int.lt_or_le qn n with hx | hx
            · exact hx
            · have := over_eq HQ.out HP.out HOV.out hx
              injection this with _ e1 e2 e3
              exact absurd ⟨e1, e2, e3⟩ HE.out
          have hq0 := (ok_n HQ.out).1
          simp only at hq0
          have CB := Lib.hid (fun w => CA.out w hq0 (by omega))
          obtain ⟨bv, hbv⟩ : ∃ bv, bitI qs hi lo qn = bv := ⟨_, rfl⟩
          have hb01 : bv = 0 ∨ bv = 1 := by rw [← hbv]; exact PV.bit01 ⟨qs, hi, lo, n⟩ qn
          rw [hbv] at CB
          have HBV : Hid (PV.bit ⟨qs, hi, lo, n⟩ qn = bv) := hbv
          clear hbv
          have CN := Lib.hid (fun (w2 : World) (hb : Below wr.heap.size wr w2) => note_any g ob ⟨qs, qh, ql, qn⟩ h l.ptr r.ptr acc w2 hgo (HG.out.below hb HG.out.lt) (HBN.out.below hb HBN.out.lt))
          rcases key with k1 | ⟨rfl, k1⟩ | ⟨rfl, rfl, k1⟩
          all_goals
            go_wp2_with fail
            go_region_held3 (fun w' => (∀ b o, b < wr.heap.size → w'.cell? ⟨b, o, none⟩ = wr.cell? ⟨b, o, none⟩) ∧ wr.heap.size ≤ w'.heap.size ∧ Hid (Below wr.heap.size wr w'))
              ((first | assumption | exact keep0 _ | exact keep1 (by assumption) (by assumption) | exact keepD (by assumption) | exact keepB (by assumption) (by assumption) | exact keepA (by assumption) _ | exact ⟨fun _ _ _ => rfl, Nat.le_refl _, Below.refl _ _⟩))
              (first | (go_at_call 137; refine (CO.out _).mono ?_; rintro e w2 ⟨rfl, hb2⟩))
            obtain ⟨fc2, z2, H2⟩ : (∀ b o, b < wr.heap.size → w2.cell? ⟨b, o, none⟩ = wr.cell? ⟨b, o, none⟩) ∧ wr.heap.size ≤ w2.heap.size ∧ Hid (Below wr.heap.size wr w2) := by assumption
            have z3 : w.heap.size < w2.heap.size := by omega
            have z4 : g < w2.heap.size := by omega
            go_wp2_with fail
            refine (CN.out w2 H2.out).mono ?_
            rintro e wn ⟨rfl, hbn, hkn⟩
            have kc : ∀ b o, b < w2.heap.size → ¬ b = ob → wn.cell? ⟨b, o, none⟩ = w2.cell? ⟨b, o, none⟩ := fun b o h1 h2 => hkn.cellK (p := ⟨b, o, none⟩) h1 (by simp; exact h2)
            have m0 := (kc g 0 z4 hgo).trans ((fc2 g 0 hgl).trans n0)
            have m1 := (kc g 1 z4 hgo).trans ((fc2 g 1 hgl).trans n1)
            have m2 := (kc g 2 z4 hgo).trans ((fc2 g 2 hgl).trans n2)
            have m3 := (kc g 3 z4 hgo).trans ((fc2 g 3 hgl).trans n3)
            have p0 := (kc w.heap.size 0 z3 hwo).trans ((fc2 w.heap.size 0 hsxw).trans q0)
            have p1 := (kc w.heap.size 1 z3 hwo).trans ((fc2 w.heap.size 1 hsxw).trans q1)
            have p2 := (kc w.heap.size 2 z3 hwo).trans ((fc2 w.heap.size 2 hsxw).trans q2)
            have p3 := (kc w.heap.size 3 z3 hwo).trans ((fc2 w.heap.size 3 hsxw).trans q3)
            have z6 : w.heap.size < wn.heap.size := by have := hkn.size; omega
            have z7 : g < wn.heap.size := by have := hkn.size; omega
            have HKN := Lib.hid hkn
            have HBN2 := Lib.hid hbn
            clear hkn hbn kc
            rcases hb01 with rfl | rfl
            all_goals
              go_wp2
              go_region_held3 (fun w' => (∀ b o, b < wn.heap.size → w'.cell? ⟨b, o, none⟩ = wn.cell? ⟨b, o, none⟩) ∧ wn.heap.size ≤ w'.heap.size ∧ Hid (Below wn.heap.size wn w'))
                ((first | assumption | exact keep0 _ | exact keep1 (by assumption) (by assumption) | exact keepD (by assumption) | exact keepB (by assumption) (by assumption) | exact keepA (by assumption) _ | exact ⟨fun _ _ _ => rfl, Nat.le_refl _, Below.refl _ _⟩))
                (first | (go_at_call 165; refine (CB.out _).mono ?_; rintro e w3 ⟨rfl, hb3⟩))
              obtain ⟨fc3, z5, H3⟩ : (∀ b o, b < wn.heap.size → w3.cell? ⟨b, o, none⟩ = wn.cell? ⟨b, o, none⟩) ∧ wn.heap.size ≤ w3.heap.size ∧ Hid (Below wn.heap.size wn w3) := by assumption
              go_wp2
              first
                | (go_roundg l.size
                   case measure => (simp [Tr.size] at hsz; omega)
                   case rel => exact ⟨⟨.left C g _ h r, l, _, HR.out, ⟨HNE.out, HOV.out, HBV.out, HON.out⟩, Nat.le_refl _, rfl, HBN2.out.below H3.out HBN2.out.lt, HLK.out.trans (look_left HNE.out HOV.out HBV.out)⟩, ((HBW.out.then_below H2.out).trans HKN.out).then_below H3.out⟩)
                | (go_roundg r.size
                   case measure => (simp [Tr.size] at hsz; omega)
                   case rel => exact ⟨⟨.right C g _ h l, r, _, HR.out, ⟨HNE.out, HOV.out, by rw [HBV.out]; decide, HON.out⟩, Nat.le_refl _, rfl, HBN2.out.below H3.out HBN2.out.lt, HLK.out.trans (look_right HNE.out HOV.out (by rw [HBV.out]; decide))⟩, ((HBW.out.then_below H2.out).trans HKN.out).then_below H3.out⟩)

end Go.Proofs.Ytonelibgaceflaa

namespace Go.Proofs.Ytonelibgaceflaa
set_option linter.unusedVariables false

/-- The sum, as a number of any size. -/
def sumI (hi lo by' : Int) : Int := hi * 18446744073709551616 + lo + by'
def plusHi (hi lo by' : Int) : Int := sumI hi lo by' / 18446744073709551616 % 18446744073709551616
def plusLo (hi lo by' : Int) : Int := sumI hi lo by' % 18446744073709551616
/-- Does the sum not go over the end? -/
def plusOk (six : Bool) (hi lo by' : Int) : Bool := decide (0 ≤ sumI hi lo by' ∧ sumI hi lo by' < 340282366920938463463374607431768211456) && mayB six (plusHi hi lo by') (plusLo hi lo by')

theorem plus_range (hi lo by' : Int) : (0 ≤ plusHi hi lo by' ∧ plusHi hi lo by' < 18446744073709551616) ∧ (0 ≤ plusLo hi lo by' ∧ plusLo hi lo by' < 18446744073709551616) := by
  unfold plusHi plusLo
  omega

/-- The number of an address. -/
def valI (six : Bool) (hi lo : Int) : Int := if six then hi * 18446744073709551616 + lo else lo
def topI (six : Bool) : Int := if six then 340282366920938463463374607431768211456 else 4294967296

theorem valI_range (six : Bool) (hi lo : Int) (h1 : 0 ≤ hi ∧ hi < 18446744073709551616) (h2 : 0 ≤ lo ∧ lo < 18446744073709551616) (hm : mayB six hi lo = true) : 0 ≤ valI six hi lo ∧ valI six hi lo < topI six := by
  unfold valI topI
  cases six
  · have := mayB_four hm
    simp only [Bool.false_eq_true, ↓reduceIte]
    omega
  · simp only [↓reduceIte]
    omega

theorem sum_val (six : Bool) (hi lo by' : Int) (hm : mayB six hi lo = true) : sumI hi lo by' = valI six hi lo + by' := by
  unfold sumI valI
  cases six
  · have := mayB_four hm
    simp only [Bool.false_eq_true, ↓reduceIte]
    omega
  · simp only [↓reduceIte]

/-- It does not go over the end just if the number stays one of an address. -/
theorem plusOk_iff (six : Bool) (hi lo by' : Int) (h1 : 0 ≤ hi ∧ hi < 18446744073709551616) (h2 : 0 ≤ lo ∧ lo < 18446744073709551616) (hm : mayB six hi lo = true) (hb : -1099511627776 ≤ by' ∧ by' ≤ 1099511627776) :
    plusOk six hi lo by' = true ↔ 0 ≤ valI six hi lo + by' ∧ valI six hi lo + by' < topI six := by
  have hs := sum_val six hi lo by' hm
  unfold plusOk
  rw [Bool.and_eq_true, decide_eq_true_eq, ← hs]
  unfold topI
  cases six
  · have := mayB_four hm
    have e : sumI hi lo by' = lo + by' := by unfold sumI; omega
    simp only [mayB, Bool.false_eq_true, ↓reduceIte, Bool.false_or, Bool.and_eq_true, beq_iff_eq, decide_eq_true_eq]
    unfold plusHi plusLo
    rw [e]
    omega
  · simp only [mayB, Bool.true_or, ↓reduceIte, and_true]

theorem valI_bit (six : Bool) (hi lo : Int) (i : Nat) (h1 : 0 ≤ hi ∧ hi < 18446744073709551616) (h2 : 0 ≤ lo ∧ lo < 18446744073709551616) {m : Nat} (hw : wideI six = m) (hi' : i < m) :
    bitI six hi lo i = valI six hi lo / 2 ^ (m - 1 - i) % 2 := by
  cases six
  · have hm : (32 : Int) = m := hw
    unfold bitI valI
    simp only [Bool.false_eq_true, ↓reduceIte]
    rw [show (31 - (i : Int)).toNat = m - 1 - i from by omega]
  · have hm : (128 : Int) = m := hw
    unfold bitI valI
    simp only [↓reduceIte]
    by_cases h64 : (i : Int) < 64
    · rw [if_pos h64, show (63 - (i : Int)).toNat = 63 - i from by omega, show m - 1 - i = 64 + (63 - i) from by omega, Int.pow_add, ← Int.ediv_ediv_of_nonneg (by decide)]
      have e : (2 : Int) ^ 64 = 18446744073709551616 := by decide
      rw [e, show (hi * 18446744073709551616 + lo) / 18446744073709551616 = hi from by omega]
    · rw [if_neg h64, show (127 - (i : Int)).toNat = m - 1 - i from by omega]
      obtain ⟨j, hj⟩ : ∃ j, m - 1 - i = j := ⟨_, rfl⟩
      have hj64 : j < 64 := by omega
      rw [hj]
      have e : (18446744073709551616 : Int) = 2 ^ j * (2 * 2 ^ (63 - j)) := by
        rw [show (2 : Int) * 2 ^ (63 - j) = 2 ^ (64 - j) from by rw [show 64 - j = (63 - j) + 1 from by omega, Int.pow_succ, Int.mul_comm], ← Int.pow_add, show j + (64 - j) = 64 from by omega]
        decide
      have hp : (0 : Int) < 2 ^ j := Int.pow_pos (by omega)
      rw [e, show hi * (2 ^ j * (2 * 2 ^ (63 - j))) + lo = lo + 2 ^ j * (hi * (2 * 2 ^ (63 - j))) from by rw [← Int.mul_assoc, Int.mul_comm hi, Int.mul_assoc, Int.add_comm], Int.add_mul_ediv_left _ _ (by omega)]
      rw [show hi * (2 * 2 ^ (63 - j)) = 2 * (hi * 2 ^ (63 - j)) from by rw [← Int.mul_assoc, Int.mul_comm hi 2, Int.mul_assoc]]
      omega

/-- The words of the sum are those of an address whose number is the sum. -/
theorem plus_val (six : Bool) (hi lo by' : Int) (h1 : 0 ≤ hi ∧ hi < 18446744073709551616) (h2 : 0 ≤ lo ∧ lo < 18446744073709551616) (hm : mayB six hi lo = true) (hok : plusOk six hi lo by' = true) :
    valI six (plusHi hi lo by') (plusLo hi lo by') = valI six hi lo + by' ∧ mayB six (plusHi hi lo by') (plusLo hi lo by') = true := by
  unfold plusOk at hok
  rw [Bool.and_eq_true, decide_eq_true_eq] at hok
  obtain ⟨h3, h4⟩ := hok
  refine ⟨?_, h4⟩
  have e1 := sum_val six (plusHi hi lo by') (plusLo hi lo by') 0 h4
  have e2 := sum_val six hi lo by' hm
  rw [← e2]
  have e3 : sumI (plusHi hi lo by') (plusLo hi lo by') 0 = plusHi hi lo by' * 18446744073709551616 + plusLo hi lo by' + 0 := rfl
  have e4 : plusHi hi lo by' = sumI hi lo by' / 18446744073709551616 % 18446744073709551616 := rfl
  have e5 : plusLo hi lo by' = sumI hi lo by' % 18446744073709551616 := rfl
  rw [e3] at e1
  generalize plusHi hi lo by' = a at *
  generalize plusLo hi lo by' = b at *
  generalize sumI hi lo by' = s at *
  omega

/-! Bit by bit, from the lowest on. -/
/-- What is carried behind the lowest r bits. -/
def carryI (v by' : Int) (r : Nat) : Int := (v % 2 ^ r + by') / 2 ^ r
theorem carry_zero (v by' : Int) : carryI v by' 0 = by' := by unfold carryI; simp [Int.emod_one]
theorem carry_bit (v by' : Int) (r : Nat) : (v / 2 ^ r % 2 + carryI v by' r) % 2 = (v + by') / 2 ^ r % 2 := by
  unfold carryI
  have hp : (0 : Int) < 2 ^ r := Int.pow_pos (by omega)
  have e : v + by' = (v % 2 ^ r + by') + 2 ^ r * (v / 2 ^ r) := by
    have := Int.mul_ediv_add_emod v (2 ^ r)
    omega
  rw [show (v + by') / 2 ^ r = (v % 2 ^ r + by') / 2 ^ r + v / 2 ^ r from by
    conv => lhs; rw [e]
    rw [Int.add_mul_ediv_left _ _ (by omega)]]
  omega
theorem carry_succ (v by' : Int) (r : Nat) : carryI v by' (r + 1) = (v / 2 ^ r % 2 + carryI v by' r) / 2 := by
  unfold carryI
  have hp : (0 : Int) < 2 ^ r := Int.pow_pos (by omega)
  rw [mod_succ, show v % 2 ^ r + 2 ^ r * (v / 2 ^ r % 2) + by' = (v % 2 ^ r + by') + 2 ^ r * (v / 2 ^ r % 2) from by omega, Int.pow_succ, ← Int.ediv_ediv_of_nonneg (by omega), Int.add_mul_ediv_left _ _ (by omega)]
  congr 1
  omega
theorem carry_range (v by' : Int) (r : Nat) (hb : -1099511627776 ≤ by' ∧ by' ≤ 1099511627776) : -1099511627776 ≤ carryI v by' r ∧ carryI v by' r ≤ 1099511627777 := by
  induction r with
  | zero => rw [carry_zero]; omega
  | succ r ih =>
    rw [carry_succ]
    omega
theorem carry_end (v by' top : Int) (r : Nat) (ht : top = 2 ^ r) (hv : 0 ≤ v ∧ v < top) : carryI v by' r = 0 ↔ 0 ≤ v + by' ∧ v + by' < top := by
  unfold carryI
  have hp : (0 : Int) < 2 ^ r := Int.pow_pos (by omega)
  rw [Int.emod_eq_of_lt hv.1 (by omega)]
  constructor
  · intro h
    have := Int.mul_ediv_add_emod (v + by') (2 ^ r)
    have h3 := Int.emod_lt_of_pos (v + by') hp
    have h4 := Int.emod_nonneg (v + by') (by omega : (2 : Int) ^ r ≠ 0)
    rw [h] at this
    omega
  · rintro ⟨h1, h2⟩
    exact Int.ediv_eq_zero_of_lt h1 (by omega)

/-- The bits, the lowest r of them those of the sum. -/
def nextTo (six : Bool) (hi lo by' : Int) (m r : Nat) : List Int := (List.range m).map fun (j : Nat) => if j < m - r then bitI six hi lo j else (valI six hi lo + by') / 2 ^ (m - 1 - j) % 2
theorem nextTo_length (six : Bool) (hi lo by' : Int) (m r : Nat) : (nextTo six hi lo by' m r).length = m := by simp [nextTo]
theorem nextTo_zero {six : Bool} {hi lo by' : Int} {m : Nat} (hm : wideI six = m) : nextTo six hi lo by' m 0 = bitsL six hi lo := by
  unfold nextTo bitsL
  rw [hm]
  apply List.map_congr_left
  intro j hj
  have : j < m := by simpa using hj
  rw [if_pos (by omega)]
theorem nextTo_at {six : Bool} {hi lo by' : Int} {m r : Nat} (hr : r < m) : (nextTo six hi lo by' m r)[m - 1 - r]? = some (bitI six hi lo ((m - 1 - r : Nat) : Int)) := by
  unfold nextTo
  rw [List.getElem?_map, List.getElem?_range (by omega)]
  simp only [Option.map_some, Option.some.injEq]
  rw [if_pos (by omega)]
theorem nextTo_set {six : Bool} {hi lo by' : Int} {m r : Nat} (hr : r < m) : (nextTo six hi lo by' m r).set (m - 1 - r) ((valI six hi lo + by') / 2 ^ r % 2) = nextTo six hi lo by' m (r + 1) := by
  apply List.ext_getElem?
  intro j
  unfold nextTo
  rw [List.getElem?_set]
  by_cases h : m - 1 - r = j
  · subst h
    rw [if_pos rfl, if_pos (by simp; omega), List.getElem?_map, List.getElem?_range (by omega)]
    simp only [Option.map_some, Option.some.injEq]
    rw [if_neg (by omega), show m - 1 - (m - 1 - r) = r from by omega]
  · rw [if_neg h, List.getElem?_map, List.getElem?_map]
    rcases Nat.lt_or_ge j m with hj | hj
    · rw [List.getElem?_range hj]
      simp only [Option.map_some, Option.some.injEq]
      by_cases h1 : j < m - r
      · rw [if_pos h1, if_pos (by omega)]
      · rw [if_neg h1, if_neg (by omega)]
    · rw [List.getElem?_eq_none (by simpa using hj)]
      rfl
theorem nextTo_bits (six : Bool) (hi lo by' : Int) (m r : Nat) : Bits (nextTo six hi lo by' m r) := by
  intro b hb
  unfold nextTo at hb
  obtain ⟨i, _, rfl⟩ := List.mem_map.1 hb
  have := bitI_01 six hi lo i
  split <;> omega
theorem nextTo_words {six : Bool} {hi lo by' : Int} {m : Nat} (hm : wideI six = m) (h1 : 0 ≤ hi ∧ hi < 18446744073709551616) (h2 : 0 ≤ lo ∧ lo < 18446744073709551616) (hmay : mayB six hi lo = true) (hok : plusOk six hi lo by' = true) :
    hiOf six (nextTo six hi lo by' m m) = plusHi hi lo by' ∧ loOf six (nextTo six hi lo by' m m) = plusLo hi lo by' := by
  have hr := plus_range hi lo by'
  have hv := plus_val six hi lo by' h1 h2 hmay hok
  refine of_unique six _ (nextTo_bits six hi lo by' m m) (by rw [nextTo_length, hm]) _ _ hr.1 hr.2 hv.2 fun i hi' => ?_
  rw [valI_bit six _ _ i hr.1 hr.2 hm (by omega), hv.1]
  unfold nextTo
  rw [List.getElem?_map, List.getElem?_range (by omega)]
  simp only [Option.map_some, Option.some.injEq]
  rw [if_neg (by omega)]

end Go.Proofs.Ytonelibgaceflaa

namespace Go.Proofs.Ytonelibgaceflaa
open Classical
set_option linter.unusedVariables false

/-- The aligned blocks of a set within the block of 2^k numbers at v: (start, exponent). -/
noncomputable def canon (S : Nat → Prop) : Nat → Nat → List (Nat × Nat)
  | 0, v => if S v then [(v, 0)] else []
  | k + 1, v => if ∀ x, v ≤ x → x < v + 2 ^ (k + 1) → S x then [(v, k + 1)] else canon S k v ++ canon S k (v + 2 ^ k)

theorem canon_full {S : Nat → Prop} {k v : Nat} (h : ∀ x, v ≤ x → x < v + 2 ^ k → S x) : canon S k v = [(v, k)] := by
  cases k with
  | zero => unfold canon; rw [if_pos (h v (Nat.le_refl _) (by simp))]
  | succ k => unfold canon; rw [if_pos h]
theorem canon_none {S : Nat → Prop} : ∀ {k v : Nat}, (∀ x, v ≤ x → x < v + 2 ^ k → ¬ S x) → canon S k v = []
  | 0, v, h => by unfold canon; rw [if_neg (h v (Nat.le_refl _) (by simp))]
  | k + 1, v, h => by
    have hp := Nat.two_pow_pos k
    have he : 2 ^ (k + 1) = 2 ^ k + 2 ^ k := by rw [Nat.pow_succ]; omega
    unfold canon
    rw [if_neg (fun hx => h v (Nat.le_refl _) (by omega) (hx v (Nat.le_refl _) (by omega))), canon_none (fun x h1 h2 => h x h1 (by omega)), canon_none (fun x h1 h2 => h x (by omega) (by omega))]
    rfl
theorem canon_split {S : Nat → Prop} {k v : Nat} (h : ¬ ∀ x, v ≤ x → x < v + 2 ^ (k + 1) → S x) : canon S (k + 1) v = canon S k v ++ canon S k (v + 2 ^ k) := by
  conv => lhs; unfold canon
  rw [if_neg h]
theorem canon_congr {S T : Nat → Prop} : ∀ {k v : Nat}, (∀ x, v ≤ x → x < v + 2 ^ k → (S x ↔ T x)) → canon S k v = canon T k v
  | 0, v, h => by unfold canon; rw [show S v = T v from propext (h v (Nat.le_refl _) (by simp))]
  | k + 1, v, h => by
    have hp := Nat.two_pow_pos k
    have he : 2 ^ (k + 1) = 2 ^ k + 2 ^ k := by rw [Nat.pow_succ]; omega
    unfold canon
    rw [canon_congr (S := S) (T := T) (k := k) (v := v) (fun x h1 h2 => h x h1 (by omega)), canon_congr (S := S) (T := T) (k := k) (v := v + 2 ^ k) (fun x h1 h2 => h x (by omega) (by omega))]
    have : (∀ x, v ≤ x → x < v + 2 ^ (k + 1) → S x) = (∀ x, v ≤ x → x < v + 2 ^ (k + 1) → T x) := propext ⟨fun hx x h1 h2 => (h x h1 h2).1 (hx x h1 h2), fun hx x h1 h2 => (h x h1 h2).2 (hx x h1 h2)⟩
    simp only [this]
/-- A single block comes of the whole alone. -/
theorem canon_single {S : Nat → Prop} : ∀ {k v : Nat}, canon S k v = [(v, k)] → ∀ x, v ≤ x → x < v + 2 ^ k → S x
  | 0, v, h, x, h1, h2 => by
    unfold canon at h
    obtain rfl : x = v := by simp at h2; omega
    by_cases hx : S x
    · exact hx
    · rw [if_neg hx] at h; cases h
  | k + 1, v, h, x, h1, h2 => by
    unfold canon at h
    by_cases hx : ∀ x, v ≤ x → x < v + 2 ^ (k + 1) → S x
    · exact hx x h1 h2
    · rw [if_neg hx] at h
      exfalso
      have key : ∀ (S : Nat → Prop) (k v : Nat), ∀ b ∈ canon S k v, b.2 ≤ k := by
        intro S k
        induction k with
        | zero => intro v b hb; unfold canon at hb; split at hb <;> simp at hb; subst hb; simp
        | succ k ih =>
          intro v b hb
          unfold canon at hb
          split at hb
          · simp at hb; subst hb; simp
          · rcases List.mem_append.1 hb with hb | hb
            · exact Nat.le_succ_of_le (ih _ _ hb)
            · exact Nat.le_succ_of_le (ih _ _ hb)
      have hm : (v, k + 1) ∈ canon S k v ++ canon S k (v + 2 ^ k) := by rw [h]; simp
      rcases List.mem_append.1 hm with hm | hm
      · have := key _ _ _ _ hm; simp only at this; omega
      · have := key _ _ _ _ hm; simp only at this; omega

theorem aligned_eq {K a v : Nat} (ha : 2 ^ K ∣ a) (hv : 2 ^ K ∣ v) (h1 : v ≤ a) (h2 : a < v + 2 ^ K) : a = v := by
  obtain ⟨x, rfl⟩ := ha
  obtain ⟨y, rfl⟩ := hv
  have hp := Nat.two_pow_pos K
  have : y ≤ x := Nat.le_of_mul_le_mul_left h1 hp
  have : x < y + 1 := by
    have h3 : 2 ^ K * x < 2 ^ K * (y + 1) := by rw [Nat.mul_succ]; exact h2
    exact Nat.lt_of_mul_lt_mul_left h3
  have : x = y := by omega
  rw [this]
theorem pow_dvd_le {i j a : Nat} (h : 2 ^ j ∣ a) (hij : i ≤ j) : 2 ^ i ∣ a := Nat.dvd_trans (Nat.pow_dvd_pow 2 hij) h
/-- An aligned block at a below m stays below m, where m is aligned as well or better. -/
theorem aligned_below {k K a m : Nat} (ha : 2 ^ k ∣ a) (hm : 2 ^ K ∣ m) (hk : k ≤ K) (h : a < m) : a + 2 ^ k ≤ m := by
  obtain ⟨x, rfl⟩ := ha
  obtain ⟨y, rfl⟩ := pow_dvd_le hm hk
  have hp := Nat.two_pow_pos k
  have : x < y := Nat.lt_of_mul_lt_mul_left h
  calc 2 ^ k * x + 2 ^ k = 2 ^ k * (x + 1) := by rw [Nat.mul_succ]
    _ ≤ 2 ^ k * y := Nat.mul_le_mul_left _ this

def InI (a b : Nat) : Nat → Prop := fun x => a ≤ x ∧ x ≤ b

/-- The greatest aligned block at an interval's start is the first of its blocks. -/
theorem canon_step : ∀ (K : Nat) {v a b k : Nat}, 2 ^ K ∣ v → v ≤ a → a < v + 2 ^ K → a ≤ b → k ≤ K → 2 ^ k ∣ a → a + 2 ^ k ≤ b + 1 → (k = K ∨ ¬ (2 ^ (k + 1) ∣ a ∧ a + 2 ^ (k + 1) ≤ b + 1)) →
    canon (InI a b) K v = (a, k) :: canon (InI (a + 2 ^ k) b) K v := by
  intro K
  induction K with
  | zero =>
    intro v a b k hv h1 h2 hab hk ha hb hmax
    obtain rfl : k = 0 := by omega
    obtain rfl : a = v := by simp at h2; omega
    unfold canon
    rw [if_pos ⟨Nat.le_refl _, hab⟩, if_neg (fun h => by have := h.1; simp at this; omega)]
  | succ K ih =>
    intro v a b k hv h1 h2 hab hk ha hb hmax
    have hp := Nat.two_pow_pos K
    have he : 2 ^ (K + 1) = 2 ^ K + 2 ^ K := by rw [Nat.pow_succ]; omega
    have hpk := Nat.two_pow_pos k
    by_cases hin : ∀ x, v ≤ x → x < v + 2 ^ (K + 1) → InI a b x
    · obtain rfl : a = v := by have := (hin v (Nat.le_refl _) (by omega)).1; omega
      have hend := (hin (a + 2 ^ (K + 1) - 1) (by omega) (by omega)).2
      have hkK : k = K + 1 := by
        rcases hmax with h | h
        · exact h
        · apply Classical.byContradiction
          intro hne
          exact h ⟨pow_dvd_le hv (by omega), by have := Nat.pow_le_pow_right (n := 2) (by omega) (show k + 1 ≤ K + 1 by omega); omega⟩
      subst hkK
      rw [canon_full hin, canon_none (fun x hx1 hx2 hx => by have := hx.1; omega)]
    · have hne : k ≤ K := by
        apply Classical.byContradiction
        intro hgt
        obtain rfl : k = K + 1 := by omega
        obtain rfl := aligned_eq ha hv h1 h2
        exact hin fun x hx1 hx2 => ⟨hx1, by omega⟩
      have hmax' : k = K ∨ ¬ (2 ^ (k + 1) ∣ a ∧ a + 2 ^ (k + 1) ≤ b + 1) := by
        rcases hmax with h | h
        · omega
        · exact .inr h
      have hin2 : ¬ ∀ x, v ≤ x → x < v + 2 ^ (K + 1) → InI (a + 2 ^ k) b x := fun h => by have := (h v (Nat.le_refl _) (by omega)).1; omega
      rw [canon_split hin, canon_split hin2]
      have hm : 2 ^ K ∣ v + 2 ^ K := Nat.dvd_add (pow_dvd_le hv (by omega)) (Nat.dvd_refl _)
      by_cases ham : a < v + 2 ^ K
      · have hle := aligned_below ha hm hne ham
        rw [ih (pow_dvd_le hv (by omega)) h1 ham hab hne ha hb hmax', List.cons_append]
        congr 2
        exact canon_congr fun x hx1 hx2 => ⟨fun h => ⟨by omega, h.2⟩, fun h => ⟨by have := h.1; omega, h.2⟩⟩
      · rw [canon_none (S := InI a b) (k := K) (v := v) (fun x hx1 hx2 h => by have := h.1; omega), canon_none (S := InI (a + 2 ^ k) b) (k := K) (v := v) (fun x hx1 hx2 h => by have := h.1; omega),
          ih hm (by omega) (by omega) hab hne ha hb hmax']
        rfl

/-- Intervals in order, with a gap between each and the next. -/
def Apart : List (Nat × Nat) → Prop
  | [] => True
  | s :: l => s.1 ≤ s.2 ∧ (∀ t ∈ l, s.2 + 1 < t.1) ∧ Apart l
def InL (l : List (Nat × Nat)) : Nat → Prop := fun x => ∃ s ∈ l, InI s.1 s.2 x

theorem apart_one : ∀ {l : List (Nat × Nat)} {v m : Nat}, Apart l → 0 < m → (∀ x, v ≤ x → x < v + m → InL l x) → ∃ s ∈ l, ∀ x, v ≤ x → x < v + m → InI s.1 s.2 x
  | [], v, m, _, hm, h => by obtain ⟨s, hs, _⟩ := h v (Nat.le_refl _) (by omega); cases hs
  | s :: l, v, m, ⟨h1, h2, h3⟩, hm, h => by
    by_cases hv : v ≤ s.2
    · refine ⟨s, by simp, fun x hx1 hx2 => ?_⟩
      have hlow : s.1 ≤ v := by
        obtain ⟨t, ht, hi⟩ := h v (Nat.le_refl _) (by omega)
        rcases List.mem_cons.1 ht with rfl | ht
        · exact hi.1
        · have := h2 t ht; have := hi.1; omega
      refine ⟨by omega, ?_⟩
      apply Classical.byContradiction
      intro hgt
      obtain ⟨t, ht, hi⟩ := h (s.2 + 1) (by omega) (by omega)
      rcases List.mem_cons.1 ht with rfl | ht
      · have := hi.2; omega
      · have := h2 t ht; have := hi.1; omega
    · obtain ⟨t, ht, hi⟩ := apart_one (l := l) (v := v) (m := m) h3 hm (fun x hx1 hx2 => by
        obtain ⟨t, ht, hi⟩ := h x hx1 hx2
        rcases List.mem_cons.1 ht with rfl | ht
        · have := hi.2; omega
        · exact ⟨t, ht, hi⟩)
      exact ⟨t, by simp [ht], hi⟩
theorem apart_tail {s : Nat × Nat} {l : List (Nat × Nat)} (h : Apart (s :: l)) : Apart l := h.2.2
theorem inL_cons {s : Nat × Nat} {l : List (Nat × Nat)} {x : Nat} : InL (s :: l) x ↔ InI s.1 s.2 x ∨ InL l x := by
  unfold InL; simp

/-- The blocks of intervals that lie apart are those of each, one behind another. -/
theorem canon_apart : ∀ (K v : Nat) (l : List (Nat × Nat)), Apart l → canon (InL l) K v = l.flatMap fun s => canon (InI s.1 s.2) K v := by
  intro K
  induction K with
  | zero =>
    intro v l hl
    induction l with
    | nil => unfold canon; rw [if_neg (fun h => by obtain ⟨s, hs, _⟩ := h; cases hs)]; rfl
    | cons s l ih =>
      rw [List.flatMap_cons, ← ih hl.2.2]
      unfold canon
      by_cases hs : InI s.1 s.2 v
      · rw [if_pos (inL_cons.2 (.inl hs)), if_pos hs, if_neg (fun h => by obtain ⟨t, ht, hi⟩ := h; have := hl.2.1 t ht; have := hi.1; have := hs.2; omega)]
        rfl
      · rw [if_neg hs]
        by_cases hl' : InL l v
        · rw [if_pos (inL_cons.2 (.inr hl')), if_pos hl']; rfl
        · rw [if_neg (fun h => (inL_cons.1 h).elim hs hl'), if_neg hl']; rfl
  | succ K ihK =>
    intro v l hl
    have hp := Nat.two_pow_pos K
    have he : 2 ^ (K + 1) = 2 ^ K + 2 ^ K := by rw [Nat.pow_succ]; omega
    by_cases hall : ∀ x, v ≤ x → x < v + 2 ^ (K + 1) → InL l x
    · rw [canon_full hall]
      have key : ∀ l : List (Nat × Nat), Apart l → (∃ s ∈ l, ∀ x, v ≤ x → x < v + 2 ^ (K + 1) → InI s.1 s.2 x) → (l.flatMap fun s => canon (InI s.1 s.2) (K + 1) v) = [(v, K + 1)] := by
        intro l
        induction l with
        | nil => intro _ h; obtain ⟨s, hs, _⟩ := h; cases hs
        | cons s l ih =>
          rintro ⟨h1, h2, h3⟩ ⟨t, ht, hi⟩
          rw [List.flatMap_cons]
          rcases List.mem_cons.1 ht with rfl | ht'
          · rw [canon_full hi]
            have : (l.flatMap fun s => canon (InI s.1 s.2) (K + 1) v) = [] := by
              rw [List.flatMap_eq_nil_iff]
              intro u hu
              refine canon_none fun x hx1 hx2 hx => ?_
              have a1 := h2 u hu
              have a2 := hx.1
              have a3 := (hi x hx1 hx2).2
              omega
            rw [this]; rfl
          · rw [canon_none (S := InI s.1 s.2) (k := K + 1) (v := v) (fun x hx1 hx2 hx => by
              have a1 := h2 t ht'
              have a2 := hx.2
              have a3 := (hi x hx1 hx2).1
              omega), ih h3 ⟨t, ht', hi⟩]
            rfl
      exact (key l hl (apart_one hl (by omega) hall)).symm
    · rw [canon_split hall, ihK v l hl, ihK (v + 2 ^ K) l hl]
      have hone : ∀ s ∈ l, canon (InI s.1 s.2) (K + 1) v = canon (InI s.1 s.2) K v ++ canon (InI s.1 s.2) K (v + 2 ^ K) := by
        intro s hs
        exact canon_split fun h => hall fun x h1 h2 => ⟨s, hs, h x h1 h2⟩
      have key : ∀ l : List (Nat × Nat), Apart l → (l.flatMap fun s => canon (InI s.1 s.2) K v) ++ (l.flatMap fun s => canon (InI s.1 s.2) K (v + 2 ^ K)) = l.flatMap fun s => canon (InI s.1 s.2) K v ++ canon (InI s.1 s.2) K (v + 2 ^ K) := by
        intro l
        induction l with
        | nil => intro _; rfl
        | cons s l ih =>
          rintro ⟨h1, h2, h3⟩
          rw [List.flatMap_cons, List.flatMap_cons, List.flatMap_cons, ← ih h3]
          by_cases hs : s.2 < v + 2 ^ K
          · rw [canon_none (S := InI s.1 s.2) (k := K) (v := v + 2 ^ K) (fun x hx1 hx2 hx => by have := hx.2; omega)]
            simp
          · have : (l.flatMap fun s => canon (InI s.1 s.2) K v) = [] := by
              rw [List.flatMap_eq_nil_iff]
              intro u hu
              refine canon_none fun x hx1 hx2 hx => ?_
              have a1 := h2 u hu
              have a2 := hx.1
              omega
            rw [this]
            simp
      rw [key l hl]
      have : ∀ l' : List (Nat × Nat), (∀ s ∈ l', canon (InI s.1 s.2) (K + 1) v = canon (InI s.1 s.2) K v ++ canon (InI s.1 s.2) K (v + 2 ^ K)) → (l'.flatMap fun s => canon (InI s.1 s.2) K v ++ canon (InI s.1 s.2) K (v + 2 ^ K)) = l'.flatMap fun s => canon (InI s.1 s.2) (K + 1) v := by
        intro l' h
        induction l' with
        | nil => rfl
        | cons s l' ih => rw [List.flatMap_cons, List.flatMap_cons, h s (by simp), ih (fun s hs => h s (by simp [hs]))]
      exact this l hone

end Go.Proofs.Ytonelibgaceflaa

namespace Go.Proofs.Ytonelibgaceflaa
set_option linter.unusedVariables false

/-- An address. -/
structure AV where
  six : Bool
  hi : Int
  lo : Int
structure AV.Ok (a : AV) : Prop where
  rhi : 0 ≤ a.hi ∧ a.hi < 18446744073709551616
  rlo : 0 ≤ a.lo ∧ a.lo < 18446744073709551616
  may : mayB a.six a.hi a.lo = true
def AV.v (a : AV) : Nat := (valI a.six a.hi a.lo).toNat
def widN (six : Bool) : Nat := if six then 128 else 32
theorem widN_eq (six : Bool) : wideI six = (widN six : Int) := by cases six <;> rfl
theorem topI_eq (six : Bool) : topI six = ((2 ^ widN six : Nat) : Int) := by cases six <;> decide

def PV.a (p : PV) : AV := ⟨p.six, p.hi, p.lo⟩
def PV.v (p : PV) : Nat := p.a.v
def PV.k (p : PV) : Nat := (wideI p.six - p.n).toNat
theorem PV.Ok.addr {p : PV} (h : p.Ok) : p.a.Ok := ⟨Pfx.rhi h, Pfx.rlo h, Pfx.may h⟩
theorem PV.k_le {p : PV} (h : p.Ok) : p.k ≤ widN p.six ∧ p.n = (widN p.six : Int) - p.k := by
  have := ok_n h
  unfold PV.k
  rw [widN_eq] at *
  omega

theorem AV.v_val {a : AV} (h : a.Ok) : (a.v : Int) = valI a.six a.hi a.lo := by
  have := (valI_range a.six a.hi a.lo h.rhi h.rlo h.may).1
  unfold AV.v
  omega
theorem AV.v_lt {a : AV} (h : a.Ok) : a.v < 2 ^ widN a.six := by
  have := (valI_range a.six a.hi a.lo h.rhi h.rlo h.may).2
  rw [← AV.v_val h, topI_eq] at this
  omega
theorem AV.bitN {a : AV} (h : a.Ok) {i : Nat} (hi : i < widN a.six) : bitI a.six a.hi a.lo i = ((a.v / 2 ^ (widN a.six - 1 - i) % 2 : Nat) : Int) := by
  rw [valI_bit a.six a.hi a.lo i h.rhi h.rlo (widN_eq a.six) hi, ← AV.v_val h]
  simp
theorem AV.ext' {a b : AV} (h1 : a.six = b.six) (h2 : a.hi = b.hi) (h3 : a.lo = b.lo) : a = b := by cases a; cases b; simp_all
instance : DecidableEq AV := fun a b => decidable_of_iff (a.six = b.six ∧ a.hi = b.hi ∧ a.lo = b.lo)
  ⟨fun h => AV.ext' h.1 h.2.1 h.2.2, fun h => by subst h; exact ⟨rfl, rfl, rfl⟩⟩
theorem AV.v_inj {a b : AV} (ha : a.Ok) (hb : b.Ok) (h6 : a.six = b.six) (h : a.v = b.v) : a = b := by
  have h1 := AV.v_val ha
  have h2 := AV.v_val hb
  rw [h, h2] at h1
  obtain ⟨s, x, y⟩ := a
  obtain ⟨s', x', y'⟩ := b
  simp only at h6
  subst h6
  have r1 := ha.rhi
  have r2 := ha.rlo
  have r3 := hb.rhi
  have r4 := hb.rlo
  simp only at r1 r2 r3 r4 h1
  unfold valI at h1
  cases s
  · simp only [Bool.false_eq_true, ↓reduceIte] at h1
    have m1 := mayB_four ha.may
    have m2 := mayB_four hb.may
    simp only at m1 m2
    rw [h1, m1.1, m2.1]
  · simp only [↓reduceIte] at h1
    have : x = x' := by omega
    have : y = y' := by omega
    simp_all

theorem nat_div_ext {x y m k : Nat} (hx : x < 2 ^ m) (hy : y < 2 ^ m) (h : ∀ j, k ≤ j → j < m → x / 2 ^ j % 2 = y / 2 ^ j % 2) : x / 2 ^ k = y / 2 ^ k := by
  apply Nat.eq_of_testBit_eq
  intro i
  rw [Nat.testBit_div_two_pow, Nat.testBit_div_two_pow]
  by_cases hi : i + k < m
  · have := h (i + k) (by omega) hi
    rw [Nat.testBit_eq_decide_div_mod_eq, Nat.testBit_eq_decide_div_mod_eq]
    try rw [Nat.add_comm k i]
    rw [this]
  · have hm : 2 ^ m ≤ 2 ^ (k + i) := Nat.pow_le_pow_right (by omega) (by omega)
    have e1 : x.testBit (k + i) = false := Nat.testBit_lt_two_pow (by omega)
    have e2 : y.testBit (k + i) = false := Nat.testBit_lt_two_pow (by omega)
    simp only [Nat.add_comm k i] at e1 e2
    first | rw [e1, e2] | (rw [Nat.add_comm i k] at e1 e2; rw [e1, e2])
theorem div_block {x y k : Nat} (hx : 2 ^ k ∣ x) : x / 2 ^ k = y / 2 ^ k ↔ x ≤ y ∧ y < x + 2 ^ k := by
  obtain ⟨c, rfl⟩ := hx
  have hp := Nat.two_pow_pos k
  rw [Nat.mul_div_cancel_left c hp]
  have h1 := Nat.div_add_mod y (2 ^ k)
  have h2 := Nat.mod_lt y hp
  constructor
  · intro h
    rw [← h] at h1
    omega
  · rintro ⟨a, b⟩
    have h3 : 2 ^ k * c < 2 ^ k * (y / 2 ^ k + 1) := by rw [Nat.mul_succ]; omega
    have h4 : 2 ^ k * (y / 2 ^ k) < 2 ^ k * (c + 1) := by rw [Nat.mul_succ]; omega
    have := Nat.lt_of_mul_lt_mul_left h3
    have := Nat.lt_of_mul_lt_mul_left h4
    omega

/-- No bit behind n: the number is a multiple. -/
theorem clean_num {a : AV} (h : a.Ok) {n : Nat} (hn : n ≤ widN a.six) : cleanB a.six a.hi a.lo n = true ↔ 2 ^ (widN a.six - n) ∣ a.v := by
  rw [clean_iff a.six a.hi a.lo n h.rhi h.rlo h.may (by rw [widN_eq]; omega)]
  constructor
  · intro hc
    rw [Nat.dvd_iff_mod_eq_zero]
    have h0 : a.v % 2 ^ (widN a.six - n) = 0 := by
      apply Nat.eq_of_testBit_eq
      intro j
      rw [Nat.testBit_mod_two_pow, Nat.zero_testBit]
      by_cases hj : j < widN a.six - n
      · have := hc (widN a.six - 1 - j) (by omega) (by rw [widN_eq]; omega)
        rw [AV.bitN h (by omega), show widN a.six - 1 - (widN a.six - 1 - j) = j from by omega] at this
        rw [Nat.testBit_eq_decide_div_mod_eq]
        simp only [Bool.and_eq_false_iff, decide_eq_false_iff_not]
        right
        omega
      · simp [hj]
    exact h0
  · rintro ⟨c, hc⟩ i h1 h2
    rw [widN_eq] at h2
    have h2' : i < widN a.six := by omega
    rw [AV.bitN h h2', hc]
    have : widN a.six - n = (widN a.six - 1 - i) + (i - n + 1) := by omega
    rw [this, Nat.pow_add, Nat.mul_assoc, Nat.mul_div_cancel_left _ (Nat.two_pow_pos _), Nat.pow_succ, Nat.mul_comm (2 ^ (i - n)) 2, Nat.mul_assoc]
    omega
theorem chk_num {p : PV} (h : p.a.Ok) (hn : 0 ≤ p.n ∧ p.n ≤ wideI p.six) : Go.Proofs.Ytonelibgaceflaa.chk p.six p.hi p.lo p.n = 0 ↔ 2 ^ p.k ∣ p.v := by
  obtain ⟨n, hn'⟩ : ∃ n : Nat, p.n = n := ⟨p.n.toNat, by omega⟩
  have hm := h.may
  have hw := widN_eq p.six
  have he : p.k = widN p.six - n := by unfold PV.k; omega
  have hc := clean_num h (n := n) (by show n ≤ widN p.six; omega)
  unfold chk
  simp only [PV.a] at hm
  rw [if_neg (by rw [hm]; simp), if_neg (by omega), he, hn']
  simp only [PV.a] at hc
  constructor
  · intro hx
    by_cases hcl : cleanB p.six p.hi p.lo n = true
    · exact hc.1 hcl
    · rw [if_neg hcl] at hx; omega
  · intro hx
    rw [if_pos (hc.2 hx)]
theorem PV.dvd {p : PV} (h : p.Ok) : 2 ^ p.k ∣ p.v := by
  have hk := PV.k_le h
  have hn := ok_n h
  obtain ⟨n, hn'⟩ : ∃ n : Nat, p.n = n := ⟨p.n.toNat, by omega⟩
  have hc := Pfx.clean h
  have he : p.k = widN p.six - n := by have := widN_eq p.six; unfold PV.k; omega
  rw [he]
  refine (clean_num h.addr (n := n) (by have := widN_eq p.six; show n ≤ widN p.six; omega)).1 ?_
  rw [← hn']
  exact hc
theorem PV.end_le {p : PV} (h : p.Ok) : p.v + 2 ^ p.k ≤ 2 ^ widN p.six :=
  aligned_below (PV.dvd h) (Nat.dvd_refl _) (PV.k_le h).1 (AV.v_lt h.addr)

/-- An address of a prefix is a number of its block. -/
theorem in_num {p : PV} {a : AV} (hp : p.Ok) (ha : a.Ok) : inB p.six p.hi p.lo p.n a.six a.hi a.lo = true ↔ p.six = a.six ∧ p.v ≤ a.v ∧ a.v < p.v + 2 ^ p.k := by
  have hn := ok_n hp
  have hd := PV.dvd hp
  have hk := PV.k_le hp
  have hpv := AV.v_lt hp.addr
  have hav := AV.v_lt ha
  obtain ⟨n, hn'⟩ : ∃ n : Nat, p.n = n := ⟨p.n.toNat, by omega⟩
  have hw := widN_eq p.six
  by_cases h6 : p.six = a.six
  · have hp' : Pfx p.six p.hi p.lo n := by rw [← hn']; exact hp
    have key := inB_iff (hi' := a.hi) (lo' := a.lo) hp' ha.rhi ha.rlo (by rw [h6]; exact ha.may)
    rw [hn', ← h6, key, ← div_block hd]
    simp only [true_and]
    have b1 := fun i (hi : i < widN p.six) => AV.bitN hp.addr (i := i) hi
    have b2 := fun i (hi : i < widN a.six) => AV.bitN ha (i := i) hi
    rw [← h6] at b2 hav
    simp only [PV.a] at b1 hpv
    have he : p.k = widN p.six - n := by unfold PV.k; omega
    constructor
    · intro h
      rw [he]
      refine nat_div_ext hpv hav fun j h1 h2 => ?_
      have := h (widN p.six - 1 - j) (by omega)
      rw [b1 _ (by omega), b2 _ (by omega), show widN p.six - 1 - (widN p.six - 1 - j) = j from by omega] at this
      have e : (AV.mk p.six p.hi p.lo).v = p.v := rfl
      rw [e] at this
      exact_mod_cast this
    · intro h i hi
      rw [b1 _ (by omega), b2 _ (by omega)]
      have e : (AV.mk p.six p.hi p.lo).v = p.v := rfl
      rw [e]
      have e2 : ∀ x : Nat, x / 2 ^ (widN p.six - 1 - i) = x / 2 ^ p.k / 2 ^ (n - 1 - i) := by
        intro x
        rw [Nat.div_div_eq_div_mul, ← Nat.pow_add]
        congr 2
        omega
      rw [e2, e2, h]
  · constructor
    · intro h
      unfold inB at h
      simp at h
      exact absurd h.1.symm h6
    · rintro ⟨h, _⟩
      exact absurd h h6

theorem over_num {p q : PV} (hp : p.Ok) (hq : q.Ok) : p.over q = true ↔ p.six = q.six ∧ p.v ≤ q.v ∧ q.v + 2 ^ q.k ≤ p.v + 2 ^ p.k := by
  unfold PV.over overB
  rw [Bool.and_eq_true, decide_eq_true_eq]
  have hi := in_num hp hq.addr
  have e : q.a.v = q.v := rfl
  simp only [PV.a] at hi
  rw [hi]
  show p.n ≤ q.n ∧ p.six = q.six ∧ p.v ≤ q.v ∧ q.v < p.v + 2 ^ p.k ↔ _
  have k1 := PV.k_le hp
  have k2 := PV.k_le hq
  have d1 := PV.dvd hp
  have d2 := PV.dvd hq
  have pk := Nat.two_pow_pos q.k
  constructor
  · rintro ⟨hn, h6, h1, h2⟩
    refine ⟨h6, h1, ?_⟩
    have hkk : q.k ≤ p.k := by rw [h6] at k1; omega
    exact aligned_below d2 (Nat.dvd_add d1 (Nat.dvd_refl _)) hkk h2
  · rintro ⟨h6, h1, h2⟩
    refine ⟨?_, h6, h1, by omega⟩
    rw [h6] at k1
    have : q.k ≤ p.k := by
      apply Classical.byContradiction
      intro hc
      have := Nat.pow_lt_pow_right (a := 2) (by omega) (show p.k < q.k by omega)
      omega
    omega

def PV.last (p : PV) : AV := ⟨p.six, lastHi p.six p.hi p.lo p.n, lastLo p.six p.hi p.lo p.n⟩
theorem PV.last_ok (p : PV) : p.last.Ok := ⟨(last_range p.six p.hi p.lo p.n).1, (last_range p.six p.hi p.lo p.n).2.1, (last_range p.six p.hi p.lo p.n).2.2⟩
theorem last_num {p : PV} (hp : p.Ok) : p.last.v = p.v + 2 ^ p.k - 1 := by
  have hl := PV.last_ok p
  have hn := ok_n hp
  have hk := PV.k_le hp
  have hw := widN_eq p.six
  have hd := PV.dvd hp
  obtain ⟨n, hn'⟩ : ∃ n : Nat, p.n = n := ⟨p.n.toNat, by omega⟩
  have he : p.k = widN p.six - n := by unfold PV.k; omega
  have hlv := AV.v_lt hl
  have hpv := AV.v_lt hp.addr
  have bl := fun i (hi : i < widN p.six) => AV.bitN hl (i := i) hi
  have bp := fun i (hi : i < widN p.six) => AV.bitN hp.addr (i := i) hi
  simp only [PV.last] at bl
  simp only [PV.a] at bp
  have e0 : (AV.mk p.six p.hi p.lo).v = p.v := rfl
  have e1 : (AV.mk p.six (lastHi p.six p.hi p.lo p.n) (lastLo p.six p.hi p.lo p.n)).v = p.last.v := rfl
  have hpp := Nat.two_pow_pos p.k
  -- the upper parts are alike
  have hup : p.v / 2 ^ p.k = p.last.v / 2 ^ p.k := by
    refine nat_div_ext hpv hlv fun j h1 h2 => ?_
    have h2 : j < widN p.six := h2
    have hb := last_bit p.six p.hi p.lo p.n (widN p.six - 1 - j) (by omega)
    rw [if_pos (by omega), bl _ (by omega), bp _ (by omega), show widN p.six - 1 - (widN p.six - 1 - j) = j from by omega, e0, e1] at hb
    omega
  -- the lower parts are all ones
  have hlo : p.last.v % 2 ^ p.k = 2 ^ p.k - 1 := by
    apply Nat.eq_of_testBit_eq
    intro j
    rw [Nat.testBit_mod_two_pow, Nat.testBit_two_pow_sub_one]
    by_cases hj : j < p.k
    · have hb := last_bit p.six p.hi p.lo p.n (widN p.six - 1 - j) (by omega)
      rw [if_neg (by omega), bl _ (by omega), show widN p.six - 1 - (widN p.six - 1 - j) = j from by omega, e1] at hb
      rw [Nat.testBit_eq_decide_div_mod_eq]
      simp [hj]
      omega
    · simp [hj]
  have h1 := Nat.div_add_mod p.last.v (2 ^ p.k)
  rw [← hup, hlo, Nat.mul_div_cancel' hd] at h1
  omega

def PV.low (p : PV) : PV := ⟨p.six, p.hi, p.lo, p.n + 1⟩
def PV.high (p : PV) : PV := ⟨p.six, setHi p.six p.hi p.n.toNat, setLo p.six p.lo p.n.toNat, p.n + 1⟩
theorem low_num {p : PV} (hp : p.Ok) (hn : p.n < wideI p.six) : p.low.Ok ∧ p.low.v = p.v ∧ p.k = p.low.k + 1 := by
  have h := ok_n hp
  have hk : p.k = p.low.k + 1 := by unfold PV.k PV.low; simp only; omega
  refine ⟨?_, rfl, hk⟩
  have : Go.Proofs.Ytonelibgaceflaa.chk p.low.six p.low.hi p.low.lo p.low.n = 0 := (chk_num (p := p.low) hp.addr ⟨by show 0 ≤ p.n + 1; omega, by show p.n + 1 ≤ wideI p.six; omega⟩).2 (pow_dvd_le (j := p.k) (PV.dvd hp) (by omega))
  exact chk_zero (Pfx.rhi hp) (Pfx.rlo hp) this
theorem high_num {p : PV} (hp : p.Ok) (hn : p.n < wideI p.six) : p.high.Ok ∧ p.high.v = p.v + 2 ^ p.high.k ∧ p.k = p.high.k + 1 := by
  have h := ok_n hp
  have hk : p.k = p.high.k + 1 := by unfold PV.k PV.high; simp only; omega
  have hw := widN_eq p.six
  obtain ⟨n, hn'⟩ : ∃ n : Nat, p.n = n := ⟨p.n.toNat, by omega⟩
  have hr := set_range p.six p.hi p.lo n (Pfx.rhi hp) (Pfx.rlo hp) (Pfx.may hp) (by omega)
  have ha : p.high.a.Ok := by
    have e : p.n.toNat = n := by omega
    unfold PV.high PV.a
    simp only [e]
    exact ⟨hr.1, hr.2.1, hr.2.2⟩
  have hd := PV.dvd hp
  have hpv := AV.v_lt hp.addr
  have hhv := AV.v_lt ha
  have bp := fun i (hi : i < widN p.six) => AV.bitN hp.addr (i := i) hi
  have bh := fun i (hi : i < widN p.six) => AV.bitN ha (i := i) hi
  have hs : ∀ i : Nat, i < widN p.six → p.high.v / 2 ^ (widN p.six - 1 - i) % 2 = if i = n then 1 else p.v / 2 ^ (widN p.six - 1 - i) % 2 := by
    intro i hi
    have hb := set_bit p.six p.hi p.lo n i (Pfx.rhi hp) (Pfx.rlo hp) (by omega) (by omega)
    have h1 := bp i hi
    have h2 := bh i hi
    have e : p.n.toNat = n := by omega
    simp only [PV.high, PV.a, e] at h2
    simp only [PV.a] at h1
    rw [h1, h2] at hb
    have e1 : (AV.mk p.six (setHi p.six p.hi n) (setLo p.six p.lo n)).v = p.high.v := by unfold PV.high PV.v PV.a; simp only [e]
    have e0 : (AV.mk p.six p.hi p.lo).v = p.v := rfl
    rw [e0, e1] at hb
    by_cases hin : i = n
    · rw [if_pos hin] at hb ⊢; omega
    · rw [if_neg hin] at hb ⊢; omega
  have hk2 : p.high.k = widN p.six - 1 - n := by unfold PV.k PV.high; simp only; omega
  have hval : p.high.v = p.v + 2 ^ p.high.k := by
    have hlt : p.v + 2 ^ p.k ≤ 2 ^ widN p.six := PV.end_le hp
    have he : 2 ^ p.k = 2 ^ p.high.k + 2 ^ p.high.k := by rw [hk, Nat.pow_succ]; omega
    have hpp := Nat.two_pow_pos p.high.k
    have hsum : p.v + 2 ^ p.high.k = p.v ||| 2 ^ p.high.k := by
      obtain ⟨c, hc⟩ := hd
      rw [hk] at hc
      have : 2 ^ p.high.k < 2 ^ (p.high.k + 1) := by rw [Nat.pow_succ]; omega
      rw [hc, Nat.two_pow_add_eq_or_of_lt this c]
    rw [hsum]
    apply Nat.eq_of_testBit_eq
    intro j
    rw [Nat.testBit_or, Nat.testBit_two_pow]
    by_cases hj : j < widN p.six
    · have hb := hs (widN p.six - 1 - j) (by omega)
      rw [show widN p.six - 1 - (widN p.six - 1 - j) = j from by omega] at hb
      rw [Nat.testBit_eq_decide_div_mod_eq, Nat.testBit_eq_decide_div_mod_eq, hb]
      by_cases hjk : p.high.k = j
      · rw [if_pos (by omega)]; simp [hjk]
      · rw [if_neg (by omega)]; simp [hjk]
    · have hm : 2 ^ widN p.six ≤ 2 ^ j := Nat.pow_le_pow_right (by omega) (by omega)
      have e1 : p.high.v.testBit j = false := Nat.testBit_lt_two_pow (Nat.lt_of_lt_of_le hhv hm)
      have e2 : p.v.testBit j = false := Nat.testBit_lt_two_pow (Nat.lt_of_lt_of_le hpv hm)
      rw [e1, e2]
      have : ¬ p.high.k = j := by omega
      simp [this]
  refine ⟨?_, hval, hk⟩
  have : Go.Proofs.Ytonelibgaceflaa.chk p.high.six p.high.hi p.high.lo p.high.n = 0 := by
    refine (chk_num (p := p.high) ha ⟨by show 0 ≤ p.n + 1; omega, by show p.n + 1 ≤ wideI p.six; omega⟩).2 ?_
    rw [hval]
    exact Nat.dvd_add (pow_dvd_le hd (by omega)) (Nat.dvd_refl _)
  exact chk_zero ha.rhi ha.rlo this

/-- The prefix of an aligned block. -/
def ofBlk (six : Bool) (b : Nat × Nat) : PV := ⟨six, if six then ((b.1 / 18446744073709551616 : Nat) : Int) else 0, if six then ((b.1 % 18446744073709551616 : Nat) : Int) else (b.1 : Int), (widN six : Int) - b.2⟩
theorem ofBlk_self {p : PV} (hp : p.Ok) : ofBlk p.six (p.v, p.k) = p := by
  have hk := PV.k_le hp
  have hv := AV.v_val hp.addr
  have r1 := Pfx.rhi hp
  have r2 := Pfx.rlo hp
  have hm := Pfx.may hp
  have e : (p.a.v : Int) = (p.v : Int) := rfl
  rw [e] at hv
  obtain ⟨six, hi, lo, n⟩ := p
  unfold ofBlk
  simp only [PV.a] at hv hk r1 r2 hm ⊢
  unfold valI at hv
  cases six
  · have := mayB_four hm
    simp only [Bool.false_eq_true, ↓reduceIte] at hv ⊢
    exact PV.ext' rfl this.1.symm hv (by simp only; omega)
  · simp only [↓reduceIte] at hv ⊢
    exact PV.ext' rfl (by simp only; omega) (by simp only; omega) (by simp only; omega)

/-- One stands ahead of another of its family by its number. -/
def lessB (a b : AV) : Bool := if a.six = b.six then decide (a.hi < b.hi) || (decide (a.hi = b.hi) && decide (a.lo < b.lo)) else b.six
theorem less_num {a b : AV} (ha : a.Ok) (hb : b.Ok) (h6 : a.six = b.six) : lessB a b = true ↔ a.v < b.v := by
  have h1 := AV.v_val ha
  have h2 := AV.v_val hb
  have r1 := ha.rhi
  have r2 := ha.rlo
  have r3 := hb.rhi
  have r4 := hb.rlo
  have m1 := ha.may
  have m2 := hb.may
  unfold lessB
  rw [if_pos h6]
  simp only [Bool.or_eq_true, Bool.and_eq_true, decide_eq_true_eq]
  obtain ⟨s, x, y⟩ := a
  obtain ⟨s', x', y'⟩ := b
  simp only at *
  subst h6
  unfold valI at h1 h2
  cases s
  · have := mayB_four m1
    have := mayB_four m2
    simp only [Bool.false_eq_true, ↓reduceIte] at h1 h2
    omega
  · simp only [↓reduceIte] at h1 h2
    omega

def AV.plus (a : AV) (by' : Int) : AV := ⟨a.six, plusHi a.hi a.lo by', plusLo a.hi a.lo by'⟩
theorem up_num {a : AV} (ha : a.Ok) : (plusOk a.six a.hi a.lo 1 = true ↔ a.v + 1 < 2 ^ widN a.six) ∧ (plusOk a.six a.hi a.lo 1 = true → (a.plus 1).Ok ∧ (a.plus 1).v = a.v + 1) := by
  have h := plusOk_iff a.six a.hi a.lo 1 ha.rhi ha.rlo ha.may (by omega)
  have hv := AV.v_val ha
  rw [topI_eq, ← hv] at h
  constructor
  · rw [h]; omega
  · intro hok
    have hp := plus_val a.six a.hi a.lo 1 ha.rhi ha.rlo ha.may hok
    have hr := plus_range a.hi a.lo 1
    have hok2 : (a.plus 1).Ok := ⟨hr.1, hr.2, hp.2⟩
    refine ⟨hok2, ?_⟩
    have := AV.v_val hok2
    simp only [AV.plus] at this ⊢
    rw [hp.1] at this
    omega
theorem down_num {a : AV} (ha : a.Ok) (hv0 : 0 < a.v) : (a.plus (-1)).Ok ∧ (a.plus (-1)).v = a.v - 1 := by
  have h := plusOk_iff a.six a.hi a.lo (-1) ha.rhi ha.rlo ha.may (by omega)
  have hv := AV.v_val ha
  have hlt := AV.v_lt ha
  rw [topI_eq, ← hv] at h
  have hok := h.2 (by omega)
  have hp := plus_val a.six a.hi a.lo (-1) ha.rhi ha.rlo ha.may hok
  have hr := plus_range a.hi a.lo (-1)
  have hok2 : (a.plus (-1)).Ok := ⟨hr.1, hr.2, hp.2⟩
  refine ⟨hok2, ?_⟩
  have := AV.v_val hok2
  simp only [AV.plus] at this ⊢
  rw [hp.1] at this
  omega

end Go.Proofs.Ytonelibgaceflaa

namespace Go.Proofs.Ytonelibgaceflaa
open Go.ChangeShapes Go.WideShapes Go.ChangeAt Go.RowKit

theorem addr_pfx {a : AV} (h : a.Ok) : PV.Ok ⟨a.six, a.hi, a.lo, wideI a.six⟩ := by
  refine ⟨h.rhi, h.rlo, h.may, ⟨by have := wideI_le a.six; simp only; omega, Int.le_refl _⟩, ?_⟩
  have := (clean_num h (n := widN a.six) (Nat.le_refl _)).2 (by rw [Nat.sub_self]; exact Nat.one_dvd _)
  simp only [widN_eq]
  exact this

theorem stop_look {p : PV} {t : Tr} {acc : Int × Int} (h : Stop p t) : lookT p t acc = match t with
    | .nil => acc
    | .node _ q h _ _ => if q.over p = false then acc else if q = p then (if h = 0 then acc else (h, q.n)) else acc := by
  cases t with
  | nil => rfl
  | node g q h l r =>
    unfold lookT
    by_cases h1 : q.over p = false
    · rw [if_pos h1]; simp only; rw [if_pos h1]
    · rw [if_neg h1]
      by_cases h2 : q = p
      · rw [if_pos h2]; simp only; rw [if_neg h1, if_pos h2]
      · rcases h with h | h
        · exact absurd h h2
        · exact absurd h h1

theorem Kept.frozenK {S : List Nat} {w w' : World} (h : Kept S w w') {p : Addr} (hp : p.block < w.heap.size) (hS : p.block ∉ S) : w'.frozen? p = w.frozen? p := World.frozen?_of_block (h.block _ hp hS)
theorem below_drewN_left {w w' : World} {B k : Nat} (h : Below B (w.drewN k) w') : Below B w w' := (below_drewN (Below.refl _ _) k).trans h
theorem Blk.keep1 {S : List Nat} {w w' : World} {g : Nat} {t : TypeId} {cs : Array Value} (h : Blk w g t cs) (hk : Kept S w w') (hS : g ∉ S) : Blk w' g t cs := (hk.block g h.lt hS).trans h

set_option maxRecDepth 100000 in
set_option maxHeartbeats 1600000 in
theorem tlook_any {w : World} {B tb : Nat} {R : Bool → Tr} {c : Int} (h : Tab w B tb R c) (hI : ∀ s, Inv s (fun _ => True) (R s)) (six : Bool) (hi lo : Int) (ha : AV.Ok ⟨six, hi, lo⟩) :
    Calls Try.prog 76 #[.pointer (some ⟨tb, 0, none⟩), .agg #[.bool six, .int .u64 hi, .int .u64 lo]] w fun e w' =>
      e = .returned (.agg #[.int .i64 0, .int .i64 (lookT ⟨six, hi, lo, wideI six⟩ (R six) (0, 0)).1, .int .i64 (lookT ⟨six, hi, lo, wideI six⟩ (R six) (0, 0)).2]) ∧ Below w.heap.size w w' := by
  have HT := Lib.hid h
  have HI := Lib.hid hI
  have HP := Lib.hid (addr_pfx ha)
  have CW : Hid (∀ w, Calls Try.prog 150 #[.bool six] w fun e w' => e = .returned (.int .i64 (wideI six)) ∧ Below w.heap.size w w') := fun w => (wide_any six w).mono fun e w' h => ⟨h.1, by rw [← h.2]; exact Below.refl _ _⟩
  simp only at HP
  obtain ⟨wd, hwd⟩ : ∃ wd, wideI six = wd := ⟨_, rfl⟩
  rw [hwd] at HP CW
  rw [hwd]
  have htl := h.blk.lt
  clear h hI ha
  go_enter Try.func76, Try.ntmps76
  go_wp2_with fail
  obtain ⟨X, hX⟩ : ∃ X, (((w.alloc (.cells #[.bool six, .int .u64 hi, .int .u64 lo] 24)).alloc (.cells #[.int .i64 0, .int .i64 0, .int .i64 0] 39)).alloc (.cells #[.int .i64 0, .int .i64 0, .int .i64 0] 39)) = X := ⟨_, rfl⟩
  have kA : Blk X w.heap.size 24 #[.bool six, .int .u64 hi, .int .u64 lo] := by rw [← hX]; exact ((Blk.new _ _ _).alloc _).alloc _
  have kR : Blk X (w.heap.size + 1) 39 #[.int .i64 0, .int .i64 0, .int .i64 0] := by
    rw [← hX]
    have := (Blk.new (w.alloc (.cells #[.bool six, .int .u64 hi, .int .u64 lo] 24)) 39 #[.int .i64 0, .int .i64 0, .int .i64 0])
    simp only [World.size_alloc] at this
    exact this.alloc _
  have kO : Blk X (w.heap.size + 2) 39 (NoteCs (0, 0)) := by
    rw [← hX]
    have := (Blk.new ((w.alloc (.cells #[.bool six, .int .u64 hi, .int .u64 lo] 24)).alloc (.cells #[.int .i64 0, .int .i64 0, .int .i64 0] 39)) 39 #[.int .i64 0, .int .i64 0, .int .i64 0])
    simp only [World.size_alloc] at this
    exact this
  have hXs : X.heap.size = w.heap.size + 3 := by rw [← hX]; simp
  have hXb : Below w.heap.size w X := by rw [← hX]; exact ((((Below.refl _ _).alloc (Nat.le_refl _) _).alloc (by simp) _).alloc (by simp; omega) _)
  try simp only [World.size_alloc]
  rw [hX]
  have x0 := kA.cell 0
  have x1 := kA.cell 1
  have x2 := kA.cell 2
  simp at x0 x1 x2
  have hxl : w.heap.size < X.heap.size := by omega
  have hxl1 : w.heap.size + 1 < X.heap.size := by omega
  have hxl2 : w.heap.size + 1 + 1 < X.heap.size := by omega
  have HXS := Lib.hid hXs
  have HA := Lib.hid kA
  have HRR := Lib.hid kR
  have HOO := Lib.hid kO
  have HXB := Lib.hid hXb
  clear kA kR kO hXb hX hXs
  go_cut [6] (fun v wx => NewPfx X ⟨six, hi, lo, wd⟩ v wx)
  case first =>
    go_region_held3 (fun w' => (∀ b o, b < X.heap.size → w'.cell? ⟨b, o, none⟩ = X.cell? ⟨b, o, none⟩) ∧ X.heap.size ≤ w'.heap.size ∧ Hid (Below X.heap.size X w'))
      ((first | assumption | exact keep0 _ | (refine keepF ?_; (repeat' first | with_reducible exact HB3.out | with_reducible exact Below.refl _ _ | with_reducible refine Below.drew ?_ | with_reducible refine below_drewN ?_ _ | with_reducible refine Below.setCell ?_ ?_ _ | with_reducible refine Below.alloc ?_ ?_ _ | exact HB3.out.size | (simp; done) | (simp; have := HB3.out.size; omega) | (simp; omega)); done)))
      (first | (go_at_call 150; refine (CW.out _).mono ?_; rintro e w3 ⟨rfl, hb3⟩; obtain ⟨fc3, ff3⟩ := bcell hb3; have hz3 := hb3.size; have HB3 : Hid (Below X.heap.size X w3) := (keepBelow (by assumption)).trans (hb3.mono (keepSize (by assumption)))))
    all_goals
      go_wp2_with fail
      go_meet
      first
        | with_reducible exact newPfx_A HB3.out
        | exact newPfx_B hb3 rfl HB3.out
  case rest =>
    obtain ⟨G, rfl, hg, hk, hbx⟩ := hcut
    have g0 := hk.cell 0
    have g1 := hk.cell 1
    have g2 := hk.cell 2
    have g3 := hk.cell 3
    simp at g0 g1 g2 g3
    have HKG := Lib.hid hk
    have hTX : Tab wc B tb R c := HT.out.below (HXB.out.trans (hbx.mono (by omega)))
    have hXc := hbx.size
    have hno : (w.heap.size + 1 + 1) ∉ tabBlocks tb R := fun hx => by have := (HT.out.lt _ hx).2; omega
    have CP := Lib.hid (place_note hTX ⟨six, hi, lo, wd⟩ HP.out HI.out hno (HOO.out.below hbx (by omega)))
    have HTX := Lib.hid hTX
    have HBX := Lib.hid hbx
    unfold PV.val at CP
    simp only at CP
    clear hk hbx hTX hno
    go_wp2_with fail
    refine CP.out.mono ?_
    rintro e w2 ⟨C, cur, acc, hR, hon, hst, rfl, hkp, hbo, hlk⟩
    simp only at hR hon hst hlk
    have hgo : ¬ G = w.heap.size + 1 + 1 := HKG.out.ne_ (HOO.out.below HBX.out hxl2) (by decide)
    have hk2 : Blk w2 G 35 #[.bool six, .int .u64 hi, .int .u64 lo, .int .i64 wd] := (hkp.block G HKG.out.lt (by simp; exact hgo)).trans HKG.out
    have g0 := hk2.cell 0
    have g1 := hk2.cell 1
    have g2 := hk2.cell 2
    have g3 := hk2.cell 3
    simp at g0 g1 g2 g3
    have hT2 : Tab w2 B tb R c := HTX.out.keep (fun k hk => hkp.block k (HTX.out.lt k hk).2 (by simp; intro he; subst he; have := (HT.out.lt _ hk).2; omega))
    have hs := (hT2.slot hR).1
    have o0 := hbo.cell 0
    have o1 := hbo.cell 1
    have o2 := hbo.cell 2
    simp [NoteCs] at o0 o1 o2
    have hsz2 : X.heap.size ≤ w2.heap.size := by have := hkp.size; omega
    have f0 : w2.frozen? ⟨w.heap.size + 1, 0, none⟩ = false := ((HRR.out.below HBX.out hxl1).keep1 hkp (by simp)).frozen 0
    have f1 : w2.frozen? ⟨w.heap.size + 1, 1, none⟩ = false := ((HRR.out.below HBX.out hxl1).keep1 hkp (by simp)).frozen 1
    have f2 : w2.frozen? ⟨w.heap.size + 1, 2, none⟩ = false := ((HRR.out.below HBX.out hxl1).keep1 hkp (by simp)).frozen 2
    have r0 := ((HRR.out.below HBX.out hxl1).keep1 hkp (by simp)).cell 0
    have r1 := ((HRR.out.below HBX.out hxl1).keep1 hkp (by simp)).cell 1
    have r2 := ((HRR.out.below HBX.out hxl1).keep1 hkp (by simp)).cell 2
    simp at r0 r1 r2
    have HB2 : Hid (Below w.heap.size w w2) := HXB.out.trans ((HBX.out.mono (by omega)).trans (hkp.below (by simp; omega) (by omega)))
    have HBO := Lib.hid hbo
    have HL := Lib.hid hlk
    cases cur with
    | nil =>
      have HL2 : Hid (lookT ⟨six, hi, lo, wd⟩ (R six) (0, 0) = acc) := hlk.trans rfl
      change w2.cell? (Ctx.slot tb six C) = some (.pointer none) at hs
      generalize hsl : Ctx.slot tb six C = sl at *
      clear hsl hR hon hst hkp hbo hlk hT2 hk2
      simp only
      go_wp2
      go_quiet (fail)
      go_wp2
      refine bodyPost_ret (v := .agg #[.int .i64 0, .int .i64 acc.1, .int .i64 acc.2]) ?_ rfl ⟨by rw [HL2.out], ?_⟩
      · simp [results, Try.results76, go_sem, r0, r1, r2]
      · (repeat' first | with_reducible exact HB2.out | with_reducible refine Below.drew ?_ | with_reducible refine below_drewN ?_ _ | with_reducible refine Below.setCell ?_ ?_ _ | (simp; done) | (simp; omega) | omega)
    | node g q hv l r =>
      obtain ⟨hblk, hgm⟩ := hT2.node hR
      have n0 := hblk.cell 0
      have n1 := hblk.cell 1
      have n2 := hblk.cell 2
      have n3 := hblk.cell 3
      have hgo2 : ¬ g = w.heap.size + 1 + 1 := by intro he; rw [he] at hgm; have := (HT.out.lt _ hgm).2; omega
      have HG := Lib.hid hblk
      have HLK := Lib.hid (hlk.trans (stop_look hst))
      have HEQ := fun w => eqPV q ⟨six, hi, lo, wd⟩ w
      have hst' : q = ⟨six, hi, lo, wd⟩ ∨ PV.over q ⟨six, hi, lo, wd⟩ = false := hst
      change w2.cell? (Ctx.slot tb six C) = some (.pointer (some ⟨g, 0, none⟩)) at hs
      generalize hsl : Ctx.slot tb six C = sl at *
      by_cases he : q = ⟨six, hi, lo, wd⟩
      · have HL2 : Hid (lookT ⟨six, hi, lo, wd⟩ (R six) (0, 0) = if hv = 0 then acc else (hv, wd)) := by
          show _ = _
          have := HLK.out
          simp only at this
          rw [if_pos he, he, if_neg (by rw [over_refl HP.out]; simp)] at this
          exact this
        have CN := Lib.hid (fun (w3 : World) (hb : Below w2.heap.size w2 w3) => note_any g (w.heap.size + 1 + 1) q hv l.ptr r.ptr acc w3 hgo2 (HG.out.below hb HG.out.lt) (HBO.out.below hb HBO.out.lt))
        have HR0 := Lib.hid (show w.heap.size + 1 ∉ [w.heap.size + 1 + 1] by simp)
        rw [decide_eq_true he] at HEQ
        subst he
        unfold PV.val at HEQ
        simp only at HEQ CN
        obtain ⟨ac, hac⟩ : ∃ ac, (if hv = 0 then acc else (hv, wd)) = ac := ⟨_, rfl⟩
        rw [hac] at CN HL2
        clear hac
        simp [nodeCs] at n0 n1 n2 n3
        have hsz3 : w.heap.size + 1 < w2.heap.size := by omega
        clear HLK HL hsl hR hon hst hst' hkp hbo hlk hT2 hk2 hblk hgm
        simp only
        go_wp2
        go_quiet (fail)
        go_wp2_with fail
        refine (CN.out _ (below_drewN (Below.refl _ _) _)).mono ?_
        rintro e w4 ⟨rfl, hb4, hk4⟩
        have hk4 := hk4
        have o0 := hb4.cell 0
        have o1 := hb4.cell 1
        have o2 := hb4.cell 2
        simp [NoteCs] at o0 o1 o2
        have f0 : w4.frozen? ⟨w.heap.size + 1, 0, none⟩ = false := (hk4.frozenK (p := ⟨w.heap.size + 1, 0, none⟩) hsz3 HR0.out).trans f0
        have f1 : w4.frozen? ⟨w.heap.size + 1, 1, none⟩ = false := (hk4.frozenK (p := ⟨w.heap.size + 1, 1, none⟩) hsz3 HR0.out).trans f1
        have f2 : w4.frozen? ⟨w.heap.size + 1, 2, none⟩ = false := (hk4.frozenK (p := ⟨w.heap.size + 1, 2, none⟩) hsz3 HR0.out).trans f2
        have r0 := (hk4.cellK (p := ⟨w.heap.size + 1, 0, none⟩) hsz3 HR0.out).trans r0
        have r1 := (hk4.cellK (p := ⟨w.heap.size + 1, 1, none⟩) hsz3 HR0.out).trans r1
        have r2 := (hk4.cellK (p := ⟨w.heap.size + 1, 2, none⟩) hsz3 HR0.out).trans r2
        have HB4 : Hid (Below w.heap.size w w4) := HB2.out.trans (below_drewN_left (hk4.below (B := w.heap.size) (by simp; omega) (by simp; omega)))
        clear hk4 hb4
        go_wp2
        refine bodyPost_ret (v := .agg #[.int .i64 0, .int .i64 ac.1, .int .i64 ac.2]) ?_ rfl ⟨by rw [HL2.out], ?_⟩
        · simp [results, Try.results76, go_sem, r0, r1, r2]
        · (repeat' first | with_reducible exact HB4.out | with_reducible refine Below.drew ?_ | with_reducible refine below_drewN ?_ _ | with_reducible refine Below.setCell ?_ ?_ _ | (simp; done) | (simp; omega) | omega)
      · have HL2 : Hid (lookT ⟨six, hi, lo, wd⟩ (R six) (0, 0) = acc) := by
          show _ = _
          have := HLK.out
          simp only at this
          rw [if_neg he] at this
          rw [this]; split <;> rfl
        rw [decide_eq_false he] at HEQ
        obtain ⟨qs, qh, ql, qn⟩ := q
        unfold PV.val at HEQ
        simp only at HEQ
        simp [nodeCs] at n0 n1 n2 n3
        clear HLK HL hsl hR hon hst hst' hkp hbo hlk hT2 hk2 hblk hgm he
        simp only
        go_wp2
        go_quiet (fail)
        go_wp2
        refine bodyPost_ret (v := .agg #[.int .i64 0, .int .i64 acc.1, .int .i64 acc.2]) ?_ rfl ⟨by rw [HL2.out], ?_⟩
        · simp [results, Try.results76, go_sem, r0, r1, r2]
        · (repeat' first | with_reducible exact HB2.out | with_reducible refine Below.drew ?_ | with_reducible refine below_drewN ?_ _ | with_reducible refine Below.setCell ?_ ?_ _ | (simp; done) | (simp; omega) | omega)

end Go.Proofs.Ytonelibgaceflaa

namespace Go.Proofs.Ytonelibgaceflaa
open Go.ChangeShapes Go.WideShapes Go.ChangeAt Go.RowKit

theorem preIn_has (r : RouteV) (six' : Bool) (hi' lo' : Int) (w : World) (hp : r.p.Ok) (ha : AV.Ok ⟨six', hi', lo'⟩) :
    Calls Try.prog 95 #[.agg #[.bool r.p.six, .int .u64 r.p.hi, .int .u64 r.p.lo, .int .i64 r.p.n], .agg #[.bool six', .int .u64 hi', .int .u64 lo']] w fun e w' => e = .returned (.bool (hasB r six' hi' lo')) ∧ Below w.heap.size w w' := by
  obtain ⟨⟨six, hi, lo, n⟩, hop⟩ := r
  obtain ⟨m, rfl⟩ : ∃ m : Nat, n = m := ⟨n.toNat, by have := (ok_n hp).1; simp only at this; omega⟩
  exact preIn_any six hi lo m six' hi' lo' w hp ha.rhi ha.rlo ha.may

set_option maxRecDepth 100000 in
set_option maxHeartbeats 3200000 in
theorem goes_any (A : Option Addr) (n c : Nat) (l : List RouteV) (six : Bool) (hi lo : Int) (w : World) (h : IsRoutes w A n c l) (hv : Valid l) (ha : AV.Ok ⟨six, hi, lo⟩) (hn60 : n ≤ 60) :
    Calls Try.prog 96 #[.slice A n c, .agg #[.bool six, .int .u64 hi, .int .u64 lo]] w fun e w' => e = .returned (.agg #[.int .i64 0, .int .i64 (goesR l six hi lo).1, .int .i64 (goesR l six hi lo).2]) ∧ Below w.heap.size w w' := by
  have HR := Lib.hid h.2.2.2
  have HZ := Lib.hid h.1
  have HV := Lib.hid hv
  have HPI := Lib.hid (fun (r : RouteV) (w : World) (hr : r ∈ l) => preIn_has r six hi lo w (hv.1 r hr).1 ha)
  obtain ⟨res, hres⟩ : ∃ res, goesR l six hi lo = res := ⟨_, rfl⟩
  rw [hres]
  have HRES := Lib.hid hres
  clear h hv ha hres
  go_enter Try.func96, Try.ntmps96
  go_wp2_with fail
  obtain ⟨X, hX⟩ : ∃ X, (((w.alloc (.cells #[.bool six, .int .u64 hi, .int .u64 lo] 24)).alloc (.cells #[.int .i64 0, .int .i64 0, .int .i64 0] 39)).alloc (.cells #[.int .i64 0, .int .i64 0, .int .i64 (-1)] 39)) = X := ⟨_, rfl⟩
  have kA : Blk X w.heap.size 24 #[.bool six, .int .u64 hi, .int .u64 lo] := by rw [← hX]; exact ((Blk.new _ _ _).alloc _).alloc _
  have kR : Blk X (w.heap.size + 1) 39 #[.int .i64 0, .int .i64 0, .int .i64 0] := by
    rw [← hX]
    have := (Blk.new (w.alloc (.cells #[.bool six, .int .u64 hi, .int .u64 lo] 24)) 39 #[.int .i64 0, .int .i64 0, .int .i64 0])
    simp only [World.size_alloc] at this
    exact this.alloc _
  have kO : Blk X (w.heap.size + 1 + 1) 39 (NoteCs (0, -1)) := by
    rw [← hX]
    have := (Blk.new ((w.alloc (.cells #[.bool six, .int .u64 hi, .int .u64 lo] 24)).alloc (.cells #[.int .i64 0, .int .i64 0, .int .i64 0] 39)) 39 #[.int .i64 0, .int .i64 0, .int .i64 (-1)])
    simp only [World.size_alloc] at this
    exact this
  have hXs : X.heap.size = w.heap.size + 3 := by rw [← hX]; simp
  have hXb : Below w.heap.size w X := by rw [← hX]; exact ((((Below.refl _ _).alloc (Nat.le_refl _) _).alloc (by simp) _).alloc (by simp; omega) _)
  rw [hX]
  have HA := Lib.hid kA
  have HRR := Lib.hid kR
  have HOO := Lib.hid kO
  have HXB := Lib.hid hXb
  have HXS := Lib.hid hXs
  clear kA kR kO hXb hX hXs
  go_loopw [11, 7] (fun i _ wr => ∃ k : Nat, k ≤ n ∧ i = .int .i64 k ∧ Blk wr (w.heap.size + 1 + 1) 39 (NoteCs (bestTo (l.take k) six hi lo)) ∧ Kept [w.heap.size + 1 + 1] X wr) (fun i _ _ => n - (intOf i).toNat)
  case atStart => exact ⟨0, by omega, rfl, HOO.out, Kept.of_below (Below.refl _ _)⟩
  case round =>
    obtain ⟨k, hk, rfl, hbst, hkp⟩ := hrel
    have hxs := HXS.out
    have hsz := hkp.size
    have HB : Hid (Below w.heap.size w wr) := HXB.out.trans (hkp.below (by simp; omega) (by omega))
    have hb := HB.out
    have kA2 : Blk wr w.heap.size 24 _ := HA.out.keep1 hkp (by simp; omega)
    have kR2 : Blk wr (w.heap.size + 1) 39 _ := HRR.out.keep1 hkp (by simp)
    obtain ⟨bst, hbs⟩ : ∃ b, bestTo (l.take k) six hi lo = b := ⟨_, rfl⟩
    rw [hbs] at hbst
    have HBS := Lib.hid hbs
    have HBST := Lib.hid hbst
    have HKP := Lib.hid hkp
    have a0 := kA2.cell 0
    have a1 := kA2.cell 1
    have a2 := kA2.cell 2
    have b0 := hbst.cell 0
    have b1 := hbst.cell 1
    have b2 := hbst.cell 2
    have fb0 := hbst.frozen 0
    have fb1 := hbst.frozen 1
    have fb2 := hbst.frozen 2
    have r0 := kR2.cell 0
    have r1 := kR2.cell 1
    have r2 := kR2.cell 2
    have f0 := kR2.frozen 0
    have f1 := kR2.frozen 1
    have f2 := kR2.frozen 2
    simp [NoteCs] at a0 a1 a2 b0 b1 b2 r0 r1 r2
    have la : w.heap.size < wr.heap.size := by omega
    have lr : w.heap.size + 1 < wr.heap.size := by omega
    have lb : w.heap.size + 1 + 1 < wr.heap.size := by omega
    clear kA2 kR2 hbst hkp hbs hxs hsz
    by_cases hlt : k < n
    · obtain ⟨ad, ⟨⟨rsix, rhi, rlo, pn⟩, hop⟩, rfl, hlk, htk, hmem, hbk, hc0, hcj⟩ := HR.out.atS RouteV.cells_length HZ.out hlt
      have q0 := (hb.cell (p := ad.add (k * 5)) (by rw [block_of_add]; exact hbk)).trans (hc0 _ rfl)
      have q1 := (hb.cell (p := ⟨(ad.add (k * 5)).block, (ad.add (k * 5)).off + 1, none⟩) (by rw [block_of_add]; exact hbk)).trans (hcj 1 _ rfl)
      have q2 := (hb.cell (p := ⟨(ad.add (k * 5)).block, (ad.add (k * 5)).off + 2, none⟩) (by rw [block_of_add]; exact hbk)).trans (hcj 2 _ rfl)
      have q3 := (hb.cell (p := ⟨(ad.add (k * 5)).block, (ad.add (k * 5)).off + 3, none⟩) (by rw [block_of_add]; exact hbk)).trans (hcj 3 _ rfl)
      have q4 := (hb.cell (p := ⟨(ad.add (k * 5)).block, (ad.add (k * 5)).off + 4, none⟩) (by rw [block_of_add]; exact hbk)).trans (hcj 4 _ rfl)
      have CPI := Lib.hid (fun w => HPI.out _ w hmem)
      have HST : Hid (bestTo (l.take (k + 1)) six hi lo = bestStep six hi lo bst ⟨⟨rsix, rhi, rlo, pn⟩, hop⟩) := by show _ = _; rw [htk, bestTo_snoc, HBS.out]
      simp only at CPI
      obtain ⟨hv, hhv⟩ : ∃ hv, hasB ⟨⟨rsix, rhi, rlo, pn⟩, hop⟩ six hi lo = hv := ⟨_, rfl⟩
      unfold bestStep at HST
      rw [hhv] at CPI HST
      clear hlk htk hmem hbk hc0 hcj hb hhv
      by_cases hcase : hv = true ∧ bst.2 < pn
      · obtain ⟨rfl, hgt⟩ := hcase
        have HST2 : Hid (bestTo (l.take (k + 1)) six hi lo = (hop, pn)) := by show _ = _; rw [HST.out, if_pos ⟨rfl, hgt⟩]
        clear HST
        go_wp2_with fail
        refine (CPI.out _).mono ?_
        rintro e w2 ⟨rfl, hb2⟩
        obtain ⟨fc, ff⟩ := bcell hb2
        have hs2 := hb2.size
        simp at hs2
        have HB2 : Hid (Below wr.heap.size wr w2) := balloc1 hb2
        have l2 : wr.heap.size < w2.heap.size := by omega
        clear hb2
        go_wp2
        go_roundw
        case rel => exact ⟨k + 1, by omega, by go_num, by rw [HST2.out]; simpa [NoteCs] using ((((HBST.out.below HB2.out lb).set_ 0 (.int .i64 0)).set_ 1 (.int .i64 hop)).set_ 2 (.int .i64 pn)), ((((HKP.out.then_below HB2.out).setCell (.inl (by simp)) _).setCell (.inl (by simp)) _).setCell (.inl (by simp)) _)⟩
        case measure => simp [intOf]; omega
      · have HST2 : Hid (bestTo (l.take (k + 1)) six hi lo = bst) := by show _ = _; rw [HST.out, if_neg hcase]
        clear HST
        have hd : hv = false ∨ (hv = true ∧ pn ≤ bst.2) := by
          cases hv
          · exact .inl rfl
          · right
            refine ⟨rfl, ?_⟩
            rcases Int.lt_or_le bst.2 pn with hx | hx
            · exact absurd ⟨rfl, hx⟩ hcase
            · exact hx
        clear hcase
        rcases hd with rfl | ⟨rfl, hle⟩
        all_goals
          go_wp2_with fail
          refine (CPI.out _).mono ?_
          rintro e w2 ⟨rfl, hb2⟩
          obtain ⟨fc, ff⟩ := bcell hb2
          have hs2 := hb2.size
          simp at hs2
          have HB2 : Hid (Below wr.heap.size wr w2) := balloc1 hb2
          have l2 : wr.heap.size < w2.heap.size := by omega
          clear hb2
          go_wp2
          go_roundw
          case rel => exact ⟨k + 1, by omega, by go_num, by rw [HST2.out]; exact HBST.out.below HB2.out lb, HKP.out.then_below HB2.out⟩
          case measure => simp [intOf]; omega
    · obtain rfl : k = n := by omega
      have HB5 : Hid (res = if bst.2 < 0 then (bst.1, 0) else bst) := by
        show _ = _
        rw [← HRES.out]
        unfold goesR
        have := HBS.out
        rw [List.take_of_length_le (by rw [HZ.out]; omega)] at this
        rw [this]
      clear hb
      by_cases hneg : bst.2 < 0
      · have HB6 : Hid (res = (bst.1, 0)) := by show _ = _; rw [HB5.out, if_pos hneg]
        clear HB5
        go_wp2
        refine bodyPost_ret (v := .agg #[.int .i64 0, .int .i64 bst.1, .int .i64 0]) ?_ rfl ⟨by rw [HB6.out], ?_⟩
        · simp [results, Try.results96, go_sem, r0, r1, r2]
        · (repeat' first | with_reducible exact HB.out | with_reducible refine Below.drew ?_ | with_reducible refine below_drewN ?_ _ | with_reducible refine Below.setCell ?_ ?_ _ | (simp; done) | (simp; omega) | omega)
      · have HB6 : Hid (res = bst) := by show _ = _; rw [HB5.out, if_neg hneg]
        clear HB5
        go_wp2
        refine bodyPost_ret (v := .agg #[.int .i64 0, .int .i64 bst.1, .int .i64 bst.2]) ?_ rfl ⟨by rw [HB6.out], ?_⟩
        · simp [results, Try.results96, go_sem, r0, r1, r2]
        · (repeat' first | with_reducible exact HB.out | with_reducible refine Below.drew ?_ | with_reducible refine below_drewN ?_ _ | with_reducible refine Below.setCell ?_ ?_ _ | (simp; done) | (simp; omega) | omega)

end Go.Proofs.Ytonelibgaceflaa
