/-
  
  
  
  
  
  
-/
import Derived.Test.YtmljdjakbbedlaaC3
import Derived.Test.YtmljdjakbbedlaaC4
import Derived.Deep.DeepCutAuto
import Derived.Test.YtmljdjakbbedlaaC2
namespace Go.Proofs.Ytmljdjakbbedlaa
open Go.ChangeShapes Go.WideShapes Go.ChangeAt Go.RowKit

theorem Kept.alloc {S : List Nat} {w w' : World} (h : Kept S w w') (o : Obj) : Kept S w (w'.alloc o) :=
  ⟨h.os, h.tape, h.output, by simp; have := h.size; omega, fun k hk hn => (Below.heap_alloc _ _ _ (by have := h.size; omega)).trans (h.block k hk hn)⟩
theorem Kept.setCell {S : List Nat} {w w' : World} (h : Kept S w w') {p : Addr} (hp : p.block ∈ S ∨ w.heap.size ≤ p.block) (u : Value) : Kept S w (w'.setCell p u) :=
  ⟨h.os, h.tape, h.output, by simp; exact h.size, fun k hk hn => (Below.heap_setCell _ _ _ _ (fun e => by subst e; rcases hp with hp | hp; exact hn hp; omega)).trans (h.block k hk hn)⟩
theorem Kept.of_below {S : List Nat} {w w' : World} (h : Below w.heap.size w w') : Kept S w w' := ⟨h.os, h.tape, h.output, h.size, fun k hk _ => h.block k hk⟩
theorem Kept.then_below {S : List Nat} {w w1 w2 : World} (h : Kept S w w1) (hb : Below w1.heap.size w1 w2) : Kept S w w2 :=
  ⟨hb.os.trans h.os, hb.tape.trans h.tape, hb.output.trans h.output, Nat.le_trans h.size hb.size, fun k hk hn => (hb.block k (by have := h.size; omega)).trans (h.block k hk hn)⟩
theorem Kept.below {S : List Nat} {w w' : World} {B : Nat} (h : Kept S w w') (hS : ∀ k ∈ S, B ≤ k) (hB : B ≤ w.heap.size) : Below B w w' :=
  ⟨h.os, h.tape, h.output, h.size, fun k hk => h.block k (by omega) (fun hx => by have := hS k hx; omega)⟩

/-- What Put returns, and what it leaves. -/
def PutPost (w : World) (B tb : Nat) (R : Bool → Tr) (c : Int) (p : PV) (hop : Int) (e : Ending) (w' : World) : Prop :=
  e = .returned (.int .i64 (hopAt (R p.six) p)) ∧ (∃ G1 G2, Tab w' B tb (upd R p.six (putT p hop G1 G2 (R p.six))) (if hopAt (R p.six) p = 0 then c + 1 else c)) ∧ Kept (tabBlocks tb R) w w'

theorem chk_of {six : Bool} {hi lo n : Int} (h : Pfx six hi lo n) : chk six hi lo n = 0 := by
  unfold chk
  have := h.len
  rw [if_neg (by simp [h.may]), if_neg (by omega), if_pos h.clean]
theorem bothE_of {six : Bool} {hi lo n hi' lo' n' : Int} (h : Pfx six hi lo n) (h' : Pfx six hi' lo' n') : bothE six hi lo n six hi' lo' n' = 0 := by
  unfold bothE
  simp [chk_of h, chk_of h']
theorem keepF {w1 X : World} (hb : Below w1.heap.size w1 X) :
    (∀ b o, b < w1.heap.size → X.cell? ⟨b, o, none⟩ = w1.cell? ⟨b, o, none⟩) ∧ w1.heap.size ≤ X.heap.size ∧ Hid (Below w1.heap.size w1 X) :=
  ⟨fun b o h => hb.cell (p := ⟨b, o, none⟩) h, hb.size, hb⟩
theorem keepS {w1 X : World} (h : (∀ b o, b < w1.heap.size → X.cell? ⟨b, o, none⟩ = w1.cell? ⟨b, o, none⟩) ∧ w1.heap.size ≤ X.heap.size ∧ Hid (Below w1.heap.size w1 X)) {p : Addr} (hp : w1.heap.size ≤ p.block) (u : Value) :
    (∀ b o, b < w1.heap.size → (X.setCell p u).cell? ⟨b, o, none⟩ = w1.cell? ⟨b, o, none⟩) ∧ w1.heap.size ≤ (X.setCell p u).heap.size ∧ Hid (Below w1.heap.size w1 (X.setCell p u)) :=
  keepF (h.2.2.out.setCell hp u)
/-- A new block with a prefix. -/
def NewPfx (Y : World) (p : PV) (v : Value) (wc : World) : Prop :=
  ∃ b, v = .pointer (some ⟨b, 0, none⟩) ∧ b < wc.heap.size ∧ Blk wc b 42 #[.bool p.six, .int .u64 p.hi, .int .u64 p.lo, .int .i64 p.n] ∧ Below Y.heap.size Y wc
theorem newPfx_A {Y w3 : World} {six : Bool} {hi lo n : Int} (h : Below Y.heap.size Y w3) :
    NewPfx Y ⟨six, hi, lo, n⟩ (.pointer (some ⟨w3.heap.size, 0, none⟩)) (w3.alloc (.cells #[.bool six, .int .u64 hi, .int .u64 lo, .int .i64 n] 42)) :=
  ⟨_, rfl, by simp, Blk.new _ _ _, h.alloc h.size _⟩
theorem newPfx_B {Y Q w3 : World} {six : Bool} {hi lo n : Int} (hb : Below Q.heap.size Q w3) (hQ : Q.heap = (Y.alloc (.cells #[.bool false, .int .u64 0, .int .u64 0, .int .i64 0] 42)).heap) (h : Below Y.heap.size Y w3) :
    NewPfx Y ⟨six, hi, lo, n⟩ (.pointer (some ⟨Y.heap.size, 0, none⟩)) ((((w3.setCell ⟨Y.heap.size, 0, none⟩ (.bool six)).setCell ⟨Y.heap.size, 1, none⟩ (.int .u64 hi)).setCell ⟨Y.heap.size, 2, none⟩ (.int .u64 lo)).setCell ⟨Y.heap.size, 3, none⟩ (.int .i64 n)) := by
  have hs := hb.size
  rw [hQ] at hs
  simp at hs
  refine ⟨Y.heap.size, rfl, by simp; omega, ((((?_ : Blk w3 Y.heap.size _ #[.bool false, .int .u64 0, .int .u64 0, .int .i64 0]).set_ 0 _).set_ 1 _).set_ 2 _).set_ 3 _, ?_⟩
  · have := hb.block Y.heap.size (by rw [hQ]; simp)
    rw [hQ] at this
    exact this.trans (Blk.new Y _ _)
  · exact (((h.setCell (by simp) _).setCell (by simp) _).setCell (by simp) _).setCell (by simp) _
/-- A new node, and a block that leads to it. -/
def NewKid (wc : World) (G1 : Nat) (cs : Value → Array Value) (p : PV) (hop : Int) (wx : World) : Prop :=
  ∃ G2, wc.heap.size < G2 ∧ ¬ G1 = G2 ∧ Blk wx G2 193 (nodeCs p hop (.pointer none) (.pointer none)) ∧ Blk wx G1 193 (cs (.pointer (some ⟨G2, 0, none⟩))) ∧ Below wc.heap.size wc wx
theorem forkZ {wc Q w5 : World} {F : Array Value} (hb : Below Q.heap.size Q w5) (hQ : Q.heap = (wc.alloc (.cells F 193)).heap) (h : Below wc.heap.size wc w5) (i : Nat) (u : Value) :
    Blk (w5.setCell ⟨wc.heap.size, i, none⟩ u) wc.heap.size 193 (F.setIfInBounds i u) ∧ Below wc.heap.size wc (w5.setCell ⟨wc.heap.size, i, none⟩ u) := by
  refine ⟨Blk.set_ ?_ i u, h.setCell (Nat.le_refl _) _⟩
  have := hb.block wc.heap.size (by rw [hQ]; simp)
  rw [hQ] at this
  exact this.trans (Blk.new wc _ _)
theorem newKid_A {wc Z Q w6 : World} {G1 i : Nat} {F : Array Value} {p : PV} {hop : Int} {six : Bool} {hi lo n : Int} (hb : Below Q.heap.size Q w6) (hQ : Q.heap = Z.heap) (hp : p = ⟨six, hi, lo, n⟩) (hG : wc.heap.size = G1) (hz : wc.heap.size < Z.heap.size) (hk : Blk Z G1 193 F) (hb2 : Below wc.heap.size wc w6) :
    NewKid wc G1 (fun v => F.setIfInBounds i v) p hop ((w6.setCell ⟨G1, i, none⟩ (.pointer (some ⟨w6.heap.size, 0, none⟩))).alloc (.cells #[.bool six, .int .u64 hi, .int .u64 lo, .int .i64 n, .int .i64 hop, .pointer none, .pointer none] 193)) := by
  subst hp
  subst hG
  have hs := hb.size
  rw [hQ] at hs
  have k2 := hb.block wc.heap.size (by rw [hQ]; omega)
  rw [hQ] at k2
  have kn := Blk.new (w6.setCell ⟨wc.heap.size, i, none⟩ (.pointer (some ⟨w6.heap.size, 0, none⟩))) 193 #[.bool six, .int .u64 hi, .int .u64 lo, .int .i64 n, .int .i64 hop, .pointer none, .pointer none]
  rw [World.size_setCell] at kn
  refine ⟨w6.heap.size, by omega, by omega, kn, Blk.alloc (Blk.set_ (k2.trans hk) i _) _, ?_⟩
  exact (hb2.setCell (Nat.le_refl _) _).alloc (by simp; exact hb2.size) _
theorem newKid_B {wc Z Q w6 : World} {G1 i : Nat} {F : Array Value} {p : PV} {hop : Int} {six : Bool} {hi lo n : Int} (hb : Below Q.heap.size Q w6) (hQ : Q.heap = (Z.alloc (.cells #[.bool six, .int .u64 hi, .int .u64 lo, .int .i64 n, .int .i64 hop, .pointer none, .pointer none] 193)).heap) (hp : p = ⟨six, hi, lo, n⟩) (hG : wc.heap.size = G1) (hz : wc.heap.size < Z.heap.size) (hk : Blk Z G1 193 F) (_hwz : Below wc.heap.size wc Z) (hb2 : Below wc.heap.size wc w6) :
    NewKid wc G1 (fun v => F.setIfInBounds i v) p hop (w6.setCell ⟨G1, i, none⟩ (.pointer (some ⟨Z.heap.size, 0, none⟩))) := by
  subst hp
  subst hG
  have k1 := hb.block Z.heap.size (by rw [hQ]; simp)
  have k2 := hb.block wc.heap.size (by rw [hQ]; simp; omega)
  rw [hQ] at k1 k2
  refine ⟨Z.heap.size, hz, by omega, Blk.far (k1.trans (Blk.new Z _ _)) (p := ⟨wc.heap.size, i, none⟩) (by show ¬ _ = _; simp; omega) _, Blk.set_ (k2.trans (hk.alloc _)) i _, hb2.setCell (Nat.le_refl _) _⟩
theorem tab_fork {Y W : World} {B tb : Nat} {R : Bool → Tr} {c : Int} {s : Bool} {C : Ctx} {cur extra : Tr} {G1 : Nat} {p1 : PV} {h1 b : Int} (hT : Tab Y B tb R c) (hR : R s = C.plug cur) (hb : Below Y.heap.size Y W) (hG : Y.heap.size ≤ G1)
    (hblk : Blk W G1 193 (if b = 0 then nodeCs p1 h1 cur.ptr extra.ptr else nodeCs p1 h1 extra.ptr cur.ptr)) (hx : extra.Lies W B) (hxb : ∀ g ∈ extra.blocks, Y.heap.size ≤ g ∧ ¬ g = G1) (hxn : extra.blocks.Nodup) :
    Tab (W.setCell (C.slot tb s) (.pointer (some ⟨G1, 0, none⟩))) B tb (upd R s (C.plug (node2 G1 p1 h1 b cur extra))) c := by
  obtain ⟨n1, n2, n3, n4, n5, n6, n7, n8⟩ := nodup_parts hT hR
  have hcl := ((plug_lies C cur).1 (hR ▸ hT.lies s)).2
  have hlt := fun g hg => (hcl.lt g hg).2
  have hB := hT.base
  have htl := hT.blk.lt
  have hnotin : ∀ g, Y.heap.size ≤ g → g ∉ tabBlocks tb R := fun g hg hm => by have := (hT.lt g hm).2; omega
  have hcur := hcl.below hb
  have hptr : (node2 G1 p1 h1 b cur extra).ptr = .pointer (some ⟨G1, 0, none⟩) := by unfold node2; split <;> rfl
  rw [← hptr]
  refine Tab.store (hT.below hb) hR ?_ ?_ ?_
  · unfold node2
    by_cases h0 : b = 0
    · rw [if_pos h0] at hblk ⊢
      exact ⟨by omega, hblk, hcur, hx⟩
    · rw [if_neg h0] at hblk ⊢
      exact ⟨by omega, hblk, hx, hcur⟩
  · have hd1 : ∀ a ∈ cur.blocks, ∀ b ∈ extra.blocks, ¬ a = b := fun a ha b hb e => by subst e; have := hlt a ha; have := (hxb a hb).1; omega
    have hg1 : G1 ∉ cur.blocks := fun h => by have := hlt G1 h; omega
    have hg2 : G1 ∉ extra.blocks := fun h => (hxb G1 h).2 rfl
    unfold node2
    split
    · simp only [Tr.blocks, List.nodup_cons, List.mem_append, not_or, List.nodup_append]
      exact ⟨⟨hg1, hg2⟩, n4, hxn, hd1⟩
    · simp only [Tr.blocks, List.nodup_cons, List.mem_append, not_or, List.nodup_append]
      exact ⟨⟨hg2, hg1⟩, hxn, n4, fun a ha b hb e => hd1 b hb a ha e.symm⟩
  · intro g hg
    have : g = G1 ∨ g ∈ cur.blocks ∨ g ∈ extra.blocks := by
      unfold node2 at hg
      split at hg <;> simp only [Tr.blocks, List.mem_cons, List.mem_append] at hg
      · exact hg
      · rcases hg with h | h | h
        · exact .inl h
        · exact .inr (.inr h)
        · exact .inr (.inl h)
    rcases this with rfl | h | h
    · exact .inr (hnotin _ hG)
    · exact .inl h
    · exact .inr (hnotin _ (hxb g h).1)
theorem put_fin {W : World} {B tb : Nat} {R : Bool → Tr} {c : Int} {p : PV} {hop : Int} {C : Ctx} {cur : Tr} (G1 G2 : Nat) (hR : R p.six = C.plug cur) (hon : C.OnPath p)
    (ht : Tab W B tb (upd R p.six (C.plug (putT p hop G1 G2 cur))) (if hopAt cur p = 0 then c + 1 else c)) :
    ∃ G1 G2, Tab W B tb (upd R p.six (putT p hop G1 G2 (R p.six))) (if hopAt (R p.six) p = 0 then c + 1 else c) := by
  refine ⟨G1, G2, ?_⟩
  rw [hR, plug_hop C cur hon, plug_put C cur hon]
  exact ht

set_option maxRecDepth 100000 in
set_option maxHeartbeats 12800000 in
theorem put_any {w : World} {B tb : Nat} {R : Bool → Tr} {c : Int} (h : Tab w B tb R c) (p : PV) (hp : p.Ok) (hI : ∀ s, Inv s (fun _ => True) (R s)) (hop : Int) (hc : 0 ≤ c ∧ c ≤ 1000000) :
    Calls Try.prog 104 #[.pointer (some ⟨tb, 0, none⟩), p.val, .int .i64 hop] w (PutPost w B tb R c p hop) := by
  have HT := Lib.hid h
  have HP := Lib.hid hp
  have HI := Lib.hid hI
  have CP := Lib.hid (fun (Y : World) (hb : Below w.heap.size w Y) => place_any (h.below hb) p hp hI)
  obtain ⟨six, hi, lo, n⟩ := p
  clear h hp hI
  unfold PV.val at CP ⊢
  simp only at CP ⊢
  go_enter Try.func104, Try.ntmps104
  go_wp2_with fail
  refine (CP.out _ ((Below.refl _ _).alloc (Nat.le_refl _) _)).mono ?_
  rintro e X ⟨C, cur, hR, hon, hst, rfl, hb⟩
  obtain ⟨HBX, hsx, hbx⟩ := box1 (cs := [.bool six, .int .u64 hi, .int .u64 lo, .int .i64 n]) hb
  have e0 := hbx 0 _ rfl
  have e1 := hbx 1 _ rfl
  have e2 := hbx 2 _ rfl
  have e3 := hbx 3 _ rfl
  have hTX := HT.out.below HBX
  have hsl := hTX.slot hR
  have HTX := Lib.hid hTX
  have HB := Lib.hid HBX
  have HR := Lib.hid hR
  have HON := Lib.hid hon
  have hct : X.cell? ⟨tb, 2, none⟩ = some (.int .i64 c) := hTX.blk.cell 2
  have hcf : X.frozen? ⟨tb, 2, none⟩ = false := hTX.blk.frozen 2
  have htb := hTX.blk.lt
  obtain ⟨hs1, hs2, hs3⟩ := hsl
  have hslt := (hTX.lt _ hs3).2
  have HS3 := Lib.hid hs3
  have hne : ¬ Ctx.slot tb six C = ⟨tb, 2, none⟩ := by
    intro hx
    cases C with
    | top => simp only [Ctx.slot, slotOf] at hx; cases six <;> simp at hx
    | left C g q h r => simp [Ctx.slot] at hx
    | right C g q h r => simp [Ctx.slot] at hx
  have HNE := Lib.hid hne
  have hne' : ¬ (⟨tb, 2, none⟩ : Addr) = Ctx.slot tb six C := fun hx => HNE.out hx.symm
  obtain ⟨sl, hsl⟩ : ∃ sl, Ctx.slot tb six C = sl := ⟨_, rfl⟩
  have HSL := Lib.hid hsl
  rw [hsl] at hs1 hs2 hslt hne hne' ⊢
  clear hsl hb hbx HBX hTX hR hon hs3
  have hph := Lib.hid (plug_hop (p := ⟨six, hi, lo, n⟩) C cur HON.out)
  have HBA : ∀ o, Hid (Below X.heap.size X (X.alloc o)) := fun o => (Below.refl _ _).alloc (Nat.le_refl _) o
  have hsf : ∀ o, (X.alloc o).frozen? sl = false := fun o => ((HBA o).out.frozen hslt).trans hs2
  cases cur with
  | nil =>
    change X.cell? sl = some (.pointer none) at hs1
    go_wp2
    go_ret
    refine ⟨ret_int (by rw [HR.out, hph.out]; rfl), put_fin X.heap.size 0 HR.out HON.out ?_, ((((Kept.of_below HB.out).alloc _).setCell (.inl (by rw [← HSL.out]; exact HS3.out)) _).setCell (.inl (by simp [tabBlocks])) _)⟩
    rw [show hopAt Tr.nil ⟨six, hi, lo, n⟩ = 0 from rfl, if_pos rfl, ← HSL.out]
    refine Tab.count (Tab.store (HTX.out.below (HBA _).out) HR.out (new := .node X.heap.size ⟨six, hi, lo, n⟩ hop .nil .nil) ⟨?_, Blk.new _ _ _, trivial, trivial⟩ (by simp [Tr.blocks]) (fun g hg => ?_)) _
    · have := HTX.out.base; omega
    · simp [Tr.blocks] at hg
      subst hg
      exact .inr (fun hx => by have := (HTX.out.lt _ hx).2; omega)
  | node g q h l r =>
    obtain ⟨hblk, hgm⟩ := HTX.out.node HR.out
    obtain ⟨U', hiv⟩ := inv_plug C (.node g q h l r) _ (by rw [← HR.out]; exact HI.out six)
    obtain ⟨hq, hq6, _, hh, _, _⟩ := hiv
    have HQ := Lib.hid hq
    have n0 := hblk.cell 0
    have n1 := hblk.cell 1
    have n2 := hblk.cell 2
    have n3 := hblk.cell 3
    have n4 := hblk.cell 4
    have f4 := hblk.frozen 4
    have hgl := hblk.lt
    have HGM := Lib.hid hgm
    obtain ⟨qs, qh, ql, qn⟩ := q
    simp only [nodeCs] at n0 n1 n2 n3 n4 hq6
    simp at n0 n1 n2 n3 n4
    subst hq6
    change X.cell? sl = some (.pointer (some ⟨g, 0, none⟩)) at hs1
    clear hgm hblk hq
    have HEQ := Lib.hid (fun w => eqPV ⟨qs, qh, ql, qn⟩ ⟨qs, hi, lo, n⟩ w)
    by_cases he : (⟨qs, qh, ql, qn⟩ : PV) = ⟨qs, hi, lo, n⟩
    · injection he with _ a1 a2 a3
      subst a1
      subst a2
      subst a3
      have hop0 : Hid (hopAt (.node g ⟨qs, qh, ql, qn⟩ h l r) ⟨qs, qh, ql, qn⟩ = h) := by show _ = _; unfold hopAt; rw [if_pos rfl]
      have hput : Hid (putT ⟨qs, qh, ql, qn⟩ hop 0 0 (.node g ⟨qs, qh, ql, qn⟩ h l r) = .node g ⟨qs, qh, ql, qn⟩ hop l r) := by show _ = _; unfold putT; rw [if_pos rfl]
      by_cases h0 : h = 0
      · subst h0
        go_wp2
        go_quiet (fail)
        go_wp2
        go_ret
        refine ⟨ret_int (by rw [HR.out, hph.out, hop0.out]), put_fin 0 0 HR.out HON.out ?_, ((Kept.of_below (below_drewN HB.out _)).setCell (.inl HGM.out) _).setCell (.inl (by simp [tabBlocks])) _⟩
        rw [hop0.out, if_pos rfl, hput.out]
        exact (Tab.hop (HTX.out.below (below_drewN (Below.refl _ _) _)) HR.out hop).count _
      · have hn0 : (h == 0) = false := by simpa using h0
        have H0 := Lib.hid h0
        clear h0
        go_wp2
        go_quiet (fail)
        go_wp2
        go_ret
        refine ⟨ret_int (by rw [HR.out, hph.out, hop0.out]), put_fin 0 0 HR.out HON.out ?_, (Kept.of_below (below_drewN HB.out _)).setCell (.inl HGM.out) _⟩
        rw [hop0.out, if_neg H0.out, hput.out]
        exact Tab.hop (HTX.out.below (below_drewN (Below.refl _ _) _)) HR.out hop
    · have hov : PV.over ⟨qs, qh, ql, qn⟩ ⟨qs, hi, lo, n⟩ = false := by
        rcases hst with hx | hx
        · exact absurd hx he
        · exact hx
      have HNQ := Lib.hid he
      rw [decide_eq_false he] at HEQ
      unfold PV.val at HEQ
      simp only at HEQ
      have HEQ' := HEQ.out
      clear he hst
      have HCF := Lib.hid (com_facts HQ.out HP.out rfl)
      have HCL := Lib.hid (com_lt HQ.out HP.out rfl hov)
      have HCB := Lib.hid (com_bit HQ.out HP.out rfl)
      have HOV := Lib.hid hov
      have CC : Hid (∀ Z, Calls Try.prog 141 #[.agg #[.bool qs, .int .u64 qh, .int .u64 ql, .int .i64 qn], .agg #[.bool qs, .int .u64 hi, .int .u64 lo, .int .i64 n]] Z fun e w' => e = .returned (.tuple #[(PV.com ⟨qs, qh, ql, qn⟩ ⟨qs, hi, lo, n⟩).val, .int .i64 0]) ∧ Below Z.heap.size Z w') :=
        fun Z => common_ok qs qh ql qn hi lo n Z HQ.out HP.out (bothE_of HQ.out HP.out)
      have h6 : (PV.com ⟨qs, qh, ql, qn⟩ ⟨qs, hi, lo, n⟩).six = qs := rfl
      obtain ⟨cm, hcm⟩ : ∃ cm, PV.com ⟨qs, qh, ql, qn⟩ ⟨qs, hi, lo, n⟩ = cm := ⟨_, rfl⟩
      have HCM := Lib.hid hcm
      rw [hcm] at HCF HCL HCB CC h6
      obtain ⟨cs, ch, cl, cn⟩ := cm
      simp only at h6
      subst h6
      unfold PV.val at CC
      simp only at CC
      clear hcm hov
      go_wp2
      go_quiet (fail)
      obtain ⟨Y, hY⟩ : ∃ Y, X.drewN nq = Y := ⟨_, rfl⟩
      have HXY : Hid (Below X.heap.size X Y) := by show Below _ _ _; rw [← hY]; exact below_drewN (Below.refl _ _) _
      rw [hY]
      have HTY := Lib.hid (HTX.out.below HXY.out)
      have sy := HXY.out.size
      obtain ⟨cy, fy⟩ := bcell HXY.out
      have hs1y : Y.cell? sl = some (.pointer (some ⟨g, 0, none⟩)) := (HXY.out.cell hslt).trans hs1
      have hs2y : Y.frozen? sl = false := (HXY.out.frozen hslt).trans hs2
      have e0y := (cy w.heap.size 0 hsx).trans e0
      have e1y := (cy w.heap.size 1 hsx).trans e1
      have e2y := (cy w.heap.size 2 hsx).trans e2
      have e3y := (cy w.heap.size 3 hsx).trans e3
      have n0y := (cy g 0 hgl).trans n0
      have n1y := (cy g 1 hgl).trans n1
      have n2y := (cy g 2 hgl).trans n2
      have n3y := (cy g 3 hgl).trans n3
      have hcty := (cy tb 2 htb).trans hct
      have hcfy := (fy tb 2 htb).trans hcf
      have hsyw : w.heap.size < Y.heap.size := by omega
      have hsyg : g < Y.heap.size := by omega
      have hsyt : tb < Y.heap.size := by omega
      have hsys : sl.block < Y.heap.size := by omega
      have HBY := Lib.hid (below_step HB.out HXY.out)
      clear hY cy fy hs1 hs2 e0 e1 e2 e3 n0 n1 n2 n3 n4 f4 hct hcf hsf HBA hslt htb hsx hgl
      go_upto_region 3 with fail
      go_cut [10] (fun v wx => NewPfx Y ⟨cs, ch, cl, cn⟩ v wx)
      case first =>
        go_region_held3 (fun w' => (∀ b o, b < Y.heap.size → w'.cell? ⟨b, o, none⟩ = Y.cell? ⟨b, o, none⟩) ∧ Y.heap.size ≤ w'.heap.size ∧ Hid (Below Y.heap.size  Y w'))
          ((first | assumption | exact keep0 _ | (refine keepF ?_; (repeat' first | with_reducible exact HB3.out | with_reducible exact Below.refl _ _ | with_reducible refine Below.drew ?_ | with_reducible refine below_drewN ?_ _ | with_reducible refine Below.setCell ?_ ?_ _ | with_reducible refine Below.alloc ?_ ?_ _ | exact HB3.out.size | (simp; done) | (simp; have := HB3.out.size; omega) | (simp; omega)); done)))
          (first | (go_at_call 141; refine (CC.out _).mono ?_; rintro e w3 ⟨rfl, hb3⟩; obtain ⟨fc3, ff3⟩ := bcell hb3; have hz3 := hb3.size; have HB3 : Hid (Below Y.heap.size Y w3) := (keepBelow (by assumption)).trans (hb3.mono (keepSize (by assumption)))))
        all_goals
          go_wp2_with fail
          go_meet
          first
            | with_reducible exact newPfx_A HB3.out
            | exact newPfx_B hb3 rfl HB3.out
      case rest =>
        generalize wc = V at *
        obtain ⟨b1, rfl, hb1, hbk, hbw⟩ := hcut
        have c0 := hbk.cell 0
        have c1 := hbk.cell 1
        have c2 := hbk.cell 2
        have c3 := hbk.cell 3
        simp at c0 c1 c2 c3
        obtain ⟨cy, fy⟩ := bcell hbw
        have HTW := Lib.hid (HTY.out.below hbw)
        have HBW := Lib.hid hbw
        have sw := hbw.size
        have e0w := (cy w.heap.size 0 hsyw).trans e0y
        have e1w := (cy w.heap.size 1 hsyw).trans e1y
        have e2w := (cy w.heap.size 2 hsyw).trans e2y
        have e3w := (cy w.heap.size 3 hsyw).trans e3y
        have n0w := (cy g 0 hsyg).trans n0y
        have n1w := (cy g 1 hsyg).trans n1y
        have n2w := (cy g 2 hsyg).trans n2y
        have n3w := (cy g 3 hsyg).trans n3y
        have hctw := (cy tb 2 hsyt).trans hcty
        have hcfw := (fy tb 2 hsyt).trans hcfy
        have hs1w : V.cell? sl = some (.pointer (some ⟨g, 0, none⟩)) := (HBW.out.cell hsys).trans hs1y
        have hs2w : V.frozen? sl = false := (HBW.out.frozen hsys).trans hs2y
        have hwb : w.heap.size < V.heap.size := by omega
        have hwg : g < V.heap.size := by omega
        have hwt : tb < V.heap.size := by omega
        have hws : sl.block < V.heap.size := by omega
        have hrc := ok_n HCF.out.1
        try simp only at hrc
        have hcl := HCL.out
        try simp only at hcl
        have hcqn := (ok_n HQ.out).2
        try simp only at hcqn
        have rq1 := Pfx.rhi HQ.out
        have rq2 := Pfx.rlo HQ.out
        have rp1 := Pfx.rhi HP.out
        have rp2 := Pfx.rlo HP.out
        try simp only at rq1 rq2 rp1 rp2
        have CB0 := Lib.hid (fun w => at_any cs qh ql cn w rq1 rq2 hrc.1 (by omega))
        have CP0 := Lib.hid (fun w (h : cn < n) => at_any cs hi lo cn w rp1 rp2 hrc.1 (by have := (ok_n HP.out).2; simp only at this; omega))
        have HQB : Hid (PV.bit ⟨cs, qh, ql, qn⟩ cn = bitI cs qh ql cn) := Eq.refl _
        obtain ⟨bv, hbv⟩ : ∃ bv, bitI cs qh ql cn = bv := ⟨_, rfl⟩
        have hb01 : bv = 0 ∨ bv = 1 := by rw [← hbv]; exact PV.bit01 ⟨cs, qh, ql, qn⟩ cn
        rw [hbv] at CB0 HQB
        clear hbv hbk hbw cy fy rq1 rq2 rp1 rp2 hcqn hcl sw e0y e1y e2y e3y n0y n1y n2y n3y hcty hcfy hs1y hs2y hsyw hsyg hsyt hsys
        rcases hb01 with rfl | rfl
        · have CB := Lib.hid CB0.out
          have HZ : Hid (Below V.heap.size V V) := Below.refl _ _
          go_wp2
          go_region_held3 (fun w' => (∀ b o, b < V.heap.size → w'.cell? ⟨b, o, none⟩ = V.cell? ⟨b, o, none⟩) ∧ V.heap.size ≤ w'.heap.size ∧ Hid (Below V.heap.size V w'))
            ((first | assumption | exact keep0 _ | (refine keepF ?_; (repeat' first | with_reducible exact HB5.out | with_reducible exact HZ.out | with_reducible exact Below.refl _ _ | with_reducible refine Below.drew ?_ | with_reducible refine below_drewN ?_ _ | with_reducible refine Below.setCell ?_ ?_ _ | with_reducible refine Below.alloc ?_ ?_ _ | exact HB5.out.size | exact HZ.out.size | (simp; done) | (simp; have := HB5.out.size; omega) | (simp; have := HZ.out.size; omega) | (simp; omega)); done)))
            (first | (go_at_call 132; refine (CB.out _).mono ?_; rintro e w5 ⟨rfl, hb5⟩; obtain ⟨fc5, ff5⟩ := bcell hb5; have hz5 := hb5.size; have HB5 : Hid (Below V.heap.size V w5) := (keepBelow (by assumption)).trans (hb5.mono (keepSize (by assumption)))))
          obtain ⟨Z, hZ⟩ : ∃ Z, w5.setCell ⟨V.heap.size, 5, none⟩ (.pointer (some ⟨g, 0, none⟩)) = Z := ⟨_, rfl⟩
          have hfz := forkZ hb5 rfl HB5.out 5 (.pointer (some ⟨g, 0, none⟩))
          rw [hZ] at hfz
          rw [hZ]
          have hsz5 : V.heap.size < Z.heap.size := hfz.1.lt
          clear hZ fc5 ff5 hz5 hb5 HB5 HZ
          obtain ⟨hkz, hbz⟩ := hfz
          have hkz : Blk Z V.heap.size 193 (nodeCs ⟨cs, ch, cl, cn⟩ 0 (.pointer (some ⟨g, 0, none⟩)) (.pointer none)) := hkz
          have HKZ := Lib.hid hkz
          have HZ := Lib.hid hbz
          obtain ⟨cz, fz⟩ := bcell hbz
          have c0z := (cz b1 0 hb1).trans c0
          have c1z := (cz b1 1 hb1).trans c1
          have c2z := (cz b1 2 hb1).trans c2
          have c3z := (cz b1 3 hb1).trans c3
          have e0z := (cz w.heap.size 0 hwb).trans e0w
          have e1z := (cz w.heap.size 1 hwb).trans e1w
          have e2z := (cz w.heap.size 2 hwb).trans e2w
          have e3z := (cz w.heap.size 3 hwb).trans e3w
          have hctz := (cz tb 2 hwt).trans hctw
          have hcfz := (fz tb 2 hwt).trans hcfw
          have hs1z : Z.cell? sl = some (.pointer (some ⟨g, 0, none⟩)) := (HZ.out.cell hws).trans hs1w
          have hs2z : Z.frozen? sl = false := (HZ.out.frozen hws).trans hs2w
          have kz4 := hkz.cell 4
          have kf4 := hkz.frozen 4
          simp [nodeCs] at kz4
          have hsl4 : ¬ sl = ⟨V.heap.size, 4, none⟩ := fun hx => by rw [hx] at hws; simp at hws
          have hsl4' : ¬ (⟨V.heap.size, 4, none⟩ : Addr) = sl := fun hx => hsl4 hx.symm
          have hzz : Hid (Below Y.heap.size Y Z) := HBW.out.trans (HZ.out.mono HBW.out.size)
          clear cz fz hkz hbz
          have HCP := fun w => eqPV ⟨cs, ch, cl, cn⟩ ⟨cs, hi, lo, n⟩ w
          by_cases hcp : (⟨cs, ch, cl, cn⟩ : PV) = ⟨cs, hi, lo, n⟩
          · have hput : Hid (putT ⟨cs, hi, lo, n⟩ hop V.heap.size 0 (.node g ⟨cs, qh, ql, qn⟩ h l r) = node2 V.heap.size ⟨cs, hi, lo, n⟩ hop 0 (.node g ⟨cs, qh, ql, qn⟩ h l r) .nil) := by
              show _ = _
              unfold putT
              rw [if_neg HNQ.out, if_pos HOV.out]
              unfold forkT
              rw [HCM.out, if_pos hcp, HQB.out]
            have hop0 : Hid (hopAt (.node g ⟨cs, qh, ql, qn⟩ h l r) ⟨cs, hi, lo, n⟩ = 0) := by show _ = _; unfold hopAt; rw [if_neg HNQ.out, if_pos HOV.out]
            rw [decide_eq_true hcp] at HCP
            injection hcp with _ a1 a2 a3
            subst a1
            subst a2
            subst a3
            unfold PV.val at HCP
            simp only at HCP
            go_wp2
            go_ret
            refine ⟨ret_int (by rw [HR.out, hph.out, hop0.out]), put_fin V.heap.size 0 HR.out HON.out ?_, ((((Kept.of_below (HBY.out.trans (hzz.out.mono HBY.out.size))).setCell (.inr (by show _ ≤ _; simp; omega)) _).setCell (.inl (by rw [← HSL.out]; exact HS3.out)) _).setCell (.inl (by simp [tabBlocks])) _)⟩
            rw [hop0.out, if_pos rfl, hput.out, ← HSL.out]
            exact (tab_fork (extra := Tr.nil) HTY.out HR.out (hzz.out.setCell (HBW.out.size) _) HBW.out.size (HKZ.out.set_ 4 _) trivial (by simp [Tr.blocks]) (by simp [Tr.blocks])).count _
          · have hltn : cn < n := by
              rcases Int.lt_or_le cn n with hx | hx
              · exact hx
              · exact absurd (over_eq HCF.out.1 HP.out HCF.out.2.2.2.2.1 hx) hcp
            have hpb : Hid (bitI cs hi lo cn = 1) := by
              have h1 := HCB.out HCL.out hltn
              have h2 := PV.bit01 ⟨cs, hi, lo, n⟩ cn
              have h3 := HQB.out
              try simp only at h1
              show PV.bit ⟨cs, hi, lo, n⟩ cn = 1
              omega
            have CPB := Lib.hid (fun w => CP0.out w hltn)
            rw [hpb.out] at CPB
            rw [decide_eq_false hcp] at HCP
            have HNC := Lib.hid hcp
            unfold PV.val at HCP
            simp only at HCP
            clear hcp
            have kz6 := HKZ.out.cell 6
            have kf6 := HKZ.out.frozen 6
            simp [nodeCs] at kz6
            go_upto_region 8 with fail
            go_cut [60] (fun _ wx => NewKid V V.heap.size (fun v => (nodeCs ⟨cs, ch, cl, cn⟩ 0 (.pointer (some ⟨g, 0, none⟩)) (.pointer none)).setIfInBounds 6 v) ⟨cs, hi, lo, n⟩ hop wx)
            case first =>
              go_region_held3 (fun w' => (∀ b o, b < V.heap.size → w'.cell? ⟨b, o, none⟩ = V.cell? ⟨b, o, none⟩) ∧ V.heap.size ≤ w'.heap.size ∧ Hid (Below V.heap.size V w'))
                ((first | assumption | exact keep0 _ | (refine keepF ?_; (repeat' first | with_reducible exact HB6.out | with_reducible exact HZ.out | with_reducible exact Below.refl _ _ | with_reducible refine Below.drew ?_ | with_reducible refine below_drewN ?_ _ | with_reducible refine Below.setCell ?_ ?_ _ | with_reducible refine Below.alloc ?_ ?_ _ | exact HB6.out.size | exact HZ.out.size | (simp; done) | (simp; have := HB6.out.size; omega) | (simp; have := HZ.out.size; omega) | (simp; omega)); done)))
                (first | (go_at_call 132; refine (CPB.out _).mono ?_; rintro e w6 ⟨rfl, hb6⟩; obtain ⟨fc6, ff6⟩ := bcell hb6; have hz6 := hb6.size; have hg6 : V.heap.size < w6.heap.size := Nat.lt_of_lt_of_le hsz5 (Nat.le_trans (by simp) hb6.size); have hg7 : ¬ V.heap.size = w6.heap.size := Nat.ne_of_lt hg6; have hg8 : ¬ w6.heap.size = V.heap.size := fun hx => hg7 hx.symm; have kz7 : w6.cell? ⟨V.heap.size, 6, none⟩ = some (.pointer none) := (fc6 _ _ (Nat.lt_of_lt_of_le hsz5 (by simp))).trans (by first | exact kz6 | exact (((Below.refl Z.heap.size Z).alloc (Nat.le_refl _) _).cell (p := ⟨V.heap.size, 6, none⟩) hsz5).trans kz6); have kf7 : w6.frozen? ⟨V.heap.size, 6, none⟩ = false := (ff6 _ _ (Nat.lt_of_lt_of_le hsz5 (by simp))).trans (by first | exact kf6 | exact (((Below.refl Z.heap.size Z).alloc (Nat.le_refl _) _).frozen (p := ⟨V.heap.size, 6, none⟩) hsz5).trans kf6); have HB6 : Hid (Below V.heap.size V w6) := (keepBelow (by assumption)).trans (hb6.mono (keepSize (by assumption)))))
              all_goals
                go_wp2_with fail
                go_meet
                first
                  | ((with_reducible refine newKid_B hb6 ?_ rfl rfl hsz5 HKZ.out HZ.out HB6.out); rfl)
                  | ((with_reducible refine newKid_A hb6 ?_ rfl rfl hsz5 HKZ.out HB6.out); rfl)
            case rest =>
              obtain ⟨G2, hg2, hg12, hk2, hk1, hbx⟩ := hcut
              have HK2 := Lib.hid hk2
              have HK1 := Lib.hid hk1
              have HX := Lib.hid hbx
              obtain ⟨cx, fx⟩ := bcell hbx
              have hctx := (cx tb 2 hwt).trans hctw
              have hcfx := (fx tb 2 hwt).trans hcfw
              have hs1x : wc.cell? sl = some (.pointer (some ⟨g, 0, none⟩)) := (HX.out.cell hws).trans hs1w
              have hs2x : wc.frozen? sl = false := (HX.out.frozen hws).trans hs2w
              have hput : Hid (putT ⟨cs, hi, lo, n⟩ hop V.heap.size G2 (.node g ⟨cs, qh, ql, qn⟩ h l r) = node2 V.heap.size ⟨cs, ch, cl, cn⟩ 0 0 (.node g ⟨cs, qh, ql, qn⟩ h l r) (.node G2 ⟨cs, hi, lo, n⟩ hop .nil .nil)) := by
                show _ = _
                unfold putT
                rw [if_neg HNQ.out, if_pos HOV.out]
                unfold forkT
                rw [HCM.out, if_neg HNC.out, HQB.out]
              have hop0 : Hid (hopAt (.node g ⟨cs, qh, ql, qn⟩ h l r) ⟨cs, hi, lo, n⟩ = 0) := by show _ = _; unfold hopAt; rw [if_neg HNQ.out, if_pos HOV.out]
              have hyx : Hid (Below Y.heap.size Y wc) := HBW.out.trans (HX.out.mono HBW.out.size)
              have hbs := HBW.out.size
              clear hk2 hk1 hbx cx fx hs1z hs2z hctz hcfz hs1w hs2w hctw hcfw
              go_wp2
              go_ret
              refine ⟨ret_int (by rw [HR.out, hph.out, hop0.out]), put_fin V.heap.size G2 HR.out HON.out ?_, (((Kept.of_below (HBY.out.trans (hyx.out.mono HBY.out.size))).setCell (.inl (by rw [← HSL.out]; exact HS3.out)) _).setCell (.inl (by simp [tabBlocks])) _)⟩
              rw [hop0.out, if_pos rfl, hput.out, ← HSL.out]
              refine Tab.count (tab_fork (p1 := ⟨cs, ch, cl, cn⟩) (h1 := 0) (b := 0) (extra := Tr.node G2 ⟨cs, hi, lo, n⟩ hop .nil .nil) HTY.out HR.out hyx.out HBW.out.size HK1.out ⟨?_, HK2.out, trivial, trivial⟩ (fun g' hg' => ?_) (by simp [Tr.blocks])) _
              · have := HTY.out.base
                have := HTY.out.blk.lt
                omega
              · simp [Tr.blocks] at hg'
                subst hg'
                exact ⟨by omega, fun hx => hg12 hx.symm⟩
        · have CB := Lib.hid CB0.out
          have HZ : Hid (Below V.heap.size V V) := Below.refl _ _
          go_wp2
          go_region_held3 (fun w' => (∀ b o, b < V.heap.size → w'.cell? ⟨b, o, none⟩ = V.cell? ⟨b, o, none⟩) ∧ V.heap.size ≤ w'.heap.size ∧ Hid (Below V.heap.size V w'))
            ((first | assumption | exact keep0 _ | (refine keepF ?_; (repeat' first | with_reducible exact HB5.out | with_reducible exact HZ.out | with_reducible exact Below.refl _ _ | with_reducible refine Below.drew ?_ | with_reducible refine below_drewN ?_ _ | with_reducible refine Below.setCell ?_ ?_ _ | with_reducible refine Below.alloc ?_ ?_ _ | exact HB5.out.size | exact HZ.out.size | (simp; done) | (simp; have := HB5.out.size; omega) | (simp; have := HZ.out.size; omega) | (simp; omega)); done)))
            (first | (go_at_call 132; refine (CB.out _).mono ?_; rintro e w5 ⟨rfl, hb5⟩; obtain ⟨fc5, ff5⟩ := bcell hb5; have hz5 := hb5.size; have HB5 : Hid (Below V.heap.size V w5) := (keepBelow (by assumption)).trans (hb5.mono (keepSize (by assumption)))))
          obtain ⟨Z, hZ⟩ : ∃ Z, w5.setCell ⟨V.heap.size, 6, none⟩ (.pointer (some ⟨g, 0, none⟩)) = Z := ⟨_, rfl⟩
          have hfz := forkZ hb5 rfl HB5.out 6 (.pointer (some ⟨g, 0, none⟩))
          rw [hZ] at hfz
          rw [hZ]
          have hsz5 : V.heap.size < Z.heap.size := hfz.1.lt
          clear hZ fc5 ff5 hz5 hb5 HB5 HZ
          obtain ⟨hkz, hbz⟩ := hfz
          have hkz : Blk Z V.heap.size 193 (nodeCs ⟨cs, ch, cl, cn⟩ 0 (.pointer none) (.pointer (some ⟨g, 0, none⟩))) := hkz
          have HKZ := Lib.hid hkz
          have HZ := Lib.hid hbz
          obtain ⟨cz, fz⟩ := bcell hbz
          have c0z := (cz b1 0 hb1).trans c0
          have c1z := (cz b1 1 hb1).trans c1
          have c2z := (cz b1 2 hb1).trans c2
          have c3z := (cz b1 3 hb1).trans c3
          have e0z := (cz w.heap.size 0 hwb).trans e0w
          have e1z := (cz w.heap.size 1 hwb).trans e1w
          have e2z := (cz w.heap.size 2 hwb).trans e2w
          have e3z := (cz w.heap.size 3 hwb).trans e3w
          have hctz := (cz tb 2 hwt).trans hctw
          have hcfz := (fz tb 2 hwt).trans hcfw
          have hs1z : Z.cell? sl = some (.pointer (some ⟨g, 0, none⟩)) := (HZ.out.cell hws).trans hs1w
          have hs2z : Z.frozen? sl = false := (HZ.out.frozen hws).trans hs2w
          have kz4 := hkz.cell 4
          have kf4 := hkz.frozen 4
          simp [nodeCs] at kz4
          have hsl4 : ¬ sl = ⟨V.heap.size, 4, none⟩ := fun hx => by rw [hx] at hws; simp at hws
          have hsl4' : ¬ (⟨V.heap.size, 4, none⟩ : Addr) = sl := fun hx => hsl4 hx.symm
          have hzz : Hid (Below Y.heap.size Y Z) := HBW.out.trans (HZ.out.mono HBW.out.size)
          clear cz fz hkz hbz
          have HCP := fun w => eqPV ⟨cs, ch, cl, cn⟩ ⟨cs, hi, lo, n⟩ w
          by_cases hcp : (⟨cs, ch, cl, cn⟩ : PV) = ⟨cs, hi, lo, n⟩
          · have hput : Hid (putT ⟨cs, hi, lo, n⟩ hop V.heap.size 0 (.node g ⟨cs, qh, ql, qn⟩ h l r) = node2 V.heap.size ⟨cs, hi, lo, n⟩ hop 1 (.node g ⟨cs, qh, ql, qn⟩ h l r) .nil) := by
              show _ = _
              unfold putT
              rw [if_neg HNQ.out, if_pos HOV.out]
              unfold forkT
              rw [HCM.out, if_pos hcp, HQB.out]
            have hop0 : Hid (hopAt (.node g ⟨cs, qh, ql, qn⟩ h l r) ⟨cs, hi, lo, n⟩ = 0) := by show _ = _; unfold hopAt; rw [if_neg HNQ.out, if_pos HOV.out]
            rw [decide_eq_true hcp] at HCP
            injection hcp with _ a1 a2 a3
            subst a1
            subst a2
            subst a3
            unfold PV.val at HCP
            simp only at HCP
            go_wp2
            go_ret
            refine ⟨ret_int (by rw [HR.out, hph.out, hop0.out]), put_fin V.heap.size 0 HR.out HON.out ?_, ((((Kept.of_below (HBY.out.trans (hzz.out.mono HBY.out.size))).setCell (.inr (by show _ ≤ _; simp; omega)) _).setCell (.inl (by rw [← HSL.out]; exact HS3.out)) _).setCell (.inl (by simp [tabBlocks])) _)⟩
            rw [hop0.out, if_pos rfl, hput.out, ← HSL.out]
            exact (tab_fork (extra := Tr.nil) HTY.out HR.out (hzz.out.setCell (HBW.out.size) _) HBW.out.size (HKZ.out.set_ 4 _) trivial (by simp [Tr.blocks]) (by simp [Tr.blocks])).count _
          · have hltn : cn < n := by
              rcases Int.lt_or_le cn n with hx | hx
              · exact hx
              · exact absurd (over_eq HCF.out.1 HP.out HCF.out.2.2.2.2.1 hx) hcp
            have hpb : Hid (bitI cs hi lo cn = 0) := by
              have h1 := HCB.out HCL.out hltn
              have h2 := PV.bit01 ⟨cs, hi, lo, n⟩ cn
              have h3 := HQB.out
              try simp only at h1
              show PV.bit ⟨cs, hi, lo, n⟩ cn = 0
              omega
            have CPB := Lib.hid (fun w => CP0.out w hltn)
            rw [hpb.out] at CPB
            rw [decide_eq_false hcp] at HCP
            have HNC := Lib.hid hcp
            unfold PV.val at HCP
            simp only at HCP
            clear hcp
            have kz6 := HKZ.out.cell 5
            have kf6 := HKZ.out.frozen 5
            simp [nodeCs] at kz6
            go_upto_region 8 with fail
            go_cut [60] (fun _ wx => NewKid V V.heap.size (fun v => (nodeCs ⟨cs, ch, cl, cn⟩ 0 (.pointer none) (.pointer (some ⟨g, 0, none⟩))).setIfInBounds 5 v) ⟨cs, hi, lo, n⟩ hop wx)
            case first =>
              go_region_held3 (fun w' => (∀ b o, b < V.heap.size → w'.cell? ⟨b, o, none⟩ = V.cell? ⟨b, o, none⟩) ∧ V.heap.size ≤ w'.heap.size ∧ Hid (Below V.heap.size V w'))
                ((first | assumption | exact keep0 _ | (refine keepF ?_; (repeat' first | with_reducible exact HB6.out | with_reducible exact HZ.out | with_reducible exact Below.refl _ _ | with_reducible refine Below.drew ?_ | with_reducible refine below_drewN ?_ _ | with_reducible refine Below.setCell ?_ ?_ _ | with_reducible refine Below.alloc ?_ ?_ _ | exact HB6.out.size | exact HZ.out.size | (simp; done) | (simp; have := HB6.out.size; omega) | (simp; have := HZ.out.size; omega) | (simp; omega)); done)))
                (first | (go_at_call 132; refine (CPB.out _).mono ?_; rintro e w6 ⟨rfl, hb6⟩; obtain ⟨fc6, ff6⟩ := bcell hb6; have hz6 := hb6.size; have hg6 : V.heap.size < w6.heap.size := Nat.lt_of_lt_of_le hsz5 (Nat.le_trans (by simp) hb6.size); have hg7 : ¬ V.heap.size = w6.heap.size := Nat.ne_of_lt hg6; have hg8 : ¬ w6.heap.size = V.heap.size := fun hx => hg7 hx.symm; have kz7 : w6.cell? ⟨V.heap.size, 5, none⟩ = some (.pointer none) := (fc6 _ _ (Nat.lt_of_lt_of_le hsz5 (by simp))).trans (by first | exact kz6 | exact (((Below.refl Z.heap.size Z).alloc (Nat.le_refl _) _).cell (p := ⟨V.heap.size, 5, none⟩) hsz5).trans kz6); have kf7 : w6.frozen? ⟨V.heap.size, 5, none⟩ = false := (ff6 _ _ (Nat.lt_of_lt_of_le hsz5 (by simp))).trans (by first | exact kf6 | exact (((Below.refl Z.heap.size Z).alloc (Nat.le_refl _) _).frozen (p := ⟨V.heap.size, 5, none⟩) hsz5).trans kf6); have HB6 : Hid (Below V.heap.size V w6) := (keepBelow (by assumption)).trans (hb6.mono (keepSize (by assumption)))))
              all_goals
                go_wp2_with fail
                go_meet
                first
                  | ((with_reducible refine newKid_B hb6 ?_ rfl rfl hsz5 HKZ.out HZ.out HB6.out); rfl)
                  | ((with_reducible refine newKid_A hb6 ?_ rfl rfl hsz5 HKZ.out HB6.out); rfl)
            case rest =>
              obtain ⟨G2, hg2, hg12, hk2, hk1, hbx⟩ := hcut
              have HK2 := Lib.hid hk2
              have HK1 := Lib.hid hk1
              have HX := Lib.hid hbx
              obtain ⟨cx, fx⟩ := bcell hbx
              have hctx := (cx tb 2 hwt).trans hctw
              have hcfx := (fx tb 2 hwt).trans hcfw
              have hs1x : wc.cell? sl = some (.pointer (some ⟨g, 0, none⟩)) := (HX.out.cell hws).trans hs1w
              have hs2x : wc.frozen? sl = false := (HX.out.frozen hws).trans hs2w
              have hput : Hid (putT ⟨cs, hi, lo, n⟩ hop V.heap.size G2 (.node g ⟨cs, qh, ql, qn⟩ h l r) = node2 V.heap.size ⟨cs, ch, cl, cn⟩ 0 1 (.node g ⟨cs, qh, ql, qn⟩ h l r) (.node G2 ⟨cs, hi, lo, n⟩ hop .nil .nil)) := by
                show _ = _
                unfold putT
                rw [if_neg HNQ.out, if_pos HOV.out]
                unfold forkT
                rw [HCM.out, if_neg HNC.out, HQB.out]
              have hop0 : Hid (hopAt (.node g ⟨cs, qh, ql, qn⟩ h l r) ⟨cs, hi, lo, n⟩ = 0) := by show _ = _; unfold hopAt; rw [if_neg HNQ.out, if_pos HOV.out]
              have hyx : Hid (Below Y.heap.size Y wc) := HBW.out.trans (HX.out.mono HBW.out.size)
              have hbs := HBW.out.size
              clear hk2 hk1 hbx cx fx hs1z hs2z hctz hcfz hs1w hs2w hctw hcfw
              go_wp2
              go_ret
              refine ⟨ret_int (by rw [HR.out, hph.out, hop0.out]), put_fin V.heap.size G2 HR.out HON.out ?_, (((Kept.of_below (HBY.out.trans (hyx.out.mono HBY.out.size))).setCell (.inl (by rw [← HSL.out]; exact HS3.out)) _).setCell (.inl (by simp [tabBlocks])) _)⟩
              rw [hop0.out, if_pos rfl, hput.out, ← HSL.out]
              refine Tab.count (tab_fork (p1 := ⟨cs, ch, cl, cn⟩) (h1 := 0) (b := 1) (extra := Tr.node G2 ⟨cs, hi, lo, n⟩ hop .nil .nil) HTY.out HR.out hyx.out HBW.out.size HK1.out ⟨?_, HK2.out, trivial, trivial⟩ (fun g' hg' => ?_) (by simp [Tr.blocks])) _
              · have := HTY.out.base
                have := HTY.out.blk.lt
                omega
              · simp [Tr.blocks] at hg'
                subst hg'
                exact ⟨by omega, fun hx => hg12 hx.symm⟩

end Go.Proofs.Ytmljdjakbbedlaa

namespace Go.Proofs.Ytmljdjakbbedlaa
open Go.ChangeShapes Go.WideShapes Go.ChangeAt Go.RowKit

def NoteCs (a : Int × Int) : Array Value := #[.int .i64 0, .int .i64 a.1, .int .i64 a.2]

set_option maxHeartbeats 400000 in
theorem note_any (g ob : Nat) (q : PV) (h : Int) (a b : Value) (acc : Int × Int) (w : World) (hne1 : ¬ g = ob) (hg : Blk w g 193 (nodeCs q h a b)) (ho : Blk w ob 38 (NoteCs acc)) :
    Calls Try.prog 105 #[.pointer (some ⟨g, 0, none⟩), .pointer (some ⟨ob, 0, none⟩)] w fun e w' => e = .returned (.tuple #[]) ∧ Blk w' ob 38 (NoteCs (if h = 0 then acc else (h, q.n))) ∧ Kept [ob] w w' := by
  obtain ⟨qs, qh, ql, qn⟩ := q
  have n3 := hg.cell 3
  have n4 := hg.cell 4
  have o0 := ho.cell 0
  have o1 := ho.cell 1
  have o2 := ho.cell 2
  have f0 := ho.frozen 0
  have f1 := ho.frozen 1
  have f2 := ho.frozen 2
  simp [nodeCs, NoteCs] at n3 n4 o0 o1 o2
  have HO := Lib.hid ho
  clear hg ho
  by_cases h0 : h = 0
  · subst h0
    go_enter Try.func105, Try.ntmps105
    go_wp2
    refine bodyPost_end (results_none rfl _ _ _) rfl ?_
    exact ⟨rfl, HO.out, Kept.of_below (Below.refl _ _)⟩
  · have hne2 : ¬ ob = g := fun h => hne1 h.symm
    have hne : (h != 0) = true := by simpa using h0
    have HH := Lib.hid h0
    clear h0
    go_enter Try.func105, Try.ntmps105
    go_wp2
    go_region
    refine bodyPost_end (results_none rfl _ _ _) rfl ?_
    refine ⟨rfl, ?_, ?_⟩
    · rw [if_neg HH.out]
      have := (((((HO.out.set_ 0 (.int .i64 0)).set_ 1 (.int .i64 0)).set_ 2 (.int .i64 0)).set_ 1 (.int .i64 h)).set_ 2 (.int .i64 qn)).drew
      simpa [NoteCs] using this
    · exact (((((((Kept.of_below (Below.refl _ _)).setCell (.inl (by simp)) _).setCell (.inl (by simp)) _).setCell (.inl (by simp)) _).setCell (.inl (by simp)) _).setCell (.inl (by simp)) _).then_below (Below.refl _ _).drew)

theorem Kept.cellK {S : List Nat} {w w' : World} (h : Kept S w w') {p : Addr} (hp : p.block < w.heap.size) (hS : p.block ∉ S) : w'.cell? p = w.cell? p := World.cell?_of_block (h.block _ hp hS)
theorem Kept.trans {S : List Nat} {w w1 w2 : World} (h : Kept S w w1) (h' : Kept S w1 w2) : Kept S w w2 :=
  ⟨h'.os.trans h.os, h'.tape.trans h.tape, h'.output.trans h.output, Nat.le_trans h.size h'.size, fun k hk hS => (h'.block k (by have := h.size; omega) hS).trans (h.block k hk hS)⟩

def PlaceNote (w : World) (tb : Nat) (R : Bool → Tr) (p : PV) (ob : Nat) (e : Ending) (w' : World) : Prop :=
  ∃ (C : Ctx) (cur : Tr) (acc : Int × Int), R p.six = C.plug cur ∧ C.OnPath p ∧ Stop p cur ∧ e = .returned (.pointer (some (C.slot tb p.six))) ∧ Kept [ob] w w' ∧ Blk w' ob 38 (NoteCs acc) ∧ lookT p (R p.six) (0, 0) = lookT p cur acc
/-- Where the search stands, with what was noted. -/
def AtN (tb : Nat) (R : Bool → Tr) (p : PV) (ob k : Nat) (v : Value) (w : World) : Prop :=
  ∃ (C : Ctx) (cur : Tr) (acc : Int × Int), R p.six = C.plug cur ∧ C.OnPath p ∧ cur.size ≤ k ∧ v = .pointer (some (C.slot tb p.six)) ∧ Blk w ob 38 (NoteCs acc) ∧ lookT p (R p.six) (0, 0) = lookT p cur acc

theorem look_left {p q : PV} {g : Nat} {h : Int} {l r : Tr} {acc : Int × Int} (h1 : ¬ q = p) (h2 : q.over p = true) (h3 : p.bit q.n = 0) : lookT p (.node g q h l r) acc = lookT p l (if h = 0 then acc else (h, q.n)) := by
  conv => lhs; unfold lookT
  rw [if_neg (by simp [h2]), if_neg h1, if_pos h3]
theorem look_right {p q : PV} {g : Nat} {h : Int} {l r : Tr} {acc : Int × Int} (h1 : ¬ q = p) (h2 : q.over p = true) (h3 : ¬ p.bit q.n = 0) : lookT p (.node g q h l r) acc = lookT p r (if h = 0 then acc else (h, q.n)) := by
  conv => lhs; unfold lookT
  rw [if_neg (by simp [h2]), if_neg h1, if_neg h3]

set_option maxRecDepth 100000 in
set_option maxHeartbeats 1600000 in
theorem place_note {w : World} {B tb ob : Nat} {R : Bool → Tr} {c : Int} (h : Tab w B tb R c) (p : PV) (hp : p.Ok) (hI : ∀ s, Inv s (fun _ => True) (R s)) (hob : ob ∉ tabBlocks tb R) (hbo : Blk w ob 38 (NoteCs (0, 0))) :
    Calls Try.prog 106 #[.pointer (some ⟨tb, 0, none⟩), p.val, .func (.func 105) #[] #[.pointer (some ⟨ob, 0, none⟩)]] w (PlaceNote w tb R p ob) := by
  have HT := Lib.hid h
  have HP := Lib.hid hp
  have HI := Lib.hid hI
  have hRt := Lib.hid (fun w => root_any p tb w)
  obtain ⟨six, hi, lo, n⟩ := p
  have hrng := hp
  unfold PV.Ok at hrng
  simp only at hrng
  have r1 := hrng.rhi
  have r2 := hrng.rlo
  have hm5 := Lib.hid (fun hs : six = false => by have := hrng.may; rw [hs] at this; exact (mayB_four this).2 : six = false → lo < 4294967296)
  have hlen := hrng.len
  have hwl := wideI_le six
  clear h hp hI hrng
  have hnf : ∀ (caps : Array Value) (w : World), (binOp .neq 194 (.func (.func 105) #[] caps) .nilFunc).run Try.prog w = .ok (.bool true) w := fun _ _ => by kernel_rfl
  have hent : ∀ (args : Array Value) (w : World), (callFunc 105 args).run Try.prog w = .ok (.enter 105 args) w := fun args w => by kernel_rfl
  have HOB := Lib.hid hob
  have HBO0 := Lib.hid hbo
  have hobl := hbo.lt
  clear hob hbo
  unfold PV.val at hRt ⊢
  simp only at hRt ⊢
  go_enter Try.func106, Try.ntmps106
  go_wp2_with fail
  refine (hRt.out _).mono ?_
  rintro e X ⟨rfl, hb⟩
  obtain ⟨HBX, hsx, hbx⟩ := box1 (cs := [.bool six, .int .u64 hi, .int .u64 lo, .int .i64 n]) hb
  have e0 := hbx 0 _ rfl
  have e1 := hbx 1 _ rfl
  have e2 := hbx 2 _ rfl
  have e3 := hbx 3 _ rfl
  have HTX := Lib.hid (HT.out.below HBX)
  have HBO := Lib.hid (HBO0.out.below HBX hobl)
  have hobx : ob < X.heap.size := HBO.out.lt
  have hnob : w.heap.size ∉ [ob] := by simp; omega
  have HB := Lib.hid HBX
  clear hb hbx HBX
  go_wp2
  go_loopg [7, 8] (R six).size (fun k at_ _ wr => AtN tb R ⟨six, hi, lo, n⟩ ob k at_ wr ∧ Kept [ob] X wr)
  case atStart => exact ⟨⟨.top, R six, (0, 0), rfl, trivial, Nat.le_refl _, rfl, HBO.out, rfl⟩, Kept.of_below (Below.refl _ _)⟩
  case round =>
    obtain ⟨⟨C, cur, acc, hR, hon, hsz, rfl, hbn, hlk⟩, hb⟩ := hrel
    have hTW := HTX.out.keep (fun g hg => hb.block g (HTX.out.lt g hg).2 (by simp; intro he; subst he; exact HOB.out hg))
    have HTW := Lib.hid hTW
    have hs := (hTW.slot hR).1
    have HBN := Lib.hid hbn
    have HLK := Lib.hid hlk
    clear hbn hlk hTW
    have q0 := (hb.cellK (p := ⟨w.heap.size, 0, none⟩) hsx hnob).trans e0
    have q1 := (hb.cellK (p := ⟨w.heap.size, 1, none⟩) hsx hnob).trans e1
    have q2 := (hb.cellK (p := ⟨w.heap.size, 2, none⟩) hsx hnob).trans e2
    have q3 := (hb.cellK (p := ⟨w.heap.size, 3, none⟩) hsx hnob).trans e3
    have HR := Lib.hid hR
    have HON := Lib.hid hon
    have HBW := Lib.hid hb
    have hsw := hb.size
    obtain ⟨U', hiv⟩ := inv_plug C cur _ (by rw [← hR]; exact HI.out six)
    cases cur with
    | nil =>
      clear hR hon hb hiv
      change wr.cell? (Ctx.slot tb six C) = some (.pointer none) at hs
      show Code.wp _ _ _ _ _
      simp only at hs ⊢
      generalize hsl : Ctx.slot tb six C = sl at *
      have HSL := Lib.hid hsl
      clear hsl
      go_wp2
      go_ret
      exact ⟨C, .nil, acc, HR.out, HON.out, trivial, by rw [HSL.out]; rfl, (Kept.of_below HB.out).trans HBW.out, HBN.out, HLK.out⟩
    | node g q h l r =>
      obtain ⟨hq, hq6, _, hh, _, _⟩ := hiv
      obtain ⟨hblk, hgm⟩ := HTW.out.node hR
      have n0 := hblk.cell 0
      have n1 := hblk.cell 1
      have n2 := hblk.cell 2
      have n3 := hblk.cell 3
      have HQ := Lib.hid hq
      obtain ⟨qs, qh, ql, qn⟩ := q
      simp only [nodeCs] at n0 n1 n2 n3 hq6
      simp at n0 n1 n2 n3
      subst hq6
      have hgl := hblk.lt
      have HG := Lib.hid hblk
      have hgo : ¬ g = ob := by intro he; subst he; exact HOB.out hgm
      have hwo : ¬ w.heap.size = ob := by omega
      clear hR hon hb hblk hgm hq hh
      change wr.cell? (Ctx.slot tb qs C) = some (.pointer (some ⟨g, 0, none⟩)) at hs
      generalize hsl : Ctx.slot tb qs C = sl at *
      have HSL := Lib.hid hsl
      clear hsl
      by_cases he : qh = hi ∧ ql = lo ∧ qn = n
      · obtain ⟨rfl, rfl, rfl⟩ := he
        go_wp2_with fail
        go_quiet (fail)
        go_wp2
        go_ret
        exact ⟨C, _, acc, HR.out, HON.out, .inl rfl, by rw [HSL.out]; rfl, ((Kept.of_below HB.out).trans HBW.out).then_below (below_drewN (Below.refl _ _) _), HBN.out.drewN _, HLK.out⟩
      · have CO := Lib.hid (fun w => over_any qs qh ql qn qs hi lo n w r1 r2 hm5.out (by have := ok_n HQ.out; simp only at this; have := wideI_le qs; omega) (by have := ok_n HQ.out; simp only at this; have := wideI_le qs; omega))
        have CA := Lib.hid (fun w h3 h4 => at_any qs hi lo qn w r1 r2 h3 h4)
        have HE := Lib.hid he
        have HNE : Hid (¬ (⟨qs, qh, ql, qn⟩ : PV) = ⟨qs, hi, lo, n⟩) := fun hx => by injection hx with _ e1 e2 e3; exact he ⟨e1, e2, e3⟩
        have hsxw : w.heap.size < wr.heap.size := by omega
        have key : (qh == hi) = false ∨ (qh = hi ∧ (ql == lo) = false) ∨ (qh = hi ∧ ql = lo ∧ (qn == n) = false) := by
          by_cases a : qh = hi
          · by_cases b : ql = lo
            · exact .inr (.inr ⟨a, b, by simpa using fun h => he ⟨a, b, h⟩⟩)
            · exact .inr (.inl ⟨a, by simpa using b⟩)
          · exact .inl (by simpa using a)
        clear he
        obtain ⟨ov, hov⟩ : ∃ ov : Bool, overB qs qh ql qn qs hi lo n = ov := ⟨_, rfl⟩
        rw [hov] at CO
        have HOV := Lib.hid hov
        clear hov
        cases ov with
        | false =>
          rcases key with k1 | ⟨rfl, k1⟩ | ⟨rfl, rfl, k1⟩
          all_goals
            go_wp2_with fail
            go_region_held3 (fun w' => (∀ b o, b < wr.heap.size → w'.cell? ⟨b, o, none⟩ = wr.cell? ⟨b, o, none⟩) ∧ wr.heap.size ≤ w'.heap.size ∧ Hid (Below wr.heap.size wr w'))
              ((first | assumption | exact keep0 _ | exact keep1 (by assumption) (by assumption) | exact keepD (by assumption) | exact keepB (by assumption) (by assumption) | exact keepA (by assumption) _ | exact ⟨fun _ _ _ => rfl, Nat.le_refl _, Below.refl _ _⟩))
              (first | (go_at_call 46; refine (CO.out _).mono ?_; rintro e w2 ⟨rfl, hb2⟩))
            go_wp2
            go_ret
            exact ⟨C, _, acc, HR.out, HON.out, .inr HOV.out, by rw [HSL.out]; rfl, ((Kept.of_below HB.out).trans HBW.out).then_below (keepBelow (by assumption)), HBN.out.below (keepBelow (by assumption)) HBN.out.lt, HLK.out⟩
        | true =>
          have hnn := over_n HQ.out HP.out HOV.out
          simp only at hnn
          have hlt : qn < n := by
            rcases Int.lt_or_le qn n with hx | hx
            · exact hx
            · have := over_eq HQ.out HP.out HOV.out hx
              injection this with _ e1 e2 e3
              exact absurd ⟨e1, e2, e3⟩ HE.out
          have hq0 := (ok_n HQ.out).1
          simp only at hq0
          have CB := Lib.hid (fun w => CA.out w hq0 (by omega))
          obtain ⟨bv, hbv⟩ : ∃ bv, bitI qs hi lo qn = bv := ⟨_, rfl⟩
          have hb01 : bv = 0 ∨ bv = 1 := by rw [← hbv]; exact PV.bit01 ⟨qs, hi, lo, n⟩ qn
          rw [hbv] at CB
          have HBV : Hid (PV.bit ⟨qs, hi, lo, n⟩ qn = bv) := hbv
          clear hbv
          have CN := Lib.hid (fun (w2 : World) (hb : Below wr.heap.size wr w2) => note_any g ob ⟨qs, qh, ql, qn⟩ h l.ptr r.ptr acc w2 hgo (HG.out.below hb HG.out.lt) (HBN.out.below hb HBN.out.lt))
          rcases key with k1 | ⟨rfl, k1⟩ | ⟨rfl, rfl, k1⟩
          all_goals
            go_wp2_with fail
            go_region_held3 (fun w' => (∀ b o, b < wr.heap.size → w'.cell? ⟨b, o, none⟩ = wr.cell? ⟨b, o, none⟩) ∧ wr.heap.size ≤ w'.heap.size ∧ Hid (Below wr.heap.size wr w'))
              ((first | assumption | exact keep0 _ | exact keep1 (by assumption) (by assumption) | exact keepD (by assumption) | exact keepB (by assumption) (by assumption) | exact keepA (by assumption) _ | exact ⟨fun _ _ _ => rfl, Nat.le_refl _, Below.refl _ _⟩))
              (first | (go_at_call 46; refine (CO.out _).mono ?_; rintro e w2 ⟨rfl, hb2⟩))
            obtain ⟨fc2, z2, H2⟩ : (∀ b o, b < wr.heap.size → w2.cell? ⟨b, o, none⟩ = wr.cell? ⟨b, o, none⟩) ∧ wr.heap.size ≤ w2.heap.size ∧ Hid (Below wr.heap.size wr w2) := by assumption
            have z3 : w.heap.size < w2.heap.size := by omega
            have z4 : g < w2.heap.size := by omega
            go_wp2_with fail
            refine (CN.out w2 H2.out).mono ?_
            rintro e wn ⟨rfl, hbn, hkn⟩
            have kc : ∀ b o, b < w2.heap.size → ¬ b = ob → wn.cell? ⟨b, o, none⟩ = w2.cell? ⟨b, o, none⟩ := fun b o h1 h2 => hkn.cellK (p := ⟨b, o, none⟩) h1 (by simp; exact h2)
            have m0 := (kc g 0 z4 hgo).trans ((fc2 g 0 hgl).trans n0)
            have m1 := (kc g 1 z4 hgo).trans ((fc2 g 1 hgl).trans n1)
            have m2 := (kc g 2 z4 hgo).trans ((fc2 g 2 hgl).trans n2)
            have m3 := (kc g 3 z4 hgo).trans ((fc2 g 3 hgl).trans n3)
            have p0 := (kc w.heap.size 0 z3 hwo).trans ((fc2 w.heap.size 0 hsxw).trans q0)
            have p1 := (kc w.heap.size 1 z3 hwo).trans ((fc2 w.heap.size 1 hsxw).trans q1)
            have p2 := (kc w.heap.size 2 z3 hwo).trans ((fc2 w.heap.size 2 hsxw).trans q2)
            have p3 := (kc w.heap.size 3 z3 hwo).trans ((fc2 w.heap.size 3 hsxw).trans q3)
            have z6 : w.heap.size < wn.heap.size := by have := hkn.size; omega
            have z7 : g < wn.heap.size := by have := hkn.size; omega
            have HKN := Lib.hid hkn
            have HBN2 := Lib.hid hbn
            clear hkn hbn kc
            rcases hb01 with rfl | rfl
            all_goals
              go_wp2
              go_region_held3 (fun w' => (∀ b o, b < wn.heap.size → w'.cell? ⟨b, o, none⟩ = wn.cell? ⟨b, o, none⟩) ∧ wn.heap.size ≤ w'.heap.size ∧ Hid (Below wn.heap.size wn w'))
                ((first | assumption | exact keep0 _ | exact keep1 (by assumption) (by assumption) | exact keepD (by assumption) | exact keepB (by assumption) (by assumption) | exact keepA (by assumption) _ | exact ⟨fun _ _ _ => rfl, Nat.le_refl _, Below.refl _ _⟩))
                (first | (go_at_call 132; refine (CB.out _).mono ?_; rintro e w3 ⟨rfl, hb3⟩))
              obtain ⟨fc3, z5, H3⟩ : (∀ b o, b < wn.heap.size → w3.cell? ⟨b, o, none⟩ = wn.cell? ⟨b, o, none⟩) ∧ wn.heap.size ≤ w3.heap.size ∧ Hid (Below wn.heap.size wn w3) := by assumption
              go_wp2
              first
                | (go_roundg l.size
                   case measure => (simp [Tr.size] at hsz; omega)
                   case rel => exact ⟨⟨.left C g _ h r, l, _, HR.out, ⟨HNE.out, HOV.out, HBV.out, HON.out⟩, Nat.le_refl _, rfl, HBN2.out.below H3.out HBN2.out.lt, HLK.out.trans (look_left HNE.out HOV.out HBV.out)⟩, ((HBW.out.then_below H2.out).trans HKN.out).then_below H3.out⟩)
                | (go_roundg r.size
                   case measure => (simp [Tr.size] at hsz; omega)
                   case rel => exact ⟨⟨.right C g _ h l, r, _, HR.out, ⟨HNE.out, HOV.out, by rw [HBV.out]; decide, HON.out⟩, Nat.le_refl _, rfl, HBN2.out.below H3.out HBN2.out.lt, HLK.out.trans (look_right HNE.out HOV.out (by rw [HBV.out]; decide))⟩, ((HBW.out.then_below H2.out).trans HKN.out).then_below H3.out⟩)

end Go.Proofs.Ytmljdjakbbedlaa

namespace Go.Proofs.Ytmljdjakbbedlaa
open Go.ChangeShapes Go.WideShapes Go.ChangeAt Go.RowKit

theorem addr_pfx {a : AV} (h : a.Ok) : PV.Ok ⟨a.six, a.hi, a.lo, wideI a.six⟩ := by
  refine ⟨h.rhi, h.rlo, h.may, ⟨by have := wideI_le a.six; simp only; omega, Int.le_refl _⟩, ?_⟩
  have := (clean_num h (n := widN a.six) (Nat.le_refl _)).2 (by rw [Nat.sub_self]; exact Nat.one_dvd _)
  simp only [widN_eq]
  exact this

theorem stop_look {p : PV} {t : Tr} {acc : Int × Int} (h : Stop p t) : lookT p t acc = match t with
    | .nil => acc
    | .node _ q h _ _ => if q.over p = false then acc else if q = p then (if h = 0 then acc else (h, q.n)) else acc := by
  cases t with
  | nil => rfl
  | node g q h l r =>
    unfold lookT
    by_cases h1 : q.over p = false
    · rw [if_pos h1]; simp only; rw [if_pos h1]
    · rw [if_neg h1]
      by_cases h2 : q = p
      · rw [if_pos h2]; simp only; rw [if_neg h1, if_pos h2]
      · rcases h with h | h
        · exact absurd h h2
        · exact absurd h h1

theorem Kept.frozenK {S : List Nat} {w w' : World} (h : Kept S w w') {p : Addr} (hp : p.block < w.heap.size) (hS : p.block ∉ S) : w'.frozen? p = w.frozen? p := World.frozen?_of_block (h.block _ hp hS)
theorem below_drewN_left {w w' : World} {B k : Nat} (h : Below B (w.drewN k) w') : Below B w w' := (below_drewN (Below.refl _ _) k).trans h
theorem Blk.keep1 {S : List Nat} {w w' : World} {g : Nat} {t : TypeId} {cs : Array Value} (h : Blk w g t cs) (hk : Kept S w w') (hS : g ∉ S) : Blk w' g t cs := (hk.block g h.lt hS).trans h

set_option maxRecDepth 100000 in
set_option maxHeartbeats 1600000 in
theorem tlook_any {w : World} {B tb : Nat} {R : Bool → Tr} {c : Int} (h : Tab w B tb R c) (hI : ∀ s, Inv s (fun _ => True) (R s)) (six : Bool) (hi lo : Int) (ha : AV.Ok ⟨six, hi, lo⟩) :
    Calls Try.prog 52 #[.pointer (some ⟨tb, 0, none⟩), .agg #[.bool six, .int .u64 hi, .int .u64 lo]] w fun e w' =>
      e = .returned (.agg #[.int .i64 0, .int .i64 (lookT ⟨six, hi, lo, wideI six⟩ (R six) (0, 0)).1, .int .i64 (lookT ⟨six, hi, lo, wideI six⟩ (R six) (0, 0)).2]) ∧ Below w.heap.size w w' := by
  have HT := Lib.hid h
  have HI := Lib.hid hI
  have HP := Lib.hid (addr_pfx ha)
  have CW : Hid (∀ w, Calls Try.prog 100 #[.bool six] w fun e w' => e = .returned (.int .i64 (wideI six)) ∧ Below w.heap.size w w') := fun w => (wide_any six w).mono fun e w' h => ⟨h.1, by rw [← h.2]; exact Below.refl _ _⟩
  simp only at HP
  obtain ⟨wd, hwd⟩ : ∃ wd, wideI six = wd := ⟨_, rfl⟩
  rw [hwd] at HP CW
  rw [hwd]
  have htl := h.blk.lt
  clear h hI ha
  go_enter Try.func52, Try.ntmps52
  go_wp2_with fail
  obtain ⟨X, hX⟩ : ∃ X, (((w.alloc (.cells #[.bool six, .int .u64 hi, .int .u64 lo] 35)).alloc (.cells #[.int .i64 0, .int .i64 0, .int .i64 0] 38)).alloc (.cells #[.int .i64 0, .int .i64 0, .int .i64 0] 38)) = X := ⟨_, rfl⟩
  have kA : Blk X w.heap.size 35 #[.bool six, .int .u64 hi, .int .u64 lo] := by rw [← hX]; exact ((Blk.new _ _ _).alloc _).alloc _
  have kR : Blk X (w.heap.size + 1) 38 #[.int .i64 0, .int .i64 0, .int .i64 0] := by
    rw [← hX]
    have := (Blk.new (w.alloc (.cells #[.bool six, .int .u64 hi, .int .u64 lo] 35)) 38 #[.int .i64 0, .int .i64 0, .int .i64 0])
    simp only [World.size_alloc] at this
    exact this.alloc _
  have kO : Blk X (w.heap.size + 2) 38 (NoteCs (0, 0)) := by
    rw [← hX]
    have := (Blk.new ((w.alloc (.cells #[.bool six, .int .u64 hi, .int .u64 lo] 35)).alloc (.cells #[.int .i64 0, .int .i64 0, .int .i64 0] 38)) 38 #[.int .i64 0, .int .i64 0, .int .i64 0])
    simp only [World.size_alloc] at this
    exact this
  have hXs : X.heap.size = w.heap.size + 3 := by rw [← hX]; simp
  have hXb : Below w.heap.size w X := by rw [← hX]; exact ((((Below.refl _ _).alloc (Nat.le_refl _) _).alloc (by simp) _).alloc (by simp; omega) _)
  try simp only [World.size_alloc]
  rw [hX]
  have x0 := kA.cell 0
  have x1 := kA.cell 1
  have x2 := kA.cell 2
  simp at x0 x1 x2
  have hxl : w.heap.size < X.heap.size := by omega
  have hxl1 : w.heap.size + 1 < X.heap.size := by omega
  have hxl2 : w.heap.size + 1 + 1 < X.heap.size := by omega
  have HXS := Lib.hid hXs
  have HA := Lib.hid kA
  have HRR := Lib.hid kR
  have HOO := Lib.hid kO
  have HXB := Lib.hid hXb
  clear kA kR kO hXb hX hXs
  go_cut [6] (fun v wx => NewPfx X ⟨six, hi, lo, wd⟩ v wx)
  case first =>
    go_region_held3 (fun w' => (∀ b o, b < X.heap.size → w'.cell? ⟨b, o, none⟩ = X.cell? ⟨b, o, none⟩) ∧ X.heap.size ≤ w'.heap.size ∧ Hid (Below X.heap.size X w'))
      ((first | assumption | exact keep0 _ | (refine keepF ?_; (repeat' first | with_reducible exact HB3.out | with_reducible exact Below.refl _ _ | with_reducible refine Below.drew ?_ | with_reducible refine below_drewN ?_ _ | with_reducible refine Below.setCell ?_ ?_ _ | with_reducible refine Below.alloc ?_ ?_ _ | exact HB3.out.size | (simp; done) | (simp; have := HB3.out.size; omega) | (simp; omega)); done)))
      (first | (go_at_call 100; refine (CW.out _).mono ?_; rintro e w3 ⟨rfl, hb3⟩; obtain ⟨fc3, ff3⟩ := bcell hb3; have hz3 := hb3.size; have HB3 : Hid (Below X.heap.size X w3) := (keepBelow (by assumption)).trans (hb3.mono (keepSize (by assumption)))))
    all_goals
      go_wp2_with fail
      go_meet
      first
        | with_reducible exact newPfx_A HB3.out
        | exact newPfx_B hb3 rfl HB3.out
  case rest =>
    obtain ⟨G, rfl, hg, hk, hbx⟩ := hcut
    have g0 := hk.cell 0
    have g1 := hk.cell 1
    have g2 := hk.cell 2
    have g3 := hk.cell 3
    simp at g0 g1 g2 g3
    have HKG := Lib.hid hk
    have hTX : Tab wc B tb R c := HT.out.below (HXB.out.trans (hbx.mono (by omega)))
    have hXc := hbx.size
    have hno : (w.heap.size + 1 + 1) ∉ tabBlocks tb R := fun hx => by have := (HT.out.lt _ hx).2; omega
    have CP := Lib.hid (place_note hTX ⟨six, hi, lo, wd⟩ HP.out HI.out hno (HOO.out.below hbx (by omega)))
    have HTX := Lib.hid hTX
    have HBX := Lib.hid hbx
    unfold PV.val at CP
    simp only at CP
    clear hk hbx hTX hno
    go_wp2_with fail
    refine CP.out.mono ?_
    rintro e w2 ⟨C, cur, acc, hR, hon, hst, rfl, hkp, hbo, hlk⟩
    simp only at hR hon hst hlk
    have hgo : ¬ G = w.heap.size + 1 + 1 := HKG.out.ne_ (HOO.out.below HBX.out hxl2) (by decide)
    have hk2 : Blk w2 G 42 #[.bool six, .int .u64 hi, .int .u64 lo, .int .i64 wd] := (hkp.block G HKG.out.lt (by simp; exact hgo)).trans HKG.out
    have g0 := hk2.cell 0
    have g1 := hk2.cell 1
    have g2 := hk2.cell 2
    have g3 := hk2.cell 3
    simp at g0 g1 g2 g3
    have hT2 : Tab w2 B tb R c := HTX.out.keep (fun k hk => hkp.block k (HTX.out.lt k hk).2 (by simp; intro he; subst he; have := (HT.out.lt _ hk).2; omega))
    have hs := (hT2.slot hR).1
    have o0 := hbo.cell 0
    have o1 := hbo.cell 1
    have o2 := hbo.cell 2
    simp [NoteCs] at o0 o1 o2
    have hsz2 : X.heap.size ≤ w2.heap.size := by have := hkp.size; omega
    have f0 : w2.frozen? ⟨w.heap.size + 1, 0, none⟩ = false := ((HRR.out.below HBX.out hxl1).keep1 hkp (by simp)).frozen 0
    have f1 : w2.frozen? ⟨w.heap.size + 1, 1, none⟩ = false := ((HRR.out.below HBX.out hxl1).keep1 hkp (by simp)).frozen 1
    have f2 : w2.frozen? ⟨w.heap.size + 1, 2, none⟩ = false := ((HRR.out.below HBX.out hxl1).keep1 hkp (by simp)).frozen 2
    have r0 := ((HRR.out.below HBX.out hxl1).keep1 hkp (by simp)).cell 0
    have r1 := ((HRR.out.below HBX.out hxl1).keep1 hkp (by simp)).cell 1
    have r2 := ((HRR.out.below HBX.out hxl1).keep1 hkp (by simp)).cell 2
    simp at r0 r1 r2
    have HB2 : Hid (Below w.heap.size w w2) := HXB.out.trans ((HBX.out.mono (by omega)).trans (hkp.below (by simp; omega) (by omega)))
    have HBO := Lib.hid hbo
    have HL := Lib.hid hlk
    cases cur with
    | nil =>
      have HL2 : Hid (lookT ⟨six, hi, lo, wd⟩ (R six) (0, 0) = acc) := hlk.trans rfl
      change w2.cell? (Ctx.slot tb six C) = some (.pointer none) at hs
      generalize hsl : Ctx.slot tb six C = sl at *
      clear hsl hR hon hst hkp hbo hlk hT2 hk2
      simp only
      go_wp2
      go_quiet (fail)
      go_wp2
      refine bodyPost_ret (v := .agg #[.int .i64 0, .int .i64 acc.1, .int .i64 acc.2]) ?_ rfl ⟨by rw [HL2.out], ?_⟩
      · simp [results, Try.results52, go_sem, r0, r1, r2]
      · (repeat' first | with_reducible exact HB2.out | with_reducible refine Below.drew ?_ | with_reducible refine below_drewN ?_ _ | with_reducible refine Below.setCell ?_ ?_ _ | (simp; done) | (simp; omega) | omega)
    | node g q hv l r =>
      obtain ⟨hblk, hgm⟩ := hT2.node hR
      have n0 := hblk.cell 0
      have n1 := hblk.cell 1
      have n2 := hblk.cell 2
      have n3 := hblk.cell 3
      have hgo2 : ¬ g = w.heap.size + 1 + 1 := by intro he; rw [he] at hgm; have := (HT.out.lt _ hgm).2; omega
      have HG := Lib.hid hblk
      have HLK := Lib.hid (hlk.trans (stop_look hst))
      have HEQ := fun w => eqPV q ⟨six, hi, lo, wd⟩ w
      have hst' : q = ⟨six, hi, lo, wd⟩ ∨ PV.over q ⟨six, hi, lo, wd⟩ = false := hst
      change w2.cell? (Ctx.slot tb six C) = some (.pointer (some ⟨g, 0, none⟩)) at hs
      generalize hsl : Ctx.slot tb six C = sl at *
      by_cases he : q = ⟨six, hi, lo, wd⟩
      · have HL2 : Hid (lookT ⟨six, hi, lo, wd⟩ (R six) (0, 0) = if hv = 0 then acc else (hv, wd)) := by
          show _ = _
          have := HLK.out
          simp only at this
          rw [if_pos he, he, if_neg (by rw [over_refl HP.out]; simp)] at this
          exact this
        have CN := Lib.hid (fun (w3 : World) (hb : Below w2.heap.size w2 w3) => note_any g (w.heap.size + 1 + 1) q hv l.ptr r.ptr acc w3 hgo2 (HG.out.below hb HG.out.lt) (HBO.out.below hb HBO.out.lt))
        have HR0 := Lib.hid (show w.heap.size + 1 ∉ [w.heap.size + 1 + 1] by simp)
        rw [decide_eq_true he] at HEQ
        subst he
        unfold PV.val at HEQ
        simp only at HEQ CN
        obtain ⟨ac, hac⟩ : ∃ ac, (if hv = 0 then acc else (hv, wd)) = ac := ⟨_, rfl⟩
        rw [hac] at CN HL2
        clear hac
        simp [nodeCs] at n0 n1 n2 n3
        have hsz3 : w.heap.size + 1 < w2.heap.size := by omega
        clear HLK HL hsl hR hon hst hst' hkp hbo hlk hT2 hk2 hblk hgm
        simp only
        go_wp2
        go_quiet (fail)
        go_wp2_with fail
        refine (CN.out _ (below_drewN (Below.refl _ _) _)).mono ?_
        rintro e w4 ⟨rfl, hb4, hk4⟩
        have hk4 := hk4
        have o0 := hb4.cell 0
        have o1 := hb4.cell 1
        have o2 := hb4.cell 2
        simp [NoteCs] at o0 o1 o2
        have f0 : w4.frozen? ⟨w.heap.size + 1, 0, none⟩ = false := (hk4.frozenK (p := ⟨w.heap.size + 1, 0, none⟩) hsz3 HR0.out).trans f0
        have f1 : w4.frozen? ⟨w.heap.size + 1, 1, none⟩ = false := (hk4.frozenK (p := ⟨w.heap.size + 1, 1, none⟩) hsz3 HR0.out).trans f1
        have f2 : w4.frozen? ⟨w.heap.size + 1, 2, none⟩ = false := (hk4.frozenK (p := ⟨w.heap.size + 1, 2, none⟩) hsz3 HR0.out).trans f2
        have r0 := (hk4.cellK (p := ⟨w.heap.size + 1, 0, none⟩) hsz3 HR0.out).trans r0
        have r1 := (hk4.cellK (p := ⟨w.heap.size + 1, 1, none⟩) hsz3 HR0.out).trans r1
        have r2 := (hk4.cellK (p := ⟨w.heap.size + 1, 2, none⟩) hsz3 HR0.out).trans r2
        have HB4 : Hid (Below w.heap.size w w4) := HB2.out.trans (below_drewN_left (hk4.below (B := w.heap.size) (by simp; omega) (by simp; omega)))
        clear hk4 hb4
        go_wp2
        refine bodyPost_ret (v := .agg #[.int .i64 0, .int .i64 ac.1, .int .i64 ac.2]) ?_ rfl ⟨by rw [HL2.out], ?_⟩
        · simp [results, Try.results52, go_sem, r0, r1, r2]
        · (repeat' first | with_reducible exact HB4.out | with_reducible refine Below.drew ?_ | with_reducible refine below_drewN ?_ _ | with_reducible refine Below.setCell ?_ ?_ _ | (simp; done) | (simp; omega) | omega)
      · have HL2 : Hid (lookT ⟨six, hi, lo, wd⟩ (R six) (0, 0) = acc) := by
          show _ = _
          have := HLK.out
          simp only at this
          rw [if_neg he] at this
          rw [this]; split <;> rfl
        rw [decide_eq_false he] at HEQ
        obtain ⟨qs, qh, ql, qn⟩ := q
        unfold PV.val at HEQ
        simp only at HEQ
        simp [nodeCs] at n0 n1 n2 n3
        clear HLK HL hsl hR hon hst hst' hkp hbo hlk hT2 hk2 hblk hgm he
        simp only
        go_wp2
        go_quiet (fail)
        go_wp2
        refine bodyPost_ret (v := .agg #[.int .i64 0, .int .i64 acc.1, .int .i64 acc.2]) ?_ rfl ⟨by rw [HL2.out], ?_⟩
        · simp [results, Try.results52, go_sem, r0, r1, r2]
        · (repeat' first | with_reducible exact HB2.out | with_reducible refine Below.drew ?_ | with_reducible refine below_drewN ?_ _ | with_reducible refine Below.setCell ?_ ?_ _ | (simp; done) | (simp; omega) | omega)

end Go.Proofs.Ytmljdjakbbedlaa

namespace Go.Proofs.Ytmljdjakbbedlaa
open Go.ChangeShapes Go.WideShapes Go.ChangeAt Go.RowKit

set_option maxHeartbeats 400000 in
theorem no_any (e0 : Int) (w : World) : Calls Try.prog 225 #[.int .i64 e0] w fun e w' => e = .returned (.agg #[.int .i64 e0, .int .i64 0, .int .i64 0]) ∧ Below w.heap.size w w' := by
  go_enter Try.func225, Try.ntmps225
  go_wp2
  refine bodyPost_ret (v := .agg #[.int .i64 e0, .int .i64 0, .int .i64 0]) (by simp [results, Try.results225, go_sem]) rfl ⟨rfl, ?_⟩
  (repeat' first | with_reducible exact Below.refl _ _ | with_reducible refine Below.setCell ?_ ?_ _ | with_reducible refine Below.alloc ?_ ?_ _ | exact Nat.le_refl _ | (simp; done) | (simp; omega) | omega)
set_option maxHeartbeats 400000 in
theorem had_any (hop wide : Int) (w : World) : Calls Try.prog 226 #[.int .i64 hop, .int .i64 wide] w fun e w' => e = .returned (if hop = 0 then .agg #[.int .i64 7, .int .i64 0, .int .i64 0] else .agg #[.int .i64 0, .int .i64 hop, .int .i64 wide]) ∧ Below w.heap.size w w' := by
  by_cases h0 : hop = 0
  · subst h0
    have C := fun w => no_any 7 w
    have HC := Lib.hid C
    clear C
    go_enter Try.func226, Try.ntmps226
    go_wp2_with fail
    refine (HC.out _).mono ?_
    rintro e w1 ⟨rfl, hb⟩
    obtain ⟨fc, ff⟩ := bcell hb
    have s1 := bsize1 hb
    have HB := Lib.hid (balloc1 hb)
    clear hb
    go_wp2
    refine bodyPost_ret (v := .agg #[.int .i64 7, .int .i64 0, .int .i64 0]) ?_ rfl ⟨rfl, ?_⟩
    · simp [results, Try.results226, go_sem, fc]
    · (repeat' first | with_reducible exact HB.out | with_reducible exact Below.refl _ _ | with_reducible refine Below.drew ?_ | with_reducible refine below_drewN ?_ _ | with_reducible refine Below.setCell ?_ ?_ _ | with_reducible refine Below.alloc ?_ ?_ _ | (simp; done) | (simp; omega) | omega)
  · have d : (hop == 0) = false := by simpa using h0
    rw [if_neg h0]
    clear h0
    go_enter Try.func226, Try.ntmps226
    go_wp2
    refine bodyPost_ret (v := .agg #[.int .i64 0, .int .i64 hop, .int .i64 wide]) (by simp [results, Try.results226, go_sem]) rfl ⟨rfl, ?_⟩
    (repeat' first | with_reducible exact Below.refl _ _ | with_reducible refine Below.setCell ?_ ?_ _ | with_reducible refine Below.alloc ?_ ?_ _ | exact Nat.le_refl _ | (simp; done) | (simp; omega) | omega)

theorem Tr.Lies.typ {w : World} {B : Nat} : ∀ {t : Tr}, t.Lies w B → ∀ g ∈ t.blocks, ∃ cs, Blk w g 193 cs
  | .nil, _, g, hg => by simp [Tr.blocks] at hg
  | .node g p h l r, h1, k, hk => by
    simp only [Tr.blocks, List.mem_cons, List.mem_append] at hk
    rcases hk with rfl | hk | hk
    · exact ⟨_, h1.2.1⟩
    · exact h1.2.2.1.typ k hk
    · exact h1.2.2.2.typ k hk
theorem Tab.notin {w : World} {B tb : Nat} {R : Bool → Tr} {c : Int} (h : Tab w B tb R c) {g : Nat} {t : TypeId} {cs : Array Value} (hk : Blk w g t cs) (h1 : ¬ t = 193) (h2 : ¬ t = 190) : g ∉ tabBlocks tb R := by
  intro hg
  simp only [tabBlocks, List.mem_cons, List.mem_append] at hg
  have hn : ∀ cs', Blk w g 193 cs' → False := fun cs' h' => hk.ne_ h' h1 rfl
  rcases hg with rfl | hg | hg
  · exact hk.ne_ h.blk h2 rfl
  · obtain ⟨cs', h'⟩ := (h.lies false).typ g hg; exact hn _ h'
  · obtain ⟨cs', h'⟩ := (h.lies true).typ g hg; exact hn _ h'
theorem Tab.far {w : World} {B tb : Nat} {R : Bool → Tr} {c : Int} (h : Tab w B tb R c) {p : Addr} (hp : p.block ∉ tabBlocks tb R) (u : Value) : Tab (w.setCell p u) B tb R c :=
  h.keep fun g hg => Below.heap_setCell w p u g (fun e => by subst e; exact hp hg)

/-- A table whose blocks and trees are named. -/
def HoldsR (w : World) (B tb : Nat) (R : Bool → Tr) (l : List RouteV) : Prop :=
  Tab w B tb R l.length ∧ (∀ s, Inv s (fun _ => True) (R s)) ∧ ∀ p : PV, p.Ok → hopAt (R p.six) p = getR l p
theorem HoldsR.holds {w : World} {B tb : Nat} {R : Bool → Tr} {l : List RouteV} (h : HoldsR w B tb R l) : Holds w B tb l := ⟨R, _, h.1, h.2.1, h.2.2, rfl⟩
theorem Holds.named {w : World} {B tb : Nat} {l : List RouteV} (h : Holds w B tb l) : ∃ R, HoldsR w B tb R l := by
  obtain ⟨R, c, h1, h2, h3, rfl⟩ := h
  exact ⟨R, h1, h2, h3⟩
theorem HoldsR.keep {w w' : World} {B tb : Nat} {R : Bool → Tr} {l : List RouteV} (h : HoldsR w B tb R l) (hk : ∀ g ∈ tabBlocks tb R, w'.heap[g]? = w.heap[g]?) : HoldsR w' B tb R l := ⟨h.1.keep hk, h.2⟩

def AnsV.val (x : AnsV) : Value := .agg #[.int .i64 x.code, .int .i64 x.hop, .int .i64 x.len]
def AnsV.cells (x : AnsV) : List Value := [.int .i64 x.code, .int .i64 x.hop, .int .i64 x.len]
def ActV.valD (a : ActV) : Value := .agg #[.int .i64 a.kind, .bool a.p.six, .int .u64 a.p.hi, .int .u64 a.p.lo, .int .i64 a.p.n, .int .i64 a.hop, .bool a.a.six, .int .u64 a.a.hi, .int .u64 a.a.lo]
/-- What Do returns, and what it leaves. -/
def DidA (w : World) (B tb : Nat) (R : Bool → Tr) (l : List RouteV) (a : ActV) (e : Ending) (w' : World) : Prop :=
  e = .returned (doA l a).val ∧ Holds w' B tb (doL l a) ∧ Kept (tabBlocks tb R) w w'
theorem Kept.far3 {S : List Nat} {w w' : World} (h : Kept S w w') (x y z : Value) : Kept S w (((w'.setCell ⟨w.heap.size + 1, 0, none⟩ x).setCell ⟨w.heap.size + 1, 1, none⟩ y).setCell ⟨w.heap.size + 1, 2, none⟩ z) :=
  ((h.setCell (p := ⟨w.heap.size + 1, 0, none⟩) (.inr (by simp)) x).setCell (p := ⟨w.heap.size + 1, 1, none⟩) (.inr (by simp)) y).setCell (p := ⟨w.heap.size + 1, 2, none⟩) (.inr (by simp)) z
theorem did_fin {w wx : World} {B tb : Nat} {R : Bool → Tr} {l : List RouteV} {a : ActV} {cs : Array Value} {e : Ending} (he : e = .returned (doA l a).val) (hH : Holds wx B tb (doL l a)) (hk : Kept (tabBlocks tb R) w wx) (hb : Blk wx (w.heap.size + 1) 38 cs) (x y z : Value) :
    DidA w B tb R l a e (((wx.setCell ⟨w.heap.size + 1, 0, none⟩ x).setCell ⟨w.heap.size + 1, 1, none⟩ y).setCell ⟨w.heap.size + 1, 2, none⟩ z) := by
  refine ⟨he, ?_, hk.far3 x y z⟩
  obtain ⟨R', c', h1, h2⟩ := hH
  have hn := h1.notin hb (by decide) (by decide)
  exact ⟨R', c', ((h1.far (p := ⟨w.heap.size + 1, 0, none⟩) hn x).far (p := ⟨w.heap.size + 1, 1, none⟩) hn y).far (p := ⟨w.heap.size + 1, 2, none⟩) hn z, h2⟩

theorem Kept.belowS {S : List Nat} {w w1 w2 : World} (h : Kept S w w1) (hb : Below w1.heap.size w1 w2) : Kept S w w2 :=
  ⟨hb.os.trans h.os, hb.tape.trans h.tape, hb.output.trans h.output, Nat.le_trans h.size hb.size, fun k hk hn => (hb.block k (by have := h.size; omega)).trans (h.block k hk hn)⟩
theorem HoldsR.below {w w' : World} {B tb : Nat} {R : Bool → Tr} {l : List RouteV} (h : HoldsR w B tb R l) (hb : Below w.heap.size w w') : HoldsR w' B tb R l := h.keep fun g hg => hb.block g (h.1.lt g hg).2

set_option maxRecDepth 100000 in
set_option maxHeartbeats 3200000 in
theorem tabDo_any {w : World} {B tb : Nat} {R : Bool → Tr} {l : List RouteV} (h : HoldsR w B tb R l) (hv : Valid l) (hl : l.length ≤ 60) (a : ActV) (ho1 : 0 ≤ a.p.hi ∧ a.p.hi < 18446744073709551616) (ho2 : 0 ≤ a.p.lo ∧ a.p.lo < 18446744073709551616) (ha1 : 0 ≤ a.a.hi ∧ a.a.hi < 18446744073709551616) (ha2 : 0 ≤ a.a.lo ∧ a.a.lo < 18446744073709551616) :
    Calls Try.prog 209 #[.pointer (some ⟨tb, 0, none⟩), a.valD] w (DidA w B tb R l a) := by
  have H := Lib.hid h
  have HV := Lib.hid hv
  obtain ⟨post, hpost⟩ : ∃ post, DidA w B tb R l a = post := ⟨_, rfl⟩
  have HPO := Lib.hid hpost
  rw [hpost]
  obtain ⟨av, hav⟩ : ∃ av, a = av := ⟨_, rfl⟩
  rw [hav] at HPO
  have HAV := Lib.hid hav
  obtain ⟨kd, ⟨six, hi, lo, n⟩, hop, ⟨six2, hi2, lo2⟩⟩ := a
  simp only at ho1 ho2 ha1 ha2
  unfold ActV.valD
  simp only
  clear hpost hav h hv
  obtain ⟨X, hX⟩ : ∃ X : World, X = (w.alloc (.cells #[.int .i64 kd, .bool six, .int .u64 hi, .int .u64 lo, .int .i64 n, .int .i64 hop, .bool six2, .int .u64 hi2, .int .u64 lo2] 132)).alloc (.cells #[.int .i64 0, .int .i64 0, .int .i64 0] 38) := ⟨_, rfl⟩
  have kA : Blk X w.heap.size 132 #[.int .i64 kd, .bool six, .int .u64 hi, .int .u64 lo, .int .i64 n, .int .i64 hop, .bool six2, .int .u64 hi2, .int .u64 lo2] := by rw [hX]; exact (Blk.new _ _ _).alloc _
  have kR : Blk X (w.heap.size + 1) 38 #[.int .i64 0, .int .i64 0, .int .i64 0] := by
    rw [hX]
    have := Blk.new (w.alloc (.cells #[.int .i64 kd, .bool six, .int .u64 hi, .int .u64 lo, .int .i64 n, .int .i64 hop, .bool six2, .int .u64 hi2, .int .u64 lo2] 132)) 38 #[.int .i64 0, .int .i64 0, .int .i64 0]
    rwa [World.size_alloc] at this
  have hXs : X.heap.size = w.heap.size + 1 + 1 := by rw [hX]; simp
  have hXb : Below w.heap.size w X := by rw [hX]; exact ((Below.refl _ _).alloc (Nat.le_refl _) _).alloc (by simp) _
  have a0 := kA.cell 0
  have a1 := kA.cell 1
  have a2 := kA.cell 2
  have a3 := kA.cell 3
  have a4 := kA.cell 4
  have a5 := kA.cell 5
  have a6 := kA.cell 6
  have a7 := kA.cell 7
  have a8 := kA.cell 8
  have b0 := kR.cell 0
  have b1 := kR.cell 1
  have b2 := kR.cell 2
  have f0 := kR.frozen 0
  have f1 := kR.frozen 1
  have f2 := kR.frozen 2
  simp at a0 a1 a2 a3 a4 a5 a6 a7 a8 b0 b1 b2
  have HX := Lib.hid (H.out.below hXb)
  have HXB := Lib.hid hXb
  have HKR := Lib.hid kR
  have HKA := Lib.hid kA
  have hXl : w.heap.size < X.heap.size := by omega
  have hXl1 : w.heap.size + 1 < X.heap.size := by omega
  have htb : tb < X.heap.size := (HX.out.1.blk).lt
  have hc2 := HX.out.1.blk.cell 2
  simp at hc2
  have HXS := Lib.hid hXs
  have CNO := Lib.hid no_any
  have CHAD := Lib.hid had_any
  -- a path on which the table stays as it is
  have HSTAY : Hid (∀ (wx : World) (x y z : Value), Below X.heap.size X wx → doL l av = l → ∀ e, e = .returned (doA l av).val → post e (((wx.setCell ⟨w.heap.size + 1, 0, none⟩ x).setCell ⟨w.heap.size + 1, 1, none⟩ y).setCell ⟨w.heap.size + 1, 2, none⟩ z)) := by
    intro wx x y z hb hd e he
    rw [← HPO.out]
    refine did_fin he (by rw [hd]; exact (HX.out.below hb).holds) ((Kept.of_below HXB.out).belowS hb) (HKR.out.below hb (by omega)) x y z
  have HXE := Lib.hid hX
  clear hX kA kR hXs hXb
  by_cases hk : kd < 1 ∨ 4 < kd
  · have hd : doA l av = ⟨3, 0, 0⟩ := by rw [← HAV.out]; unfold doA; rw [if_pos hk]
    have hL : doL l av = l := by rw [← HAV.out]; unfold doL; rw [if_pos (by simp only; omega)]
    have HD := Lib.hid hd
    have HL := Lib.hid hL
    clear hd hL
    have CN := Lib.hid (CNO.out 3)
    by_cases h1 : kd < 1
    · have d1 : decide (kd < 1) = true := by simpa using h1
      clear hk h1
      go_enter Try.func209, Try.ntmps209
      go_wp2_with fail
      rw [← HXE.out]
      refine (CN.out _).mono ?_
      rintro e w1 ⟨rfl, hb1⟩
      obtain ⟨fc, ff⟩ := bcell hb1
      have HB1 := Lib.hid hb1
      clear hb1
      go_wp2
      refine bodyPost_ret (v := .agg #[.int .i64 3, .int .i64 0, .int .i64 0]) ?_ rfl ?_
      · simp [results, Try.results209, go_sem, fc, hXl1, b0, b1, b2]
      · exact HSTAY.out _ _ _ _ HB1.out HL.out _ (by rw [HD.out]; rfl)
    · have d1 : decide (kd < 1) = false := by simpa using h1
      have d2 : decide (4 < kd) = true := by simp; omega
      clear hk h1
      go_enter Try.func209, Try.ntmps209
      go_wp2_with fail
      rw [← HXE.out]
      refine (CN.out _).mono ?_
      rintro e w1 ⟨rfl, hb1⟩
      obtain ⟨fc, ff⟩ := bcell hb1
      have HB1 := Lib.hid hb1
      clear hb1
      go_wp2
      refine bodyPost_ret (v := .agg #[.int .i64 3, .int .i64 0, .int .i64 0]) ?_ rfl ?_
      · simp [results, Try.results209, go_sem, fc, hXl1, b0, b1, b2]
      · exact HSTAY.out _ _ _ _ HB1.out HL.out _ (by rw [HD.out]; rfl)
  · by_cases hk3 : kd = 3
    · subst hk3
      clear hk
      have CM := Lib.hid (fun w => may_any six2 hi2 lo2 w ha2.1)
      obtain ⟨mb, hmb⟩ : ∃ mb, mayB six2 hi2 lo2 = mb := ⟨_, rfl⟩
      rw [hmb] at CM
      have hL : doL l av = l := by rw [← HAV.out]; unfold doL; rw [if_pos (by simp)]
      have HL := Lib.hid hL
      have HMB := Lib.hid hmb
      clear hL hmb
      cases mb with
      | false =>
        have hd : doA l av = ⟨4, 0, 0⟩ := by rw [← HAV.out]; unfold doA; rw [if_neg (by simp), if_pos rfl, if_pos HMB.out]
        have HD := Lib.hid hd
        have CN := Lib.hid (CNO.out 4)
        clear hd
        go_enter Try.func209, Try.ntmps209
        go_wp2_with fail
        rw [← HXE.out]
        refine (CM.out _).mono ?_
        rintro e w1 ⟨rfl, hb1⟩
        obtain ⟨fc, ff⟩ := bcell hb1
        have s1 : w.heap.size < w1.heap.size := by have := hb1.size; omega
        have s2 : w.heap.size + 1 < w1.heap.size := by have := hb1.size; omega
        have HB1 := Lib.hid hb1
        clear hb1
        go_wp2_with fail
        refine (CN.out _).mono ?_
        rintro e w2 ⟨rfl, hb2⟩
        obtain ⟨fc2, ff2⟩ := bcell hb2
        have HB2 := Lib.hid (below_step HB1.out hb2)
        clear hb2
        go_wp2
        refine bodyPost_ret (v := .agg #[.int .i64 4, .int .i64 0, .int .i64 0]) ?_ rfl ?_
        · simp [results, Try.results209, go_sem, fc, fc2, hXl1, s2, b0, b1, b2]
        · exact HSTAY.out _ _ _ _ HB2.out HL.out _ (by rw [HD.out]; rfl)
      | true =>
        have hlk := look_goes (t := R six2) (six := six2) (hi := hi2) (lo := lo2) HV.out (addr_pfx (a := ⟨six2, hi2, lo2⟩) ⟨ha1, ha2, HMB.out⟩) (HX.out.2.1 six2) (fun p hp h6 => by rw [← h6]; exact HX.out.2.2 p hp)
        have CT := Lib.hid (fun (Y : World) (hb : Below X.heap.size X Y) => tlook_any (HX.out.below hb).1 HX.out.2.1 six2 hi2 lo2 ⟨ha1, ha2, HMB.out⟩)
        rw [hlk] at CT
        obtain ⟨res, hres⟩ : ∃ res, goesR l six2 hi2 lo2 = res := ⟨_, rfl⟩
        rw [hres] at CT
        have hd : doA l av = ⟨0, res.1, res.2⟩ := by rw [← HAV.out]; unfold doA; rw [if_neg (by simp), if_pos rfl, if_neg (by simp only; rw [HMB.out]; simp), hres]
        have HD := Lib.hid hd
        clear hd hlk hres
        go_enter Try.func209, Try.ntmps209
        go_wp2_with fail
        rw [← HXE.out]
        refine (CM.out _).mono ?_
        rintro e w1 ⟨rfl, hb1⟩
        obtain ⟨fc, ff⟩ := bcell hb1
        have s1 : w.heap.size < w1.heap.size := by have := hb1.size; omega
        have s2 : w.heap.size + 1 < w1.heap.size := by have := hb1.size; omega
        have HB1 := Lib.hid hb1
        clear hb1
        go_wp2_with fail
        refine (CT.out _ HB1.out).mono ?_
        rintro e w2 ⟨rfl, hb2⟩
        obtain ⟨fc2, ff2⟩ := bcell hb2
        have HB2 := Lib.hid (below_step HB1.out hb2)
        clear hb2
        go_wp2
        refine bodyPost_ret (v := .agg #[.int .i64 0, .int .i64 res.1, .int .i64 res.2]) ?_ rfl ?_
        · simp [results, Try.results209, go_sem, fc, fc2, hXl1, s2, b0, b1, b2]
        · exact HSTAY.out _ _ _ _ HB2.out HL.out _ (by rw [HD.out]; rfl)
    · have CK := Lib.hid (fun w => check_any six hi lo n w ho1 ho2)
      obtain ⟨ck, hck⟩ : ∃ ck, chk six hi lo n = ck := ⟨_, rfl⟩
      rw [hck] at CK
      have HCK := Lib.hid hck
      have HCP : Hid (PV.chk ⟨six, hi, lo, n⟩ = ck) := hck
      clear hck
      have key : kd = 1 ∨ kd = 2 ∨ kd = 4 := by omega
      clear hk hk3
      by_cases hz : ck = 0
      · subst hz
        have hpok : PV.Ok ⟨six, hi, lo, n⟩ := chk_zero ho1 ho2 HCK.out
        have HPK := Lib.hid hpok
        have hgv := HX.out.2.2 ⟨six, hi, lo, n⟩ hpok
        simp only at hgv
        obtain ⟨gv, hg⟩ : ∃ gv, getR l ⟨six, hi, lo, n⟩ = gv := ⟨_, rfl⟩
        rw [hg] at hgv
        have HGV := Lib.hid hgv
        have HG := Lib.hid hg
        have hll : 0 ≤ (l.length : Int) ∧ (l.length : Int) ≤ 60 := by omega
        have CG := Lib.hid (fun (Y : World) (hb : Below X.heap.size X Y) => get_any (HX.out.below hb).1 ⟨six, hi, lo, n⟩ hpok HX.out.2.1)
        have CC := Lib.hid (fun (Y : World) (hb : Below X.heap.size X Y) => tcut_any (HX.out.below hb).1 ⟨six, hi, lo, n⟩ hpok HX.out.2.1 (by omega))
        have CP := Lib.hid (fun (Y : World) (hb : Below X.heap.size X Y) => put_any (HX.out.below hb).1 ⟨six, hi, lo, n⟩ hpok HX.out.2.1 hop (by omega))
        unfold PV.val at CG CC CP
        unfold CutPost at CC
        unfold PutPost at CP
        simp only at CG CC CP
        rw [hgv] at CG CC CP
        clear hpok hgv hg
        rcases key with rfl | rfl | rfl
        · clear CC CHAD
          by_cases hh : hop < 1 ∨ 999 < hop
          · have hL : doL l av = l := by rw [← HAV.out]; unfold doL; rw [if_neg (by simp), if_neg (by simp only; rw [HCP.out]; simp), if_neg (by simp), if_pos hh]
            have hd : doA l av = ⟨2, 0, 0⟩ := by rw [← HAV.out]; unfold doA; rw [if_neg (by simp), if_neg (by simp), if_neg (by simp only; rw [HCP.out]; simp), if_neg (by simp), if_neg (by simp), if_pos hh]
            have HL := Lib.hid hL
            have HD := Lib.hid hd
            have CN := Lib.hid (CNO.out 2)
            clear hL hd CG CP CNO
            by_cases h1 : hop < 1
            · have d1 : decide (hop < 1) = true := by simpa using h1
              clear hh h1
              go_enter Try.func209, Try.ntmps209
              go_wp2_with fail
              rw [← HXE.out]
              refine (CK.out _).mono ?_
              rintro e w1 ⟨rfl, hb1⟩
              obtain ⟨fc, ff⟩ := bcell hb1
              have s1 : w.heap.size < w1.heap.size := by have := hb1.size; omega
              have s2 : w.heap.size + 1 < w1.heap.size := by have := hb1.size; omega
              have htb1 : tb < w1.heap.size := by have := hb1.size; omega
              have HB1 := Lib.hid hb1
              clear hb1
              go_wp2_with fail
              refine (CN.out _).mono ?_
              rintro e w2 ⟨rfl, hb2⟩
              obtain ⟨fc2, ff2⟩ := bcell hb2
              have HB2 := Lib.hid (below_step HB1.out hb2)
              clear hb2
              go_wp2
              refine bodyPost_ret (v := .agg #[.int .i64 2, .int .i64 0, .int .i64 0]) ?_ rfl ?_
              · simp [results, Try.results209, go_sem, fc, fc2, hXl1, s2, b0, b1, b2]
              · exact HSTAY.out _ _ _ _ HB2.out HL.out _ (by rw [HD.out]; rfl)
            · have d1 : decide (hop < 1) = false := by simpa using h1
              have d2 : decide (999 < hop) = true := by simp; omega
              clear hh h1
              go_enter Try.func209, Try.ntmps209
              go_wp2_with fail
              rw [← HXE.out]
              refine (CK.out _).mono ?_
              rintro e w1 ⟨rfl, hb1⟩
              obtain ⟨fc, ff⟩ := bcell hb1
              have s1 : w.heap.size < w1.heap.size := by have := hb1.size; omega
              have s2 : w.heap.size + 1 < w1.heap.size := by have := hb1.size; omega
              have htb1 : tb < w1.heap.size := by have := hb1.size; omega
              have HB1 := Lib.hid hb1
              clear hb1
              go_wp2_with fail
              refine (CN.out _).mono ?_
              rintro e w2 ⟨rfl, hb2⟩
              obtain ⟨fc2, ff2⟩ := bcell hb2
              have HB2 := Lib.hid (below_step HB1.out hb2)
              clear hb2
              go_wp2
              refine bodyPost_ret (v := .agg #[.int .i64 2, .int .i64 0, .int .i64 0]) ?_ rfl ?_
              · simp [results, Try.results209, go_sem, fc, fc2, hXl1, s2, b0, b1, b2]
              · exact HSTAY.out _ _ _ _ HB2.out HL.out _ (by rw [HD.out]; rfl)
          · have d1 : decide (hop < 1) = false := by simp; omega
            have d2 : decide (999 < hop) = false := by simp; omega
            have hop1 : 1 ≤ hop ∧ hop ≤ 999 := by omega
            have HHH := Lib.hid hh
            clear hh
            by_cases hfull : l.length = 60 ∧ gv = 0
            · obtain ⟨h60, rfl⟩ := hfull
              have dc : ((l.length : Int) == 60) = true := by simp; omega
              have hL : doL l av = l := by rw [← HAV.out]; unfold doL; rw [if_neg (by simp), if_neg (by simp only; rw [HCP.out]; simp), if_neg (by simp), if_neg HHH.out, if_pos ⟨h60, HG.out⟩]
              have hd : doA l av = ⟨9, 0, 0⟩ := by rw [← HAV.out]; unfold doA; rw [if_neg (by simp), if_neg (by simp), if_neg (by simp only; rw [HCP.out]; simp), if_neg (by simp), if_neg (by simp), if_neg HHH.out, if_pos ⟨h60, HG.out⟩]
              have HL := Lib.hid hL
              have HD := Lib.hid hd
              have CN := Lib.hid (CNO.out 9)
              clear hL hd CP CNO h60
              go_enter Try.func209, Try.ntmps209
              go_wp2_with fail
              rw [← HXE.out]
              refine (CK.out _).mono ?_
              rintro e w1 ⟨rfl, hb1⟩
              obtain ⟨fc, ff⟩ := bcell hb1
              have s1 : w.heap.size < w1.heap.size := by have := hb1.size; omega
              have s2 : w.heap.size + 1 < w1.heap.size := by have := hb1.size; omega
              have htb1 : tb < w1.heap.size := by have := hb1.size; omega
              have HB1 := Lib.hid hb1
              clear hb1
              go_wp2_with fail
              refine (CG.out _ HB1.out).mono ?_
              rintro e w2 ⟨rfl, hb2⟩
              obtain ⟨fc2, ff2⟩ := bcell hb2
              have s1' : w.heap.size < w2.heap.size := by have := hb2.size; omega
              have s2' : w.heap.size + 1 < w2.heap.size := by have := hb2.size; omega
              have HB2 := Lib.hid (below_step HB1.out hb2)
              clear hb2
              go_wp2_with fail
              refine (CN.out _).mono ?_
              rintro e w3 ⟨rfl, hb3⟩
              obtain ⟨fc3, ff3⟩ := bcell hb3
              have HB3 := Lib.hid (below_step HB2.out hb3)
              clear hb3
              go_wp2
              refine bodyPost_ret (v := .agg #[.int .i64 9, .int .i64 0, .int .i64 0]) ?_ rfl ?_
              · simp [results, Try.results209, go_sem, fc, fc2, fc3, hXl1, s2, s2', b0, b1, b2]
              · exact HSTAY.out _ _ _ _ HB3.out HL.out _ (by rw [HD.out]; rfl)
            · have hL : doL l av = setR l ⟨six, hi, lo, n⟩ hop := by rw [← HAV.out]; unfold doL; rw [if_neg (by simp), if_neg (by simp only; rw [HCP.out]; simp), if_neg (by simp), if_neg HHH.out, if_neg (by simp only; rw [HG.out]; exact hfull)]
              have hd : doA l av = ⟨0, gv, 0⟩ := by rw [← HAV.out]; unfold doA; rw [if_neg (by simp), if_neg (by simp), if_neg (by simp only; rw [HCP.out]; simp), if_neg (by simp), if_neg (by simp), if_neg HHH.out, if_neg (by simp only; rw [HG.out]; exact hfull)]; simp only; rw [HG.out]
              have HL := Lib.hid hL
              have HD := Lib.hid hd
              clear hL hd CNO
              by_cases h60 : l.length = 60
              · have dc : ((l.length : Int) == 60) = true := by simp; omega
                have hg0 : (gv == 0) = false := by simpa using fun h => hfull ⟨h60, h⟩
                clear hfull h60
                go_enter Try.func209, Try.ntmps209
                go_wp2_with fail
                rw [← HXE.out]
                refine (CK.out _).mono ?_
                rintro e w1 ⟨rfl, hb1⟩
                obtain ⟨fc, ff⟩ := bcell hb1
                have s1 : w.heap.size < w1.heap.size := by have := hb1.size; omega
                have s2 : w.heap.size + 1 < w1.heap.size := by have := hb1.size; omega
                have htb1 : tb < w1.heap.size := by have := hb1.size; omega
                have HB1 := Lib.hid hb1
                clear hb1
                go_wp2_with fail
                refine (CG.out _ HB1.out).mono ?_
                rintro e w2 ⟨rfl, hb2⟩
                obtain ⟨fc2, ff2⟩ := bcell hb2
                have s1' : w.heap.size < w2.heap.size := by have := hb2.size; omega
                have s2' : w.heap.size + 1 < w2.heap.size := by have := hb2.size; omega
                have HB2 := Lib.hid (below_step HB1.out hb2)
                clear hb2
                go_wp2_with fail
                refine (CP.out _ HB2.out).mono ?_
                rintro e wp ⟨rfl, ⟨G1, G2, htp⟩, hk2⟩
                have hn := (HX.out.below HB2.out).1.notin (HKR.out.below HB2.out hXl1) (by decide) (by decide)
                have kr2 := (HKR.out.below HB2.out hXl1).keep1 hk2 hn
                have HKR2 := Lib.hid kr2
                have HK2 := Lib.hid (((Kept.of_below HXB.out).belowS HB2.out).trans hk2)
                have s3 : w.heap.size + 1 < wp.heap.size := by have := hk2.size; omega
                have b0' := kr2.cell 0
                have b1' := kr2.cell 1
                have b2' := kr2.cell 2
                have f0' := kr2.frozen 0
                have f1' := kr2.frozen 1
                have f2' := kr2.frozen 2
                simp at b0' b1' b2'
                have hH2 : Holds wp B tb (setR l ⟨six, hi, lo, n⟩ hop) := holds_set HX.out.2.1 HX.out.2.2 rfl HV.out HPK.out (by omega) (by simp only; rw [HGV.out]; exact htp)
                have HH2 := Lib.hid hH2
                clear htp hk2 hn kr2 hH2
                go_wp2
                refine bodyPost_ret (v := .agg #[.int .i64 0, .int .i64 gv, .int .i64 0]) ?_ rfl ?_
                · simp [results, Try.results209, go_sem, b0', b1', b2']
                · rw [← HPO.out]
                  exact did_fin (by rw [HD.out]; rfl) (by rw [HL.out]; exact HH2.out) HK2.out HKR2.out _ _ _
              · have dc : ((l.length : Int) == 60) = false := by simp; omega
                clear hfull h60 CG
                go_enter Try.func209, Try.ntmps209
                go_wp2_with fail
                rw [← HXE.out]
                refine (CK.out _).mono ?_
                rintro e w1 ⟨rfl, hb1⟩
                obtain ⟨fc, ff⟩ := bcell hb1
                have s1 : w.heap.size < w1.heap.size := by have := hb1.size; omega
                have s2 : w.heap.size + 1 < w1.heap.size := by have := hb1.size; omega
                have htb1 : tb < w1.heap.size := by have := hb1.size; omega
                have HB1 := Lib.hid hb1
                clear hb1
                go_wp2_with fail
                refine (CP.out _ HB1.out).mono ?_
                rintro e wp ⟨rfl, ⟨G1, G2, htp⟩, hk2⟩
                have hn := (HX.out.below HB1.out).1.notin (HKR.out.below HB1.out hXl1) (by decide) (by decide)
                have kr2 := (HKR.out.below HB1.out hXl1).keep1 hk2 hn
                have HKR2 := Lib.hid kr2
                have HK2 := Lib.hid (((Kept.of_below HXB.out).belowS HB1.out).trans hk2)
                have s3 : w.heap.size + 1 < wp.heap.size := by have := hk2.size; omega
                have b0' := kr2.cell 0
                have b1' := kr2.cell 1
                have b2' := kr2.cell 2
                have f0' := kr2.frozen 0
                have f1' := kr2.frozen 1
                have f2' := kr2.frozen 2
                simp at b0' b1' b2'
                have hH2 : Holds wp B tb (setR l ⟨six, hi, lo, n⟩ hop) := holds_set HX.out.2.1 HX.out.2.2 rfl HV.out HPK.out (by omega) (by simp only; rw [HGV.out]; exact htp)
                have HH2 := Lib.hid hH2
                clear htp hk2 hn kr2 hH2
                go_wp2
                refine bodyPost_ret (v := .agg #[.int .i64 0, .int .i64 gv, .int .i64 0]) ?_ rfl ?_
                · simp [results, Try.results209, go_sem, b0', b1', b2']
                · rw [← HPO.out]
                  exact did_fin (by rw [HD.out]; rfl) (by rw [HL.out]; exact HH2.out) HK2.out HKR2.out _ _ _
        · clear CG CP CNO
          have hl : doL l av = delR l ⟨six, hi, lo, n⟩ := by rw [← HAV.out]; unfold doL; rw [if_neg (by simp), if_neg (by simp only; rw [HCP.out]; simp), if_pos rfl]
          have hd : doA l av = if gv = 0 then ⟨7, 0, 0⟩ else ⟨0, gv, 0⟩ := by rw [← HAV.out]; unfold doA; rw [if_neg (by simp), if_neg (by simp), if_neg (by simp only; rw [HCP.out]; simp), if_pos rfl]; simp only; rw [HG.out]
          have HL := Lib.hid hl
          have HD := Lib.hid hd
          have CH := Lib.hid (fun w => CHAD.out gv 0 w)
          clear hl hd CHAD
          go_enter Try.func209, Try.ntmps209
          go_wp2_with fail
          rw [← HXE.out]
          refine (CK.out _).mono ?_
          rintro e w1 ⟨rfl, hb1⟩
          obtain ⟨fc, ff⟩ := bcell hb1
          have s1 : w.heap.size < w1.heap.size := by have := hb1.size; omega
          have s2 : w.heap.size + 1 < w1.heap.size := by have := hb1.size; omega
          have HB1 := Lib.hid hb1
          clear hb1
          go_wp2_with fail
          refine (CC.out _ HB1.out).mono ?_
          rintro e w2 ⟨rfl, hz2, hk2, hn2⟩
          have hn := (HX.out.below HB1.out).1.notin (HKR.out.below HB1.out hXl1) (by decide) (by decide)
          have kr2 := (HKR.out.below HB1.out hXl1).keep1 hk2 hn
          have HKR2 := Lib.hid kr2
          have HK2 := Lib.hid (((Kept.of_below HXB.out).belowS HB1.out).trans hk2)
          have s3 : w.heap.size + 1 < w2.heap.size := by have := hk2.size; omega
          have b0' := kr2.cell 0
          have b1' := kr2.cell 1
          have b2' := kr2.cell 2
          have f0' := kr2.frozen 0
          have f1' := kr2.frozen 1
          have f2' := kr2.frozen 2
          simp at b0' b1' b2'
          have hH2 : Holds w2 B tb (delR l ⟨six, hi, lo, n⟩) := by
            by_cases h0 : gv = 0
            · have hno : hasR l ⟨six, hi, lo, n⟩ = false := by
                cases hh : hasR l ⟨six, hi, lo, n⟩ with
                | false => rfl
                | true => exact absurd (HG.out.trans h0) (getR_some (fun r hr => (HV.out.1 r hr).2.1) hh)
              rw [del_none hno]
              exact ((HX.out.below HB1.out).below (hz2 h0)).holds
            · obtain ⟨C, g, hv, lt, rt, hR, hon, hv0, ht⟩ := hn2 h0
              exact holds_cut HX.out.2.1 HX.out.2.2 rfl HV.out HPK.out hR hon hv0 ht
          have HH2 := Lib.hid hH2
          clear hz2 hk2 hn2 hn kr2 hH2 fc ff
          go_wp2_with fail
          refine (CH.out _).mono ?_
          rintro e w3 ⟨rfl, hb3⟩
          obtain ⟨fc3, ff3⟩ := bcell hb3
          have HB3 := Lib.hid hb3
          clear hb3
          by_cases h0 : gv = 0
          · rw [if_pos h0] at HD ⊢
            clear h0
            go_wp2
            refine bodyPost_ret (v := .agg #[.int .i64 7, .int .i64 0, .int .i64 0]) ?_ rfl ?_
            · simp [results, Try.results209, go_sem, fc3, s3, b0', b1', b2']
            · rw [← HPO.out]
              exact did_fin (by rw [HD.out]; rfl) (by rw [HL.out]; exact HH2.out.below HB3.out) (HK2.out.belowS HB3.out) (HKR2.out.below HB3.out s3) _ _ _
          · rw [if_neg h0] at HD ⊢
            clear h0
            go_wp2
            refine bodyPost_ret (v := .agg #[.int .i64 0, .int .i64 gv, .int .i64 0]) ?_ rfl ?_
            · simp [results, Try.results209, go_sem, fc3, s3, b0', b1', b2']
            · rw [← HPO.out]
              exact did_fin (by rw [HD.out]; rfl) (by rw [HL.out]; exact HH2.out.below HB3.out) (HK2.out.belowS HB3.out) (HKR2.out.below HB3.out s3) _ _ _
        · clear CC CP CNO
          have hl : doL l av = l := by rw [← HAV.out]; unfold doL; rw [if_pos (by simp)]
          have hd : doA l av = if gv = 0 then ⟨7, 0, 0⟩ else ⟨0, gv, n⟩ := by rw [← HAV.out]; unfold doA; rw [if_neg (by simp), if_neg (by simp), if_neg (by simp only; rw [HCP.out]; simp), if_neg (by simp), if_pos rfl]; simp only; rw [HG.out]
          have HL := Lib.hid hl
          have HD := Lib.hid hd
          obtain ⟨x, y, z, hif, hdz⟩ : ∃ x y z : Int, (if gv = 0 then Value.agg #[.int .i64 7, .int .i64 0, .int .i64 0] else .agg #[.int .i64 0, .int .i64 gv, .int .i64 n]) = .agg #[.int .i64 x, .int .i64 y, .int .i64 z] ∧ doA l av = ⟨x, y, z⟩ := by
            by_cases h0 : gv = 0
            · exact ⟨7, 0, 0, if_pos h0, by rw [HD.out, if_pos h0]⟩
            · exact ⟨0, gv, n, if_neg h0, by rw [HD.out, if_neg h0]⟩
          have ch := fun w => CHAD.out gv n w
          simp only [hif] at ch
          have CH := Lib.hid ch
          have HDZ := Lib.hid hdz
          clear hl hd CHAD ch hif hdz HD
          go_enter Try.func209, Try.ntmps209
          go_wp2_with fail
          rw [← HXE.out]
          refine (CK.out _).mono ?_
          rintro e w1 ⟨rfl, hb1⟩
          obtain ⟨fc, ff⟩ := bcell hb1
          have s1 : w.heap.size < w1.heap.size := by have := hb1.size; omega
          have s2 : w.heap.size + 1 < w1.heap.size := by have := hb1.size; omega
          have htb1 : tb < w1.heap.size := by have := hb1.size; omega
          have HB1 := Lib.hid hb1
          clear hb1
          go_wp2_with fail
          have HKA1 := Lib.hid (HKA.out.below HB1.out hXl)
          have hka1 := HKA1.out
          have c1 := hka1.cell 1
          have c2 := hka1.cell 2
          have c3 := hka1.cell 3
          have c4 := hka1.cell 4
          have e0 := (HKR.out.below HB1.out hXl1).cell 0
          have e1 := (HKR.out.below HB1.out hXl1).cell 1
          have e2 := (HKR.out.below HB1.out hXl1).cell 2
          simp at c1 c2 c3 c4 e0 e1 e2
          have cg1 := fun (W : World) (hW : W.heap = w1.heap) => get_any ((HX.out.below HB1.out).1.keep (w' := W) (fun g _ => by rw [hW])) ⟨six, hi, lo, n⟩ HPK.out HX.out.2.1
          unfold PV.val at cg1
          simp only at cg1
          have hgv1 := HGV.out
          simp only [hgv1] at cg1
          have CG1 : Hid (∀ W : World, W.heap = w1.heap → Calls Try.prog 228 #[.pointer (some ⟨tb, 0, none⟩), .agg #[.bool six, .int .u64 hi, .int .u64 lo, .int .i64 n]] W fun e w' => e = .returned (.int .i64 gv) ∧ Below w1.heap.size W w') := fun W hW => (cg1 W hW).mono fun e w' h => ⟨h.1, by rw [← hW]; exact h.2⟩
          have HKR1 := Lib.hid (HKR.out.below HB1.out hXl1)
          have hne1 : ¬ w.heap.size = w.heap.size + 1 := by omega
          have keepF : ∀ (W : World), Blk W w.heap.size 132 #[.int .i64 4, .bool six, .int .u64 hi, .int .u64 lo, .int .i64 n, .int .i64 hop, .bool six2, .int .u64 hi2, .int .u64 lo2] → W.cell? ⟨w.heap.size, 1, none⟩ = some (.bool six) ∧ W.cell? ⟨w.heap.size, 2, none⟩ = some (.int .u64 hi) ∧ W.cell? ⟨w.heap.size, 3, none⟩ = some (.int .u64 lo) ∧ W.cell? ⟨w.heap.size, 4, none⟩ = some (.int .i64 n) := fun _ h => ⟨h.cell 1, h.cell 2, h.cell 3, h.cell 4⟩
          have KEEPF := Lib.hid keepF
          clear hka1 cg1 hgv1 CG keepF
          go_region_held3 (fun w' => w'.cell? ⟨w.heap.size, 1, none⟩ = some (.bool six) ∧ w'.cell? ⟨w.heap.size, 2, none⟩ = some (.int .u64 hi) ∧ w'.cell? ⟨w.heap.size, 3, none⟩ = some (.int .u64 lo) ∧ w'.cell? ⟨w.heap.size, 4, none⟩ = some (.int .i64 n))
            ((first | with_reducible assumption | exact KEEPF.out _ HKA1.out | exact KEEPF.out _ ka2 | exact KEEPF.out _ ka3 | exact KEEPF.out _ (((ka3.far (p := ⟨w.heap.size + 1, 0, none⟩) hne1 _).far (p := ⟨w.heap.size + 1, 1, none⟩) hne1 _).far (p := ⟨w.heap.size + 1, 2, none⟩) hne1 _)))
            (first
              | (go_at_call 228; refine (CG1.out _ (by rfl)).mono ?_; rintro e w2 ⟨rfl, hb2⟩; have ka2 := Blk.below (show Blk w1.drew w.heap.size 132 #[.int .i64 4, .bool six, .int .u64 hi, .int .u64 lo, .int .i64 n, .int .i64 hop, .bool six2, .int .u64 hi2, .int .u64 lo2] from HKA1.out) hb2 s1; have kr2 := Blk.below (show Blk w1.drew (w.heap.size + 1) 38 #[.int .i64 0, .int .i64 0, .int .i64 0] from HKR1.out) hb2 s2; have hq2 : Below X.heap.size X w2 := below_step HB1.out ((Below.refl w1.heap.size w1).drew.trans hb2))
              | (go_at_call 226; refine (CH.out _).mono ?_; rintro e w3 ⟨rfl, hb3⟩; (first | have ka3 := Blk.below ka2 hb3 ka2.lt | have ka3 := Blk.below (show Blk w2.drew w.heap.size 132 #[.int .i64 4, .bool six, .int .u64 hi, .int .u64 lo, .int .i64 n, .int .i64 hop, .bool six2, .int .u64 hi2, .int .u64 lo2] from ka2) hb3 ka2.lt); (first | have kr3 := Blk.below kr2 hb3 kr2.lt | have kr3 := Blk.below (show Blk w2.drew (w.heap.size + 1) 38 #[.int .i64 0, .int .i64 0, .int .i64 0] from kr2) hb3 kr2.lt); have z0 := kr3.cell 0; have z1 := kr3.cell 1; have z2 := kr3.cell 2; have g0 := kr3.frozen 0; have g1 := kr3.frozen 1; have g2 := kr3.frozen 2; simp at z0 z1 z2; (first | have hq3 : Below X.heap.size X w3 := below_step hq2 hb3 | have hq3 : Below X.heap.size X w3 := below_step hq2.drew hb3)))
          go_wp2
          refine bodyPost_ret (v := .agg #[.int .i64 x, .int .i64 y, .int .i64 z]) ?_ rfl ?_
          · simp [results, Try.results209, go_sem, z0, z1, z2]
          · exact HSTAY.out _ _ _ _ hq3 HL.out _ (by rw [HDZ.out]; rfl)
      · have hzb : (ck != 0) = true := by simpa using hz
        have hL : doL l av = l := by
          rw [← HAV.out]; unfold doL
          by_cases h4 : ¬ (kd = 1 ∨ kd = 2)
          · rw [if_pos h4]
          · rw [if_neg h4, if_pos (by simp only; rw [HCP.out]; exact hz)]
        have hd : doA l av = ⟨ck, 0, 0⟩ := by rw [← HAV.out]; unfold doA; rw [if_neg (by simp only; omega), if_neg (by simp only; omega), if_pos (by simp only; rw [HCP.out]; exact hz)]; simp only; rw [HCP.out]
        have HL := Lib.hid hL
        have HD := Lib.hid hd
        have CN := Lib.hid (CNO.out ck)
        clear hL hd hz
        rcases key with rfl | rfl | rfl
        all_goals
          go_enter Try.func209, Try.ntmps209
          go_wp2_with fail
          rw [← HXE.out]
          refine (CK.out _).mono ?_
          rintro e w1 ⟨rfl, hb1⟩
          obtain ⟨fc, ff⟩ := bcell hb1
          have s1 : w.heap.size < w1.heap.size := by have := hb1.size; omega
          have s2 : w.heap.size + 1 < w1.heap.size := by have := hb1.size; omega
          have HB1 := Lib.hid hb1
          clear hb1
          go_wp2_with fail
          refine (CN.out _).mono ?_
          rintro e w2 ⟨rfl, hb2⟩
          obtain ⟨fc2, ff2⟩ := bcell hb2
          have HB2 := Lib.hid (below_step HB1.out hb2)
          clear hb2
          go_wp2
          refine bodyPost_ret (v := .agg #[.int .i64 ck, .int .i64 0, .int .i64 0]) ?_ rfl ?_
          · simp [results, Try.results209, go_sem, fc, fc2, hXl1, s2, b0, b1, b2]
          · exact HSTAY.out _ _ _ _ HB2.out HL.out _ (by rw [HD.out]; rfl)

end Go.Proofs.Ytmljdjakbbedlaa

namespace Go.Proofs.Ytmljdjakbbedlaa
set_option linter.unusedVariables false

def ansL : List ActV → List RouteV → List AnsV
  | [], _ => []
  | a :: l, L => doA L a :: ansL l (doL L a)
def actL : List ActV → List RouteV → List RouteV
  | [], L => L
  | a :: l, L => actL l (doL L a)
theorem ansL_snoc (l : List ActV) (a : ActV) : ∀ L, ansL (l ++ [a]) L = ansL l L ++ [doA (actL l L) a] := by
  induction l with
  | nil => intro L; rfl
  | cons x l ih => intro L; simp only [List.cons_append, ansL, actL, ih]
theorem actL_snoc (l : List ActV) (a : ActV) : ∀ L, actL (l ++ [a]) L = doL (actL l L) a := by
  induction l with
  | nil => intro L; rfl
  | cons x l ih => intro L; exact ih _
theorem ansL_length (l : List ActV) : ∀ L, (ansL l L).length = l.length := by
  induction l with
  | nil => intro L; rfl
  | cons x l ih => intro L; show _ + 1 = _ + 1; rw [ih]

/-- What is known of an act that came in. -/
structure ActV.Ok (a : ActV) : Prop where
  phi : 0 ≤ a.p.hi ∧ a.p.hi < 18446744073709551616
  plo : 0 ≤ a.p.lo ∧ a.p.lo < 18446744073709551616
  ahi : 0 ≤ a.a.hi ∧ a.a.hi < 18446744073709551616
  alo : 0 ≤ a.a.lo ∧ a.a.lo < 18446744073709551616
def GoodL (L : List RouteV) : Prop := Valid L ∧ L.length ≤ 60
theorem goodL_nil : GoodL [] := ⟨⟨fun r h => by simp at h, by simp⟩, by simp⟩
theorem del_le (L : List RouteV) (p : PV) : (delR L p).length ≤ L.length := List.length_filter_le _ _
theorem goodL_do {L : List RouteV} (h : GoodL L) {a : ActV} (ha : a.Ok) : GoodL (doL L a) := by
  unfold doL
  by_cases h1 : ¬ (a.kind = 1 ∨ a.kind = 2)
  · rw [if_pos h1]; exact h
  rw [if_neg h1]
  by_cases h2 : ¬ a.p.chk = 0
  · rw [if_pos h2]; exact h
  rw [if_neg h2]
  by_cases h3 : a.kind = 2
  · rw [if_pos h3]; exact ⟨valid_del h.1 _, Nat.le_trans (del_le _ _) h.2⟩
  rw [if_neg h3]
  by_cases h4 : a.hop < 1 ∨ 999 < a.hop
  · rw [if_pos h4]; exact h
  rw [if_neg h4]
  by_cases h5 : L.length = 60 ∧ getR L a.p = 0
  · rw [if_pos h5]; exact h
  rw [if_neg h5]
  have hok : a.p.Ok := chk_zero ha.phi ha.plo (Classical.not_not.1 h2)
  refine ⟨valid_set h.1 hok (by omega), ?_⟩
  rw [set_length]
  have hh := hasR_get (l := L) (p := a.p) (fun r hr => (h.1.1 r hr).2.1)
  by_cases h6 : hasR L a.p = true
  · rw [if_pos h6]; exact h.2
  · rw [if_neg h6]
    have : getR L a.p = 0 := Classical.byContradiction fun hx => h6 (hh.2 hx)
    have := h.2
    by_cases h7 : L.length = 60
    · exact absurd ⟨h7, ‹getR L a.p = 0›⟩ h5
    · omega
theorem goodL_play {L : List RouteV} (h : GoodL L) : ∀ {l : List ActV}, (∀ a ∈ l, a.Ok) → GoodL (actL l L) := by
  intro l
  induction l generalizing L with
  | nil => intro _; exact h
  | cons a l ih => intro hl; exact ih (goodL_do h (hl a (by simp))) (fun x hx => hl x (by simp [hx]))

/-- Where a prefix stands among the first routes: the place, or -1. -/
def FoundAt (L : List RouteV) (p : PV) (t : Nat) (z : Int) : Prop :=
  (z = -1 ∧ ∀ (i : Nat) (x : RouteV), i < t → L[i]? = some x → ¬ x.p = p) ∨ ∃ (u : Nat) (x : RouteV), z = (u : Int) ∧ u < t ∧ L[u]? = some x ∧ x.p = p
theorem FoundAt.start (L : List RouteV) (p : PV) : FoundAt L p 0 (-1) := .inl ⟨rfl, fun i x h => by omega⟩
theorem FoundAt.hit {L : List RouteV} {p : PV} {t : Nat} {x : RouteV} (hx : L[t]? = some x) (hp : x.p = p) : FoundAt L p (t + 1) (t : Int) := .inr ⟨t, x, rfl, by omega, hx, hp⟩
theorem FoundAt.miss {L : List RouteV} {p : PV} {t : Nat} {z : Int} (h : FoundAt L p t z) {x : RouteV} (hx : L[t]? = some x) (hp : ¬ x.p = p) : FoundAt L p (t + 1) z := by
  rcases h with ⟨hz, hn⟩ | ⟨u, y, h1, h2, h3, h4⟩
  · refine .inl ⟨hz, fun i y hi hy => ?_⟩
    by_cases hit : i < t
    · exact hn i y hit hy
    · obtain rfl : i = t := by omega
      rw [hx] at hy
      injection hy with hy
      rw [← hy]
      exact hp
  · exact .inr ⟨u, y, h1, by omega, h3, h4⟩
theorem FoundAt.none {L : List RouteV} {p : PV} (hn : ∀ (i : Nat) (x : RouteV), i < L.length → L[i]? = some x → ¬ x.p = p) : hasR L p = false := by
  cases hh : hasR L p with
  | false => rfl
  | true =>
    obtain ⟨x, hx, hxp⟩ := hasR_iff.1 hh
    obtain ⟨i, hi, hx2⟩ := List.mem_iff_getElem.1 hx
    exact absurd hxp (hn i x hi (by rw [List.getElem?_eq_getElem hi, hx2]))
theorem nodup_at {L : List RouteV} (hn : (L.map RouteV.p).Nodup) {u v : Nat} {x y : RouteV} (hx : L[u]? = some x) (hy : L[v]? = some y) (he : x.p = y.p) : u = v := by
  have h1 : (L.map RouteV.p)[u]? = some x.p := by rw [List.getElem?_map, hx]; rfl
  have h2 : (L.map RouteV.p)[v]? = some y.p := by rw [List.getElem?_map, hy]; rfl
  have l1 := (List.getElem?_eq_some_iff.1 h1).1
  refine (List.getElem?_inj l1 hn).1 ?_
  rw [h1, h2, he]
theorem get_at : ∀ {L : List RouteV} (hn : (L.map RouteV.p).Nodup) {u : Nat} {x : RouteV} (hx : L[u]? = some x), getR L x.p = x.hop ∧ delR L x.p = L.take u ++ L.drop (u + 1) ∧ ∀ hop, (L.map fun r => if r.p = x.p then (⟨x.p, hop⟩ : RouteV) else r) = L.set u ⟨x.p, hop⟩ := by
  intro L
  induction L with
  | nil => intro _ u x hx; simp at hx
  | cons r L ih =>
    intro hn u x hx
    rw [List.map_cons, List.nodup_cons] at hn
    cases u with
    | zero =>
      simp at hx
      subst hx
      have hno : hasR L r.p = false := by
        cases hh : hasR L r.p with
        | false => rfl
        | true =>
          obtain ⟨y, hy, hy2⟩ := hasR_iff.1 hh
          exact absurd (List.mem_map.2 ⟨y, hy, hy2⟩) hn.1
      refine ⟨by unfold getR; rw [if_pos rfl], ?_, fun hop => ?_⟩
      · have := del_none hno
        unfold delR at this ⊢
        rw [List.filter_cons, if_neg (by simp), this]
        rfl
      · rw [List.map_cons, if_pos rfl, List.set_cons_zero]
        congr 1
        conv => rhs; rw [← List.map_id L]
        refine List.map_congr_left fun y hy => ?_
        unfold hasR at hno
        rw [List.any_eq_false] at hno
        rw [if_neg (by simpa using hno y hy)]
        rfl
    | succ u =>
      have hx' : L[u]? = some x := by simpa using hx
      obtain ⟨h1, h2, h3⟩ := ih hn.2 hx'
      have hne : ¬ r.p = x.p := fun e => hn.1 (List.mem_map.2 ⟨x, List.mem_of_getElem? hx', e.symm⟩)
      refine ⟨by unfold getR; rw [if_neg hne]; exact h1, ?_, fun hop => ?_⟩
      · unfold delR at h2 ⊢
        rw [List.filter_cons, if_pos (by simp [hne]), h2]
        rfl
      · rw [List.map_cons, if_neg hne, h3 hop, List.set_cons_succ]

end Go.Proofs.Ytmljdjakbbedlaa

namespace Go.Proofs.Ytmljdjakbbedlaa
set_option linter.unusedVariables false

structure JobV where
  kind : Int
  act : ActV
  n : Int
structure DoneV where
  code : Int
  merged : Bool
  acts : List ActV

/-- What is refused of an act that is to wait. -/
def faultA (a : ActV) : Int := if ¬ (a.kind = 1 ∨ a.kind = 2) then 3 else if ¬ a.p.chk = 0 then a.p.chk else if a.kind = 1 ∧ (a.hop < 1 ∨ 999 < a.hop) then 2 else 0
def hasW (q : List ActV) (p : PV) : Bool := q.any fun x => decide (x.p = p)
def putW (q : List ActV) (a : ActV) : List ActV := q.map fun x => if x.p = a.p then a else x
/-- What a job comes to, and what waits behind it. -/
def jobD (q : List ActV) (j : JobV) : DoneV :=
  if j.kind = 1 then (if ¬ faultA j.act = 0 then ⟨faultA j.act, false, []⟩ else if hasW q j.act.p = true then ⟨0, true, []⟩ else if 8 ≤ q.length then ⟨9, false, []⟩ else ⟨0, false, []⟩)
  else if ¬ j.kind = 2 then ⟨3, false, []⟩
  else if j.n < 1 ∨ 8 < j.n then ⟨2, false, []⟩
  else if q = [] then ⟨7, false, []⟩ else ⟨0, false, q.take j.n.toNat⟩
def jobQ (q : List ActV) (j : JobV) : List ActV :=
  if j.kind = 1 then (if ¬ faultA j.act = 0 then q else if hasW q j.act.p = true then putW q j.act else if 8 ≤ q.length then q else q ++ [j.act])
  else if ¬ j.kind = 2 then q
  else if j.n < 1 ∨ 8 < j.n then q
  else q.drop j.n.toNat
def playD : List JobV → List ActV → List DoneV
  | [], _ => []
  | j :: l, q => jobD q j :: playD l (jobQ q j)
def playQ : List JobV → List ActV → List ActV
  | [], q => q
  | j :: l, q => playQ l (jobQ q j)
theorem playD_snoc (l : List JobV) (j : JobV) : ∀ q, playD (l ++ [j]) q = playD l q ++ [jobD (playQ l q) j] := by
  induction l with
  | nil => intro q; rfl
  | cons x l ih => intro q; simp only [List.cons_append, playD, playQ, ih]
theorem playQ_snoc (l : List JobV) (j : JobV) : ∀ q, playQ (l ++ [j]) q = jobQ (playQ l q) j := by
  induction l with
  | nil => intro q; rfl
  | cons x l ih => intro q; exact ih _
theorem playD_length (l : List JobV) : ∀ q, (playD l q).length = l.length := by
  induction l with
  | nil => intro q; rfl
  | cons x l ih => intro q; show _ + 1 = _ + 1; rw [ih]

/-- No prefix waits twice, and no more than eight wait. -/
def GoodQ (q : List ActV) : Prop := (q.map ActV.p).Nodup ∧ q.length ≤ 8
theorem putW_p (q : List ActV) (a : ActV) : (putW q a).map ActV.p = q.map ActV.p := by
  unfold putW
  rw [List.map_map]
  refine List.map_congr_left fun x _ => ?_
  by_cases h : x.p = a.p
  · simp [h]
  · simp [h]
theorem good_job {q : List ActV} (h : GoodQ q) (j : JobV) : GoodQ (jobQ q j) := by
  unfold jobQ
  by_cases h1 : j.kind = 1
  · rw [if_pos h1]
    by_cases h2 : ¬ faultA j.act = 0
    · rw [if_pos h2]; exact h
    · rw [if_neg h2]
      by_cases h3 : hasW q j.act.p = true
      · rw [if_pos h3]; exact ⟨by rw [putW_p]; exact h.1, by unfold putW; rw [List.length_map]; exact h.2⟩
      · rw [if_neg h3]
        by_cases h4 : 8 ≤ q.length
        · rw [if_pos h4]; exact h
        · rw [if_neg h4]
          refine ⟨?_, by rw [List.length_append]; simp; omega⟩
          rw [List.map_append, List.nodup_append]
          refine ⟨h.1, by simp, fun x hx y hy e => h3 ?_⟩
          simp at hy
          subst hy
          subst e
          obtain ⟨z, hz, e⟩ := List.mem_map.1 hx
          unfold hasW
          rw [List.any_eq_true]
          exact ⟨z, hz, by simpa using e⟩
  · rw [if_neg h1]
    by_cases h2 : ¬ j.kind = 2
    · rw [if_pos h2]; exact h
    · rw [if_neg h2]
      by_cases h3 : j.n < 1 ∨ 8 < j.n
      · rw [if_pos h3]; exact h
      · rw [if_neg h3]
        exact ⟨h.1.sublist ((List.drop_sublist _ _).map _), by rw [List.length_drop]; have := h.2; omega⟩
theorem good_play {q : List ActV} (h : GoodQ q) : ∀ l : List JobV, GoodQ (playQ l q) := by
  intro l
  induction l generalizing q with
  | nil => exact h
  | cons j l ih => exact ih (good_job h j)

/-- The one that waits is the one at a place. -/
theorem put_at {q : List ActV} (h : (q.map ActV.p).Nodup) {a x : ActV} {i : Nat} (hi : q[i]? = some x) (hx : x.p = a.p) : putW q a = q.set i a := by
  induction q generalizing i with
  | nil => simp at hi
  | cons y q ih =>
    rw [List.map_cons, List.nodup_cons] at h
    cases i with
    | zero =>
      simp at hi
      subst hi
      have : putW q a = q := by
        unfold putW
        conv => rhs; rw [← List.map_id q]
        refine List.map_congr_left fun z hz => ?_
        rw [if_neg (fun e => h.1 (by rw [hx, ← e]; exact List.mem_map.2 ⟨z, hz, rfl⟩))]
        rfl
      unfold putW at this ⊢
      rw [List.map_cons, if_pos hx, this, List.set_cons_zero]
    | succ i =>
      have hi' : q[i]? = some x := by simpa using hi
      have := ih h.2 hi'
      unfold putW at this ⊢
      rw [List.map_cons, this, List.set_cons_succ, if_neg]
      intro e
      refine h.1 ?_
      rw [e, ← hx]
      exact List.mem_map.2 ⟨x, (List.getElem?_eq_some_iff.1 hi').2 ▸ List.getElem_mem _, rfl⟩
theorem has_at {q : List ActV} {p : PV} {i : Nat} {x : ActV} (hi : q[i]? = some x) (hx : x.p = p) : hasW q p = true := by
  unfold hasW
  rw [List.any_eq_true]
  exact ⟨x, (List.getElem?_eq_some_iff.1 hi).2 ▸ List.getElem_mem _, by simpa using hx⟩
theorem has_none {q : List ActV} {p : PV} (h : ∀ (i : Nat) (x : ActV), q[i]? = some x → ¬ x.p = p) : hasW q p = false := by
  unfold hasW
  rw [List.any_eq_false]
  intro x hx
  obtain ⟨i, hi, e⟩ := List.mem_iff_getElem.1 hx
  simpa using h i x (by rw [List.getElem?_eq_getElem hi, e])

/-! A ring of eight. -/
def zeroA : ActV := ⟨0, ⟨false, 0, 0, 0⟩, 0, ⟨false, 0, 0⟩⟩
def ringL (r : List ActV) (f m : Nat) : List ActV := (List.range m).map fun i => r[(f + i) % 8]?.getD zeroA
theorem ring_length (r : List ActV) (f m : Nat) : (ringL r f m).length = m := by unfold ringL; simp
theorem ring_get (r : List ActV) (f : Nat) {m i : Nat} (hi : i < m) : (ringL r f m)[i]? = some (r[(f + i) % 8]?.getD zeroA) := by
  unfold ringL
  rw [List.getElem?_map, List.getElem?_range hi]
  rfl
theorem ring_set {r : List ActV} (hr : r.length = 8) (f : Nat) {m i : Nat} (hi : i < m) (hm : m ≤ 8) (a : ActV) : ringL (r.set ((f + i) % 8) a) f m = (ringL r f m).set i a := by
  apply List.ext_getElem?
  intro k
  by_cases hk : k < m
  · by_cases e : i = k
    · subst e
      rw [ring_get _ _ hk, List.getElem?_set_self (by omega), List.getElem?_set_self (by rw [ring_length]; exact hi)]
      rfl
    · rw [ring_get _ _ hk, List.getElem?_set_ne (by omega), List.getElem?_set_ne (by omega), ring_get _ _ hk]
  · rw [List.getElem?_eq_none (by rw [ring_length]; omega), List.getElem?_eq_none (by rw [List.length_set, ring_length]; omega)]
theorem ring_push {r : List ActV} (hr : r.length = 8) (f : Nat) {m : Nat} (hm : m < 8) (a : ActV) : ringL (r.set ((f + m) % 8) a) f (m + 1) = ringL r f m ++ [a] := by
  apply List.ext_getElem?
  intro k
  by_cases hk : k < m
  · rw [ring_get _ _ (by omega), List.getElem?_append_left (by rw [ring_length]; exact hk), ring_get _ _ hk, List.getElem?_set_ne (by omega)]
  · by_cases e : k = m
    · subst e
      rw [ring_get _ _ (by omega), List.getElem?_set_self (by omega), List.getElem?_append_right (by rw [ring_length]; exact Nat.le_refl _), ring_length, Nat.sub_self]
      rfl
    · rw [List.getElem?_eq_none (by rw [ring_length]; omega), List.getElem?_eq_none (by rw [List.length_append, ring_length]; simp; omega)]
theorem ring_pop (r : List ActV) (f m : Nat) : ringL r ((f + 1) % 8) m = (ringL r f (m + 1)).drop 1 := by
  apply List.ext_getElem?
  intro k
  rw [List.getElem?_drop]
  by_cases hk : k < m
  · rw [ring_get _ _ hk, ring_get _ _ (by omega), show ((f + 1) % 8 + k) % 8 = (f + (1 + k)) % 8 by omega]
  · rw [List.getElem?_eq_none (by rw [ring_length]; omega), List.getElem?_eq_none (by rw [ring_length]; omega)]

end Go.Proofs.Ytmljdjakbbedlaa
